/- Contracts of functions of the program, each met by its body; conditions stand in each statement. No condition. -/
import Derived.Test.YtkmacjdigkaabaaGe
set_option linter.unusedVariables false
set_option linter.unusedSimpArgs false
set_option linter.unnecessarySimpa false
namespace Go.Mh
open Go

/-! ### regions that draw, in which memory is made: a root that nothing speaks of yet -/
def C.free (d : Nat) (c : C) : Bool := c.places.all (fun p => !Nat.beq p.r.num d)
def V.free1 (d : Nat) : V → Bool
  | .one c => c.free d
  | .agg cs => cs.all (C.free d)
  | _ => true
def V.free (d : Nat) : V → Bool
  | .tup vs => vs.all (V.free1 d)
  | v => v.free1 d
theorem C.free_clr {d : Nat} {c : C} (h : c.free d = true) : c.clr (onRoot d) = c := by
  cases c with
  | ref p => simp only [C.free, C.places, List.all_cons, List.all_nil, Bool.and_true, Bool.not_eq_true'] at h; simp only [C.clr, onRoot, h]
  | eptr p i j => simp only [C.free, C.places, List.all_cons, List.all_nil, Bool.and_true, Bool.not_eq_true'] at h; simp only [C.clr, onRoot, h]
  | sub p lo n full => simp only [C.free, C.places, List.all_cons, List.all_nil, Bool.and_true, Bool.not_eq_true'] at h; simp only [C.clr, onRoot, h]
  | ifc ty p => simp only [C.free, C.places, List.all_cons, List.all_nil, Bool.and_true, Bool.not_eq_true'] at h; simp only [C.clr, onRoot, h]
  | bptr b j => simp only [C.free, C.places, List.all_cons, List.all_nil, Bool.and_true, Bool.not_eq_true'] at h; simp only [C.clr, onRoot, h]
  | fn f ds =>
    simp only [C.free, C.places, List.all_map, List.all_eq_true, Function.comp, Bool.not_eq_true'] at h
    have : ds.any (fun d_1 => onRoot d ⟨.box d_1, []⟩) = false := by
      rw [List.any_eq_false]
      intro x hx
      simp only [onRoot, h x hx]
      simp
    simp only [C.clr, this]
  | _ => rfl
theorem V.free1_clr {d : Nat} {v : V} (h : v.free1 d = true) : v.clr1 (onRoot d) = v := by
  cases v with
  | one c => simp only [V.clr1, C.free_clr h]
  | agg cs =>
    simp only [V.clr1]
    congr 1
    conv => rhs; rw [← List.map_id cs]
    exact List.map_congr_left fun c hc => C.free_clr (List.all_eq_true.1 h c hc)
  | _ => rfl
theorem V.free_clr {d : Nat} {v : V} (h : v.free d = true) : v.clr (onRoot d) = v := by
  cases v with
  | tup vs =>
    simp only [V.clr]
    congr 1
    conv => rhs; rw [← List.map_id vs]
    exact List.map_congr_left fun c hc => V.free1_clr (List.all_eq_true.1 h c hc)
  | one c => exact V.free1_clr (v := .one c) h
  | agg c => exact V.free1_clr (v := .agg c) h
  | any => rfl
def freeAt (d : Nat) (τ : AS) : Loc → Prop
  | .s t => (τ.s t).v.free d = true
  | .b t => (τ.box t).all (C.free d) = true ∧ (t = d → τ.box t = [])
  | .a t k => t = d → τ.arr t k = .dead
def Free (d : Nat) (τ : AS) : Prop := ∀ l, freeAt d τ l
theorem freeAt_at {d : Nat} {τ σ : AS} {l : Loc} (h : τ.at σ l) (hf : freeAt d σ l) : freeAt d τ l := by
  cases l with
  | s t => have h' : τ.s t = σ.s t := h; simp only [freeAt, h']; exact hf
  | b t => have h' : τ.box t = σ.box t := h; simp only [freeAt, h']; exact hf
  | a t k => have h' : τ.arr t k = σ.arr t k := h; simp only [freeAt, h']; exact hf
theorem Free.kill {d : Nat} {τ : AS} (h : Free d τ) : τ.kill d = τ := by
  refine AS.ext_at rfl fun l => ?_
  cases l with
  | s t =>
    show (τ.s t).clr (onRoot d) = τ.s t
    have := h (.s t)
    unfold SV.clr
    rw [V.free_clr this]
  | b t =>
    obtain ⟨h1, h2⟩ := h (.b t)
    simp only [AS.at, AS.kill]
    by_cases e : t = d
    · subst e; simp [h2 rfl]
    · rw [beq_false e]
      simp only
      conv => rhs; rw [← List.map_id (τ.box t)]
      exact List.map_congr_left fun c hc => C.free_clr (List.all_eq_true.1 h1 c hc)
  | a t k =>
    have := h (.a t k)
    simp only [AS.at, AS.kill]
    by_cases e : t = d
    · subst e; simp only [beq_self]; exact (this rfl).symm
    · rw [beq_false e]

structure DRow where
  d : DOp
  fr : Option Nat
  A : List Nat
structure FStep (P : Program) (ops : Array Oper) (o : Oper) (σ : AS) (r : DRow) (σ' : AS) : Prop where
  n : σ'.n = σ.n
  out : ∀ l, r.d.wr l = false → σ'.at σ l
  go : ∀ τ, τ.n = σ.n → (∀ l, r.d.rd l = true → τ.at σ l) → (∀ x, r.fr = some x → Free x τ) → GStep P ops o τ (τ.patch σ' r.d.wr)
  av : ∀ x ∈ r.A, ∀ l, r.d.wr l = true → freeAt x σ' l
def FRun (P : Program) (ops : Array Oper) : List Oper → List DRow → AS → (AS → Prop) → Prop
  | [], [], σ, K => K σ
  | o :: rest, r :: rs, σ, K => ∃ σ', FStep P ops o σ r σ' ∧ FRun P ops rest rs σ' K
  | _, _, _, _ => False
theorem FRun.nil {P : Program} {ops : Array Oper} {σ : AS} {K : AS → Prop} (h : K σ) : FRun P ops [] [] σ K := h
theorem FRun.cons {P : Program} {ops : Array Oper} {o : Oper} {rest : List Oper} {r : DRow} {rs : List DRow} {σ σ' : AS} {K : AS → Prop} (h : FStep P ops o σ r σ') (hr : FRun P ops rest rs σ' K) : FRun P ops (o :: rest) (r :: rs) σ K := ⟨σ', h, hr⟩
theorem FRun.states {P : Program} {ops : Array Oper} {K : AS → Prop} : ∀ {l : List Oper} {ds : List DRow} {σ : AS}, FRun P ops l ds σ K →
    l.length = ds.length ∧ ∃ S : Nat → AS, S 0 = σ ∧ K (S l.length) ∧ ∀ i o, l[i]? = some o → ∃ d, ds[i]? = some d ∧ FStep P ops o (S i) d (S (i + 1))
  | [], [], σ, h => ⟨rfl, fun _ => σ, rfl, h, by intro i o h; simp at h⟩
  | o :: rest, d :: ds, σ, ⟨σ', h1, h2⟩ => by
    obtain ⟨hl, S, h0, hK, hS⟩ := FRun.states h2
    refine ⟨by simp [hl], fun i => match i with | 0 => σ | i + 1 => S i, rfl, hK, ?_⟩
    intro i o' hi
    cases i with
    | zero =>
      simp only [List.getElem?_cons_zero, Option.some.injEq] at hi
      subst hi
      exact ⟨d, rfl, by simpa [h0] using h1⟩
    | succ i =>
      obtain ⟨d', hd, hs⟩ := hS i o' (by simpa using hi)
      exact ⟨d', by simpa using hd, hs⟩
  | [], _ :: _, _, h => h.elim
  | _ :: _, [], _, h => h.elim

def avRow (k m : Nat) (A : List Nat) : List DRow → Nat → Bool
  | [], _ => true
  | r :: l, j => (match r.fr with | none => true | some x => Nat.beq j k || (Nat.testBit m j || A.any (Nat.beq x))) && avRow k m A l (j + 1)
def avAll (rs : List DRow) : List DRow → List Nat → Nat → Bool
  | [], [], _ => true
  | r :: l, m :: ms, k => avRow k m r.A rs 0 && avAll rs l ms (k + 1)
  | _, _, _ => false
theorem avRow_spec {k m : Nat} {A : List Nat} : ∀ {l : List DRow} {j : Nat}, avRow k m A l j = true → ∀ i r x, l[i]? = some r → r.fr = some x → j + i ≠ k → Nat.testBit m (j + i) = true ∨ x ∈ A
  | [], _, _, i, r, x, h, _, _ => by simp at h
  | r0 :: l, j, h, 0, r, x, hr, hx, hne => by
    simp only [List.getElem?_cons_zero, Option.some.injEq] at hr
    subst hr
    simp only [avRow, hx, Bool.and_eq_true, Bool.or_eq_true, List.any_eq_true] at h
    rcases h.1 with h1 | h1 | ⟨y, hy, h1⟩
    · exact absurd (Nat.eq_of_beq_eq_true h1) hne
    · exact .inl h1
    · exact .inr ((Nat.eq_of_beq_eq_true h1) ▸ hy)
  | r0 :: l, j, h, i + 1, r, x, hr, hx, hne => by
    simp only [avRow, Bool.and_eq_true] at h
    have := avRow_spec h.2 i r x (by simpa using hr) hx (by omega)
    rwa [show j + 1 + i = j + (i + 1) by omega] at this
theorem avAll_get {rs : List DRow} : ∀ {l : List DRow} {ms : List Nat} {k : Nat}, avAll rs l ms k = true → ∀ i r, l[i]? = some r → avRow (k + i) (ms.getD i 0) r.A rs 0 = true
  | [], _, _, _, i, r, h => by simp at h
  | _ :: _, [], _, h, _, _, _ => by cases h
  | r0 :: l, m :: ms, k, h, 0, r, hr => by
    simp only [List.getElem?_cons_zero, Option.some.injEq] at hr
    subst hr
    simp only [avAll, Bool.and_eq_true] at h
    exact h.1
  | r0 :: l, m :: ms, k, h, i + 1, r, hr => by
    simp only [avAll, Bool.and_eq_true] at h
    have := avAll_get h.2 i r (by simpa using hr)
    rw [show k + 1 + i = k + (i + 1) by omega] at this
    simpa using this
theorem avAll_spec {rs : List DRow} {ms : List Nat} (h : avAll rs rs ms 0 = true) (k : Nat) (r : DRow) (hk : rs[k]? = some r) (j : Nat) (r' : DRow) (x : Nat) (hj : rs[j]? = some r') (hx : r'.fr = some x) (hne : j ≠ k) : Nat.testBit (ms.getD k 0) j = true ∨ x ∈ r.A := by
  have h1 := avAll_get h k r hk
  rw [Nat.zero_add] at h1
  have := avRow_spec h1 j r' x hj hx (by omega)
  rwa [Nat.zero_add] at this

section
variable {P : Program} {Q : Exit → AS → Prop} {l : List Oper} {ds : List DOp} {rs : List DRow} {S : Nat → AS}
theorem mask_in (h : drawOk l ds = true) (L : Nat → Bool) (hL : ∀ i o, l[i]? = some o → L i = true → ∀ d ∈ waitsOf o, L d = true) (j : Nat) (o : Oper) (i : Nat) (ho : l[j]? = some o) (hd : ∀ d ∈ waitsOf o, L d = true) (hb : Nat.testBit ((masks l []).getD j 0) i = true) : L i = true := by
  simp only [drawOk] at h
  cases h1 : masksOk (masks l []) l (masks l []) 0 with
  | false => rw [h1] at h; cases h
  | true =>
    obtain ⟨hl, hm⟩ := masksOk_spec h1
    have key : ∀ j o, l[j]? = some o → (∀ d ∈ waitsOf o, L d = true) → Nat.testBit ((masks l []).getD j 0) i = true → L i = true := by
      intro j
      induction j using Nat.strongRecOn with
      | _ j ih =>
        intro o ho hd hb
        obtain ⟨k1, k2⟩ := hm j o ho
        rw [k2] at hb
        obtain ⟨d, hd1, hd2⟩ := testBit_maskOf hb
        rcases hd2 with rfl | hd2
        · exact hd _ hd1
        · have hdj := k1 d hd1
          have hjl : j < l.length := (List.getElem?_eq_some_iff.1 ho).1
          have hdl : l[d]? = some l[d] := List.getElem?_eq_getElem (by omega)
          exact ih d (by omega) l[d] hdl (hL d l[d] hdl (hd d hd1)) hd2
    exact key j o ho hd hb
theorem S_sameF (hS : ∀ i o, l[i]? = some o → ∃ d, ds[i]? = some d ∧ (S (i + 1)).n = (S i).n ∧ ∀ x, d.wr x = false → (S (i + 1)).at (S i) x) {x : Loc} {a : Nat} :
    ∀ (b : Nat), a ≤ b → b ≤ l.length → (∀ i d, a ≤ i → i < b → ds[i]? = some d → d.wr x = false) → (S b).at (S a) x := by
  intro b
  induction b with
  | zero => intro hab _ _; have : a = 0 := by omega
            subst this; exact AS.at_refl _ _
  | succ b ih =>
    intro hab hb hw
    by_cases e : a = b + 1
    · subst e; exact AS.at_refl _ _
    · have hlt : b < l.length := by omega
      obtain ⟨d, hd, hs⟩ := hS b l[b] (List.getElem?_eq_getElem hlt)
      exact AS.at_trans (hs.2 x (hw b d (by omega) (by omega) hd)) (ih (by omega) (by omega) fun i d h1 h2 h3 => hw i d h1 (by omega) h3)
theorem S_nF (hS : ∀ i o, l[i]? = some o → ∃ d, ds[i]? = some d ∧ (S (i + 1)).n = (S i).n ∧ ∀ x, d.wr x = false → (S (i + 1)).at (S i) x) : ∀ (b : Nat), b ≤ l.length → (S b).n = (S 0).n := by
  intro b
  induction b with
  | zero => intro _; rfl
  | succ b ih =>
    intro hb
    obtain ⟨d, hd, hs⟩ := hS b l[b] (List.getElem?_eq_getElem (by omega))
    exact hs.1.trans (ih (by omega))
theorem wpAny_drawF (hS : ∀ i o, l[i]? = some o → ∃ r, rs[i]? = some r ∧ FStep P l.toArray o (S i) r (S (i + 1))) (hlen0 : l.length = rs.length) (hok : drawOk l (rs.map DRow.d) = true) (hav : avAll rs rs (masks l []) 0 = true) (hQ : Q .normal (S l.length)) {w0 own0} :
    ∀ (fuel : Nat) (L : Array Bool) (τ : AS) (a : Act) (w : World) (own : Own), L.size = l.length → ((List.range l.length).filter fun i => !L.getD i true).length ≤ fuel →
      (∀ i o, l[i]? = some o → L.getD i false = true → ∀ d ∈ waitsOf o, L.getD d false = true) → Staged (rs.map DRow.d) S l.length (fun i => L.getD i false) τ → (∀ j r x, rs[j]? = some r → r.fr = some x → L.getD j false = false → Free x τ) → Inv w0 own0 τ a w own →
      wpAny P .any l.toArray (fun e a' w' => ∃ σ' own', Q e σ' ∧ Inv w0 own0 σ' a' w' own') fuel L a w := by
  have hlen : l.length = (rs.map DRow.d).length := by rw [List.length_map]; exact hlen0
  have hD : ∀ i o, l[i]? = some o → ∃ d, (rs.map DRow.d)[i]? = some d ∧ (S (i + 1)).n = (S i).n ∧ ∀ x, d.wr x = false → (S (i + 1)).at (S i) x := fun i o ho => by
    obtain ⟨r, h1, h2⟩ := hS i o ho
    exact ⟨r.d, by simp [h1], h2.n, h2.out⟩
  obtain ⟨hlow, hpair⟩ := drawOk_spec hok hlen
  have hmask : ∀ (L : Nat → Bool), (∀ i o, l[i]? = some o → L i = true → ∀ d ∈ waitsOf o, L d = true) → ∀ j o i, l[j]? = some o → (∀ d ∈ waitsOf o, L d = true) → Nat.testBit ((masks l []).getD j 0) i = true → L i = true := mask_in hok
  -- all listed: the end
  have hend : ∀ (L : Array Bool) (τ : AS) (a : Act) (w : World) (own : Own), (∀ i, i < l.length → L.getD i false = true) → Staged (rs.map DRow.d) S l.length (fun i => L.getD i false) τ → Inv w0 own0 τ a w own →
      ∃ σ' own', Q .normal σ' ∧ Inv w0 own0 σ' a w own' := by
    intro L τ a w own hall hst hI
    have : τ = S l.length := by
      refine AS.ext_at (hst.1.trans (S_nF hD _ (Nat.le_refl _)).symm) fun x => hst.2 x l.length (Nat.le_refl _) fun i d hd _ => ?_
      have hi : i < l.length := by rw [hlen]; exact (List.getElem?_eq_some_iff.1 hd).1
      simp [hi, hall i hi]
    subst this
    exact ⟨_, own, hQ, hI⟩
  have hnone : ∀ (L : Array Bool), L.size = l.length → Region.ready .any l.toArray L = [] → ∀ i, i < l.length → L.getD i false = true := by
    intro L hsz hr i
    induction i using Nat.strongRecOn with
    | _ i ih =>
      intro hi
      cases hb : L.getD i false with
      | true => rfl
      | false =>
        have ho : l[i]? = some l[i] := List.getElem?_eq_getElem hi
        have : i ∈ Region.ready .any l.toArray L := ready_of (o := l[i]) (by simpa using ho) (by rw [getD_any L i true false (by omega)]; exact hb) fun d hd => ih d (hlow i _ ho d hd) (by have := hlow i _ ho d hd; omega)
        rw [hr] at this; cases this
  intro fuel
  induction fuel with
  | zero =>
    intro L τ a w own hsz hf hcl hst hfr hI
    have hall : ∀ i, i < l.length → L.getD i false = true := by
      intro i hi
      cases hb : L.getD i false with
      | true => rfl
      | false =>
        have : i ∈ (List.range l.length).filter fun i => !L.getD i true := by
          simp only [List.mem_filter, List.mem_range, Bool.not_eq_true']
          exact ⟨hi, by rw [getD_any L i true false (by omega)]; exact hb⟩
        rw [List.length_eq_zero_iff.1 (Nat.le_zero.1 hf)] at this; cases this
    refine ⟨?_, hend L τ a w own hall hst hI⟩
    cases hr : Region.ready .any l.toArray L with
    | nil => rfl
    | cons i rest =>
      obtain ⟨h1, h2, _⟩ := ready_mem (show i ∈ Region.ready .any l.toArray L by rw [hr]; simp)
      have h3 := hall i (by simpa using h1)
      rw [getD_any L i true false (by simp at h1; omega), h3] at h2; cases h2
  | succ fuel ih =>
    intro L τ a w own hsz hf hcl hst hfr hI
    refine ⟨fun hr => hend L τ a w own (hnone L hsz hr) hst hI, fun j hj => ?_⟩
    obtain ⟨h1, h2, h3⟩ := ready_mem hj
    have hjl : j < l.length := by simpa using h1
    have ho : l[j]? = some l[j] := List.getElem?_eq_getElem hjl
    have ho' : l.toArray[j]? = some l[j] := by simpa using ho
    obtain ⟨r, hr0, hs⟩ := hS j l[j] ho
    obtain ⟨y, hyd⟩ : ∃ y, y = r.d := ⟨_, rfl⟩
    have hy : (rs.map DRow.d)[j]? = some y := by simp [hr0, hyd]
    have hwt := h3 l[j] ho'
    have hLj : L.getD j false = false := by rw [getD_any L j false true (by omega)]; exact h2
    -- what j reads is as in the text's order
    have hread : ∀ x, y.rd x = true → τ.at (S j) x := by
      intro x hx
      refine hst.2 x j (by omega) fun i d hd hw => ?_
      rcases Nat.lt_trichotomy i j with hij | hij | hij
      · simp only [hij, iff_true]
        rcases hpair (fun i => L.getD i false) hcl j y i d (Nat.le_refl _) hy hd hij with h | h
        · exact h l[j] ho hwt
        · rw [h.1 x hw] at hx; cases hx
      · subst hij; simp [hLj]
      · have hn : ¬ i < j := by omega
        simp only [hn, iff_false, Bool.not_eq_true]
        cases hb : L.getD i false with
        | false => rfl
        | true =>
          exfalso
          have hil : i < l.length := by rw [hlen]; exact (List.getElem?_eq_some_iff.1 hd).1
          have hoi : l[i]? = some l[i] := List.getElem?_eq_getElem hil
          rcases hpair (fun i => L.getD i false) hcl i d j y (Nat.le_refl _) hd hy hij with h | h
          · have := h l[i] hoi (hcl i _ hoi hb)
            simp only [hLj] at this; cases this
          · rw [h.2.2 x hw] at hx; cases hx
    have hg := hs.go τ (by rw [hst.1]; exact (S_nF hD j (by omega)).symm) (by rw [← hyd]; exact hread) (fun x hx => hfr j r x hr0 hx hLj)
    rw [← hyd] at hg
    have hst' : Staged (rs.map DRow.d) S l.length (fun i => (L.setIfInBounds j true).getD i false) (τ.patch (S (j + 1)) y.wr) := by
      refine ⟨hst.1, fun x j' hj' hx => ?_⟩
      cases hw : y.wr x with
      | false =>
        refine AS.at_trans (AS.patch_out hw) (hst.2 x j' hj' fun i d hd hdw => ?_)
        have hne : i ≠ j := by rintro rfl; rw [hy] at hd; cases hd; rw [hw] at hdw; cases hdw
        have hil : i < l.length := by rw [hlen]; exact (List.getElem?_eq_some_iff.1 hd).1
        have : (L.setIfInBounds j true).getD i false = true ↔ i < j' := hx i d hd hdw
        rwa [getD_set_true _ _ _ _ (by omega), if_neg hne] at this
      | true =>
        refine AS.at_trans (AS.patch_in hw) (AS.at_symm ?_)
        have hjj : j < j' := by
          have := (hx j y hy hw).1 (by show (L.setIfInBounds j true).getD j false = true; rw [getD_set_true _ _ _ _ (by omega), if_pos rfl])
          exact this
        refine S_sameF hD j' (by omega) hj' fun k d hk1 hk2 hd => ?_
        cases hb : d.wr x with
        | false => rfl
        | true =>
          exfalso
          have hkl : k < l.length := by omega
          have hne : k ≠ j := by omega
          have hLk : (L.setIfInBounds j true).getD k false = true := (hx k d hd hb).2 hk2
          rw [getD_set_true _ _ _ _ (by omega), if_neg hne] at hLk
          have hok' : l[k]? = some l[k] := List.getElem?_eq_getElem hkl
          rcases hpair (fun i => L.getD i false) hcl k d j y (Nat.le_refl _) hd hy (by omega) with h | h
          · have := h l[k] hok' (hcl k _ hok' hLk)
            simp only [hLj] at this; cases this
          · have := h.2.1 x hw
            rw [hb] at this; cases this
    have hfr' : ∀ j' r' x, rs[j']? = some r' → r'.fr = some x → (L.setIfInBounds j true).getD j' false = false → Free x (τ.patch (S (j + 1)) y.wr) := by
      intro j' r' x hr' hx hLj' loc
      have hjl' : j' < l.length := by rw [hlen0]; exact (List.getElem?_eq_some_iff.1 hr').1
      rw [getD_set_true _ _ _ _ (by omega)] at hLj'
      have hne : j' ≠ j := fun e => by rw [if_pos e] at hLj'; cases hLj'
      rw [if_neg hne] at hLj'
      have hold := hfr j' r' x hr' hx hLj' loc
      cases hw : y.wr loc with
      | false => exact freeAt_at (AS.patch_out hw) hold
      | true =>
        refine freeAt_at (AS.patch_in hw) ?_
        rcases avAll_spec hav j r hr0 j' r' x hr' hx hne with h | h
        · have := hmask (fun i => L.getD i false) hcl j l[j] j' ho hwt h
          simp only [hLj'] at this; cases this
        · exact hs.av x h loc (by rw [← hyd]; exact hw)
    have hcl' : ∀ i o, l[i]? = some o → (L.setIfInBounds j true).getD i false = true → ∀ d ∈ waitsOf o, (L.setIfInBounds j true).getD d false = true := by
      intro i o hio hi d hd
      have hil : i < l.length := (List.getElem?_eq_some_iff.1 hio).1
      have hdl : d < l.length := by have := hlow i o hio d hd; omega
      rw [getD_set_true _ _ _ _ (by omega)] at hi ⊢
      by_cases hdj : d = j
      · rw [if_pos hdj]
      · rw [if_neg hdj]
        by_cases hij : i = j
        · subst hij
          rw [ho] at hio; cases hio
          exact hwt d hd
        · rw [if_neg hij] at hi
          exact hcl i o hio hi d hd
    have hf' : ((List.range l.length).filter fun i => !(L.setIfInBounds j true).getD i true).length ≤ fuel := by
      have e : ((List.range l.length).filter fun i => !(L.setIfInBounds j true).getD i true) = ((List.range l.length).filter fun i => !L.getD i true).filter (fun i => !(i == j)) := by
        rw [List.filter_filter]
        refine List.filter_congr fun i hi => ?_
        rw [getD_set_true _ _ _ _ (by rw [hsz]; exact List.mem_range.1 hi)]
        by_cases h : i = j <;> simp [h]
      rw [e]
      have : (((List.range l.length).filter fun i => !L.getD i true).filter (fun i => !(i == j))).length < ((List.range l.length).filter fun i => !L.getD i true).length := by
        rw [List.length_filter_lt_length_iff_exists]
        exact ⟨j, by simp only [List.mem_filter, List.mem_range, Bool.not_eq_true']; exact ⟨hjl, h2⟩, by simp⟩
      omega
    unfold wpOp
    rw [ho']
    simp only
    have := hg w0 own0 a w own hI (wpAny P .any l.toArray (fun e a' w' => ∃ σ' own', Q e σ' ∧ Inv w0 own0 σ' a' w' own') fuel (L.setIfInBounds j true)) (fun e a' w' => ∃ σ' own', Q e σ' ∧ Inv w0 own0 σ' a' w' own') (fun a' w' own' hI' => ih _ _ a' w' own' (by simpa using hsz) hf' hcl' hst' hfr' hI')
    split
    · rename_i hwn; rw [if_pos hwn] at this; exact .inl this
    · rename_i hwn; rw [if_neg hwn] at this; exact this

theorem AWp.drawF {σ : AS} {id : Nat} (rs : List DRow) (hm : P.follows .mixedOrders = true) (hok : drawOk l (rs.map DRow.d) = true) (hav : avAll rs rs (masks l []) 0 = true) (h0 : ∀ r ∈ rs, ∀ x, r.fr = some x → Free x σ) (h : FRun P l.toArray l rs σ (Q .normal)) : AWp P (.region id l.toArray true) Q σ := by
  intro w0 own0 a w own hI
  obtain ⟨hlen0, S, hS0, hK, hS⟩ := h.states
  subst hS0
  have hD : ∀ i o, l[i]? = some o → ∃ d, (rs.map DRow.d)[i]? = some d ∧ (S (i + 1)).n = (S i).n ∧ ∀ x, d.wr x = false → (S (i + 1)).at (S i) x := fun i o ho => by
    obtain ⟨r, h1, h2⟩ := hS i o ho
    exact ⟨r.d, by simp [h1], h2.n, h2.out⟩
  refine wp_region_any hm ?_
  have hrep' : ∀ i, (Array.replicate l.length false).getD i false = false := fun i => by simp [Array.getD]
  have hsz : l.toArray.size = l.length := by simp
  rw [hsz]
  refine wpAny_drawF hS hlen0 hok hav hK _ _ (S 0) a _ own (by simp) ?_ ?_ ?_ ?_ (hI.drawn _)
  · refine Nat.le_trans (List.length_filter_le _ _) (by simp)
  · intro i o ho hi
    rw [hrep'] at hi; cases hi
  · refine ⟨rfl, fun x j hj hx => AS.at_symm (S_sameF hD j (Nat.zero_le _) hj fun i d _ hij hd => ?_)⟩
    cases hb : d.wr x with
    | false => rfl
    | true =>
      have := (hx i d hd hb).2 hij
      simp only [hrep'] at this; cases this
  · intro j r x hr hx _
    exact h0 r (List.mem_of_getElem? hr) x hx
end

/-! the steps -/
theorem FRun.slot {P : Program} {ops : Array Oper} {o : Oper} {rest : List Oper} {R : List Loc} {t : Nat} {A : List Nat} {ds : List DRow} {σ : AS} {x : SV} {K : AS → Prop} (hg : o.guard = none)
    (h : ∀ τ, τ.n = σ.n → (∀ l, l ∈ R → τ.at σ l) → Step P o τ (τ.setS t x)) (hA : A.all (fun d => x.v.free d) = true) (hr : FRun P ops rest ds (σ.setS t x) K) : FRun P ops (o :: rest) (⟨⟨R, [.s t], false⟩, none, A⟩ :: ds) σ K := by
  have h1 : DStep P ops o σ ⟨R, [.s t], false⟩ (σ.setS t x) := DStep.slot fun τ h1 h2 => .plain hg (h τ h1 h2)
  refine FRun.cons ⟨h1.n, h1.out, fun τ k1 k2 _ => h1.go τ k1 k2, fun d hd l hl => ?_⟩ hr
  have : l ∈ [Loc.s t] := Loc.mem_iff.1 hl
  simp only [List.mem_cons, List.not_mem_nil, or_false] at this
  subst this
  simp only [freeAt, setS_s, if_true]
  exact List.all_eq_true.1 hA d hd
theorem FRun.whole {P : Program} {ops : Array Oper} {o : Oper} {rest : List Oper} {ds : List DRow} {σ σ' : AS} {K : AS → Prop} (hg : o.guard = none) (h : Step P o σ σ') (hn : σ'.n = σ.n) (hr : FRun P ops rest ds σ' K) : FRun P ops (o :: rest) (⟨⟨[], [], true⟩, none, []⟩ :: ds) σ K := by
  have h1 : DStep P ops o σ ⟨[], [], true⟩ σ' := DStep.whole hn (.plain hg h)
  exact FRun.cons ⟨h1.n, h1.out, fun τ k1 k2 _ => h1.go τ k1 k2, fun x hx => by cases hx⟩ hr
end Go.Mh
