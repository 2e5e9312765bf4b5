/- Contracts of functions of the program, each met by its body; conditions stand in each statement. No condition. -/
import Derived.Test.YtkmacjdigkaabaahEnter
import Derived.Test.YtkmacjdigkaabaaProg
import Derived.KernelRfl
set_option linter.unusedVariables false
set_option linter.unusedSimpArgs false
set_option linter.unnecessarySimpa false
set_option linter.unusedSimpArgs false
set_option maxRecDepth 100000
namespace Go.Proofs.Ytkmacjdigkaabaa
open Go Go.Mh

def Disj (a b : List Str) : Prop := ∀ x, x ∈ a → x ∈ b → False
structure BtOk (ts : List Str) (b : Bt) : Prop where
  nm : nameOk b.name = true
  nd : ∀ x ∈ b.needs, x ∈ ts
  na : Asc b.needs
  hd : ∀ x ∈ b.has, x ∈ b.needs
  ha : Asc b.has
structure BkOk (p : Bk) : Prop where
  tl : p.things.length ≤ 8
  tn : namesB p.things = true
  bl5 : p.bs.length ≤ 5
  asc : AscB p.bs
  all : ∀ b ∈ p.bs, BtOk p.things b
  dj : p.bs.Pairwise (fun a b => Disj a.has b.has)
theorem bk_ok (p : Bk) : bookOk p = true ↔ BkOk p := by
  constructor
  · intro hb
    obtain ⟨⟨h1, h2, h3⟩, h4⟩ := (bookOk_iff p).1 hb
    refine ⟨h1, h2, h3, ok_ascB hb, fun b hb' => ?_, ?_⟩
    · obtain ⟨i, hi, rfl⟩ := List.mem_iff_getElem.1 hb'
      obtain ⟨b1, _, b3, b4, b5⟩ := (btAt_iff p i).1 (h4 i hi).1
      rw [nth_getA hi] at b1 b3 b4 b5
      exact ⟨b1, b3.1, b3.2, b4, b5⟩
    · rw [List.pairwise_iff_getElem]
      intro i j hi hj hij x hx hy
      refine (h4 j hj).2 i hij ⟨x, ?_, ?_⟩
      · rw [nth_getA hj]; exact hy
      · rw [nth_getA hi]; exact hx
  · rintro ⟨h1, h2, h3, h4, h5, h6⟩
    refine (bookOk_iff p).2 ⟨⟨h1, h2, h3⟩, fun i hi => ⟨(btAt_iff p i).2 ?_, fun j hj => ?_⟩⟩
    · have hb := h5 _ (nth_memA hi)
      refine ⟨hb.nm, ?_, ⟨hb.nd, hb.na⟩, hb.hd, hb.ha⟩
      rcases Nat.eq_zero_or_pos i with h0 | h0
      · exact .inl h0
      · right
        have := List.pairwise_iff_getElem.1 h4 (i - 1) i (by omega) hi (by omega)
        rw [nth_getA hi, nth_getA (show i - 1 < p.bs.length by omega)]
        exact (strLt_iff _ _).2 this
    · rintro ⟨x, hx, hy⟩
      have := List.pairwise_iff_getElem.1 h6 j i (by omega) hi hj
      rw [nth_getA hi] at hx
      rw [nth_getA (show j < p.bs.length by omega)] at hy
      exact this x hy hx
theorem cutL_sub {α : Type} (l : List α) (z : Nat) : (cutL l z).Sublist l := by
  unfold cutL
  have h := List.Sublist.append (List.Sublist.refl (l.take z)) (List.drop_sublist 1 (l.drop z))
  rw [List.drop_drop, List.take_append_drop] at h
  exact h
theorem cut_ok {p : Bk} {z : Nat} (hb : BkOk p) : BkOk (cutBk p z) := by
  have hs := cutL_sub p.bs z
  exact ⟨hb.tl, hb.tn, Nat.le_trans hs.length_le hb.bl5, hb.asc.sublist hs, fun b h => hb.all b (hs.subset h), hb.dj.sublist hs⟩
theorem ins_ok {p : Bk} {s : Str} {l : List Str} (hb : BkOk p) (hn : nameOk s = true) (hr : risingB l = true) (hw : withinB l p.things = true) (hi : idxB p s < 0) (h5 : p.bs.length < 5) : BkOk (insBk p s l) := by
  have hp := insBt_perm p.bs s l
  refine ⟨hb.tl, hb.tn, by show (insBt _ _ _).length ≤ 5; rw [insBt_len]; omega, insBt_asc hb.asc (idx_none hi), fun b h => ?_, ?_⟩
  · rcases List.mem_append.1 (hp.mem_iff.1 h) with h | h
    · exact hb.all b h
    · rw [List.mem_singleton.1 h]
      exact ⟨hn, (within_iff _ _).1 hw, (rising_asc _).1 hr, fun x hx => absurd hx (List.not_mem_nil), List.Pairwise.nil⟩
  · refine (hp.pairwise_iff (fun {a b} h x hx hy => h x hy hx)).2 ?_
    rw [List.pairwise_append]
    refine ⟨hb.dj, List.pairwise_singleton _ _, fun a ha b hb x hx hy => ?_⟩
    rw [List.mem_singleton.1 hb] at hy
    exact absurd hy (List.not_mem_nil)
theorem filt_mem {a l : List Str} {x : Str} : ∀ {i : Nat}, i ≤ l.length → (x ∈ filtGo a l i ↔ (x ∈ a ∧ ∃ j, j < i ∧ nth l j = x))
  | 0, _ => by simp [filtGo]
  | i + 1, hi => by
    simp only [filtGo]
    have ih := filt_mem (a := a) (l := l) (x := x) (i := i) (by omega)
    by_cases h : hasB a (nth l i) = true
    · rw [if_pos h, List.mem_append, ih, List.mem_singleton]
      constructor
      · rintro (⟨h1, j, h2, h3⟩ | rfl)
        · exact ⟨h1, j, by omega, h3⟩
        · exact ⟨(has_mem _ _).1 h, i, by omega, rfl⟩
      · rintro ⟨h1, j, h2, h3⟩
        by_cases e : j = i
        · subst e; exact .inr h3.symm
        · exact .inl ⟨h1, j, by omega, h3⟩
    · rw [if_neg h, ih]
      constructor
      · rintro ⟨h1, j, h2, h3⟩; exact ⟨h1, j, by omega, h3⟩
      · rintro ⟨h1, j, h2, h3⟩
        by_cases e : j = i
        · subst e; rw [h3] at h; exact absurd ((has_mem _ _).2 h1) h
        · exact ⟨h1, j, by omega, h3⟩
theorem filt_all {a l : List Str} {x : Str} : x ∈ filtGo a l l.length ↔ x ∈ a ∧ x ∈ l := by
  rw [filt_mem (Nat.le_refl _)]
  constructor
  · rintro ⟨h1, j, h2, h3⟩; exact ⟨h1, h3 ▸ nth_mem h2⟩
  · rintro ⟨h1, h2⟩; obtain ⟨j, h3, h4⟩ := mem_nth h2; exact ⟨h1, j, h3, h4⟩
theorem filt_sub {a l : List Str} : ∀ i, i ≤ l.length → (filtGo a l i).Sublist (l.take i)
  | 0, _ => by simp [filtGo]
  | i + 1, hi => by
    simp only [filtGo]
    have ih := filt_sub (a := a) (l := l) i (by omega)
    have e : l.take (i + 1) = l.take i ++ [nth l i] := by
      rw [List.take_add_one, List.getElem?_eq_getElem (l := l) (i := i) (by omega), Option.toList_some, nth_get (l := l) (i := i) (by omega)]
    rw [e]
    split
    · exact ih.append (List.Sublist.refl _)
    · exact ih.trans (List.sublist_append_left _ _)
theorem filt_asc {a l : List Str} (h : Asc l) : Asc (filtGo a l l.length) := by
  have := filt_sub (a := a) (l := l) l.length (Nat.le_refl _)
  rw [List.take_length] at this
  exact h.sublist this
theorem set_pw {α : Type} {R : α → α → Prop} {l : List α} {z : Nat} {b : α} (h : l.Pairwise R) (h1 : ∀ a, R a (l.getD z b) → R a b) (h2 : ∀ a, R (l.getD z b) a → R b a) : (l.set z b).Pairwise R := by
  rw [List.pairwise_iff_getElem] at h ⊢
  intro i j hi hj hij
  rw [List.length_set] at hi hj
  rw [List.getElem_set, List.getElem_set]
  have h3 := h i j hi hj hij
  split
  · rename_i e
    subst e
    rw [if_neg (by omega)]
    refine h2 _ ?_
    rw [List.getD_eq_getElem?_getD, List.getElem?_eq_getElem hi]; exact h3
  · split
    · rename_i e
      subst e
      refine h1 _ ?_
      rw [List.getD_eq_getElem?_getD, List.getElem?_eq_getElem hj]; exact h3
    · exact h3
theorem less_ok {p : Bk} {z : Nat} {l : List Str} (hb : BkOk p) (hz : z < p.bs.length) (hr : risingB l = true) (hw : withinB l (nth p.bs z).needs = true) : BkOk (lessAt p z l) := by
  have hbz := hb.all _ (nth_memA hz)
  have e0 : ∀ d : Bt, p.bs.getD z d = nth p.bs z := fun d => by rw [List.getD_eq_getElem?_getD, List.getElem?_eq_getElem hz, nth_getA hz]; rfl
  refine ⟨hb.tl, hb.tn, by show (lessBs _ _ _ _).length ≤ 5; simp only [lessBs, List.length_set]; exact hb.bl5, ?_, fun b h => ?_, ?_⟩
  · exact set_pw hb.asc (fun a h => by rw [e0] at h; exact h) (fun a h => by rw [e0] at h; exact h)
  · rcases List.mem_or_eq_of_mem_set h with h | h
    · exact hb.all b h
    · rw [h]
      refine ⟨hbz.nm, fun x hx => hbz.nd x ((within_iff _ _).1 hw x hx), (rising_asc _).1 hr, fun x hx => (filt_all.1 hx).1, filt_asc hbz.ha⟩
  · refine set_pw hb.dj (fun a h x hx hy => ?_) (fun a h x hx hy => ?_)
    · rw [e0] at h; exact h x hx (filt_all.1 hy).2
    · rw [e0] at h; exact h x (filt_all.1 hx).2 hy
/-- sizes -/
def bkLe (p : Bk) (n : Nat) : Prop := p.things.length ≤ n ∧ p.bs.length ≤ n ∧ ∀ b ∈ p.bs, b.has.length ≤ n ∧ b.needs.length ≤ n
theorem bkLe.small {p : Bk} {n : Nat} (h : bkLe p n) (hn : n ≤ 1048576) : smallBk p :=
  ⟨Nat.le_trans h.1 hn, Nat.le_trans h.2.1 hn, fun i hi => ⟨Nat.le_trans (h.2.2 _ (nth_memA hi)).1 hn, Nat.le_trans (h.2.2 _ (nth_memA hi)).2 hn⟩⟩
theorem bkLe.mono {p : Bk} {n m : Nat} (h : bkLe p n) (hm : n ≤ m) : bkLe p m := ⟨Nat.le_trans h.1 hm, Nat.le_trans h.2.1 hm, fun b hb => ⟨Nat.le_trans (h.2.2 b hb).1 hm, Nat.le_trans (h.2.2 b hb).2 hm⟩⟩
theorem asc_len {a b : List Str} (ha : Asc a) (h : ∀ x ∈ a, x ∈ b) : a.length ≤ b.length := ha.nodup.length_le_of_subset h
theorem ok_le {p : Bk} (h : BkOk p) (h5 : p.things.length ≤ 5) : bkLe p 5 := ⟨h5, h.bl5, fun b hb => by
  have hb' := h.all b hb
  have h1 := asc_len hb'.na hb'.nd
  have h2 := asc_len hb'.ha hb'.hd
  exact ⟨by omega, by omega⟩⟩
theorem empty_le (n : Nat) : bkLe emptyBk n := ⟨Nat.zero_le _, Nat.zero_le _, fun b hb => absurd hb (List.not_mem_nil)⟩
theorem ask_le {p : Bk} {s : Str} {l : List Str} (h : bkLe p 5) : bkLe (askR p s l).1 5 := by
  unfold askR
  have hix := idxB_lt p s
  split
  · rename_i hb
    split
    · exact h
    · rename_i hz
      split
      · rename_i hw
        simp only [Bool.and_eq_true] at hw
        split
        · exact h
        · rename_i ht
          split
          · exact h
          · refine ok_le ((bk_ok _).1 (askAt_ok hb (by omega) hw.2 ?_)) h.1
            have e : (((idxB p s).toNat : Nat) : Int) = idxB p s := by omega
            rw [e]; simpa using ht
      · exact h
  · exact empty_le 5
theorem less_le {p : Bk} {s : Str} {l : List Str} (h : bkLe p 5) : bkLe (lessR p s l).1 5 := by
  unfold lessR
  have hix := idxB_lt p s
  split
  · rename_i hb
    split
    · exact h
    · split
      · rename_i hw
        simp only [Bool.and_eq_true] at hw
        exact ok_le (less_ok ((bk_ok p).1 hb) (by omega) hw.1 hw.2) h.1
      · exact h
  · exact empty_le 5
theorem enter_le {p : Bk} {s : Str} {l : List Str} (h : bkLe p 5) : bkLe (enterR p s l).1 5 := by
  unfold enterR
  split
  · rename_i hb
    split
    · rename_i hw
      simp only [Bool.and_eq_true] at hw
      split
      · exact h
      · split
        · exact h
        · exact ok_le (ins_ok ((bk_ok p).1 hb) hw.1 hw.2.1 hw.2.2 (by omega) (by omega)) h.1
    · exact h
  · exact empty_le 5
theorem leave_le {p : Bk} {s : Str} (h : bkLe p 5) : bkLe (leaveR p s).1 5 := by
  unfold leaveR
  split
  · rename_i hb
    split
    · exact h
    · exact ok_le (cut_ok ((bk_ok p).1 hb)) h.1
  · exact empty_le 5

end Go.Proofs.Ytkmacjdigkaabaa

set_option linter.unusedVariables false
set_option linter.unusedSimpArgs false
set_option maxRecDepth 100000
namespace Go.Proofs.Ytkmacjdigkaabaa
open Go Go.Mh

theorem nm_ix {p : Bk} (hb : BkOk p) {i j : Nat} (hi : i < p.bs.length) (hj : j < p.bs.length) (h : (nth p.bs i).name = (nth p.bs j).name) : i = j := by
  rw [nth_getA hi, nth_getA hj] at h
  have ha := List.pairwise_iff_getElem.1 hb.asc
  rcases Nat.lt_trichotomy i j with h3 | h3 | h3
  · have := ha i j hi hj h3; rw [h] at this; exact (bl_irr this).elim
  · exact h3
  · have := ha j i hj hi h3; rw [h] at this; exact (bl_irr this).elim
theorem nm_pos {p : Bk} (hb : BkOk p) {i : Nat} (hi : i < p.bs.length) : idxB p (nth p.bs i).name = i := by
  refine (idxB_some (fun j hj => ?_) hi ((strEq_iff _ _).2 rfl)).symm
  cases hh : nameAt p (nth p.bs i).name j with
  | false => rfl
  | true => have := nm_ix hb (by omega) hi ((strEq_iff _ _).1 hh); omega
theorem pos_nm {p : Bk} {s : Str} (h : 0 ≤ idxB p s) : (idxB p s).toNat < p.bs.length ∧ (nth p.bs (idxB p s).toNat).name = s := by
  have h1 := idxB_lt p s
  refine ⟨by omega, ?_⟩
  unfold idxB at h ⊢
  split at h
  · rename_i i h2
    have h3 := List.find?_some h2
    simp only [nameAt] at h3
    simpa using (strEq_iff _ _).1 h3
  · omega
/-- b can have all it needs, when those of g are gone -/
def CanN (p : Bk) (b : Bt) (g : List Str) : Prop := ∀ c ∈ p.bs, c.name ≠ b.name → c.name ∉ g → Disj c.has b.needs
theorem can_iff {p : Bk} (hb : BkOk p) {i : Nat} (hi : i < p.bs.length) {g : List Str} : canB p i g = true ↔ CanN p (nth p.bs i) g := by
  simp only [canB, List.all_eq_true, List.mem_range, blk, Bool.not_eq_true', Bool.and_eq_false_iff]
  constructor
  · intro h c hc hne hg x hx hy
    obtain ⟨k, hk, rfl⟩ := List.mem_iff_getElem.1 hc
    have h3 := h k hk
    rw [nth_getA hk] at h3
    rcases h3 with (h1 | h1) | h1
    · have : k = i := by simpa using h1
      subst this
      exact hne (by rw [nth_getA hi])
    · exact hg ((has_mem _ _).1 (by simpa using h1))
    · rw [(meets_iff _ _).2 ⟨x, hx, hy⟩] at h1; cases h1
  · intro h k hk
    by_cases e : k = i
    · left; left; subst e; simp
    · by_cases hg : (nth p.bs k).name ∈ g
      · left; right; rw [(has_mem _ _).2 hg]; rfl
      · right
        cases hm : meetsB (nth p.bs k).has (nth p.bs i).needs with
        | false => rfl
        | true =>
          obtain ⟨x, hx, hy⟩ := (meets_iff _ _).1 hm
          exact (h _ (nth_memA hk) (fun e2 => e (nm_ix hb hk hi e2)) hg x hx hy).elim
theorem CanN.mono {p : Bk} {b : Bt} {g g' : List Str} (h : CanN p b g) (hs : ∀ x ∈ g, x ∈ g') : CanN p b g' := fun c hc hn hg => h c hc hn (fun h2 => hg (hs _ h2))
/-- one behind the other -/
def Ord (p : Bk) (l : List Str) : Prop := ∀ a s r, l = a ++ s :: r → s ∉ a ∧ ∃ b ∈ p.bs, b.name = s ∧ CanN p b a
def Full (p : Bk) (l : List Str) : Prop := ∀ b ∈ p.bs, b.name ∈ l
theorem ord_nil (p : Bk) : Ord p [] := fun a s r h => by simp at h
theorem ord_snoc {p : Bk} {l : List Str} {s : Str} (h : Ord p l) (h1 : s ∉ l) (h2 : ∃ b ∈ p.bs, b.name = s ∧ CanN p b l) : Ord p (l ++ [s]) := by
  intro a s' r e
  rcases List.eq_nil_or_concat r with rfl | ⟨r', x, rfl⟩
  · have := List.append_inj' e rfl
    obtain ⟨rfl, e2⟩ := this
    cases e2
    exact ⟨h1, h2⟩
  · rw [List.concat_eq_append, show a ++ s' :: (r' ++ [x]) = (a ++ s' :: r') ++ [x] by simp] at e
    exact h a s' r' (List.append_inj' e rfl).1
theorem ord_nodup {p : Bk} {l : List Str} (h : Ord p l) : l.Nodup := by
  rw [List.nodup_iff_pairwise_ne, List.pairwise_iff_getElem]
  intro i j hi hj hij e
  refine (h (l.take j) l[j] (l.drop (j + 1)) (by rw [List.getElem_cons_drop, List.take_append_drop])).1 ?_
  rw [← e]
  exact List.mem_take_iff_getElem.2 ⟨i, by omega, rfl⟩
theorem ord_mem {p : Bk} {l : List Str} (h : Ord p l) {s : Str} (hs : s ∈ l) : ∃ b ∈ p.bs, b.name = s := by
  obtain ⟨a, r, rfl⟩ := List.append_of_mem hs
  obtain ⟨_, b, h1, h2, _⟩ := h a s r rfl
  exact ⟨b, h1, h2⟩
def nmsB (p : Bk) : List Str := p.bs.map Bt.name
theorem nms_nodup {p : Bk} (hb : BkOk p) : (nmsB p).Nodup := by
  rw [nmsB, List.nodup_iff_pairwise_ne, List.pairwise_map]
  exact hb.asc.imp fun h e => by rw [e] at h; exact bl_irr h
theorem nms_mem {p : Bk} {s : Str} : s ∈ nmsB p ↔ ∃ b ∈ p.bs, b.name = s := by rw [nmsB, List.mem_map]
theorem ord_le {p : Bk} {l : List Str} (h : Ord p l) : l.length ≤ p.bs.length := by
  have := (ord_nodup h).length_le_of_subset (l₂ := nmsB p) (fun x hx => nms_mem.2 (ord_mem h hx))
  simpa [nmsB] using this
theorem full_len {p : Bk} (hb : BkOk p) {l : List Str} (h : Ord p l) : Full p l ↔ l.length = p.bs.length := by
  constructor
  · intro hf
    have h1 := (nms_nodup hb).length_le_of_subset (l₂ := l) (fun x hx => by obtain ⟨b, h1, rfl⟩ := nms_mem.1 hx; exact hf b h1)
    have h2 := ord_le h
    simp only [nmsB, List.length_map] at h1
    omega
  · intro hl b hb'
    apply Classical.byContradiction
    intro hn
    have h1 : (b.name :: l).Nodup := List.nodup_cons.2 ⟨hn, ord_nodup h⟩
    have h2 := h1.length_le_of_subset (l₂ := nmsB p) (fun x hx => by
      rcases List.mem_cons.1 hx with rfl | hx
      · exact nms_mem.2 ⟨b, hb', rfl⟩
      · exact nms_mem.2 (ord_mem h hx))
    simp only [nmsB, List.length_map, List.length_cons] at h2
    omega
theorem first_not {l g : List Str} (h : ∃ x ∈ l, x ∉ g) : ∃ a s r, l = a ++ s :: r ∧ (∀ x ∈ a, x ∈ g) ∧ s ∉ g := by
  induction l with
  | nil => obtain ⟨x, h1, _⟩ := h; cases h1
  | cons y l ih =>
    by_cases hy : y ∈ g
    · have : ∃ x ∈ l, x ∉ g := by
        obtain ⟨x, h1, h2⟩ := h
        rcases List.mem_cons.1 h1 with rfl | h1
        · exact absurd hy h2
        · exact ⟨x, h1, h2⟩
      obtain ⟨a, s, r, e, h3, h4⟩ := ih this
      exact ⟨y :: a, s, r, by rw [e]; rfl, fun x hx => (List.mem_cons.1 hx).elim (fun e => e ▸ hy) (h3 x), h4⟩
    · exact ⟨[], y, l, rfl, fun x hx => absurd hx List.not_mem_nil, hy⟩
theorem next_some {p : Bk} (hb : BkOk p) {l g : List Str} (h : Ord p l) (hf : Full p l) (hg : g.length < p.bs.length) : nextB p g ≠ none := by
  have hex : ∃ x ∈ l, x ∉ g := by
    apply Classical.byContradiction
    intro hn
    have := (ord_nodup h).length_le_of_subset (l₂ := g) (fun x hx => Classical.byContradiction fun h2 => hn ⟨x, hx, h2⟩)
    rw [(full_len hb h).1 hf] at this
    omega
  obtain ⟨a, s, r, e, h3, h4⟩ := first_not hex
  obtain ⟨_, b, h5, rfl, h6⟩ := h a s r e
  obtain ⟨i, hi, rfl⟩ := List.mem_iff_getElem.1 h5
  intro hn
  unfold nextB at hn
  rw [List.find?_eq_none] at hn
  refine hn i (List.mem_range.2 hi) ?_
  rw [← nth_getA hi] at h4 h6
  rw [nextOk, (can_iff hb hi).2 (h6.mono h3), Bool.and_true]
  cases hh : hasB g (nth p.bs i).name with
  | false => rfl
  | true => exact absurd ((has_mem _ _).1 hh) h4
theorem next_ord {p : Bk} (hb : BkOk p) {g : List Str} {i : Nat} (h : Ord p g) (hn : nextB p g = some i) : Ord p (g ++ [(nth p.bs i).name]) := by
  have hi := nextB_lt hn
  have h1 := List.find?_some hn
  simp only [nextOk, Bool.and_eq_true, Bool.not_eq_true'] at h1
  refine ord_snoc h (fun h2 => ?_) ⟨_, nth_memA hi, rfl, (can_iff hb hi).1 h1.2⟩
  rw [(has_mem _ _).2 h2] at h1; cases h1.1
theorem orderGo_ord {p : Bk} (hb : BkOk p) : ∀ (k : Nat) (g l : List Str), Ord p g → orderGo p k g = some l → Ord p l ∧ l.length = g.length + k
  | 0, g, l, h, e => by simp only [orderGo, Option.some.injEq] at e; subst e; exact ⟨h, rfl⟩
  | k + 1, g, l, h, e => by
    simp only [orderGo] at e
    split at e
    · rename_i i hn
      obtain ⟨h1, h2⟩ := orderGo_ord hb k _ l (next_ord hb h hn) e
      exact ⟨h1, by rw [h2]; simp; omega⟩
    · cases e
theorem orderGo_all {p : Bk} (hb : BkOk p) {l : List Str} (h : Ord p l) (hf : Full p l) : ∀ (k : Nat) (g : List Str), g.length + k = p.bs.length → (orderGo p k g).isSome = true
  | 0, g, _ => rfl
  | k + 1, g, e => by
    simp only [orderGo]
    split
    · exact orderGo_all hb h hf k _ (by simp; omega)
    · rename_i hn; exact absurd hn (next_some hb h hf (by omega))
def safeP (p : Bk) : Prop := ∃ l, Ord p l ∧ Full p l
theorem order_ord {p : Bk} {l : List Str} (h : orderB p = some l) : BkOk p ∧ Ord p l ∧ Full p l := by
  unfold orderB at h
  split at h
  · rename_i h1
    have hb := (bk_ok p).1 h1
    obtain ⟨h2, h3⟩ := orderGo_ord hb _ _ _ (ord_nil p) h
    exact ⟨hb, h2, (full_len hb h2).2 (by simpa using h3)⟩
  · cases h
theorem safe_iff {p : Bk} (hb : BkOk p) : (orderB p).isSome = true ↔ safeP p := by
  constructor
  · intro h
    obtain ⟨l, hl⟩ := Option.isSome_iff_exists.1 h
    exact ⟨l, (order_ord hl).2⟩
  · rintro ⟨l, h1, h2⟩
    unfold orderB
    rw [if_pos ((bk_ok p).2 hb)]
    exact orderGo_all hb h1 h2 _ _ (by simp)
theorem fits_iff {p : Bk} (hb : BkOk p) {l : List Str} : fitsB p l = true ↔ Ord p l ∧ Full p l := by
  have key : (List.range l.length).all (fitAt p l) = true ↔ Ord p l := by
    simp only [List.all_eq_true, List.mem_range, fitAt, Bool.and_eq_true, decide_eq_true_eq, Bool.not_eq_true']
    constructor
    · rintro h a s r rfl
      have h1 := h a.length (by simp)
      have e1 : nth (a ++ s :: r) a.length = s := by rw [nth_append_right (Nat.le_refl _), Nat.sub_self]; rfl
      have e2 : (a ++ s :: r).take a.length = a := by simp
      rw [e1, e2] at h1
      obtain ⟨⟨h2, h3⟩, h4⟩ := h1
      obtain ⟨h5, h6⟩ := pos_nm h2
      refine ⟨fun hs => ?_, _, nth_memA h5, h6, (can_iff hb h5).1 h4⟩
      rw [(has_mem _ _).2 hs] at h3; cases h3
    · intro h i hi
      obtain ⟨h1, b, h2, h3, h4⟩ := h (l.take i) l[i] (l.drop (i + 1)) (by rw [List.getElem_cons_drop, List.take_append_drop])
      rw [nth_getA hi]
      obtain ⟨k, hk, rfl⟩ := List.mem_iff_getElem.1 h2
      rw [← nth_getA hk] at h3 h4
      have e : idxB p l[i] = k := by rw [← h3]; exact nm_pos hb hk
      rw [e]
      refine ⟨⟨by omega, ?_⟩, by simpa using (can_iff hb hk).2 h4⟩
      cases hh : hasB (l.take i) l[i] with
      | false => rfl
      | true => exact absurd ((has_mem _ _).1 hh) h1
  unfold fitsB
  rw [(bk_ok p).2 hb, Bool.true_and, Bool.and_eq_true, key, beq_iff_eq]
  exact ⟨fun ⟨h1, h2⟩ => ⟨h2, (full_len hb h2).2 h1⟩, fun ⟨h1, h2⟩ => ⟨(full_len hb h1).1 h2, h1⟩⟩
theorem fits_ok {p : Bk} {l : List Str} (h : fitsB p l = true) : BkOk p := by
  unfold fitsB at h
  simp only [Bool.and_eq_true] at h
  exact (bk_ok p).1 h.1.1
/-- the same names; who needs less, who has less -/
theorem ord_map {p q : Bk} {l : List Str} (hn : ∀ b ∈ p.bs, ∃ b' ∈ q.bs, b'.name = b.name ∧ ∀ x ∈ b'.needs, x ∈ b.needs) (hh : ∀ c ∈ q.bs, ∃ c' ∈ p.bs, c'.name = c.name ∧ ∀ x ∈ c.has, x ∈ c'.has) (h : Ord p l ∧ Full p l) : Ord q l ∧ Full q l := by
  refine ⟨fun a s r e => ?_, fun c hc => ?_⟩
  · obtain ⟨h1, b, h2, rfl, h3⟩ := h.1 a s r e
    obtain ⟨b', h4, h5, h6⟩ := hn b h2
    refine ⟨h1, b', h4, h5, fun c hc hne hg x hx hy => ?_⟩
    obtain ⟨c', h7, h8, h9⟩ := hh c hc
    exact h3 c' h7 (by rw [h8, ← h5]; exact hne) (by rw [h8]; exact hg) x (h9 x hx) (h6 x hy)
  · obtain ⟨c', h7, h8, _⟩ := hh c hc
    rw [← h8]; exact h.2 c' h7
theorem movesGo_mem {p : Bk} {x : Str} : ∀ {n : Nat}, x ∈ movesGo p n ↔ ∃ j, j < n ∧ canB p j [] = true ∧ (nth p.bs j).name = x
  | 0 => by simp [movesGo]
  | n + 1 => by
    simp only [movesGo]
    have ih := movesGo_mem (p := p) (x := x) (n := n)
    constructor
    · intro h
      split at h
      · rename_i hc
        rcases List.mem_append.1 h with h | h
        · obtain ⟨j, h1, h2⟩ := ih.1 h; exact ⟨j, by omega, h2⟩
        · exact ⟨n, by omega, hc, (List.mem_singleton.1 h).symm⟩
      · obtain ⟨j, h1, h2⟩ := ih.1 h; exact ⟨j, by omega, h2⟩
    · rintro ⟨j, h1, h2, h3⟩
      by_cases e : j = n
      · subst e; rw [if_pos h2]; exact List.mem_append_right _ (List.mem_singleton.2 h3.symm)
      · have := ih.2 ⟨j, by omega, h2, h3⟩
        split
        · exact List.mem_append_left _ this
        · exact this
theorem moves_mem {p : Bk} {x : Str} : x ∈ movesB p ↔ BkOk p ∧ ∃ j, j < p.bs.length ∧ canB p j [] = true ∧ (nth p.bs j).name = x := by
  unfold movesB
  split
  · rename_i h; rw [movesGo_mem]; exact ⟨fun h2 => ⟨(bk_ok p).1 h, h2⟩, fun h2 => h2.2⟩
  · rename_i h; exact ⟨fun h2 => absurd h2 List.not_mem_nil, fun h2 => absurd ((bk_ok p).2 h2.1) h⟩
theorem moves_has {p : Bk} (hb : BkOk p) {i : Nat} (hi : i < p.bs.length) : hasB (movesB p) (nth p.bs i).name = canB p i [] := by
  rw [Bool.eq_iff_iff, has_mem, moves_mem]
  exact ⟨fun ⟨_, j, h1, h2, h3⟩ => by rw [← nm_ix hb h1 hi h3]; exact h2, fun h => ⟨hb, i, hi, h, rfl⟩⟩
theorem ord_first {p q : Bk} {l : List Str} {s : Str} (hs : ∃ b ∈ q.bs, b.name = s ∧ CanN q b []) (h1 : ∀ b ∈ q.bs, b.name ≠ s → b ∈ p.bs) (h2 : ∀ b ∈ p.bs, b.name ≠ s → b ∈ q.bs) (h : Ord p l ∧ Full p l) : Ord q (s :: l.filter (fun x => decide (x ≠ s))) ∧ Full q (s :: l.filter (fun x => decide (x ≠ s))) := by
  refine ⟨fun a t r e => ?_, fun b hb => ?_⟩
  · cases a with
    | nil =>
      obtain ⟨rfl, _⟩ := List.cons.inj e
      exact ⟨List.not_mem_nil, hs⟩
    | cons a0 a =>
      have e0 : l.filter (fun x => decide (x ≠ s)) = a ++ t :: r := (List.cons.inj e).2
      have es : s = a0 := (List.cons.inj e).1
      subst es
      obtain ⟨l1, l2, rfl, e1, e2⟩ := List.filter_eq_append_iff.1 e0
      obtain ⟨l3, l4, rfl, e3, e4, e5⟩ := List.filter_eq_cons_iff.1 e2
      obtain ⟨g1, b, g2, rfl, g3⟩ := h.1 (l1 ++ l3) t l4 (by simp)
      have hs : b.name ≠ s := by simpa using e4
      refine ⟨fun hm => ?_, b, h2 b g2 hs, rfl, fun c hc hne hg => ?_⟩
      · rcases List.mem_cons.1 hm with hm | hm
        · exact hs hm
        · rw [← e1] at hm
          exact g1 (List.mem_append_left _ (List.mem_filter.1 hm).1)
      · have hcs : c.name ≠ s := fun e => hg (e ▸ List.mem_cons_self)
        refine g3 c (h1 c hc hcs) hne (fun hm => ?_)
        rcases List.mem_append.1 hm with hm | hm
        · exact hg (List.mem_cons_of_mem _ (e1 ▸ List.mem_filter.2 ⟨hm, by simpa using hcs⟩))
        · exact absurd (by simpa using hcs : decide (c.name ≠ s) = true) (e3 _ hm)
  · by_cases e : b.name = s
    · rw [e]; exact List.mem_cons_self
    · exact List.mem_cons_of_mem _ (List.mem_filter.2 ⟨h.2 b (h1 b hb e), by simpa using e⟩)
theorem nth_ask {p : Bk} {z : Nat} (hz : z < p.bs.length) (l : List Str) (j : Nat) : nth (askAt p z l).bs j = if j = z then ⟨(nth p.bs z).name, withB (nth p.bs z).has l, (nth p.bs z).needs⟩ else nth p.bs j := nth_setHas hz _ j
theorem ask_len (p : Bk) (z : Nat) (l : List Str) : (askAt p z l).bs.length = p.bs.length := setHas_len _ _ _
theorem ask_move {p : Bk} {z : Nat} {l : List Str} (hb : BkOk p) (hz : z < p.bs.length) (hq : BkOk (askAt p z l)) (hm : canB p z [] = true) (h : (orderB p).isSome = true) : (orderB (askAt p z l)).isSome = true := by
  obtain ⟨o, ho⟩ := (safe_iff hb).1 h
  have hc := (can_iff hb hz).1 hm
  have e1 : ∀ b ∈ (askAt p z l).bs, b.name ≠ (nth p.bs z).name → b ∈ p.bs := fun b hb' hne => by
    obtain ⟨i, hi, rfl⟩ := List.mem_iff_getElem.1 hb'
    rw [ask_len] at hi
    rw [← nth_getA] at hne ⊢
    rw [nth_ask hz] at hne ⊢
    split at hne
    · exact absurd rfl hne
    · rename_i e; rw [if_neg e]; exact nth_memA hi
  refine (safe_iff hq).2 ⟨_, ord_first (s := (nth p.bs z).name) ⟨nth (askAt p z l).bs z, nth_memA (by rw [ask_len]; exact hz), by rw [nth_ask hz, if_pos rfl], fun c hc' hne hg => ?_⟩ e1 (fun b hb' hne => ?_) ho⟩
  · rw [nth_ask hz, if_pos rfl] at hne ⊢
    exact hc c (e1 c hc' hne) hne hg
  · obtain ⟨i, hi, rfl⟩ := List.mem_iff_getElem.1 hb'
    rw [← nth_getA hi] at hne ⊢
    have hiz : i ≠ z := fun e => hne (by rw [e])
    have e : nth (askAt p z l).bs i = nth p.bs i := by rw [nth_ask hz, if_neg hiz]
    rw [← e]; exact nth_memA (by rw [ask_len]; exact hi)
/-- some order -/
def whB (p : Bk) : Nat → List Str → Bool
  | 0, g => fitsB p g
  | k + 1, g => (List.range p.bs.length).any fun i => !hasB g (nth p.bs i).name && whB p k (g ++ [(nth p.bs i).name])
theorem wh_fits {p : Bk} : ∀ {k : Nat} {g : List Str}, whB p k g = true → ∃ l, fitsB p l = true
  | 0, g, h => ⟨g, h⟩
  | k + 1, g, h => by
    simp only [whB, List.any_eq_true, Bool.and_eq_true] at h
    obtain ⟨i, _, _, h2⟩ := h
    exact wh_fits h2
end Go.Proofs.Ytkmacjdigkaabaa
