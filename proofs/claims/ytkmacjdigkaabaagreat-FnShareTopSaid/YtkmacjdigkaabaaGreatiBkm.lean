/- Contracts of functions of the program, each met by its body; conditions stand in each statement. No condition. -/
import Derived.Test.YtkmacjdigkaabaaGreatiEnter
import Derived.Test.YtkmacjdigkaabaaGreatProg
import Derived.KernelRfl
set_option linter.unusedVariables false
set_option linter.unusedSimpArgs false
set_option linter.unnecessarySimpa false
set_option linter.unusedSimpArgs false
set_option maxRecDepth 100000
namespace Go.Proofs.YtkmacjdigkaabaaGreat
open Go Go.Mh

def Disj (a b : List Str) : Prop := ∀ x, x ∈ a → x ∈ b → False
structure BtOk (ts : List Str) (b : Bt) : Prop where
  nm : nameOk b.name = true
  nd : ∀ x ∈ b.needs, x ∈ ts
  na : Asc b.needs
  hd : ∀ x ∈ b.has, x ∈ b.needs
  ha : Asc b.has
structure BkOk (p : Bk) : Prop where
  tl : p.things.length ≤ 8
  tn : namesB p.things = true
  bl5 : p.bs.length ≤ 5
  asc : AscB p.bs
  all : ∀ b ∈ p.bs, BtOk p.things b
  dj : p.bs.Pairwise (fun a b => Disj a.has b.has)
theorem bk_ok (p : Bk) : bookOk p = true ↔ BkOk p := by
  constructor
  · intro hb
    obtain ⟨⟨h1, h2, h3⟩, h4⟩ := (bookOk_iff p).1 hb
    refine ⟨h1, h2, h3, ok_ascB hb, fun b hb' => ?_, ?_⟩
    · obtain ⟨i, hi, rfl⟩ := List.mem_iff_getElem.1 hb'
      obtain ⟨b1, _, b3, b4, b5⟩ := (btAt_iff p i).1 (h4 i hi).1
      rw [nth_getA hi] at b1 b3 b4 b5
      exact ⟨b1, b3.1, b3.2, b4, b5⟩
    · rw [List.pairwise_iff_getElem]
      intro i j hi hj hij x hx hy
      refine (h4 j hj).2 i hij ⟨x, ?_, ?_⟩
      · rw [nth_getA hj]; exact hy
      · rw [nth_getA hi]; exact hx
  · rintro ⟨h1, h2, h3, h4, h5, h6⟩
    refine (bookOk_iff p).2 ⟨⟨h1, h2, h3⟩, fun i hi => ⟨(btAt_iff p i).2 ?_, fun j hj => ?_⟩⟩
    · have hb := h5 _ (nth_memA hi)
      refine ⟨hb.nm, ?_, ⟨hb.nd, hb.na⟩, hb.hd, hb.ha⟩
      rcases Nat.eq_zero_or_pos i with h0 | h0
      · exact .inl h0
      · right
        have := List.pairwise_iff_getElem.1 h4 (i - 1) i (by omega) hi (by omega)
        rw [nth_getA hi, nth_getA (show i - 1 < p.bs.length by omega)]
        exact (strLt_iff _ _).2 this
    · rintro ⟨x, hx, hy⟩
      have := List.pairwise_iff_getElem.1 h6 j i (by omega) hi hj
      rw [nth_getA hi] at hx
      rw [nth_getA (show j < p.bs.length by omega)] at hy
      exact this x hy hx
theorem cutL_sub {α : Type} (l : List α) (z : Nat) : (cutL l z).Sublist l := by
  unfold cutL
  have h := List.Sublist.append (List.Sublist.refl (l.take z)) (List.drop_sublist 1 (l.drop z))
  rw [List.drop_drop, List.take_append_drop] at h
  exact h
theorem cut_ok {p : Bk} {z : Nat} (hb : BkOk p) : BkOk (cutBk p z) := by
  have hs := cutL_sub p.bs z
  exact ⟨hb.tl, hb.tn, Nat.le_trans hs.length_le hb.bl5, hb.asc.sublist hs, fun b h => hb.all b (hs.subset h), hb.dj.sublist hs⟩
theorem ins_ok {p : Bk} {s : Str} {l : List Str} (hb : BkOk p) (hn : nameOk s = true) (hr : risingB l = true) (hw : withinB l p.things = true) (hi : idxB p s < 0) (h5 : p.bs.length < 5) : BkOk (insBk p s l) := by
  have hp := insBt_perm p.bs s l
  refine ⟨hb.tl, hb.tn, by show (insBt _ _ _).length ≤ 5; rw [insBt_len]; omega, insBt_asc hb.asc (idx_none hi), fun b h => ?_, ?_⟩
  · rcases List.mem_append.1 (hp.mem_iff.1 h) with h | h
    · exact hb.all b h
    · rw [List.mem_singleton.1 h]
      exact ⟨hn, (within_iff _ _).1 hw, (rising_asc _).1 hr, fun x hx => absurd hx (List.not_mem_nil), List.Pairwise.nil⟩
  · refine (hp.pairwise_iff (fun {a b} h x hx hy => h x hy hx)).2 ?_
    rw [List.pairwise_append]
    refine ⟨hb.dj, List.pairwise_singleton _ _, fun a ha b hb x hx hy => ?_⟩
    rw [List.mem_singleton.1 hb] at hy
    exact absurd hy (List.not_mem_nil)
theorem filt_mem {a l : List Str} {x : Str} : ∀ {i : Nat}, i ≤ l.length → (x ∈ filtGo a l i ↔ (x ∈ a ∧ ∃ j, j < i ∧ nth l j = x))
  | 0, _ => by simp [filtGo]
  | i + 1, hi => by
    simp only [filtGo]
    have ih := filt_mem (a := a) (l := l) (x := x) (i := i) (by omega)
    by_cases h : hasB a (nth l i) = true
    · rw [if_pos h, List.mem_append, ih, List.mem_singleton]
      constructor
      · rintro (⟨h1, j, h2, h3⟩ | rfl)
        · exact ⟨h1, j, by omega, h3⟩
        · exact ⟨(has_mem _ _).1 h, i, by omega, rfl⟩
      · rintro ⟨h1, j, h2, h3⟩
        by_cases e : j = i
        · subst e; exact .inr h3.symm
        · exact .inl ⟨h1, j, by omega, h3⟩
    · rw [if_neg h, ih]
      constructor
      · rintro ⟨h1, j, h2, h3⟩; exact ⟨h1, j, by omega, h3⟩
      · rintro ⟨h1, j, h2, h3⟩
        by_cases e : j = i
        · subst e; rw [h3] at h; exact absurd ((has_mem _ _).2 h1) h
        · exact ⟨h1, j, by omega, h3⟩
theorem filt_all {a l : List Str} {x : Str} : x ∈ filtGo a l l.length ↔ x ∈ a ∧ x ∈ l := by
  rw [filt_mem (Nat.le_refl _)]
  constructor
  · rintro ⟨h1, j, h2, h3⟩; exact ⟨h1, h3 ▸ nth_mem h2⟩
  · rintro ⟨h1, h2⟩; obtain ⟨j, h3, h4⟩ := mem_nth h2; exact ⟨h1, j, h3, h4⟩
theorem filt_sub {a l : List Str} : ∀ i, i ≤ l.length → (filtGo a l i).Sublist (l.take i)
  | 0, _ => by simp [filtGo]
  | i + 1, hi => by
    simp only [filtGo]
    have ih := filt_sub (a := a) (l := l) i (by omega)
    have e : l.take (i + 1) = l.take i ++ [nth l i] := by
      rw [List.take_add_one, List.getElem?_eq_getElem (l := l) (i := i) (by omega), Option.toList_some, nth_get (l := l) (i := i) (by omega)]
    rw [e]
    split
    · exact ih.append (List.Sublist.refl _)
    · exact ih.trans (List.sublist_append_left _ _)
theorem filt_asc {a l : List Str} (h : Asc l) : Asc (filtGo a l l.length) := by
  have := filt_sub (a := a) (l := l) l.length (Nat.le_refl _)
  rw [List.take_length] at this
  exact h.sublist this
theorem set_pw {α : Type} {R : α → α → Prop} {l : List α} {z : Nat} {b : α} (h : l.Pairwise R) (h1 : ∀ a, R a (l.getD z b) → R a b) (h2 : ∀ a, R (l.getD z b) a → R b a) : (l.set z b).Pairwise R := by
  rw [List.pairwise_iff_getElem] at h ⊢
  intro i j hi hj hij
  rw [List.length_set] at hi hj
  rw [List.getElem_set, List.getElem_set]
  have h3 := h i j hi hj hij
  split
  · rename_i e
    subst e
    rw [if_neg (by omega)]
    refine h2 _ ?_
    rw [List.getD_eq_getElem?_getD, List.getElem?_eq_getElem hi]; exact h3
  · split
    · rename_i e
      subst e
      refine h1 _ ?_
      rw [List.getD_eq_getElem?_getD, List.getElem?_eq_getElem hj]; exact h3
    · exact h3
theorem less_ok {p : Bk} {z : Nat} {l : List Str} (hb : BkOk p) (hz : z < p.bs.length) (hr : risingB l = true) (hw : withinB l (nth p.bs z).needs = true) : BkOk (lessAt p z l) := by
  have hbz := hb.all _ (nth_memA hz)
  have e0 : ∀ d : Bt, p.bs.getD z d = nth p.bs z := fun d => by rw [List.getD_eq_getElem?_getD, List.getElem?_eq_getElem hz, nth_getA hz]; rfl
  refine ⟨hb.tl, hb.tn, by show (lessBs _ _ _ _).length ≤ 5; simp only [lessBs, List.length_set]; exact hb.bl5, ?_, fun b h => ?_, ?_⟩
  · exact set_pw hb.asc (fun a h => by rw [e0] at h; exact h) (fun a h => by rw [e0] at h; exact h)
  · rcases List.mem_or_eq_of_mem_set h with h | h
    · exact hb.all b h
    · rw [h]
      refine ⟨hbz.nm, fun x hx => hbz.nd x ((within_iff _ _).1 hw x hx), (rising_asc _).1 hr, fun x hx => (filt_all.1 hx).1, filt_asc hbz.ha⟩
  · refine set_pw hb.dj (fun a h x hx hy => ?_) (fun a h x hx hy => ?_)
    · rw [e0] at h; exact h x hx (filt_all.1 hy).2
    · rw [e0] at h; exact h x (filt_all.1 hx).2 hy
/-- sizes -/
def bkLe (p : Bk) (n : Nat) : Prop := p.things.length ≤ n ∧ p.bs.length ≤ n ∧ ∀ b ∈ p.bs, b.has.length ≤ n ∧ b.needs.length ≤ n
theorem bkLe.small {p : Bk} {n : Nat} (h : bkLe p n) (hn : n ≤ 1048576) : smallBk p :=
  ⟨Nat.le_trans h.1 hn, Nat.le_trans h.2.1 hn, fun i hi => ⟨Nat.le_trans (h.2.2 _ (nth_memA hi)).1 hn, Nat.le_trans (h.2.2 _ (nth_memA hi)).2 hn⟩⟩
theorem bkLe.mono {p : Bk} {n m : Nat} (h : bkLe p n) (hm : n ≤ m) : bkLe p m := ⟨Nat.le_trans h.1 hm, Nat.le_trans h.2.1 hm, fun b hb => ⟨Nat.le_trans (h.2.2 b hb).1 hm, Nat.le_trans (h.2.2 b hb).2 hm⟩⟩
theorem asc_len {a b : List Str} (ha : Asc a) (h : ∀ x ∈ a, x ∈ b) : a.length ≤ b.length := ha.nodup.length_le_of_subset h
theorem ok_le {p : Bk} (h : BkOk p) (h5 : p.things.length ≤ 5) : bkLe p 5 := ⟨h5, h.bl5, fun b hb => by
  have hb' := h.all b hb
  have h1 := asc_len hb'.na hb'.nd
  have h2 := asc_len hb'.ha hb'.hd
  exact ⟨by omega, by omega⟩⟩
theorem empty_le (n : Nat) : bkLe emptyBk n := ⟨Nat.zero_le _, Nat.zero_le _, fun b hb => absurd hb (List.not_mem_nil)⟩
theorem ask_le {p : Bk} {s : Str} {l : List Str} (h : bkLe p 5) : bkLe (askR p s l).1 5 := by
  unfold askR
  have hix := idxB_lt p s
  split
  · rename_i hb
    split
    · exact h
    · rename_i hz
      split
      · rename_i hw
        simp only [Bool.and_eq_true] at hw
        split
        · exact h
        · rename_i ht
          split
          · exact h
          · refine ok_le ((bk_ok _).1 (askAt_ok hb (by omega) hw.2 ?_)) h.1
            have e : (((idxB p s).toNat : Nat) : Int) = idxB p s := by omega
            rw [e]; simpa using ht
      · exact h
  · exact empty_le 5
theorem less_le {p : Bk} {s : Str} {l : List Str} (h : bkLe p 5) : bkLe (lessR p s l).1 5 := by
  unfold lessR
  have hix := idxB_lt p s
  split
  · rename_i hb
    split
    · exact h
    · split
      · rename_i hw
        simp only [Bool.and_eq_true] at hw
        exact ok_le (less_ok ((bk_ok p).1 hb) (by omega) hw.1 hw.2) h.1
      · exact h
  · exact empty_le 5
theorem enter_le {p : Bk} {s : Str} {l : List Str} (h : bkLe p 5) : bkLe (enterR p s l).1 5 := by
  unfold enterR
  split
  · rename_i hb
    split
    · rename_i hw
      simp only [Bool.and_eq_true] at hw
      split
      · exact h
      · split
        · exact h
        · exact ok_le (ins_ok ((bk_ok p).1 hb) hw.1 hw.2.1 hw.2.2 (by omega) (by omega)) h.1
    · exact h
  · exact empty_le 5
theorem leave_le {p : Bk} {s : Str} (h : bkLe p 5) : bkLe (leaveR p s).1 5 := by
  unfold leaveR
  split
  · rename_i hb
    split
    · exact h
    · exact ok_le (cut_ok ((bk_ok p).1 hb)) h.1
  · exact empty_le 5

end Go.Proofs.YtkmacjdigkaabaaGreat
