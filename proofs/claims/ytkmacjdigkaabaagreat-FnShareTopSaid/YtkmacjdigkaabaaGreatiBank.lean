/- Contracts of functions of the program, each met by its body; conditions stand in each statement. No condition. -/
import Derived.Test.YtkmacjdigkaabaaGreatiBkm
import Derived.Test.YtkmacjdigkaabaaGreatProg
import Derived.KernelRfl
set_option linter.unusedVariables false
set_option linter.unusedSimpArgs false
set_option linter.unnecessarySimpa false
set_option linter.unusedSimpArgs false
set_option maxRecDepth 100000
namespace Go.Proofs.YtkmacjdigkaabaaGreat
open Go Go.Mh

theorem nm_ix {p : Bk} (hb : BkOk p) {i j : Nat} (hi : i < p.bs.length) (hj : j < p.bs.length) (h : (nth p.bs i).name = (nth p.bs j).name) : i = j := by
  rw [nth_getA hi, nth_getA hj] at h
  have ha := List.pairwise_iff_getElem.1 hb.asc
  rcases Nat.lt_trichotomy i j with h3 | h3 | h3
  · have := ha i j hi hj h3; rw [h] at this; exact (bl_irr this).elim
  · exact h3
  · have := ha j i hj hi h3; rw [h] at this; exact (bl_irr this).elim
theorem nm_pos {p : Bk} (hb : BkOk p) {i : Nat} (hi : i < p.bs.length) : idxB p (nth p.bs i).name = i := by
  refine (idxB_some (fun j hj => ?_) hi ((strEq_iff _ _).2 rfl)).symm
  cases hh : nameAt p (nth p.bs i).name j with
  | false => rfl
  | true => have := nm_ix hb (by omega) hi ((strEq_iff _ _).1 hh); omega
theorem pos_nm {p : Bk} {s : Str} (h : 0 ≤ idxB p s) : (idxB p s).toNat < p.bs.length ∧ (nth p.bs (idxB p s).toNat).name = s := by
  have h1 := idxB_lt p s
  refine ⟨by omega, ?_⟩
  unfold idxB at h ⊢
  split at h
  · rename_i i h2
    have h3 := List.find?_some h2
    simp only [nameAt] at h3
    simpa using (strEq_iff _ _).1 h3
  · omega
/-- b can have all it needs, when those of g are gone -/
def CanN (p : Bk) (b : Bt) (g : List Str) : Prop := ∀ c ∈ p.bs, c.name ≠ b.name → c.name ∉ g → Disj c.has b.needs
theorem can_iff {p : Bk} (hb : BkOk p) {i : Nat} (hi : i < p.bs.length) {g : List Str} : canB p i g = true ↔ CanN p (nth p.bs i) g := by
  simp only [canB, List.all_eq_true, List.mem_range, blk, Bool.not_eq_true', Bool.and_eq_false_iff]
  constructor
  · intro h c hc hne hg x hx hy
    obtain ⟨k, hk, rfl⟩ := List.mem_iff_getElem.1 hc
    have h3 := h k hk
    rw [nth_getA hk] at h3
    rcases h3 with (h1 | h1) | h1
    · have : k = i := by simpa using h1
      subst this
      exact hne (by rw [nth_getA hi])
    · exact hg ((has_mem _ _).1 (by simpa using h1))
    · rw [(meets_iff _ _).2 ⟨x, hx, hy⟩] at h1; cases h1
  · intro h k hk
    by_cases e : k = i
    · left; left; subst e; simp
    · by_cases hg : (nth p.bs k).name ∈ g
      · left; right; rw [(has_mem _ _).2 hg]; rfl
      · right
        cases hm : meetsB (nth p.bs k).has (nth p.bs i).needs with
        | false => rfl
        | true =>
          obtain ⟨x, hx, hy⟩ := (meets_iff _ _).1 hm
          exact (h _ (nth_memA hk) (fun e2 => e (nm_ix hb hk hi e2)) hg x hx hy).elim
theorem CanN.mono {p : Bk} {b : Bt} {g g' : List Str} (h : CanN p b g) (hs : ∀ x ∈ g, x ∈ g') : CanN p b g' := fun c hc hn hg => h c hc hn (fun h2 => hg (hs _ h2))
/-- one behind the other -/
def Ord (p : Bk) (l : List Str) : Prop := ∀ a s r, l = a ++ s :: r → s ∉ a ∧ ∃ b ∈ p.bs, b.name = s ∧ CanN p b a
def Full (p : Bk) (l : List Str) : Prop := ∀ b ∈ p.bs, b.name ∈ l
theorem ord_nil (p : Bk) : Ord p [] := fun a s r h => by simp at h
theorem ord_snoc {p : Bk} {l : List Str} {s : Str} (h : Ord p l) (h1 : s ∉ l) (h2 : ∃ b ∈ p.bs, b.name = s ∧ CanN p b l) : Ord p (l ++ [s]) := by
  intro a s' r e
  rcases List.eq_nil_or_concat r with rfl | ⟨r', x, rfl⟩
  · have := List.append_inj' e rfl
    obtain ⟨rfl, e2⟩ := this
    cases e2
    exact ⟨h1, h2⟩
  · rw [List.concat_eq_append, show a ++ s' :: (r' ++ [x]) = (a ++ s' :: r') ++ [x] by simp] at e
    exact h a s' r' (List.append_inj' e rfl).1
theorem ord_nodup {p : Bk} {l : List Str} (h : Ord p l) : l.Nodup := by
  rw [List.nodup_iff_pairwise_ne, List.pairwise_iff_getElem]
  intro i j hi hj hij e
  refine (h (l.take j) l[j] (l.drop (j + 1)) (by rw [List.getElem_cons_drop, List.take_append_drop])).1 ?_
  rw [← e]
  exact List.mem_take_iff_getElem.2 ⟨i, by omega, rfl⟩
theorem ord_mem {p : Bk} {l : List Str} (h : Ord p l) {s : Str} (hs : s ∈ l) : ∃ b ∈ p.bs, b.name = s := by
  obtain ⟨a, r, rfl⟩ := List.append_of_mem hs
  obtain ⟨_, b, h1, h2, _⟩ := h a s r rfl
  exact ⟨b, h1, h2⟩
def nmsB (p : Bk) : List Str := p.bs.map Bt.name
theorem nms_nodup {p : Bk} (hb : BkOk p) : (nmsB p).Nodup := by
  rw [nmsB, List.nodup_iff_pairwise_ne, List.pairwise_map]
  exact hb.asc.imp fun h e => by rw [e] at h; exact bl_irr h
theorem nms_mem {p : Bk} {s : Str} : s ∈ nmsB p ↔ ∃ b ∈ p.bs, b.name = s := by rw [nmsB, List.mem_map]
theorem ord_le {p : Bk} {l : List Str} (h : Ord p l) : l.length ≤ p.bs.length := by
  have := (ord_nodup h).length_le_of_subset (l₂ := nmsB p) (fun x hx => nms_mem.2 (ord_mem h hx))
  simpa [nmsB] using this
theorem full_len {p : Bk} (hb : BkOk p) {l : List Str} (h : Ord p l) : Full p l ↔ l.length = p.bs.length := by
  constructor
  · intro hf
    have h1 := (nms_nodup hb).length_le_of_subset (l₂ := l) (fun x hx => by obtain ⟨b, h1, rfl⟩ := nms_mem.1 hx; exact hf b h1)
    have h2 := ord_le h
    simp only [nmsB, List.length_map] at h1
    omega
  · intro hl b hb'
    apply Classical.byContradiction
    intro hn
    have h1 : (b.name :: l).Nodup := List.nodup_cons.2 ⟨hn, ord_nodup h⟩
    have h2 := h1.length_le_of_subset (l₂ := nmsB p) (fun x hx => by
      rcases List.mem_cons.1 hx with rfl | hx
      · exact nms_mem.2 ⟨b, hb', rfl⟩
      · exact nms_mem.2 (ord_mem h hx))
    simp only [nmsB, List.length_map, List.length_cons] at h2
    omega
theorem first_not {l g : List Str} (h : ∃ x ∈ l, x ∉ g) : ∃ a s r, l = a ++ s :: r ∧ (∀ x ∈ a, x ∈ g) ∧ s ∉ g := by
  induction l with
  | nil => obtain ⟨x, h1, _⟩ := h; cases h1
  | cons y l ih =>
    by_cases hy : y ∈ g
    · have : ∃ x ∈ l, x ∉ g := by
        obtain ⟨x, h1, h2⟩ := h
        rcases List.mem_cons.1 h1 with rfl | h1
        · exact absurd hy h2
        · exact ⟨x, h1, h2⟩
      obtain ⟨a, s, r, e, h3, h4⟩ := ih this
      exact ⟨y :: a, s, r, by rw [e]; rfl, fun x hx => (List.mem_cons.1 hx).elim (fun e => e ▸ hy) (h3 x), h4⟩
    · exact ⟨[], y, l, rfl, fun x hx => absurd hx List.not_mem_nil, hy⟩
theorem next_some {p : Bk} (hb : BkOk p) {l g : List Str} (h : Ord p l) (hf : Full p l) (hg : g.length < p.bs.length) : nextB p g ≠ none := by
  have hex : ∃ x ∈ l, x ∉ g := by
    apply Classical.byContradiction
    intro hn
    have := (ord_nodup h).length_le_of_subset (l₂ := g) (fun x hx => Classical.byContradiction fun h2 => hn ⟨x, hx, h2⟩)
    rw [(full_len hb h).1 hf] at this
    omega
  obtain ⟨a, s, r, e, h3, h4⟩ := first_not hex
  obtain ⟨_, b, h5, rfl, h6⟩ := h a s r e
  obtain ⟨i, hi, rfl⟩ := List.mem_iff_getElem.1 h5
  intro hn
  unfold nextB at hn
  rw [List.find?_eq_none] at hn
  refine hn i (List.mem_range.2 hi) ?_
  rw [← nth_getA hi] at h4 h6
  rw [nextOk, (can_iff hb hi).2 (h6.mono h3), Bool.and_true]
  cases hh : hasB g (nth p.bs i).name with
  | false => rfl
  | true => exact absurd ((has_mem _ _).1 hh) h4
theorem next_ord {p : Bk} (hb : BkOk p) {g : List Str} {i : Nat} (h : Ord p g) (hn : nextB p g = some i) : Ord p (g ++ [(nth p.bs i).name]) := by
  have hi := nextB_lt hn
  have h1 := List.find?_some hn
  simp only [nextOk, Bool.and_eq_true, Bool.not_eq_true'] at h1
  refine ord_snoc h (fun h2 => ?_) ⟨_, nth_memA hi, rfl, (can_iff hb hi).1 h1.2⟩
  rw [(has_mem _ _).2 h2] at h1; cases h1.1
theorem orderGo_ord {p : Bk} (hb : BkOk p) : ∀ (k : Nat) (g l : List Str), Ord p g → orderGo p k g = some l → Ord p l ∧ l.length = g.length + k
  | 0, g, l, h, e => by simp only [orderGo, Option.some.injEq] at e; subst e; exact ⟨h, rfl⟩
  | k + 1, g, l, h, e => by
    simp only [orderGo] at e
    split at e
    · rename_i i hn
      obtain ⟨h1, h2⟩ := orderGo_ord hb k _ l (next_ord hb h hn) e
      exact ⟨h1, by rw [h2]; simp; omega⟩
    · cases e
theorem orderGo_all {p : Bk} (hb : BkOk p) {l : List Str} (h : Ord p l) (hf : Full p l) : ∀ (k : Nat) (g : List Str), g.length + k = p.bs.length → (orderGo p k g).isSome = true
  | 0, g, _ => rfl
  | k + 1, g, e => by
    simp only [orderGo]
    split
    · exact orderGo_all hb h hf k _ (by simp; omega)
    · rename_i hn; exact absurd hn (next_some hb h hf (by omega))
def safeP (p : Bk) : Prop := ∃ l, Ord p l ∧ Full p l
theorem order_ord {p : Bk} {l : List Str} (h : orderB p = some l) : BkOk p ∧ Ord p l ∧ Full p l := by
  unfold orderB at h
  split at h
  · rename_i h1
    have hb := (bk_ok p).1 h1
    obtain ⟨h2, h3⟩ := orderGo_ord hb _ _ _ (ord_nil p) h
    exact ⟨hb, h2, (full_len hb h2).2 (by simpa using h3)⟩
  · cases h
theorem safe_iff {p : Bk} (hb : BkOk p) : (orderB p).isSome = true ↔ safeP p := by
  constructor
  · intro h
    obtain ⟨l, hl⟩ := Option.isSome_iff_exists.1 h
    exact ⟨l, (order_ord hl).2⟩
  · rintro ⟨l, h1, h2⟩
    unfold orderB
    rw [if_pos ((bk_ok p).2 hb)]
    exact orderGo_all hb h1 h2 _ _ (by simp)
/-- the same names; who needs less, who has less -/
theorem ord_map {p q : Bk} {l : List Str} (hn : ∀ b ∈ p.bs, ∃ b' ∈ q.bs, b'.name = b.name ∧ ∀ x ∈ b'.needs, x ∈ b.needs) (hh : ∀ c ∈ q.bs, ∃ c' ∈ p.bs, c'.name = c.name ∧ ∀ x ∈ c.has, x ∈ c'.has) (h : Ord p l ∧ Full p l) : Ord q l ∧ Full q l := by
  refine ⟨fun a s r e => ?_, fun c hc => ?_⟩
  · obtain ⟨h1, b, h2, rfl, h3⟩ := h.1 a s r e
    obtain ⟨b', h4, h5, h6⟩ := hn b h2
    refine ⟨h1, b', h4, h5, fun c hc hne hg x hx hy => ?_⟩
    obtain ⟨c', h7, h8, h9⟩ := hh c hc
    exact h3 c' h7 (by rw [h8, ← h5]; exact hne) (by rw [h8]; exact hg) x (h9 x hx) (h6 x hy)
  · obtain ⟨c', h7, h8, _⟩ := hh c hc
    rw [← h8]; exact h.2 c' h7
/-- one goes -/
theorem ord_cut {p q : Bk} {l : List Str} {s : Str} (h1 : ∀ b ∈ q.bs, b ∈ p.bs ∧ b.name ≠ s) (h2 : ∀ b ∈ p.bs, b.name ≠ s → b ∈ q.bs) (h : Ord p l ∧ Full p l) : Ord q (l.filter (fun x => decide (x ≠ s))) ∧ Full q (l.filter (fun x => decide (x ≠ s))) := by
  refine ⟨fun a t r e => ?_, fun b hb => List.mem_filter.2 ⟨h.2 b (h1 b hb).1, by simpa using (h1 b hb).2⟩⟩
  obtain ⟨l1, l2, rfl, e1, e2⟩ := List.filter_eq_append_iff.1 e
  obtain ⟨l3, l4, rfl, e3, e4, e5⟩ := List.filter_eq_cons_iff.1 e2
  obtain ⟨g1, b, g2, rfl, g3⟩ := h.1 (l1 ++ l3) t l4 (by simp)
  have hs : b.name ≠ s := by simpa using e4
  refine ⟨fun hm => g1 ?_, b, h2 b g2 hs, rfl, fun c hc hne hg => g3 c (h1 c hc).1 hne (fun hm => hg ?_)⟩
  · rw [← e1] at hm
    exact List.mem_append_left _ (List.mem_filter.1 hm).1
  · rcases List.mem_append.1 hm with hm | hm
    · rw [← e1]; exact List.mem_filter.2 ⟨hm, by simpa using (h1 c hc).2⟩
    · exact absurd (by simpa using (h1 c hc).2 : decide (c.name ≠ s) = true) (e3 _ hm)

theorem nth_less {p : Bk} {z : Nat} (hz : z < p.bs.length) (l : List Str) (j : Nat) : nth (lessAt p z l).bs j = if j = z then ⟨(nth p.bs z).name, filtGo l (nth p.bs z).has (nth p.bs z).has.length, l⟩ else nth p.bs j := nth_lessBs hz _ _ j
theorem less_len (p : Bk) (z : Nat) (l : List Str) : (lessAt p z l).bs.length = p.bs.length := by simp [lessAt, lessBs]
theorem less_safe {p : Bk} {z : Nat} {l : List Str} (hb : BkOk p) (hz : z < p.bs.length) (hr : risingB l = true) (hw : withinB l (nth p.bs z).needs = true) (h : (orderB p).isSome = true) : (orderB (lessAt p z l)).isSome = true := by
  have hq := less_ok hb hz hr hw
  obtain ⟨o, ho⟩ := (safe_iff hb).1 h
  refine (safe_iff hq).2 ⟨o, ord_map (fun b hb' => ?_) (fun c hc => ?_) ho⟩
  · obtain ⟨i, hi, rfl⟩ := List.mem_iff_getElem.1 hb'
    rw [← nth_getA hi]
    refine ⟨nth (lessAt p z l).bs i, nth_memA (by rw [less_len]; exact hi), ?_, ?_⟩
    · rw [nth_less hz]; split
      · rename_i e; rw [e]
      · rfl
    · rw [nth_less hz]; split
      · rename_i e; rw [e]; exact (within_iff _ _).1 hw
      · exact fun x hx => hx
  · obtain ⟨i, hi, rfl⟩ := List.mem_iff_getElem.1 hc
    rw [less_len] at hi
    rw [← nth_getA]
    refine ⟨nth p.bs i, nth_memA hi, ?_, ?_⟩
    · rw [nth_less hz]; split
      · rename_i e; rw [e]
      · rfl
    · rw [nth_less hz]; split
      · rename_i e; rw [e]; exact fun x hx => (filt_all.1 hx).2
      · exact fun x hx => hx
theorem cut_mem {p : Bk} {z : Nat} (hb : BkOk p) (hz : z < p.bs.length) {b : Bt} : b ∈ (cutBk p z).bs ↔ b ∈ p.bs ∧ b.name ≠ (nth p.bs z).name := by
  have hl : (cutBk p z).bs.length = p.bs.length - 1 := cutL_len hz
  constructor
  · intro h
    obtain ⟨i, hi, rfl⟩ := List.mem_iff_getElem.1 h
    rw [hl] at hi
    rw [← nth_getA]
    have e : nth (cutBk p z).bs i = if i < z then nth p.bs i else nth p.bs (i + 1) := nth_cutL hz i
    rw [e]
    split
    · exact ⟨nth_memA (by omega), fun h2 => by have := nm_ix hb (by omega) hz h2; omega⟩
    · exact ⟨nth_memA (by omega), fun h2 => by have := nm_ix hb (by omega) hz h2; omega⟩
  · rintro ⟨h1, h2⟩
    obtain ⟨i, hi, rfl⟩ := List.mem_iff_getElem.1 h1
    have hne : i ≠ z := fun e => h2 (by subst e; rw [nth_getA hi])
    by_cases h3 : i < z
    · have e : nth (cutBk p z).bs i = nth p.bs i := by show nth (cutL p.bs z) i = _; rw [nth_cutL hz, if_pos h3]
      rw [← nth_getA hi, ← e]; exact nth_memA (by omega)
    · have e : nth (cutBk p z).bs (i - 1) = nth p.bs i := by show nth (cutL p.bs z) (i - 1) = _; rw [nth_cutL hz, if_neg (by omega), show i - 1 + 1 = i by omega]
      rw [← nth_getA hi, ← e]; exact nth_memA (by omega)
theorem cut_safe {p : Bk} {z : Nat} (hb : BkOk p) (hz : z < p.bs.length) (h : (orderB p).isSome = true) : (orderB (cutBk p z)).isSome = true := by
  obtain ⟨o, ho⟩ := (safe_iff hb).1 h
  exact (safe_iff (cut_ok hb)).2 ⟨_, ord_cut (fun b h => (cut_mem hb hz).1 h) (fun b h1 h2 => (cut_mem hb hz).2 ⟨h1, h2⟩) ho⟩
theorem ins_mem {p : Bk} {s : Str} {l : List Str} {b : Bt} : b ∈ (insBk p s l).bs ↔ b ∈ p.bs ∨ b = ⟨s, [], l⟩ := by
  rw [show b ∈ (insBk p s l).bs ↔ b ∈ p.bs ++ [⟨s, [], l⟩] from (insBt_perm p.bs s l).mem_iff, List.mem_append, List.mem_singleton]
theorem ins_safe {p : Bk} {s : Str} {l : List Str} (hb : BkOk p) (hq : BkOk (insBk p s l)) (hi : idxB p s < 0) : (orderB (insBk p s l)).isSome = (orderB p).isSome := by
  have hn := idx_none hi
  rw [Bool.eq_iff_iff, safe_iff hb, safe_iff hq]
  constructor
  · rintro ⟨o, ho⟩
    refine ⟨_, ord_cut (s := s) (fun b h => ⟨ins_mem.2 (.inl h), hn b h⟩) (fun b h1 h2 => ?_) ho⟩
    rcases ins_mem.1 h1 with h1 | rfl
    · exact h1
    · exact absurd rfl h2
  · rintro ⟨o, ho, hf⟩
    refine ⟨o ++ [s], ord_snoc (fun a t r e => ?_) (fun h => ?_) ⟨⟨s, [], l⟩, ins_mem.2 (.inr rfl), rfl, fun c hc hne hg => ?_⟩, fun b h => ?_⟩
    · obtain ⟨h1, b, h2, h3, h4⟩ := ho a t r e
      refine ⟨h1, b, ins_mem.2 (.inl h2), h3, fun c hc hne hg => ?_⟩
      rcases ins_mem.1 hc with hc | rfl
      · exact h4 c hc hne hg
      · exact fun x hx => absurd hx List.not_mem_nil
    · obtain ⟨b, h2, h3⟩ := ord_mem ho h; exact hn b h2 h3
    · rcases ins_mem.1 hc with hc | rfl
      · exact absurd (hf c hc) hg
      · exact absurd rfl hne
    · rcases ins_mem.1 h with h | rfl
      · exact List.mem_append_left _ (hf b h)
      · exact List.mem_append_right _ List.mem_cons_self
theorem movesGo_mem {p : Bk} {x : Str} : ∀ {n : Nat}, x ∈ movesGo p n ↔ ∃ j, j < n ∧ canB p j [] = true ∧ (nth p.bs j).name = x
  | 0 => by simp [movesGo]
  | n + 1 => by
    simp only [movesGo]
    have ih := movesGo_mem (p := p) (x := x) (n := n)
    constructor
    · intro h
      split at h
      · rename_i hc
        rcases List.mem_append.1 h with h | h
        · obtain ⟨j, h1, h2⟩ := ih.1 h; exact ⟨j, by omega, h2⟩
        · exact ⟨n, by omega, hc, (List.mem_singleton.1 h).symm⟩
      · obtain ⟨j, h1, h2⟩ := ih.1 h; exact ⟨j, by omega, h2⟩
    · rintro ⟨j, h1, h2, h3⟩
      by_cases e : j = n
      · subst e; rw [if_pos h2]; exact List.mem_append_right _ (List.mem_singleton.2 h3.symm)
      · have := ih.2 ⟨j, by omega, h2, h3⟩
        split
        · exact List.mem_append_left _ this
        · exact this
theorem moves_mem {p : Bk} {x : Str} : x ∈ movesB p ↔ BkOk p ∧ ∃ j, j < p.bs.length ∧ canB p j [] = true ∧ (nth p.bs j).name = x := by
  unfold movesB
  split
  · rename_i h; rw [movesGo_mem]; exact ⟨fun h2 => ⟨(bk_ok p).1 h, h2⟩, fun h2 => h2.2⟩
  · rename_i h; exact ⟨fun h2 => absurd h2 List.not_mem_nil, fun h2 => absurd ((bk_ok p).2 h2.1) h⟩
theorem safe_moves {p : Bk} (h : (orderB p).isSome = true) (h0 : 0 < p.bs.length) : ∃ i, i < p.bs.length ∧ canB p i [] = true := by
  obtain ⟨o, ho⟩ := Option.isSome_iff_exists.1 h
  obtain ⟨hb, h1, h2⟩ := order_ord ho
  cases o with
  | nil => have := (full_len hb h1).1 h2; simp at this; omega
  | cons s r =>
    obtain ⟨_, b, h3, h4, h5⟩ := h1 [] s r rfl
    obtain ⟨i, hi, rfl⟩ := List.mem_iff_getElem.1 h3
    rw [← nth_getA hi] at h5
    exact ⟨i, hi, (can_iff hb hi).2 h5⟩
theorem stuck_not {p : Bk} (h : (orderB p).isSome = true) : stuckB p = false := by
  cases hs : stuckB p with
  | false => rfl
  | true =>
    simp only [stuckB, Bool.and_eq_true, decide_eq_true_eq, beq_iff_eq, List.length_eq_zero_iff] at hs
    obtain ⟨i, h1, h2⟩ := safe_moves h hs.1.2
    have := moves_mem.2 ⟨(bk_ok p).1 hs.1.1, i, h1, h2, rfl⟩
    rw [hs.2] at this; exact absurd this List.not_mem_nil
theorem ord_first {p q : Bk} {l : List Str} {s : Str} (hs : ∃ b ∈ q.bs, b.name = s ∧ CanN q b []) (h1 : ∀ b ∈ q.bs, b.name ≠ s → b ∈ p.bs) (h2 : ∀ b ∈ p.bs, b.name ≠ s → b ∈ q.bs) (h : Ord p l ∧ Full p l) : Ord q (s :: l.filter (fun x => decide (x ≠ s))) ∧ Full q (s :: l.filter (fun x => decide (x ≠ s))) := by
  refine ⟨fun a t r e => ?_, fun b hb => ?_⟩
  · cases a with
    | nil =>
      obtain ⟨rfl, _⟩ := List.cons.inj e
      exact ⟨List.not_mem_nil, hs⟩
    | cons a0 a =>
      have e0 : l.filter (fun x => decide (x ≠ s)) = a ++ t :: r := (List.cons.inj e).2
      have es : s = a0 := (List.cons.inj e).1
      subst es
      obtain ⟨l1, l2, rfl, e1, e2⟩ := List.filter_eq_append_iff.1 e0
      obtain ⟨l3, l4, rfl, e3, e4, e5⟩ := List.filter_eq_cons_iff.1 e2
      obtain ⟨g1, b, g2, rfl, g3⟩ := h.1 (l1 ++ l3) t l4 (by simp)
      have hs : b.name ≠ s := by simpa using e4
      refine ⟨fun hm => ?_, b, h2 b g2 hs, rfl, fun c hc hne hg => ?_⟩
      · rcases List.mem_cons.1 hm with hm | hm
        · exact hs hm
        · rw [← e1] at hm
          exact g1 (List.mem_append_left _ (List.mem_filter.1 hm).1)
      · have hcs : c.name ≠ s := fun e => hg (e ▸ List.mem_cons_self)
        refine g3 c (h1 c hc hcs) hne (fun hm => ?_)
        rcases List.mem_append.1 hm with hm | hm
        · exact hg (List.mem_cons_of_mem _ (e1 ▸ List.mem_filter.2 ⟨hm, by simpa using hcs⟩))
        · exact absurd (by simpa using hcs : decide (c.name ≠ s) = true) (e3 _ hm)
  · by_cases e : b.name = s
    · rw [e]; exact List.mem_cons_self
    · exact List.mem_cons_of_mem _ (List.mem_filter.2 ⟨h.2 b (h1 b hb e), by simpa using e⟩)
theorem nth_ask {p : Bk} {z : Nat} (hz : z < p.bs.length) (l : List Str) (j : Nat) : nth (askAt p z l).bs j = if j = z then ⟨(nth p.bs z).name, withB (nth p.bs z).has l, (nth p.bs z).needs⟩ else nth p.bs j := nth_setHas hz _ j
theorem ask_len (p : Bk) (z : Nat) (l : List Str) : (askAt p z l).bs.length = p.bs.length := setHas_len _ _ _
theorem ask_move {p : Bk} {z : Nat} {l : List Str} (hb : BkOk p) (hz : z < p.bs.length) (hq : BkOk (askAt p z l)) (hm : canB p z [] = true) (h : (orderB p).isSome = true) : (orderB (askAt p z l)).isSome = true := by
  obtain ⟨o, ho⟩ := (safe_iff hb).1 h
  have hc := (can_iff hb hz).1 hm
  have e1 : ∀ b ∈ (askAt p z l).bs, b.name ≠ (nth p.bs z).name → b ∈ p.bs := fun b hb' hne => by
    obtain ⟨i, hi, rfl⟩ := List.mem_iff_getElem.1 hb'
    rw [ask_len] at hi
    rw [← nth_getA] at hne ⊢
    rw [nth_ask hz] at hne ⊢
    split at hne
    · exact absurd rfl hne
    · rename_i e; rw [if_neg e]; exact nth_memA hi
  refine (safe_iff hq).2 ⟨_, ord_first (s := (nth p.bs z).name) ⟨nth (askAt p z l).bs z, nth_memA (by rw [ask_len]; exact hz), by rw [nth_ask hz, if_pos rfl], fun c hc' hne hg => ?_⟩ e1 (fun b hb' hne => ?_) ho⟩
  · rw [nth_ask hz, if_pos rfl] at hne ⊢
    exact hc c (e1 c hc' hne) hne hg
  · obtain ⟨i, hi, rfl⟩ := List.mem_iff_getElem.1 hb'
    rw [← nth_getA hi] at hne ⊢
    have hiz : i ≠ z := fun e => hne (by rw [e])
    have e : nth (askAt p z l).bs i = nth p.bs i := by rw [nth_ask hz, if_neg hiz]
    rw [← e]; exact nth_memA (by rw [ask_len]; exact hi)
end Go.Proofs.YtkmacjdigkaabaaGreat
