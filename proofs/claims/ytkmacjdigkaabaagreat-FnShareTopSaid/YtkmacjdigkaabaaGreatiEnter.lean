/- Contracts of functions of the program, each met by its body; conditions stand in each statement. No condition. -/
import Derived.Test.YtkmacjdigkaabaaGreatiLeave
import Derived.Test.YtkmacjdigkaabaaGreatiSlc
import Derived.Test.YtkmacjdigkaabaaGreatProg
import Derived.KernelRfl
set_option linter.unusedVariables false
set_option linter.unusedSimpArgs false
set_option linter.unnecessarySimpa false
set_option linter.unusedSimpArgs false
set_option maxRecDepth 100000
namespace Go.Proofs.YtkmacjdigkaabaaGreat
open Go Go.Mh

theorem nth_map {α β : Type} [Inhabited α] [Inhabited β] (g : α → β) {l : List α} {j : Nat} (hj : j < l.length) : nth (l.map g) j = g (nth l j) := by
  simp only [nth, List.getD_eq_getElem?_getD, List.getElem?_map, List.getElem?_eq_getElem hj, Option.map_some, Option.getD_some]
theorem nth_getA {α : Type} [Inhabited α] {l : List α} {i : Nat} (h : i < l.length) : nth l i = l[i] := by
  simp only [nth, List.getD_eq_getElem?_getD, List.getElem?_eq_getElem h, Option.getD_some]
theorem nth_memA {α : Type} [Inhabited α] {l : List α} {i : Nat} (h : i < l.length) : nth l i ∈ l := by
  rw [nth_getA h]; exact List.getElem_mem h
theorem map_nth {α : Type} [Inhabited α] (l : List α) : (List.range l.length).map (nth l) = l := by
  refine List.ext_getElem (by simp) fun i h1 h2 => ?_
  rw [List.getElem_map, List.getElem_range, nth_getA h2]
theorem perm_of_isPerm {α : Type} [Inhabited α] {l : List α} {π ρ : Nat → Nat} (h : IsPerm l.length π ρ) : ((List.range l.length).map (fun i => nth l (π i))).Perm l := by
  have h1 : ((List.range l.length).map π).Perm (List.range l.length) := by
    refine (List.perm_ext_iff_of_nodup ?_ List.nodup_range).2 fun a => ?_
    · refine List.pairwise_map.2 (List.Pairwise.imp_of_mem (R := fun a b => a ≠ b) (fun {a b} ha hb hne e => hne ?_) List.nodup_range)
      have := (h a (List.mem_range.1 ha)).2.2.2
      have := (h b (List.mem_range.1 hb)).2.2.2
      rw [← (h a (List.mem_range.1 ha)).2.2.2, ← (h b (List.mem_range.1 hb)).2.2.2, e]
    · simp only [List.mem_map, List.mem_range]
      constructor
      · rintro ⟨i, hi, rfl⟩; exact (h i hi).1
      · intro ha; exact ⟨ρ a, (h a ha).2.1, (h a ha).2.2.1⟩
  have h2 := h1.map (nth l)
  rw [map_nth, List.map_map] at h2
  exact h2
/-- names of batches, ascending -/
def AscB (l : List Bt) : Prop := l.Pairwise (fun a b => bl a.name < bl b.name)
theorem ascB_of {bs : List Bt} (h : ∀ i, i + 1 < bs.length → bl (nth bs i).name < bl (nth bs (i + 1)).name) : AscB bs := by
  rw [AscB, List.pairwise_iff_getElem]
  intro i j hi hj hij
  have key : ∀ d, i + d + 1 < bs.length → bl (nth bs i).name < bl (nth bs (i + d + 1)).name := by
    intro d
    induction d with
    | zero => intro hd; exact h i hd
    | succ d ih => intro hd; exact List.lt_trans (ih (by omega)) (h (i + d + 1) hd)
  have := key (j - i - 1) (by omega)
  rw [show i + (j - i - 1) + 1 = j by omega, nth_getA hi, nth_getA hj] at this
  exact this
theorem ok_ascB {p : Bk} (hb : bookOk p = true) : AscB p.bs := by
  obtain ⟨_, h4⟩ := (bookOk_iff p).1 hb
  refine ascB_of fun i hi => ?_
  have := ((btAt_iff p (i + 1)).1 (h4 (i + 1) hi).1).2.1
  rcases this with h | h
  · omega
  · rw [Nat.add_sub_cancel] at h; exact (strLt_iff _ _).1 h
def posN (bs : List Bt) (s : Str) : Nat := posB (bs.map Bt.name) s
theorem posN_spec (bs : List Bt) (s : Str) : posN bs s ≤ bs.length ∧ (∀ j, j < posN bs s → bl (nth bs j).name < bl s) ∧ (posN bs s < bs.length → ¬ bl (nth bs (posN bs s)).name < bl s) := by
  obtain ⟨h1, h2, h3⟩ := posB_spec (bs.map Bt.name) s
  rw [List.length_map] at h1 h3
  refine ⟨h1, fun j hj => ?_, fun hlt => ?_⟩
  · have := h2 j hj
    rw [nth_map _ (by unfold posN at hj; omega)] at this
    exact (strLt_iff _ _).1 this
  · have this : strLt (nth (List.map Bt.name bs) (posN bs s)) s = false := h3 hlt
    rw [nth_map _ hlt] at this
    intro h; rw [(strLt_iff _ _).2 h] at this; cases this
theorem posN_eq {bs : List Bt} {s : Str} {i : Nat} (h : ∀ j, j < i → strLt (nth bs j).name s = true) (hi : i ≤ bs.length) (hx : i < bs.length → strLt (nth bs i).name s = false) : posN bs s = i :=
  posB_eq (l := bs.map Bt.name) (fun j hj => by rw [nth_map _ (by omega)]; exact h j hj) (by rw [List.length_map]; exact hi) (fun hlt => by
    rw [List.length_map] at hlt; rw [nth_map _ hlt]; exact hx hlt)
def insBt (bs : List Bt) (s : Str) (l : List Str) : List Bt := bs.take (posN bs s) ++ [⟨s, [], l⟩] ++ bs.drop (posN bs s)
theorem insBt_len (bs : List Bt) (s : Str) (l : List Str) : (insBt bs s l).length = bs.length + 1 := by
  have := (posN_spec bs s).1
  simp only [insBt, List.length_append, List.length_take, List.length_drop, List.length_cons, List.length_nil]; omega
theorem insBt_perm (bs : List Bt) (s : Str) (l : List Str) : (insBt bs s l).Perm (bs ++ [⟨s, [], l⟩]) := by
  unfold insBt
  rw [List.append_assoc, List.singleton_append]
  refine List.perm_middle.trans ?_
  rw [List.take_append_drop]
  exact (List.perm_append_singleton _ _).symm
theorem insBt_asc {bs : List Bt} {s : Str} {l : List Str} (hasc : AscB bs) (hno : ∀ b ∈ bs, b.name ≠ s) : AscB (insBt bs s l) := by
  obtain ⟨h1, h2, h3⟩ := posN_spec bs s
  have ht : ∀ b ∈ bs.take (posN bs s), bl b.name < bl s := fun b hb => by
    obtain ⟨i, hi, rfl⟩ := List.mem_iff_getElem.1 hb
    rw [List.length_take] at hi
    have := h2 i (by omega)
    rw [nth_getA (by omega)] at this
    rw [List.getElem_take]; exact this
  have hd : ∀ b ∈ bs.drop (posN bs s), bl s < bl b.name := fun b hb => by
    obtain ⟨i, hi, rfl⟩ := List.mem_iff_getElem.1 hb
    rw [List.length_drop] at hi
    rw [List.getElem_drop]
    have h4 : bl s < bl (bs[posN bs s]'(by omega)).name := by
      have h5 := h3 (by omega)
      rw [nth_getA (by omega)] at h5
      exact bl_lt_of h5 (hno _ (List.getElem_mem (by omega)))
    rcases Nat.eq_zero_or_pos i with h0 | h0
    · subst h0; exact h4
    · have := (List.pairwise_iff_getElem.1 hasc) (posN bs s) (posN bs s + i) (by omega) (by omega) (by omega)
      exact List.lt_trans h4 this
  unfold insBt AscB
  rw [List.append_assoc, List.singleton_append, List.pairwise_append]
  refine ⟨hasc.sublist (List.take_sublist _ _), ?_, fun a ha b hb => ?_⟩
  · rw [List.pairwise_cons]
    exact ⟨hd, hasc.sublist (List.drop_sublist _ _)⟩
  · rcases List.mem_cons.1 hb with rfl | hb
    · exact ht a ha
    · exact List.lt_trans (ht a ha) (hd b hb)
theorem enter_sort {bs : List Bt} {s : Str} {l : List Str} (hasc : AscB bs) (hno : ∀ b ∈ bs, b.name ≠ s) : ∀ π ρ, IsPerm (bs.length + 1) π ρ → (∀ i j, i < j → j < bs.length + 1 → strLt (nth (bs ++ [(⟨s, [], l⟩ : Bt)]) (π j)).name (nth (bs ++ [(⟨s, [], l⟩ : Bt)]) (π i)).name = false) →
    ∀ i, i < bs.length + 1 → nth (bs ++ [(⟨s, [], l⟩ : Bt)]) (π i) = nth (insBt bs s l) i := by
  intro π ρ hπ hs i hi
  have hL : (bs ++ [(⟨s, [], l⟩ : Bt)]).length = bs.length + 1 := by simp
  have hA := insBt_asc (l := l) hasc hno
  have hp := insBt_perm bs s l
  have hM := perm_of_isPerm (l := bs ++ [(⟨s, [], l⟩ : Bt)]) (by rw [hL]; exact hπ)
  rw [hL] at hM
  have hdist : ∀ a ∈ insBt bs s l, ∀ b ∈ insBt bs s l, a.name = b.name → a = b := by
    intro a ha b hb e
    obtain ⟨i, hi, rfl⟩ := List.mem_iff_getElem.1 ha
    obtain ⟨j, hj, rfl⟩ := List.mem_iff_getElem.1 hb
    have h1 := List.pairwise_iff_getElem.1 hA
    rcases Nat.lt_trichotomy i j with h | h | h
    · have := h1 i j hi hj h; rw [e] at this; exact (bl_irr this).elim
    · subst h; rfl
    · have := h1 j i hj hi h; rw [e] at this; exact (bl_irr this).elim
  have key : (List.range (bs.length + 1)).map (fun i => nth (bs ++ [(⟨s, [], l⟩ : Bt)]) (π i)) = insBt bs s l := by
    refine List.Perm.eq_of_pairwise (le := fun a b => ¬ bl b.name < bl a.name) (fun a b ha hb h1 h2 => ?_) ?_ ?_ (hM.trans hp.symm)
    · refine hdist a (hp.mem_iff.2 (hM.mem_iff.1 ha)) b hb (Classical.byContradiction fun hne => ?_)
      exact h2 (bl_lt_of h1 (fun e => hne e.symm))
    · rw [List.pairwise_map, List.pairwise_iff_getElem]
      intro i j hi hj hij
      simp only [List.length_range] at hi hj
      simp only [List.getElem_range]
      intro h
      have := hs i j hij hj
      rw [(strLt_iff _ _).2 h] at this
      cases this
    · exact hA.imp fun h1 h2 => bl_irr (List.lt_trans h1 h2)
  have h1 : nth ((List.range (bs.length + 1)).map (fun i => nth (bs ++ [(⟨s, [], l⟩ : Bt)]) (π i))) i = nth (insBt bs s l) i := by rw [key]
  rw [nth_map _ (by simpa using hi)] at h1
  rw [← h1]
  congr 2
  rw [nth_getA (by simpa using hi), List.getElem_range]
def insBk (p : Bk) (s : Str) (l : List Str) : Bk := ⟨p.things, insBt p.bs s l⟩
def enterR (p : Bk) (s : Str) (l : List Str) : Bk × Int :=
  if bookOk p = true then
    if (nameOk s && (risingB l && withinB l p.things)) = true then
      if 0 ≤ idxB p s then (p, 3) else if 5 ≤ p.bs.length then (p, 4) else (insBk p s l, 0)
    else (p, 2)
  else (emptyBk, 1)

theorem idx_none {p : Bk} {s : Str} (h : idxB p s < 0) : ∀ b ∈ p.bs, b.name ≠ s := by
  intro b hb e
  obtain ⟨i, hi, rfl⟩ := List.mem_iff_getElem.1 hb
  unfold idxB at h
  split at h
  · omega
  · rename_i h1
    rw [List.find?_eq_none] at h1
    have := h1 i (List.mem_range.2 hi)
    rw [nameAt, nth_getA hi, e] at this
    exact this ((strEq_iff _ _).2 rfl)
theorem enter_hu {p : Bk} {s : Str} {l : List Str} (hb : bookOk p = true) (hi : idxB p s < 0) : ∀ π ρ, IsPerm (p.bs.length + 1) π ρ → (∀ i j, i < j → j < p.bs.length + 1 → strLt (nth (p.bs ++ [(⟨s, [], l⟩ : Bt)]) (π j)).name (nth (p.bs ++ [(⟨s, [], l⟩ : Bt)]) (π i)).name = false) →
    ∀ i, i < p.bs.length + 1 → (nth (p.bs ++ [(⟨s, [], l⟩ : Bt)]) (π i)).cells = (nth (insBt p.bs s l) i).cells :=
  fun π ρ h1 h2 i h3 => congrArg Bt.cells (enter_sort (ok_ascB hb) (idx_none hi) π ρ h1 h2 i h3)
theorem enter_eqv (e : Nat) (bs : List Bt) (s : Str) (l : List Str) : Eqv (.sl e 3 (bs.length + 1) (fun i => (nth (insBt bs s l) i).cells)) (btsO e (insBt bs s l)) := by
  unfold btsO; rw [insBt_len]; exact .refl _
theorem enter_telO (bs : List Bt) (s : Str) (l : List Str) : ∀ i j, i < bs.length + 1 → TelS ((catF bs.length (fun i => (nth bs i).cells) (fun _ => [.str s, .nl, strs l]) i).getD j .dead) (((nth (bs ++ [(⟨s, [], l⟩ : Bt)]) i).cells).getD j .dead) := by
  intro i j hi
  simp only [catF]
  split
  · rename_i h; rw [nth_append_left h]; exact .refl _
  · rename_i h
    obtain rfl : i = bs.length := by omega
    rw [nth_append_right (Nat.le_refl _), Nat.sub_self]
    match j with
    | 0 => exact .refl _
    | 1 => exact .nls _ _ _
    | 2 => exact .refl _
    | _ + 3 => exact .refl _
theorem enter_lenO (bs : List Bt) (s : Str) (l : List Str) : ∀ i, i < bs.length + 1 → ((nth (bs ++ [(⟨s, [], l⟩ : Bt)]) i).cells).length = (catF bs.length (fun i => (nth bs i).cells) (fun _ => [.str s, .nl, strs l]) i).length := by
  intro i hi
  simp only [catF]
  split <;> rfl

theorem insBk_small {p : Bk} {s : Str} {l : List Str} (hs : smallBk p) (hl : l.length ≤ 1048576) (h5 : p.bs.length < 5) : smallBk (insBk p s l) := by
  refine ⟨hs.1, by show (insBt _ _ _).length ≤ _; rw [insBt_len]; omega, fun i hi => ?_⟩
  have hm : nth (insBt p.bs s l) i ∈ p.bs ++ [(⟨s, [], l⟩ : Bt)] := (insBt_perm _ _ _).mem_iff.1 (nth_memA hi)
  show smallBt (nth (insBt p.bs s l) i)
  rcases List.mem_append.1 hm with h | h
  · obtain ⟨j, hj, e⟩ := List.mem_iff_getElem.1 h
    have := hs.2.2 j hj
    rw [nth_getA hj, e] at this
    exact this
  · rw [List.mem_singleton.1 h]; exact ⟨Nat.zero_le _, hl⟩
theorem cat_one {e sz n : Nat} {f g : Nat → List T} {r : List T} (h : g 0 = r) : Eqv (.sl e sz (n + 1) (catF n f g)) (.sl e sz (n + 1) (catF n f (fun _ => r))) := .rows fun j hj => by
  simp only [catF]
  split
  · rfl
  · rw [show j - n = 0 by omega]; exact h
def rowZ (s : Str) (l : List Str) : List T := [.str s, .nl, .fz (strs l)]
theorem enter_telZ (e : Nat) {bs : List Bt} {s : Str} {l : List Str} {i : Nat} (hi : posN bs s = i) : Tel (.sl e 3 ((([] ++ bs.take i).length + 1) + (bs.drop i).length) (catF (([] ++ bs.take i).length + 1) (catF ([] ++ bs.take i).length (fun j => (nth ([] ++ bs.take i) j).zcells) (fun _ => rowZ s l)) (fun j => (nth (bs.drop i) j).zcells))) (bts e (insBt bs s l)) := by
  subst hi
  have hle := (posN_spec bs s).1
  have e0 : ([] ++ bs.take (posN bs s)).length = posN bs s := by simp; omega
  unfold bts
  rw [insBt_len]
  have e1 : ([] ++ bs.take (posN bs s)).length + 1 + (bs.drop (posN bs s)).length = bs.length + 1 := by rw [e0, List.length_drop]; omega
  rw [e1]
  have hrow : ∀ j, j < bs.length + 1 → (nth (insBt bs s l) j) = if j < posN bs s then nth bs j else if j = posN bs s then ⟨s, [], l⟩ else nth bs (j - 1) := by
    intro j hj
    unfold insBt
    by_cases h : j < posN bs s
    · rw [if_pos h, nth_append_left (by simp; omega), nth_append_left (by simp; omega)]
      simp only [nth, List.getD_eq_getElem?_getD, List.getElem?_take, if_pos h]
    · rw [if_neg h]
      by_cases h2 : j = posN bs s
      · rw [if_pos h2, nth_append_left (by simp; omega), nth_append_right (by simp; omega)]
        subst h2
        rw [List.length_take, Nat.min_eq_left hle, Nat.sub_self]; rfl
      · rw [if_neg h2, nth_append_right (by simp; omega)]
        simp only [nth, List.getD_eq_getElem?_getD, List.getElem?_drop, List.length_append, List.length_take, List.length_cons, List.length_nil, Nat.min_eq_left hle]
        congr 2; congr 1; omega
  refine .rows (fun j hj => ?_) (fun j k hj => ?_)
  · simp only [catF]; split
    · split <;> rfl
    · rfl
  · rw [hrow j hj]
    simp only [catF, e0]
    by_cases h : j < posN bs s
    · rw [if_pos (show j < posN bs s + 1 by omega), if_pos h, if_pos h]
      have : nth ([] ++ bs.take (posN bs s)) j = nth bs j := by simp only [nth, List.nil_append, List.getD_eq_getElem?_getD, List.getElem?_take, if_pos h]
      rw [this]; exact .refl _
    · by_cases h2 : j = posN bs s
      · rw [if_pos (show j < posN bs s + 1 by omega), if_neg h, if_neg h, if_pos h2]
        match k with
        | 0 => exact .refl _
        | 1 => exact .nlz _ _ _
        | 2 => exact .refl _
        | _ + 3 => exact .refl _
      · rw [if_neg (show ¬ j < posN bs s + 1 by omega), if_neg h, if_neg h2]
        have : nth (bs.drop (posN bs s)) (j - (posN bs s + 1)) = nth bs (j - 1) := by
          simp only [nth, List.getD_eq_getElem?_getD, List.getElem?_drop]
          congr 2; omega
        rw [this]; exact .refl _

theorem ynZs34 : zeroSz Tryz.prog 34 = some 2 := by kernel_rfl
theorem ynSt34 : structSz Tryz.prog 34 = some 2 := by kernel_rfl
theorem ynCo26 : callOk Tryz.prog 26 = true := by kernel_rfl
theorem ynPl34 : structPl Tryz.prog 34 = some [(0, 1), (1, 1)] := by kernel_rfl
theorem ynZc34 : zeroCs Tryz.prog 34 = some [.nil, .nil] := by kernel_rfl
theorem ynCs34 : cellsSz Tryz.prog 34 = some (1 + 1) := by kernel_rfl
theorem ynCo66 : callOk Tryz.prog 66 = true := by kernel_rfl
theorem ynCo67 : callOk Tryz.prog 67 = true := by kernel_rfl
theorem ynCo68 : callOk Tryz.prog 68 = true := by kernel_rfl
theorem ynFo34_0 : fieldOff Tryz.prog 34 0 = some 0 := by kernel_rfl
theorem ynSc22 : scalarB Tryz.prog 22 = true := by kernel_rfl
theorem ynCo69 : callOk Tryz.prog 69 = true := by kernel_rfl
theorem ynCo70 : callOk Tryz.prog 70 = true := by kernel_rfl
theorem ynFo34_1 : fieldOff Tryz.prog 34 1 = some 1 := by kernel_rfl
theorem ynSc32 : scalarB Tryz.prog 32 = true := by kernel_rfl
theorem ynSl32 : sliceT Tryz.prog 32 = some ⟨105, 3, 64⟩ := by kernel_rfl
theorem ynCo71 : callOk Tryz.prog 71 = true := by kernel_rfl
theorem ynPl105 : structPl Tryz.prog 105 = some [(0, 1), (1, 1), (2, 1)] := by kernel_rfl
theorem ynZc105 : zeroCs Tryz.prog 105 = some [.v (.str ⟨#[]⟩), .nil, .nil] := by kernel_rfl
theorem ynCs32 : cellsSz Tryz.prog 32 = some (0 + 1) := by kernel_rfl
theorem ynMo : Tryz.prog.follows .mixedOrders = true := by kernel_rfl
theorem ynUl32 : Tryz.prog.underlying 32 = some (.slice 105) := by kernel_rfl
theorem ynCo72 : callOk Tryz.prog 72 = true := by kernel_rfl
theorem ynCo74 : callOk Tryz.prog 74 = true := by kernel_rfl
theorem ynCo75 : callOk Tryz.prog 75 = true := by kernel_rfl
theorem ynCo76 : callOk Tryz.prog 76 = true := by kernel_rfl
theorem ynCo77 : callOk Tryz.prog 77 = true := by kernel_rfl
theorem ynCo78 : callOk Tryz.prog 78 = true := by kernel_rfl
theorem ynFo105_0 : fieldOff Tryz.prog 105 0 = some 0 := by kernel_rfl
theorem ynSc9 : scalarB Tryz.prog 9 = true := by kernel_rfl
theorem ynCo79 : callOk Tryz.prog 79 = true := by kernel_rfl
theorem enterI (p : Bk) (s : Str) (l : List Str) (hs : smallBk p) (hl : l.length ≤ 1048576) : ASpec Tryz.prog 17 [.agg (p.cells 105), .one (.str s), .one (strs l)] (.tup [.agg ((enterR p s l).1.ocells 105), .one (.int .i64 (enterR p s l).2)]) := by
  refine ASpec.bodyC Tryz.func17 rfl 6 34 [7] rfl rfl 59 rfl rfl rfl ?_
  have hs1 := hs.2.1
  have hix := idxB_lt p s
  refine AWp.seq (AWp.region ?_)
  refine ARun.step rfl (step_box_p (m := 1) rfl (hn rfl) rfl rfl rfl rfl rfl) ?_
  refine ARun.step rfl (step_alloc_p rfl (hn rfl) rfl ynZs34) ?_
  refine ARun.step rfl (step_assignV rfl (hn rfl) rfl rfl) ?_
  refine ARun.nil ?_
  refine AWp.seq ?_
  refine AWp.seq (AWp.region ?_)
  refine ARun.step rfl (step_loadS_b rfl (hn rfl) rfl ynSt34 rfl rfl rfl (by decide)) ?_
  refine ARun.step rfl (call_step1 rfl (hn rfl) rfl ynCo26 (.cons rfl (.agg (.cons (.v _) (.cons (.v _) .nil))) (.nil)) (bookOkI _) rfl) ?_
  refine ARun.step rfl (step_not rfl (hn rfl) rfl rfl) ?_
  refine ARun.nil ?_
  refine AWp.cond rfl (fun c1 => ?_) (fun c1 => ?_)
  · try simp only [nrm] at c1
    refine AWp.seq (AWp.region ?_)
    refine ARun.step rfl (step_build rfl (hn rfl) rfl ynPl34 ynZc34 (.nil) rfl) ?_
    refine ARun.step rfl (step_store_p rfl rfl ynCs34 rfl rfl rfl rfl rfl rfl rfl) ?_
    refine ARun.step rfl (step_assignV rfl (hn rfl) rfl rfl) ?_
    refine ARun.nil ?_
    refine AWp.ret ?_
    refine ⟨.inr rfl, 6, 2, _, _, _, ynSt34, by decide, rfl, rfl, rfl, rfl, (.cons rfl (.agg (.cons (.nil 9 1 (fun i => [.str (nth [] i)]) _) (.cons (.nil 105 3 (fun i => (nth ([] : List Bt) i).cells) _) (.nil _)))) (.cons rfl (.one (.sc _ _ rfl)) (.nil _))), rfl, ?_⟩
    rw [show enterR p s l = (emptyBk, 1) by simp only [enterR]; grind]
    rfl
  · try simp only [nrm] at c1
    refine AWp.skip ?_
    refine AWp.seq (AWp.region ?_)
    refine ARun.step rfl (step_loadS_b rfl (hn rfl) rfl ynSt34 rfl rfl rfl (by decide)) ?_
    refine ARun.step rfl (call_stepN rfl (hn rfl) rfl ynCo66 (.cons rfl (.agg (.cons (.v _) (.cons (.v _) .nil))) (.nil)) (copyI _ hs) rfl rfl) ?_
    refine ARun.step rfl (step_alloc_p rfl (hn rfl) rfl ynZs34) ?_
    refine ARun.step rfl (step_store_r rfl rfl ynCs34 rfl rfl rfl rfl rfl rfl rfl) ?_
    refine ARun.nil ?_
    refine AWp.seq ?_
    refine AWp.block ?_
    refine AWp.seq (AWp.region ?_)
    refine ARun.step rfl (step_moveV rfl (hn rfl) rfl rfl) ?_
    refine ARun.step rfl (call_step1 rfl (hn rfl) rfl ynCo67 (.cons rfl (.one (.v _)) (.nil)) (isNameI _) rfl) ?_
    refine ARun.step rfl (step_not rfl (hn rfl) rfl rfl) ?_
    refine ARun.step rfl (step_moveV rfl (hn rfl) rfl rfl) ?_
    refine guardS rfl rfl rfl rfl (hn rfl) (fun g1 g2 => step_moveV rfl (hn rfl) rfl rfl) ?_
    refine guardS rfl rfl rfl rfl (hn rfl) (fun g1 g2 => call_step1 rfl (hn rfl) rfl ynCo68 (.cons (ev_true rfl (by exact flag2 g1 g2)) (.one (.v _)) (.nil)) (risingI _) rfl) ?_
    refine guardS rfl rfl rfl rfl (hn rfl) (fun g1 g2 => step_not rfl (hn rfl) rfl (ev_true rfl (by exact flag2 g1 g2))) ?_
    refine ARun.step rfl (step_or rfl (hn rfl) rfl rfl rfl (fun h => (by exact flag1 h))) ?_
    refine ARun.step rfl (step_moveV rfl (hn rfl) rfl rfl) ?_
    refine guardS rfl rfl rfl rfl (hn rfl) (fun g1 g2 => step_moveV rfl (hn rfl) rfl rfl) ?_
    refine guardS rfl rfl rfl rfl (hn rfl) (fun g1 g2 => step_field_b rfl (hn rfl) rfl ynFo34_0 rfl (by exact List.cons_ne_nil _ _)) ?_
    refine guardS rfl rfl rfl rfl (hn rfl) (fun g1 g2 => step_load_b rfl (hn rfl) rfl ynSc22 (ev_true rfl (by exact flag2 g1 g2)) rfl) ?_
    refine guardS rfl rfl rfl rfl (hn rfl) (fun g1 g2 => call_step1 rfl (hn rfl) rfl ynCo69 (.cons (ev_true rfl (by exact flag2 g1 g2)) (.one (.v _)) (.cons (ev_true rfl (by exact flag2 g1 g2)) (.one (.ref _ rfl)) (.nil))) (withinI _ _) rfl) ?_
    refine guardS rfl rfl rfl rfl (hn rfl) (fun g1 g2 => step_not rfl (hn rfl) rfl (ev_true rfl (by exact flag2 g1 g2))) ?_
    refine ARun.step rfl (step_or rfl (hn rfl) rfl rfl rfl (fun h => (by exact flag1 h))) ?_
    refine ARun.step rfl (step_assignV rfl (hn rfl) rfl rfl) ?_
    refine ARun.nil ?_
    refine AWp.cond rfl (fun c2 => ?_) (fun c2 => ?_)
    · try simp only [nrm] at c2
      refine AWp.seq (AWp.region ?_)
      refine ARun.step rfl (step_loadS_b rfl (hn rfl) rfl ynSt34 rfl rfl rfl (by decide)) ?_
      refine ARun.step rfl (step_store_r rfl rfl ynCs34 rfl rfl rfl rfl rfl rfl rfl) ?_
      refine ARun.step rfl (step_assignV rfl (hn rfl) rfl rfl) ?_
      refine ARun.nil ?_
      refine AWp.ret ?_
      refine ⟨.inr rfl, 6, 2, _, _, _, ynSt34, by decide, rfl, rfl, rfl, rfl, (.cons rfl (.agg (.cons (.ref _ _ rfl) (.cons (.ref _ _ rfl) (.nil _)))) (.cons rfl (.one (.sc _ _ rfl)) (.nil _))), rfl, ?_⟩
      rw [show enterR p s l = (p, 2) by simp only [enterR]; grind]
      rfl
    · try simp only [nrm] at c2
      refine AWp.seq (AWp.region ?_)
      refine ARun.step rfl (step_loadS_b rfl (hn rfl) rfl ynSt34 rfl rfl rfl (by decide)) ?_
      refine ARun.step rfl (step_moveV rfl (hn rfl) rfl rfl) ?_
      refine ARun.step rfl (call_step1 rfl (hn rfl) rfl ynCo70 (.cons rfl (.agg (.cons (.ref _ rfl) (.cons (.refz _ rfl (fz_bts _ _)) .nil))) (.cons rfl (.one (.v _)) (.nil))) (batchI p s) rfl) ?_
      refine ARun.step rfl (step_geq rfl (hn rfl) rfl rfl rfl) ?_
      refine ARun.step rfl (step_assignV rfl (hn rfl) rfl rfl) ?_
      refine ARun.nil ?_
      refine AWp.cond rfl (fun c3 => ?_) (fun c3 => ?_)
      · try simp only [nrm] at c3
        refine AWp.seq (AWp.region ?_)
        refine ARun.step rfl (step_loadS_b rfl (hn rfl) rfl ynSt34 rfl rfl rfl (by decide)) ?_
        refine ARun.step rfl (step_store_r rfl rfl ynCs34 rfl rfl rfl rfl rfl rfl rfl) ?_
        refine ARun.step rfl (step_assignV rfl (hn rfl) rfl rfl) ?_
        refine ARun.nil ?_
        refine AWp.ret ?_
        refine ⟨.inr rfl, 6, 2, _, _, _, ynSt34, by decide, rfl, rfl, rfl, rfl, (.cons rfl (.agg (.cons (.ref _ _ rfl) (.cons (.ref _ _ rfl) (.nil _)))) (.cons rfl (.one (.sc _ _ rfl)) (.nil _))), rfl, ?_⟩
        rw [show enterR p s l = (p, 3) by simp only [enterR]; grind]
        rfl
      · try simp only [nrm] at c3
        refine AWp.seq (AWp.region ?_)
        refine ARun.step rfl (step_field_b rfl (hn rfl) rfl ynFo34_1 rfl (by exact List.cons_ne_nil _ _)) ?_
        refine ARun.step rfl (step_load_b rfl (hn rfl) rfl ynSc32 rfl rfl) ?_
        refine ARun.step rfl (step_len_r rfl (hn rfl) rfl ynSl32 rfl rfl) ?_
        refine ARun.step rfl (step_geq rfl (hn rfl) rfl rfl rfl) ?_
        refine ARun.step rfl (step_assignV rfl (hn rfl) rfl rfl) ?_
        refine ARun.nil ?_
        refine AWp.cond rfl (fun c4 => ?_) (fun c4 => ?_)
        · try simp only [nrm] at c4
          refine AWp.seq (AWp.region ?_)
          refine ARun.step rfl (step_loadS_b rfl (hn rfl) rfl ynSt34 rfl rfl rfl (by decide)) ?_
          refine ARun.step rfl (step_store_r rfl rfl ynCs34 rfl rfl rfl rfl rfl rfl rfl) ?_
          refine ARun.step rfl (step_assignV rfl (hn rfl) rfl rfl) ?_
          refine ARun.nil ?_
          refine AWp.ret ?_
          refine ⟨.inr rfl, 6, 2, _, _, _, ynSt34, by decide, rfl, rfl, rfl, rfl, (.cons rfl (.agg (.cons (.ref _ _ rfl) (.cons (.ref _ _ rfl) (.nil _)))) (.cons rfl (.one (.sc _ _ rfl)) (.nil _))), rfl, ?_⟩
          rw [show enterR p s l = (p, 4) by simp only [enterR]; grind]
          rfl
        · try simp only [nrm] at c4
          refine AWp.skip ?_
          refine AWp.seq (AWp.drawM [⟨⟨[.s 8, .b 8], [.s 44], false⟩, none, [48, 50]⟩, ⟨⟨[.s 44, .b 8], [.s 45], false⟩, none, [48, 50]⟩, ⟨⟨[.s 1], [.s 46], false⟩, none, [48, 50]⟩, ⟨⟨[.s 2], [.s 47], false⟩, none, [48, 50]⟩, ⟨⟨[.s 47], [.s 48, .a 48 0], false⟩, some 48, [50]⟩, ⟨⟨[.s 48, .a 48 0, .s 46], [.s 49], false⟩, none, [50]⟩, ⟨⟨[.s 49, .a 48 0], [.s 50, .a 50 0, .a 48 0], false⟩, some 50, []⟩, ⟨⟨[], [], true⟩, none, []⟩, ⟨⟨[], [], true⟩, none, []⟩, ⟨⟨[], [], true⟩, none, []⟩] ynMo rfl rfl (Le.forgetR (n := 59) (sl := [(0, _), (1, _), (2, _), (3, _), (6, _), (7, _), (8, _), (9, _), (10, _), (11, _), (13, _), (14, _), (15, _), (16, _), (17, _), (18, _), (19, _), (23, _), (24, _), (30, _), (32, _), (33, _), (34, _), (35, _), (36, _), (38, _), (39, _), (40, _), (41, _), (42, _)]) (bl := [(3, _), (6, _), (8, _)]) (al := [(14, 0, _), (14, 1, _)]) rfl ⟨rfl, rfl, rfl, rfl, rfl, rfl, rfl, rfl, rfl, rfl, rfl, rfl, rfl, rfl, rfl, rfl, rfl, rfl, rfl, rfl, rfl, rfl, rfl, rfl, rfl, rfl, rfl, rfl, rfl, rfl, trivial⟩ ⟨rfl, rfl, rfl, trivial⟩ ⟨.refl _, .refl _, trivial⟩) rfl ?_)
          refine FRun.slot rfl (fun τ hN hr => step_field_b rfl (rdN hN (hn rfl)) rfl ynFo34_1 (by exact rdS hr rfl rfl) (by exact rdBne hr rfl (by exact List.cons_ne_nil _ _))) (by exact rfl) ?_
          refine FRun.slot rfl (fun τ hN hr => step_load_b rfl (rdN hN (hn rfl)) rfl ynSc32 (by exact rdS hr rfl rfl) (by exact rdBget hr rfl rfl)) (by exact rfl) ?_
          refine FRun.slot rfl (fun τ hN hr => step_moveV rfl (rdN hN (hn rfl)) rfl (by exact rdS hr rfl rfl)) (by exact rfl) ?_
          refine FRun.slot rfl (fun τ hN hr => step_moveV rfl (rdN hN (hn rfl)) rfl (by exact rdS hr rfl rfl)) (by exact rfl) ?_
          refine FRun.fresh rfl (fun τ hN hr => call_fresh rfl (rdN hN (hn rfl)) rfl ynCo71 (.cons (by exact rdS hr rfl rfl) (.one (.v _)) (.nil)) (copiedI _ hl) rfl (by exact rdNoRefs hr rfl rfl)) (by exact rfl) ?_
          refine FRun.slot rfl (fun τ hN hr => step_build rfl (rdN hN (hn rfl)) rfl ynPl105 ynZc105 ((by exact .cons (by exact rdS hr rfl rfl) rfl rfl rfl (.cons (by exact rdS hr rfl rfl) rfl (by exact rdSolid hr rfl rfl) rfl (.nil)))) rfl) (by exact rfl) ?_
          refine FRun.build (cs := [.v _, .nil, .ref ⟨.arr 48 0, []⟩]) (ts := [(.str s), _, _]) rfl rfl (hn rfl) rfl ynSl32 rfl rfl rfl rfl (by intro c hc; cases hc) rfl (by exact ⟨⟨rfl, rfl⟩, ⟨rfl, rfl⟩, ⟨rfl, rfl, rfl, rfl⟩, trivial⟩) (by exact rfl) (by exact rfl) ?_
          refine FRun.whole rfl (step_appendM rfl (hn rfl) rfl ynSl32 rfl rfl rfl rfl rfl (solidRows_const rfl) (by omega) (by omega)) (by exact rfl) ?_
          refine FRun.whole rfl (step_field_b rfl (hn rfl) rfl ynFo34_1 rfl (by exact List.cons_ne_nil _ _)) (by exact rfl) ?_
          refine FRun.whole rfl (step_store_r rfl rfl ynCs32 rfl rfl rfl rfl rfl rfl rfl) (by exact rfl) ?_
          refine FRun.nil ?_
          refine AWp.le (Le.telBelow ⟨.arr 14 1, []⟩ (fun i => (nth (p.bs ++ [(⟨s, [], l⟩ : Bt)]) i).cells) rfl (enter_lenO _ _ _) (enter_telO _ _ _)) ?_
          refine AWp.seq (AWp.region ?_)
          refine ARun.step rfl (step_field_b rfl (hn rfl) rfl ynFo34_1 rfl (by exact List.cons_ne_nil _ _)) ?_
          refine ARun.step rfl (step_load_b rfl (hn rfl) rfl ynSc32 rfl rfl) ?_
          refine ARun.step rfl (step_ifc rfl (hn rfl) rfl ynUl32 rfl) ?_
          refine ARun.step rfl (step_clos1 rfl (hn rfl) rfl rfl) ?_
          refine ARun.step rfl (step_sortS rfl (hn rfl) rfl ynCo72 enterSorts rfl rfl rfl rfl (by omega) (by decide) (by omega) (fun i => (nth (p.bs ++ [(⟨s, [], l⟩ : Bt)]) i).name) (fun i _ => rfl) (fun i _ => rfl) (fun i => (nth (insBt p.bs s l) i).cells) (enter_hu (by assumption) (by omega))) ?_
          refine ARun.nil ?_
          refine AWp.le (Le.retree 14 1 (t := btsO 105 (insBt p.bs s l)) (enter_eqv _ _ _ _)) ?_
          refine AWp.seq (AWp.region ?_)
          refine ARun.step rfl (step_loadS_b rfl (hn rfl) rfl ynSt34 rfl rfl rfl (by decide)) ?_
          refine ARun.step rfl (step_store_r rfl rfl ynCs34 rfl rfl rfl rfl rfl rfl rfl) ?_
          refine ARun.step rfl (step_assignV rfl (hn rfl) rfl rfl) ?_
          refine ARun.nil ?_
          refine AWp.ret ?_
          refine ⟨.inr rfl, 6, 2, _, _, _, ynSt34, by decide, rfl, rfl, rfl, rfl, (.cons rfl (.agg (.cons (.ref _ _ rfl) (.cons (.ref _ _ rfl) (.nil _)))) (.cons rfl (.one (.sc _ _ rfl)) (.nil _))), rfl, ?_⟩
          rw [show enterR p s l = (insBk p s l, 0) by simp only [enterR]; grind]
          rfl
theorem enterS (p : Bk) (s : Str) (l : List Str) (hs : smallBk p) (hl : l.length ≤ 1048576) : ASpec Tryz.prog 18 [.agg (p.cells 105), .one (.str s), .one (strs l)] (.tup [.agg ((enterR p s l).1.ocells 105), .one (.int .i64 (enterR p s l).2)]) := by
  refine ASpec.bodyC Tryz.func18 rfl 6 34 [7] rfl rfl 74 rfl rfl rfl ?_
  have hs1 := hs.2.1
  have hix := idxB_lt p s
  refine AWp.seq (AWp.region ?_)
  refine ARun.step rfl (step_box_p (m := 1) rfl (hn rfl) rfl rfl rfl rfl rfl) ?_
  refine ARun.step rfl (step_alloc_p rfl (hn rfl) rfl ynZs34) ?_
  refine ARun.step rfl (step_assignV rfl (hn rfl) rfl rfl) ?_
  refine ARun.nil ?_
  refine AWp.seq ?_
  refine AWp.seq (AWp.region ?_)
  refine ARun.step rfl (step_loadS_b rfl (hn rfl) rfl ynSt34 rfl rfl rfl (by decide)) ?_
  refine ARun.step rfl (call_step1 rfl (hn rfl) rfl ynCo74 (.cons rfl (.agg (.cons (.v _) (.cons (.v _) .nil))) (.nil)) (bookOkS _) rfl) ?_
  refine ARun.step rfl (step_not rfl (hn rfl) rfl rfl) ?_
  refine ARun.nil ?_
  refine AWp.cond rfl (fun c1 => ?_) (fun c1 => ?_)
  · try simp only [nrm] at c1
    refine AWp.seq (AWp.region ?_)
    refine ARun.step rfl (step_build rfl (hn rfl) rfl ynPl34 ynZc34 (.nil) rfl) ?_
    refine ARun.step rfl (step_store_p rfl rfl ynCs34 rfl rfl rfl rfl rfl rfl rfl) ?_
    refine ARun.step rfl (step_assignV rfl (hn rfl) rfl rfl) ?_
    refine ARun.nil ?_
    refine AWp.ret ?_
    refine ⟨.inr rfl, 6, 2, _, _, _, ynSt34, by decide, rfl, rfl, rfl, rfl, (.cons rfl (.agg (.cons (.nil 9 1 (fun i => [.str (nth [] i)]) _) (.cons (.nil 105 3 (fun i => (nth ([] : List Bt) i).cells) _) (.nil _)))) (.cons rfl (.one (.sc _ _ rfl)) (.nil _))), rfl, ?_⟩
    rw [show enterR p s l = (emptyBk, 1) by simp only [enterR]; grind]
    rfl
  · try simp only [nrm] at c1
    refine AWp.skip ?_
    refine AWp.seq (AWp.region ?_)
    refine ARun.step rfl (step_loadS_b rfl (hn rfl) rfl ynSt34 rfl rfl rfl (by decide)) ?_
    refine ARun.step rfl (call_stepN rfl (hn rfl) rfl ynCo75 (.cons rfl (.agg (.cons (.v _) (.cons (.v _) .nil))) (.nil)) (copyS _ hs) rfl rfl) ?_
    refine ARun.step rfl (step_alloc_p rfl (hn rfl) rfl ynZs34) ?_
    refine ARun.step rfl (step_store_r rfl rfl ynCs34 rfl rfl rfl rfl rfl rfl rfl) ?_
    refine ARun.nil ?_
    refine AWp.seq ?_
    refine AWp.seq (AWp.region ?_)
    refine ARun.step rfl (step_moveV rfl (hn rfl) rfl rfl) ?_
    refine ARun.step rfl (call_step1 rfl (hn rfl) rfl ynCo76 (.cons rfl (.one (.v _)) (.nil)) (l51NameOk s) rfl) ?_
    refine ARun.step rfl (step_not rfl (hn rfl) rfl rfl) ?_
    refine ARun.step rfl (step_moveV rfl (hn rfl) rfl rfl) ?_
    refine guardS rfl rfl rfl rfl (hn rfl) (fun g1 g2 => step_moveV rfl (hn rfl) rfl rfl) ?_
    refine guardS rfl rfl rfl rfl (hn rfl) (fun g1 g2 => step_field_b rfl (hn rfl) rfl ynFo34_0 rfl (by exact List.cons_ne_nil _ _)) ?_
    refine guardS rfl rfl rfl rfl (hn rfl) (fun g1 g2 => step_load_b rfl (hn rfl) rfl ynSc22 (ev_true rfl (by exact flag2 g1 g2)) rfl) ?_
    refine guardS rfl rfl rfl rfl (hn rfl) (fun g1 g2 => call_step1 rfl (hn rfl) rfl ynCo77 (.cons (ev_true rfl (by exact flag2 g1 g2)) (.one (.v _)) (.cons (ev_true rfl (by exact flag2 g1 g2)) (.one (.v _)) (.nil))) (l51NamesOk l p.things) rfl) ?_
    refine guardS rfl rfl rfl rfl (hn rfl) (fun g1 g2 => step_not rfl (hn rfl) rfl (ev_true rfl (by exact flag2 g1 g2))) ?_
    refine ARun.step rfl (step_or rfl (hn rfl) rfl rfl rfl (fun h => (by exact flag1 h))) ?_
    refine ARun.nil ?_
    refine AWp.cond rfl (fun c2 => ?_) (fun c2 => ?_)
    · try simp only [nrm] at c2
      refine AWp.seq (AWp.region ?_)
      refine ARun.step rfl (step_loadS_b rfl (hn rfl) rfl ynSt34 rfl rfl rfl (by decide)) ?_
      refine ARun.step rfl (step_store_r rfl rfl ynCs34 rfl rfl rfl rfl rfl rfl rfl) ?_
      refine ARun.step rfl (step_assignV rfl (hn rfl) rfl rfl) ?_
      refine ARun.nil ?_
      refine AWp.ret ?_
      refine ⟨.inr rfl, 6, 2, _, _, _, ynSt34, by decide, rfl, rfl, rfl, rfl, (.cons rfl (.agg (.cons (.ref _ _ rfl) (.cons (.ref _ _ rfl) (.nil _)))) (.cons rfl (.one (.sc _ _ rfl)) (.nil _))), rfl, ?_⟩
      rw [show enterR p s l = (p, 2) by simp only [enterR]; grind]
      rfl
    · try simp only [nrm] at c2
      refine AWp.skip ?_
      refine AWp.seq ?_
      refine AWp.seq (AWp.region ?_)
      refine ARun.step rfl (step_loadS_b rfl (hn rfl) rfl ynSt34 rfl rfl rfl (by decide)) ?_
      refine ARun.step rfl (step_moveV rfl (hn rfl) rfl rfl) ?_
      refine ARun.step rfl (call_step1 rfl (hn rfl) rfl ynCo78 (.cons rfl (.agg (.cons (.v _) (.cons (.v _) .nil))) (.cons rfl (.one (.v _)) (.nil))) (l51At p s) rfl) ?_
      refine ARun.step rfl (step_geq rfl (hn rfl) rfl rfl rfl) ?_
      refine ARun.nil ?_
      refine AWp.cond rfl (fun c3 => ?_) (fun c3 => ?_)
      · try simp only [nrm] at c3
        refine AWp.seq (AWp.region ?_)
        refine ARun.step rfl (step_loadS_b rfl (hn rfl) rfl ynSt34 rfl rfl rfl (by decide)) ?_
        refine ARun.step rfl (step_store_r rfl rfl ynCs34 rfl rfl rfl rfl rfl rfl rfl) ?_
        refine ARun.step rfl (step_assignV rfl (hn rfl) rfl rfl) ?_
        refine ARun.nil ?_
        refine AWp.ret ?_
        refine ⟨.inr rfl, 6, 2, _, _, _, ynSt34, by decide, rfl, rfl, rfl, rfl, (.cons rfl (.agg (.cons (.ref _ _ rfl) (.cons (.ref _ _ rfl) (.nil _)))) (.cons rfl (.one (.sc _ _ rfl)) (.nil _))), rfl, ?_⟩
        rw [show enterR p s l = (p, 3) by simp only [enterR]; grind]
        rfl
      · try simp only [nrm] at c3
        refine AWp.skip ?_
        refine AWp.seq ?_
        refine AWp.seq (AWp.region ?_)
        refine ARun.step rfl (step_field_b rfl (hn rfl) rfl ynFo34_1 rfl (by exact List.cons_ne_nil _ _)) ?_
        refine ARun.step rfl (step_load_b rfl (hn rfl) rfl ynSc32 rfl rfl) ?_
        refine ARun.step rfl (step_len_f rfl (hn rfl) rfl ynSl32 rfl) ?_
        refine ARun.step rfl (step_geq rfl (hn rfl) rfl rfl rfl) ?_
        refine ARun.nil ?_
        refine AWp.cond rfl (fun c4 => ?_) (fun c4 => ?_)
        · try simp only [nrm] at c4
          refine AWp.seq (AWp.region ?_)
          refine ARun.step rfl (step_loadS_b rfl (hn rfl) rfl ynSt34 rfl rfl rfl (by decide)) ?_
          refine ARun.step rfl (step_store_r rfl rfl ynCs34 rfl rfl rfl rfl rfl rfl rfl) ?_
          refine ARun.step rfl (step_assignV rfl (hn rfl) rfl rfl) ?_
          refine ARun.nil ?_
          refine AWp.ret ?_
          refine ⟨.inr rfl, 6, 2, _, _, _, ynSt34, by decide, rfl, rfl, rfl, rfl, (.cons rfl (.agg (.cons (.ref _ _ rfl) (.cons (.ref _ _ rfl) (.nil _)))) (.cons rfl (.one (.sc _ _ rfl)) (.nil _))), rfl, ?_⟩
          rw [show enterR p s l = (p, 4) by simp only [enterR]; grind]
          rfl
        · try simp only [nrm] at c4
          refine AWp.skip ?_
          refine AWp.seq (AWp.region ?_)
          refine ARun.step rfl (step_assignV rfl (hn rfl) rfl rfl) ?_
          refine ARun.nil ?_
          refine AWp.seq ?_
          refine AWp.block ?_
          refine AWp.loopM (fun i : Nat => mkAS 74 [(1, ⟨true, .one (.v (.str s))⟩), (2, ⟨true, .one (.v (strs l))⟩), (3, ⟨true, .one (.bptr 3 0)⟩), (6, ⟨true, .one (.bptr 6 0)⟩), (8, ⟨true, .one (.bptr 8 0)⟩), (9, ⟨true, .one (.v (.int .i64 (i : Nat)))⟩)] [(3, (p.cells 105).map C.v), (6, [.any, .any]), (8, [.ref ⟨.arr 15 0, []⟩, .ref ⟨.arr 15 1, []⟩])] [(15, 0, strs p.things), (15, 1, btsO 105 p.bs)]) (fun i => i ≤ p.bs.length ∧ ∀ j, j < i → strLt (nth p.bs j).name s = true) (fun i => p.bs.length - i) 0 ?_ (Le.forgetR rfl ⟨rfl, rfl, rfl, rfl, rfl, rfl, trivial⟩ ⟨rfl, rfl, rfl, trivial⟩ ⟨.refl _, .refl _, trivial⟩) ?_
          · try dsimp only
            exact ⟨by omega, by omega⟩
          rintro i ⟨hi, hall⟩
          refine AWp.seq ?_
          refine AWp.seq (AWp.region ?_)
          refine ARun.step rfl (step_moveV rfl (hn rfl) rfl rfl) ?_
          refine ARun.step rfl (step_field_b rfl (hn rfl) rfl ynFo34_1 rfl (by exact List.cons_ne_nil _ _)) ?_
          refine ARun.step rfl (step_load_b rfl (hn rfl) rfl ynSc32 rfl rfl) ?_
          refine ARun.step rfl (step_len_r rfl (hn rfl) rfl ynSl32 rfl rfl) ?_
          refine ARun.step rfl (step_lss rfl (hn rfl) rfl rfl rfl) ?_
          refine ARun.step rfl (step_moveV rfl (hn rfl) rfl rfl) ?_
          refine guardS rfl rfl rfl rfl (hn rfl) (fun g1 g2 => step_field_b rfl (hn rfl) rfl ynFo34_1 rfl (by exact List.cons_ne_nil _ _)) ?_
          refine guardS rfl rfl rfl rfl (hn rfl) (fun g1 g2 => step_load_b rfl (hn rfl) rfl ynSc32 (ev_true rfl (by exact flag2 g1 g2)) rfl) ?_
          refine guardS rfl rfl rfl rfl (hn rfl) (fun g1 g2 => step_moveV rfl (hn rfl) rfl rfl) ?_
          refine guardS rfl rfl rfl rfl (hn rfl) (fun g1 g2 => step_index_rN rfl (hn rfl) rfl ynSl32 (ev_true rfl (by exact flag2 g1 g2)) rfl (ev_true rfl (by exact flag2 g1 g2)) (by first | omega | (have := of_decide_eq_true g2; omega) | (have := of_decide_eq_false g2; omega) | (simp only [nrm] at g2; omega) | (simp only [nrm, Bool.true_and] at g1 g2; omega))) ?_
          refine guardS rfl rfl rfl rfl (hn rfl) (fun g1 g2 => step_field_e rfl (hn rfl) rfl ynFo105_0 (ev_true rfl (by exact flag2 g1 g2)) rfl) ?_
          refine guardS rfl rfl rfl rfl (hn rfl) (fun g1 g2 => step_load_e rfl (hn rfl) rfl ynSc9 (ev_true rfl (by exact flag2 g1 g2)) rfl (by first | omega | (have := of_decide_eq_true g2; omega) | (have := of_decide_eq_false g2; omega) | (simp only [nrm] at g2; omega) | (simp only [nrm, Bool.true_and] at g1 g2; omega)) (hn rfl) rfl) ?_
          refine guardS rfl rfl rfl rfl (hn rfl) (fun g1 g2 => step_moveV rfl (hn rfl) rfl rfl) ?_
          refine guardS rfl rfl rfl rfl (hn rfl) (fun g1 g2 => step_slss rfl (hn rfl) rfl (ev_true rfl (by exact flag2 g1 g2)) (ev_true rfl (by exact flag2 g1 g2))) ?_
          refine ARun.step rfl (step_and rfl (hn rfl) rfl rfl rfl (fun h => (by exact flag1 h))) ?_
          refine ARun.nil ?_
          refine AWp.cond rfl (fun c5 => ?_) (fun c5 => ?_)
          · try simp only [nrm] at c5
            refine AWp.skip ?_
            refine AWp.block ?_
            refine AWp.region ?_
            refine ARun.step rfl (step_moveV rfl (hn rfl) rfl rfl) ?_
            refine ARun.step rfl (step_addI rfl (hn rfl) rfl rfl rfl (by omega) (by omega)) ?_
            refine ARun.step rfl (step_assignV rfl (hn rfl) rfl rfl) ?_
            refine ARun.nil ?_
            refine ⟨i + 1, ?_, ?_, Le.forgetR rfl ⟨rfl, rfl, rfl, rfl, rfl, rfl, trivial⟩ ⟨rfl, rfl, rfl, trivial⟩ ⟨.refl _, .refl _, trivial⟩⟩
            · try dsimp only
              exact ⟨by omega, upto hall (by grind)⟩
            · try dsimp only
              omega
          · try simp only [nrm] at c5
            refine AWp.exit ?_
            have hpos : posN p.bs s = i := posN_eq hall hi (by grind)
            have hl1 : ([] ++ p.bs.take i).length ≤ 1048576 := by simp only [List.nil_append, List.length_take]; omega
            have hl2 : (List.drop i p.bs).length ≤ 1048576 := by simp only [List.length_drop]; omega
            refine AWp.le (Le.fzBelow ⟨.arr 15 1, []⟩ (fun i => (nth p.bs i).zcells) rfl (fun _ _ => rfl) (bt_fz p.bs)) ?_
            refine AWp.le (Le.letGo 15 1 (g := fun i => (nth p.bs i).zcells) rfl (fun _ _ => rfl)) ?_
            refine AWp.seq (AWp.drawM [⟨⟨[], [.s 54, .a 54 0], false⟩, some 54, [59, 65]⟩, ⟨⟨[.s 8, .b 8], [.s 55], false⟩, none, [54, 59, 65]⟩, ⟨⟨[.s 55, .b 8], [.s 56], false⟩, none, [54, 59, 65]⟩, ⟨⟨[.s 9], [.s 57], false⟩, none, [54, 59, 65]⟩, ⟨⟨[.s 57, .s 56], [.s 58], false⟩, none, [54, 59, 65]⟩, ⟨⟨[.s 54, .a 54 0, .s 58], [.s 59, .a 59 0, .a 54 0], false⟩, some 59, [65]⟩, ⟨⟨[.s 1], [.s 60], false⟩, none, [54, 59, 65]⟩, ⟨⟨[.s 2], [.s 61], false⟩, none, [54, 59, 65]⟩, ⟨⟨[.s 61], [.s 62], false⟩, none, [65]⟩, ⟨⟨[.s 62, .s 60], [.s 63], false⟩, none, [65]⟩, ⟨⟨[.s 63], [.s 64], false⟩, none, [65]⟩, ⟨⟨[.s 59, .a 59 0, .s 64], [.s 65, .a 65 0, .a 59 0], false⟩, some 65, []⟩, ⟨⟨[.s 8, .b 8], [.s 66], false⟩, none, [54, 59, 65]⟩, ⟨⟨[.s 66, .b 8], [.s 67], false⟩, none, [54, 59, 65]⟩, ⟨⟨[.s 9], [.s 68], false⟩, none, [54, 59, 65]⟩, ⟨⟨[.s 68, .s 67], [.s 69], false⟩, none, [54, 59, 65]⟩, ⟨⟨[], [], true⟩, none, []⟩, ⟨⟨[], [], true⟩, none, []⟩, ⟨⟨[], [], true⟩, none, []⟩] ynMo rfl rfl (Le.forgetR (n := 74) (sl := [(1, _), (2, _), (3, _), (6, _), (8, _), (9, _), (37, _), (38, _), (39, _), (40, _), (41, _), (42, _), (51, _)]) (bl := [(3, _), (6, _), (8, _)]) (al := [(15, 0, _), (15, 1, _)]) rfl ⟨rfl, rfl, rfl, rfl, rfl, rfl, rfl, rfl, rfl, rfl, rfl, rfl, rfl, trivial⟩ ⟨rfl, rfl, rfl, trivial⟩ ⟨.refl _, .refl _, trivial⟩) rfl ?_)
            refine FRun.made (L := []) (t := bts 105 []) rfl (fun τ hN hr hF => step_buildE rfl (rdN hN (hn rfl)) rfl ynSl32 hF _) (by exact rfl) ?_
            refine FRun.slot rfl (fun τ hN hr => step_field_b rfl (rdN hN (hn rfl)) rfl ynFo34_1 (by exact rdS hr rfl rfl) (by exact rdBne hr rfl (by exact List.cons_ne_nil _ _))) (by exact rfl) ?_
            refine FRun.slot rfl (fun τ hN hr => step_load_b rfl (rdN hN (hn rfl)) rfl ynSc32 (by exact rdS hr rfl rfl) (by exact rdBget hr rfl rfl)) (by exact rfl) ?_
            refine FRun.slot rfl (fun τ hN hr => step_moveV rfl (rdN hN (hn rfl)) rfl (by exact rdS hr rfl rfl)) (by exact rfl) ?_
            refine FRun.slot rfl (fun τ hN hr => step_sliceF rfl (rdN hN (hn rfl)) rfl ynSl32 (bts 105 (p.bs.take i)) (by exact rdS hr rfl rfl) (.dflt _) (.val _ (by exact rdS hr rfl rfl)) rfl (by rw [List.length_take]; omega) (by omega) (bts_take _ _)) (by exact rfl) ?_
            refine FRun.made (L := [(54, 0)]) (t := bts 105 ([] ++ p.bs.take i)) rfl (fun τ hN hr hF => (step_appendF rfl (rdN hN (hn rfl)) rfl ynSl32 hF (by exact rdS hr rfl rfl) (by exact rdA hr rfl rfl) (by exact rdS hr rfl rfl) (.v _) (fun _ _ => rfl) (by first | omega | (simp only [List.length_cons, List.length_nil, List.length_append, List.length_take, List.length_drop]; omega)) (by first | omega | (simp only [List.length_cons, List.length_nil, List.length_append, List.length_take, List.length_drop]; omega))).le (Le.eqvArr (bts_cat _ [] _))) (by exact rfl) ?_
            refine FRun.slot rfl (fun τ hN hr => step_moveV rfl (rdN hN (hn rfl)) rfl (by exact rdS hr rfl rfl)) (by exact rfl) ?_
            refine FRun.slot rfl (fun τ hN hr => step_moveV rfl (rdN hN (hn rfl)) rfl (by exact rdS hr rfl rfl)) (by exact rfl) ?_
            refine FRun.slot rfl (fun τ hN hr => call_stepZ rfl (rdN hN (hn rfl)) rfl ynCo79 (.cons (by exact rdS hr rfl rfl) (.one (.v _)) (.nil)) ((namesC l hl).letGo (.p (.one (.fz (.refl _))))) rfl (by exact rdNoRefs hr rfl rfl)) (by exact rfl) ?_
            refine FRun.slot rfl (fun τ hN hr => step_build rfl (rdN hN (hn rfl)) rfl ynPl105 ynZc105 ((by exact .cons (by exact rdS hr rfl rfl) rfl rfl rfl (.cons (by exact rdS hr rfl rfl) rfl rfl rfl (.nil)))) rfl) (by exact rfl) ?_
            refine FRun.slot rfl (fun τ hN hr => step_buildV rfl (rdN hN (hn rfl)) rfl ynSl32 ((by exact .cons (by exact rdS hr rfl rfl) rfl rfl rfl (.nil _))) rfl rfl) (by exact rfl) ?_
            refine FRun.made (L := [(59, 0)]) (t := .sl 105 3 (([] ++ p.bs.take i).length + 1) (catF ([] ++ p.bs.take i).length (fun j => (nth ([] ++ p.bs.take i) j).zcells) (fun _ => rowZ s l))) rfl (fun τ hN hr hF => (step_appendF rfl (rdN hN (hn rfl)) rfl ynSl32 hF (by exact rdS hr rfl rfl) (by exact rdA hr rfl rfl) (by exact rdS hr rfl rfl) (.v _) (flatRows_one rfl) (by first | omega | (simp only [List.length_cons, List.length_nil, List.length_append, List.length_take, List.length_drop]; omega)) (by first | omega | (simp only [List.length_cons, List.length_nil, List.length_append, List.length_take, List.length_drop]; omega))).le (Le.eqvArr ((cat_one rfl)))) (by exact rfl) ?_
            refine FRun.slot rfl (fun τ hN hr => step_field_b rfl (rdN hN (hn rfl)) rfl ynFo34_1 (by exact rdS hr rfl rfl) (by exact rdBne hr rfl (by exact List.cons_ne_nil _ _))) (by exact rfl) ?_
            refine FRun.slot rfl (fun τ hN hr => step_load_b rfl (rdN hN (hn rfl)) rfl ynSc32 (by exact rdS hr rfl rfl) (by exact rdBget hr rfl rfl)) (by exact rfl) ?_
            refine FRun.slot rfl (fun τ hN hr => step_moveV rfl (rdN hN (hn rfl)) rfl (by exact rdS hr rfl rfl)) (by exact rfl) ?_
            refine FRun.slot rfl (fun τ hN hr => step_sliceF rfl (rdN hN (hn rfl)) rfl ynSl32 (bts 105 (p.bs.drop i)) (by exact rdS hr rfl rfl) (.val _ (by exact rdS hr rfl rfl)) (.dflt _) rfl (by rw [List.length_drop]; omega) (by omega) (bts_drop _ _)) (by exact rfl) ?_
            refine FRun.whole rfl (step_append rfl (hn rfl) rfl ynSl32 rfl rfl rfl (.v _) (fun _ _ => rfl) (by omega) (by omega)) (by exact rfl) ?_
            refine FRun.whole rfl (step_field_b rfl (hn rfl) rfl ynFo34_1 rfl (by exact List.cons_ne_nil _ _)) (by exact rfl) ?_
            refine FRun.whole rfl (step_store_r rfl rfl ynCs32 rfl rfl rfl rfl rfl rfl rfl) (by exact rfl) ?_
            refine FRun.nil ?_
            refine AWp.le (Le.telArr 65 0 (t' := bts 105 (insBt p.bs s l)) (enter_telZ _ hpos)) ?_
            refine AWp.seq (AWp.region ?_)
            refine ARun.step rfl (step_loadS_b rfl (hn rfl) rfl ynSt34 rfl rfl rfl (by decide)) ?_
            refine ARun.step rfl (call_stepC rfl (hn rfl) rfl ynCo75 (.cons rfl (.agg (.cons (.ref _ rfl) (.cons (.ref _ rfl) .nil))) (.nil)) (copyS (insBk p s l) (insBk_small hs hl (by omega))) rfl (CleanL.all (.cons (clean_strs _) (.cons (clean_btsO _ _) .nil)))) ?_
            refine ARun.step rfl (step_store_r rfl rfl ynCs34 rfl rfl rfl rfl rfl rfl rfl) ?_
            refine ARun.step rfl (step_assignV rfl (hn rfl) rfl rfl) ?_
            refine ARun.nil ?_
            refine AWp.ret ?_
            refine ⟨.inr rfl, 6, 2, _, _, _, ynSt34, by decide, rfl, rfl, rfl, rfl, (.cons rfl (.agg (.cons (.ref _ _ rfl) (.cons (.ref _ _ rfl) (.nil _)))) (.cons rfl (.one (.sc _ _ rfl)) (.nil _))), rfl, ?_⟩
            rw [show enterR p s l = (insBk p s l, 0) by simp only [enterR]; grind]
            rfl

end Go.Proofs.YtkmacjdigkaabaaGreat
