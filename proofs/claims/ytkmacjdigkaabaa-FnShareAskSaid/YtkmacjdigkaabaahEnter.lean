/- Contracts of functions of the program, each met by its body; conditions stand in each statement. No condition. -/
import Derived.Test.YtkmacjdigkaabaahLeave
import Derived.Test.YtkmacjdigkaabaahSlc
import Derived.Test.YtkmacjdigkaabaaProg
import Derived.KernelRfl
set_option linter.unusedVariables false
set_option linter.unusedSimpArgs false
set_option linter.unnecessarySimpa false
set_option linter.unusedSimpArgs false
set_option maxRecDepth 100000
namespace Go.Proofs.Ytkmacjdigkaabaa
open Go Go.Mh

theorem nth_map {α β : Type} [Inhabited α] [Inhabited β] (g : α → β) {l : List α} {j : Nat} (hj : j < l.length) : nth (l.map g) j = g (nth l j) := by
  simp only [nth, List.getD_eq_getElem?_getD, List.getElem?_map, List.getElem?_eq_getElem hj, Option.map_some, Option.getD_some]
theorem nth_getA {α : Type} [Inhabited α] {l : List α} {i : Nat} (h : i < l.length) : nth l i = l[i] := by
  simp only [nth, List.getD_eq_getElem?_getD, List.getElem?_eq_getElem h, Option.getD_some]
theorem nth_memA {α : Type} [Inhabited α] {l : List α} {i : Nat} (h : i < l.length) : nth l i ∈ l := by
  rw [nth_getA h]; exact List.getElem_mem h
/-- names of batches, ascending -/
def AscB (l : List Bt) : Prop := l.Pairwise (fun a b => bl a.name < bl b.name)
theorem ascB_of {bs : List Bt} (h : ∀ i, i + 1 < bs.length → bl (nth bs i).name < bl (nth bs (i + 1)).name) : AscB bs := by
  rw [AscB, List.pairwise_iff_getElem]
  intro i j hi hj hij
  have key : ∀ d, i + d + 1 < bs.length → bl (nth bs i).name < bl (nth bs (i + d + 1)).name := by
    intro d
    induction d with
    | zero => intro hd; exact h i hd
    | succ d ih => intro hd; exact List.lt_trans (ih (by omega)) (h (i + d + 1) hd)
  have := key (j - i - 1) (by omega)
  rw [show i + (j - i - 1) + 1 = j by omega, nth_getA hi, nth_getA hj] at this
  exact this
theorem ok_ascB {p : Bk} (hb : bookOk p = true) : AscB p.bs := by
  obtain ⟨_, h4⟩ := (bookOk_iff p).1 hb
  refine ascB_of fun i hi => ?_
  have := ((btAt_iff p (i + 1)).1 (h4 (i + 1) hi).1).2.1
  rcases this with h | h
  · omega
  · rw [Nat.add_sub_cancel] at h; exact (strLt_iff _ _).1 h
def posN (bs : List Bt) (s : Str) : Nat := posB (bs.map Bt.name) s
theorem posN_spec (bs : List Bt) (s : Str) : posN bs s ≤ bs.length ∧ (∀ j, j < posN bs s → bl (nth bs j).name < bl s) ∧ (posN bs s < bs.length → ¬ bl (nth bs (posN bs s)).name < bl s) := by
  obtain ⟨h1, h2, h3⟩ := posB_spec (bs.map Bt.name) s
  rw [List.length_map] at h1 h3
  refine ⟨h1, fun j hj => ?_, fun hlt => ?_⟩
  · have := h2 j hj
    rw [nth_map _ (by unfold posN at hj; omega)] at this
    exact (strLt_iff _ _).1 this
  · have this : strLt (nth (List.map Bt.name bs) (posN bs s)) s = false := h3 hlt
    rw [nth_map _ hlt] at this
    intro h; rw [(strLt_iff _ _).2 h] at this; cases this
theorem posN_eq {bs : List Bt} {s : Str} {i : Nat} (h : ∀ j, j < i → strLt (nth bs j).name s = true) (hi : i ≤ bs.length) (hx : i < bs.length → strLt (nth bs i).name s = false) : posN bs s = i :=
  posB_eq (l := bs.map Bt.name) (fun j hj => by rw [nth_map _ (by omega)]; exact h j hj) (by rw [List.length_map]; exact hi) (fun hlt => by
    rw [List.length_map] at hlt; rw [nth_map _ hlt]; exact hx hlt)
def insBt (bs : List Bt) (s : Str) (l : List Str) : List Bt := bs.take (posN bs s) ++ [⟨s, [], l⟩] ++ bs.drop (posN bs s)
theorem insBt_len (bs : List Bt) (s : Str) (l : List Str) : (insBt bs s l).length = bs.length + 1 := by
  have := (posN_spec bs s).1
  simp only [insBt, List.length_append, List.length_take, List.length_drop, List.length_cons, List.length_nil]; omega
theorem insBt_perm (bs : List Bt) (s : Str) (l : List Str) : (insBt bs s l).Perm (bs ++ [⟨s, [], l⟩]) := by
  unfold insBt
  rw [List.append_assoc, List.singleton_append]
  refine List.perm_middle.trans ?_
  rw [List.take_append_drop]
  exact (List.perm_append_singleton _ _).symm
theorem insBt_asc {bs : List Bt} {s : Str} {l : List Str} (hasc : AscB bs) (hno : ∀ b ∈ bs, b.name ≠ s) : AscB (insBt bs s l) := by
  obtain ⟨h1, h2, h3⟩ := posN_spec bs s
  have ht : ∀ b ∈ bs.take (posN bs s), bl b.name < bl s := fun b hb => by
    obtain ⟨i, hi, rfl⟩ := List.mem_iff_getElem.1 hb
    rw [List.length_take] at hi
    have := h2 i (by omega)
    rw [nth_getA (by omega)] at this
    rw [List.getElem_take]; exact this
  have hd : ∀ b ∈ bs.drop (posN bs s), bl s < bl b.name := fun b hb => by
    obtain ⟨i, hi, rfl⟩ := List.mem_iff_getElem.1 hb
    rw [List.length_drop] at hi
    rw [List.getElem_drop]
    have h4 : bl s < bl (bs[posN bs s]'(by omega)).name := by
      have h5 := h3 (by omega)
      rw [nth_getA (by omega)] at h5
      exact bl_lt_of h5 (hno _ (List.getElem_mem (by omega)))
    rcases Nat.eq_zero_or_pos i with h0 | h0
    · subst h0; exact h4
    · have := (List.pairwise_iff_getElem.1 hasc) (posN bs s) (posN bs s + i) (by omega) (by omega) (by omega)
      exact List.lt_trans h4 this
  unfold insBt AscB
  rw [List.append_assoc, List.singleton_append, List.pairwise_append]
  refine ⟨hasc.sublist (List.take_sublist _ _), ?_, fun a ha b hb => ?_⟩
  · rw [List.pairwise_cons]
    exact ⟨hd, hasc.sublist (List.drop_sublist _ _)⟩
  · rcases List.mem_cons.1 hb with rfl | hb
    · exact ht a ha
    · exact List.lt_trans (ht a ha) (hd b hb)
def insBk (p : Bk) (s : Str) (l : List Str) : Bk := ⟨p.things, insBt p.bs s l⟩
def enterR (p : Bk) (s : Str) (l : List Str) : Bk × Int :=
  if bookOk p = true then
    if (nameOk s && (risingB l && withinB l p.things)) = true then
      if 0 ≤ idxB p s then (p, 3) else if 5 ≤ p.bs.length then (p, 4) else (insBk p s l, 0)
    else (p, 2)
  else (emptyBk, 1)

theorem idx_none {p : Bk} {s : Str} (h : idxB p s < 0) : ∀ b ∈ p.bs, b.name ≠ s := by
  intro b hb e
  obtain ⟨i, hi, rfl⟩ := List.mem_iff_getElem.1 hb
  unfold idxB at h
  split at h
  · omega
  · rename_i h1
    rw [List.find?_eq_none] at h1
    have := h1 i (List.mem_range.2 hi)
    rw [nameAt, nth_getA hi, e] at this
    exact this ((strEq_iff _ _).2 rfl)
theorem insBk_small {p : Bk} {s : Str} {l : List Str} (hs : smallBk p) (hl : l.length ≤ 1048576) (h5 : p.bs.length < 5) : smallBk (insBk p s l) := by
  refine ⟨hs.1, by show (insBt _ _ _).length ≤ _; rw [insBt_len]; omega, fun i hi => ?_⟩
  have hm : nth (insBt p.bs s l) i ∈ p.bs ++ [(⟨s, [], l⟩ : Bt)] := (insBt_perm _ _ _).mem_iff.1 (nth_memA hi)
  show smallBt (nth (insBt p.bs s l) i)
  rcases List.mem_append.1 hm with h | h
  · obtain ⟨j, hj, e⟩ := List.mem_iff_getElem.1 h
    have := hs.2.2 j hj
    rw [nth_getA hj, e] at this
    exact this
  · rw [List.mem_singleton.1 h]; exact ⟨Nat.zero_le _, hl⟩
theorem cat_one {e sz n : Nat} {f g : Nat → List T} {r : List T} (h : g 0 = r) : Eqv (.sl e sz (n + 1) (catF n f g)) (.sl e sz (n + 1) (catF n f (fun _ => r))) := .rows fun j hj => by
  simp only [catF]
  split
  · rfl
  · rw [show j - n = 0 by omega]; exact h
def rowZ (s : Str) (l : List Str) : List T := [.str s, .nl, .fz (strs l)]
theorem enter_telZ (e : Nat) {bs : List Bt} {s : Str} {l : List Str} {i : Nat} (hi : posN bs s = i) : Tel (.sl e 3 ((([] ++ bs.take i).length + 1) + (bs.drop i).length) (catF (([] ++ bs.take i).length + 1) (catF ([] ++ bs.take i).length (fun j => (nth ([] ++ bs.take i) j).zcells) (fun _ => rowZ s l)) (fun j => (nth (bs.drop i) j).zcells))) (bts e (insBt bs s l)) := by
  subst hi
  have hle := (posN_spec bs s).1
  have e0 : ([] ++ bs.take (posN bs s)).length = posN bs s := by simp; omega
  unfold bts
  rw [insBt_len]
  have e1 : ([] ++ bs.take (posN bs s)).length + 1 + (bs.drop (posN bs s)).length = bs.length + 1 := by rw [e0, List.length_drop]; omega
  rw [e1]
  have hrow : ∀ j, j < bs.length + 1 → (nth (insBt bs s l) j) = if j < posN bs s then nth bs j else if j = posN bs s then ⟨s, [], l⟩ else nth bs (j - 1) := by
    intro j hj
    unfold insBt
    by_cases h : j < posN bs s
    · rw [if_pos h, nth_append_left (by simp; omega), nth_append_left (by simp; omega)]
      simp only [nth, List.getD_eq_getElem?_getD, List.getElem?_take, if_pos h]
    · rw [if_neg h]
      by_cases h2 : j = posN bs s
      · rw [if_pos h2, nth_append_left (by simp; omega), nth_append_right (by simp; omega)]
        subst h2
        rw [List.length_take, Nat.min_eq_left hle, Nat.sub_self]; rfl
      · rw [if_neg h2, nth_append_right (by simp; omega)]
        simp only [nth, List.getD_eq_getElem?_getD, List.getElem?_drop, List.length_append, List.length_take, List.length_cons, List.length_nil, Nat.min_eq_left hle]
        congr 2; congr 1; omega
  refine .rows (fun j hj => ?_) (fun j k hj => ?_)
  · simp only [catF]; split
    · split <;> rfl
    · rfl
  · rw [hrow j hj]
    simp only [catF, e0]
    by_cases h : j < posN bs s
    · rw [if_pos (show j < posN bs s + 1 by omega), if_pos h, if_pos h]
      have : nth ([] ++ bs.take (posN bs s)) j = nth bs j := by simp only [nth, List.nil_append, List.getD_eq_getElem?_getD, List.getElem?_take, if_pos h]
      rw [this]; exact .refl _
    · by_cases h2 : j = posN bs s
      · rw [if_pos (show j < posN bs s + 1 by omega), if_neg h, if_neg h, if_pos h2]
        match k with
        | 0 => exact .refl _
        | 1 => exact .nlz _ _ _
        | 2 => exact .refl _
        | _ + 3 => exact .refl _
      · rw [if_neg (show ¬ j < posN bs s + 1 by omega), if_neg h, if_neg h2]
        have : nth (bs.drop (posN bs s)) (j - (posN bs s + 1)) = nth bs (j - 1) := by
          simp only [nth, List.getD_eq_getElem?_getD, List.getElem?_drop]
          congr 2; omega
        rw [this]; exact .refl _

theorem ynZs29 : zeroSz Try.prog 29 = some 2 := by kernel_rfl
theorem ynSt29 : structSz Try.prog 29 = some 2 := by kernel_rfl
theorem ynCo27 : callOk Try.prog 27 = true := by kernel_rfl
theorem ynPl29 : structPl Try.prog 29 = some [(0, 1), (1, 1)] := by kernel_rfl
theorem ynZc29 : zeroCs Try.prog 29 = some [.nil, .nil] := by kernel_rfl
theorem ynCs29 : cellsSz Try.prog 29 = some (1 + 1) := by kernel_rfl
theorem ynCo69 : callOk Try.prog 69 = true := by kernel_rfl
theorem ynCo78 : callOk Try.prog 78 = true := by kernel_rfl
theorem ynFo29_0 : fieldOff Try.prog 29 0 = some 0 := by kernel_rfl
theorem ynSc22 : scalarB Try.prog 22 = true := by kernel_rfl
theorem ynCo79 : callOk Try.prog 79 = true := by kernel_rfl
theorem ynCo70 : callOk Try.prog 70 = true := by kernel_rfl
theorem ynFo29_1 : fieldOff Try.prog 29 1 = some 1 := by kernel_rfl
theorem ynSc27 : scalarB Try.prog 27 = true := by kernel_rfl
theorem ynSl27 : sliceT Try.prog 27 = some ⟨48, 3, 64⟩ := by kernel_rfl
theorem ynFo48_0 : fieldOff Try.prog 48 0 = some 0 := by kernel_rfl
theorem ynSc9 : scalarB Try.prog 9 = true := by kernel_rfl
theorem ynCo80 : callOk Try.prog 80 = true := by kernel_rfl
theorem ynPl48 : structPl Try.prog 48 = some [(0, 1), (1, 1), (2, 1)] := by kernel_rfl
theorem ynZc48 : zeroCs Try.prog 48 = some [.v (.str ⟨#[]⟩), .nil, .nil] := by kernel_rfl
theorem ynCs27 : cellsSz Try.prog 27 = some (0 + 1) := by kernel_rfl
theorem ynMo : Try.prog.follows .mixedOrders = true := by kernel_rfl
theorem enterS (p : Bk) (s : Str) (l : List Str) (hs : smallBk p) (hl : l.length ≤ 1048576) : ASpec Try.prog 19 [.agg (p.cells 48), .one (.str s), .one (strs l)] (.tup [.agg ((enterR p s l).1.ocells 48), .one (.int .i64 (enterR p s l).2)]) := by
  refine ASpec.bodyC Try.func19 rfl 6 29 [7] rfl rfl 74 rfl rfl rfl ?_
  have hs1 := hs.2.1
  have hix := idxB_lt p s
  refine AWp.seq (AWp.region ?_)
  refine ARun.step rfl (step_box_p (m := 1) rfl (hn rfl) rfl rfl rfl rfl rfl) ?_
  refine ARun.step rfl (step_alloc_p rfl (hn rfl) rfl ynZs29) ?_
  refine ARun.step rfl (step_assignV rfl (hn rfl) rfl rfl) ?_
  refine ARun.nil ?_
  refine AWp.seq ?_
  refine AWp.seq (AWp.region ?_)
  refine ARun.step rfl (step_loadS_b rfl (hn rfl) rfl ynSt29 rfl rfl rfl (by decide)) ?_
  refine ARun.step rfl (call_step1 rfl (hn rfl) rfl ynCo27 (.cons rfl (.agg (.cons (.v _) (.cons (.v _) .nil))) (.nil)) (bookOkS _) rfl) ?_
  refine ARun.step rfl (step_not rfl (hn rfl) rfl rfl) ?_
  refine ARun.nil ?_
  refine AWp.cond rfl (fun c1 => ?_) (fun c1 => ?_)
  · try simp only [nrm] at c1
    refine AWp.seq (AWp.region ?_)
    refine ARun.step rfl (step_build rfl (hn rfl) rfl ynPl29 ynZc29 (.nil) rfl) ?_
    refine ARun.step rfl (step_store_p rfl rfl ynCs29 rfl rfl rfl rfl rfl rfl rfl) ?_
    refine ARun.step rfl (step_assignV rfl (hn rfl) rfl rfl) ?_
    refine ARun.nil ?_
    refine AWp.ret ?_
    refine ⟨.inr rfl, 6, 2, _, _, _, ynSt29, by decide, rfl, rfl, rfl, rfl, (.cons rfl (.agg (.cons (.nil 9 1 (fun i => [.str (nth [] i)]) _) (.cons (.nil 48 3 (fun i => (nth ([] : List Bt) i).cells) _) (.nil _)))) (.cons rfl (.one (.sc _ _ rfl)) (.nil _))), rfl, ?_⟩
    rw [show enterR p s l = (emptyBk, 1) by simp only [enterR]; grind]
    rfl
  · try simp only [nrm] at c1
    refine AWp.skip ?_
    refine AWp.seq (AWp.region ?_)
    refine ARun.step rfl (step_loadS_b rfl (hn rfl) rfl ynSt29 rfl rfl rfl (by decide)) ?_
    refine ARun.step rfl (call_stepN rfl (hn rfl) rfl ynCo69 (.cons rfl (.agg (.cons (.v _) (.cons (.v _) .nil))) (.nil)) (copyS _ hs) rfl rfl) ?_
    refine ARun.step rfl (step_alloc_p rfl (hn rfl) rfl ynZs29) ?_
    refine ARun.step rfl (step_store_r rfl rfl ynCs29 rfl rfl rfl rfl rfl rfl rfl) ?_
    refine ARun.nil ?_
    refine AWp.seq ?_
    refine AWp.seq (AWp.region ?_)
    refine ARun.step rfl (step_moveV rfl (hn rfl) rfl rfl) ?_
    refine ARun.step rfl (call_step1 rfl (hn rfl) rfl ynCo78 (.cons rfl (.one (.v _)) (.nil)) (l51NameOk s) rfl) ?_
    refine ARun.step rfl (step_not rfl (hn rfl) rfl rfl) ?_
    refine ARun.step rfl (step_moveV rfl (hn rfl) rfl rfl) ?_
    refine guardS rfl rfl rfl rfl (hn rfl) (fun g1 g2 => step_moveV rfl (hn rfl) rfl rfl) ?_
    refine guardS rfl rfl rfl rfl (hn rfl) (fun g1 g2 => step_field_b rfl (hn rfl) rfl ynFo29_0 rfl (by exact List.cons_ne_nil _ _)) ?_
    refine guardS rfl rfl rfl rfl (hn rfl) (fun g1 g2 => step_load_b rfl (hn rfl) rfl ynSc22 (ev_true rfl (by exact flag2 g1 g2)) rfl) ?_
    refine guardS rfl rfl rfl rfl (hn rfl) (fun g1 g2 => call_step1 rfl (hn rfl) rfl ynCo79 (.cons (ev_true rfl (by exact flag2 g1 g2)) (.one (.v _)) (.cons (ev_true rfl (by exact flag2 g1 g2)) (.one (.v _)) (.nil))) (l51NamesOk l p.things) rfl) ?_
    refine guardS rfl rfl rfl rfl (hn rfl) (fun g1 g2 => step_not rfl (hn rfl) rfl (ev_true rfl (by exact flag2 g1 g2))) ?_
    refine ARun.step rfl (step_or rfl (hn rfl) rfl rfl rfl (fun h => (by exact flag1 h))) ?_
    refine ARun.nil ?_
    refine AWp.cond rfl (fun c2 => ?_) (fun c2 => ?_)
    · try simp only [nrm] at c2
      refine AWp.seq (AWp.region ?_)
      refine ARun.step rfl (step_loadS_b rfl (hn rfl) rfl ynSt29 rfl rfl rfl (by decide)) ?_
      refine ARun.step rfl (step_store_r rfl rfl ynCs29 rfl rfl rfl rfl rfl rfl rfl) ?_
      refine ARun.step rfl (step_assignV rfl (hn rfl) rfl rfl) ?_
      refine ARun.nil ?_
      refine AWp.ret ?_
      refine ⟨.inr rfl, 6, 2, _, _, _, ynSt29, by decide, rfl, rfl, rfl, rfl, (.cons rfl (.agg (.cons (.ref _ _ rfl) (.cons (.ref _ _ rfl) (.nil _)))) (.cons rfl (.one (.sc _ _ rfl)) (.nil _))), rfl, ?_⟩
      rw [show enterR p s l = (p, 2) by simp only [enterR]; grind]
      rfl
    · try simp only [nrm] at c2
      refine AWp.skip ?_
      refine AWp.seq ?_
      refine AWp.seq (AWp.region ?_)
      refine ARun.step rfl (step_loadS_b rfl (hn rfl) rfl ynSt29 rfl rfl rfl (by decide)) ?_
      refine ARun.step rfl (step_moveV rfl (hn rfl) rfl rfl) ?_
      refine ARun.step rfl (call_step1 rfl (hn rfl) rfl ynCo70 (.cons rfl (.agg (.cons (.v _) (.cons (.v _) .nil))) (.cons rfl (.one (.v _)) (.nil))) (l51At p s) rfl) ?_
      refine ARun.step rfl (step_geq rfl (hn rfl) rfl rfl rfl) ?_
      refine ARun.nil ?_
      refine AWp.cond rfl (fun c3 => ?_) (fun c3 => ?_)
      · try simp only [nrm] at c3
        refine AWp.seq (AWp.region ?_)
        refine ARun.step rfl (step_loadS_b rfl (hn rfl) rfl ynSt29 rfl rfl rfl (by decide)) ?_
        refine ARun.step rfl (step_store_r rfl rfl ynCs29 rfl rfl rfl rfl rfl rfl rfl) ?_
        refine ARun.step rfl (step_assignV rfl (hn rfl) rfl rfl) ?_
        refine ARun.nil ?_
        refine AWp.ret ?_
        refine ⟨.inr rfl, 6, 2, _, _, _, ynSt29, by decide, rfl, rfl, rfl, rfl, (.cons rfl (.agg (.cons (.ref _ _ rfl) (.cons (.ref _ _ rfl) (.nil _)))) (.cons rfl (.one (.sc _ _ rfl)) (.nil _))), rfl, ?_⟩
        rw [show enterR p s l = (p, 3) by simp only [enterR]; grind]
        rfl
      · try simp only [nrm] at c3
        refine AWp.skip ?_
        refine AWp.seq ?_
        refine AWp.seq (AWp.region ?_)
        refine ARun.step rfl (step_field_b rfl (hn rfl) rfl ynFo29_1 rfl (by exact List.cons_ne_nil _ _)) ?_
        refine ARun.step rfl (step_load_b rfl (hn rfl) rfl ynSc27 rfl rfl) ?_
        refine ARun.step rfl (step_len_f rfl (hn rfl) rfl ynSl27 rfl) ?_
        refine ARun.step rfl (step_geq rfl (hn rfl) rfl rfl rfl) ?_
        refine ARun.nil ?_
        refine AWp.cond rfl (fun c4 => ?_) (fun c4 => ?_)
        · try simp only [nrm] at c4
          refine AWp.seq (AWp.region ?_)
          refine ARun.step rfl (step_loadS_b rfl (hn rfl) rfl ynSt29 rfl rfl rfl (by decide)) ?_
          refine ARun.step rfl (step_store_r rfl rfl ynCs29 rfl rfl rfl rfl rfl rfl rfl) ?_
          refine ARun.step rfl (step_assignV rfl (hn rfl) rfl rfl) ?_
          refine ARun.nil ?_
          refine AWp.ret ?_
          refine ⟨.inr rfl, 6, 2, _, _, _, ynSt29, by decide, rfl, rfl, rfl, rfl, (.cons rfl (.agg (.cons (.ref _ _ rfl) (.cons (.ref _ _ rfl) (.nil _)))) (.cons rfl (.one (.sc _ _ rfl)) (.nil _))), rfl, ?_⟩
          rw [show enterR p s l = (p, 4) by simp only [enterR]; grind]
          rfl
        · try simp only [nrm] at c4
          refine AWp.skip ?_
          refine AWp.seq (AWp.region ?_)
          refine ARun.step rfl (step_assignV rfl (hn rfl) rfl rfl) ?_
          refine ARun.nil ?_
          refine AWp.seq ?_
          refine AWp.block ?_
          refine AWp.loopM (fun i : Nat => mkAS 74 [(1, ⟨true, .one (.v (.str s))⟩), (2, ⟨true, .one (.v (strs l))⟩), (3, ⟨true, .one (.bptr 3 0)⟩), (6, ⟨true, .one (.bptr 6 0)⟩), (8, ⟨true, .one (.bptr 8 0)⟩), (9, ⟨true, .one (.v (.int .i64 (i : Nat)))⟩)] [(3, (p.cells 48).map C.v), (6, [.any, .any]), (8, [.ref ⟨.arr 15 0, []⟩, .ref ⟨.arr 15 1, []⟩])] [(15, 0, strs p.things), (15, 1, btsO 48 p.bs)]) (fun i => i ≤ p.bs.length ∧ ∀ j, j < i → strLt (nth p.bs j).name s = true) (fun i => p.bs.length - i) 0 ?_ (Le.forgetR rfl ⟨rfl, rfl, rfl, rfl, rfl, rfl, trivial⟩ ⟨rfl, rfl, rfl, trivial⟩ ⟨.refl _, .refl _, trivial⟩) ?_
          · try dsimp only
            exact ⟨by omega, by omega⟩
          rintro i ⟨hi, hall⟩
          refine AWp.seq ?_
          refine AWp.seq (AWp.region ?_)
          refine ARun.step rfl (step_moveV rfl (hn rfl) rfl rfl) ?_
          refine ARun.step rfl (step_field_b rfl (hn rfl) rfl ynFo29_1 rfl (by exact List.cons_ne_nil _ _)) ?_
          refine ARun.step rfl (step_load_b rfl (hn rfl) rfl ynSc27 rfl rfl) ?_
          refine ARun.step rfl (step_len_r rfl (hn rfl) rfl ynSl27 rfl rfl) ?_
          refine ARun.step rfl (step_lss rfl (hn rfl) rfl rfl rfl) ?_
          refine ARun.step rfl (step_moveV rfl (hn rfl) rfl rfl) ?_
          refine guardS rfl rfl rfl rfl (hn rfl) (fun g1 g2 => step_field_b rfl (hn rfl) rfl ynFo29_1 rfl (by exact List.cons_ne_nil _ _)) ?_
          refine guardS rfl rfl rfl rfl (hn rfl) (fun g1 g2 => step_load_b rfl (hn rfl) rfl ynSc27 (ev_true rfl (by exact flag2 g1 g2)) rfl) ?_
          refine guardS rfl rfl rfl rfl (hn rfl) (fun g1 g2 => step_moveV rfl (hn rfl) rfl rfl) ?_
          refine guardS rfl rfl rfl rfl (hn rfl) (fun g1 g2 => step_index_rN rfl (hn rfl) rfl ynSl27 (ev_true rfl (by exact flag2 g1 g2)) rfl (ev_true rfl (by exact flag2 g1 g2)) (by first | omega | (have := of_decide_eq_true g2; omega) | (have := of_decide_eq_false g2; omega) | (simp only [nrm] at g2; omega) | (simp only [nrm, Bool.true_and] at g1 g2; omega))) ?_
          refine guardS rfl rfl rfl rfl (hn rfl) (fun g1 g2 => step_field_e rfl (hn rfl) rfl ynFo48_0 (ev_true rfl (by exact flag2 g1 g2)) rfl) ?_
          refine guardS rfl rfl rfl rfl (hn rfl) (fun g1 g2 => step_load_e rfl (hn rfl) rfl ynSc9 (ev_true rfl (by exact flag2 g1 g2)) rfl (by first | omega | (have := of_decide_eq_true g2; omega) | (have := of_decide_eq_false g2; omega) | (simp only [nrm] at g2; omega) | (simp only [nrm, Bool.true_and] at g1 g2; omega)) (hn rfl) rfl) ?_
          refine guardS rfl rfl rfl rfl (hn rfl) (fun g1 g2 => step_moveV rfl (hn rfl) rfl rfl) ?_
          refine guardS rfl rfl rfl rfl (hn rfl) (fun g1 g2 => step_slss rfl (hn rfl) rfl (ev_true rfl (by exact flag2 g1 g2)) (ev_true rfl (by exact flag2 g1 g2))) ?_
          refine ARun.step rfl (step_and rfl (hn rfl) rfl rfl rfl (fun h => (by exact flag1 h))) ?_
          refine ARun.nil ?_
          refine AWp.cond rfl (fun c5 => ?_) (fun c5 => ?_)
          · try simp only [nrm] at c5
            refine AWp.skip ?_
            refine AWp.block ?_
            refine AWp.region ?_
            refine ARun.step rfl (step_moveV rfl (hn rfl) rfl rfl) ?_
            refine ARun.step rfl (step_addI rfl (hn rfl) rfl rfl rfl (by omega) (by omega)) ?_
            refine ARun.step rfl (step_assignV rfl (hn rfl) rfl rfl) ?_
            refine ARun.nil ?_
            refine ⟨i + 1, ?_, ?_, Le.forgetR rfl ⟨rfl, rfl, rfl, rfl, rfl, rfl, trivial⟩ ⟨rfl, rfl, rfl, trivial⟩ ⟨.refl _, .refl _, trivial⟩⟩
            · try dsimp only
              exact ⟨by omega, upto hall (by grind)⟩
            · try dsimp only
              omega
          · try simp only [nrm] at c5
            refine AWp.exit ?_
            have hpos : posN p.bs s = i := posN_eq hall hi (by grind)
            have hl1 : ([] ++ p.bs.take i).length ≤ 1048576 := by simp only [List.nil_append, List.length_take]; omega
            have hl2 : (List.drop i p.bs).length ≤ 1048576 := by simp only [List.length_drop]; omega
            refine AWp.le (Le.fzBelow ⟨.arr 15 1, []⟩ (fun i => (nth p.bs i).zcells) rfl (fun _ _ => rfl) (bt_fz p.bs)) ?_
            refine AWp.le (Le.letGo 15 1 (g := fun i => (nth p.bs i).zcells) rfl (fun _ _ => rfl)) ?_
            refine AWp.seq (AWp.drawM [⟨⟨[], [.s 54, .a 54 0], false⟩, some 54, [59, 65]⟩, ⟨⟨[.s 8, .b 8], [.s 55], false⟩, none, [54, 59, 65]⟩, ⟨⟨[.s 55, .b 8], [.s 56], false⟩, none, [54, 59, 65]⟩, ⟨⟨[.s 9], [.s 57], false⟩, none, [54, 59, 65]⟩, ⟨⟨[.s 57, .s 56], [.s 58], false⟩, none, [54, 59, 65]⟩, ⟨⟨[.s 54, .a 54 0, .s 58], [.s 59, .a 59 0, .a 54 0], false⟩, some 59, [65]⟩, ⟨⟨[.s 1], [.s 60], false⟩, none, [54, 59, 65]⟩, ⟨⟨[.s 2], [.s 61], false⟩, none, [54, 59, 65]⟩, ⟨⟨[.s 61], [.s 62], false⟩, none, [65]⟩, ⟨⟨[.s 62, .s 60], [.s 63], false⟩, none, [65]⟩, ⟨⟨[.s 63], [.s 64], false⟩, none, [65]⟩, ⟨⟨[.s 59, .a 59 0, .s 64], [.s 65, .a 65 0, .a 59 0], false⟩, some 65, []⟩, ⟨⟨[.s 8, .b 8], [.s 66], false⟩, none, [54, 59, 65]⟩, ⟨⟨[.s 66, .b 8], [.s 67], false⟩, none, [54, 59, 65]⟩, ⟨⟨[.s 9], [.s 68], false⟩, none, [54, 59, 65]⟩, ⟨⟨[.s 68, .s 67], [.s 69], false⟩, none, [54, 59, 65]⟩, ⟨⟨[], [], true⟩, none, []⟩, ⟨⟨[], [], true⟩, none, []⟩, ⟨⟨[], [], true⟩, none, []⟩] ynMo rfl rfl (Le.forgetR (n := 74) (sl := [(1, _), (2, _), (3, _), (6, _), (8, _), (9, _), (37, _), (38, _), (39, _), (40, _), (41, _), (42, _), (51, _)]) (bl := [(3, _), (6, _), (8, _)]) (al := [(15, 0, _), (15, 1, _)]) rfl ⟨rfl, rfl, rfl, rfl, rfl, rfl, rfl, rfl, rfl, rfl, rfl, rfl, rfl, trivial⟩ ⟨rfl, rfl, rfl, trivial⟩ ⟨.refl _, .refl _, trivial⟩) rfl ?_)
            refine FRun.made (L := []) (t := bts 48 []) rfl (fun τ hN hr hF => step_buildE rfl (rdN hN (hn rfl)) rfl ynSl27 hF _) (by exact rfl) ?_
            refine FRun.slot rfl (fun τ hN hr => step_field_b rfl (rdN hN (hn rfl)) rfl ynFo29_1 (by exact rdS hr rfl rfl) (by exact rdBne hr rfl (by exact List.cons_ne_nil _ _))) (by exact rfl) ?_
            refine FRun.slot rfl (fun τ hN hr => step_load_b rfl (rdN hN (hn rfl)) rfl ynSc27 (by exact rdS hr rfl rfl) (by exact rdBget hr rfl rfl)) (by exact rfl) ?_
            refine FRun.slot rfl (fun τ hN hr => step_moveV rfl (rdN hN (hn rfl)) rfl (by exact rdS hr rfl rfl)) (by exact rfl) ?_
            refine FRun.slot rfl (fun τ hN hr => step_sliceF rfl (rdN hN (hn rfl)) rfl ynSl27 (bts 48 (p.bs.take i)) (by exact rdS hr rfl rfl) (.dflt _) (.val _ (by exact rdS hr rfl rfl)) rfl (by rw [List.length_take]; omega) (by omega) (bts_take _ _)) (by exact rfl) ?_
            refine FRun.made (L := [(54, 0)]) (t := bts 48 ([] ++ p.bs.take i)) rfl (fun τ hN hr hF => (step_appendF rfl (rdN hN (hn rfl)) rfl ynSl27 hF (by exact rdS hr rfl rfl) (by exact rdA hr rfl rfl) (by exact rdS hr rfl rfl) (.v _) (fun _ _ => rfl) (by first | omega | (simp only [List.length_cons, List.length_nil, List.length_append, List.length_take, List.length_drop]; omega)) (by first | omega | (simp only [List.length_cons, List.length_nil, List.length_append, List.length_take, List.length_drop]; omega))).le (Le.eqvArr (bts_cat _ [] _))) (by exact rfl) ?_
            refine FRun.slot rfl (fun τ hN hr => step_moveV rfl (rdN hN (hn rfl)) rfl (by exact rdS hr rfl rfl)) (by exact rfl) ?_
            refine FRun.slot rfl (fun τ hN hr => step_moveV rfl (rdN hN (hn rfl)) rfl (by exact rdS hr rfl rfl)) (by exact rfl) ?_
            refine FRun.slot rfl (fun τ hN hr => call_stepZ rfl (rdN hN (hn rfl)) rfl ynCo80 (.cons (by exact rdS hr rfl rfl) (.one (.v _)) (.nil)) ((namesC l hl).letGo (.p (.one (.fz (.refl _))))) rfl (by exact rdNoRefs hr rfl rfl)) (by exact rfl) ?_
            refine FRun.slot rfl (fun τ hN hr => step_build rfl (rdN hN (hn rfl)) rfl ynPl48 ynZc48 ((by exact .cons (by exact rdS hr rfl rfl) rfl rfl rfl (.cons (by exact rdS hr rfl rfl) rfl rfl rfl (.nil)))) rfl) (by exact rfl) ?_
            refine FRun.slot rfl (fun τ hN hr => step_buildV rfl (rdN hN (hn rfl)) rfl ynSl27 ((by exact .cons (by exact rdS hr rfl rfl) rfl rfl rfl (.nil _))) rfl rfl) (by exact rfl) ?_
            refine FRun.made (L := [(59, 0)]) (t := .sl 48 3 (([] ++ p.bs.take i).length + 1) (catF ([] ++ p.bs.take i).length (fun j => (nth ([] ++ p.bs.take i) j).zcells) (fun _ => rowZ s l))) rfl (fun τ hN hr hF => (step_appendF rfl (rdN hN (hn rfl)) rfl ynSl27 hF (by exact rdS hr rfl rfl) (by exact rdA hr rfl rfl) (by exact rdS hr rfl rfl) (.v _) (flatRows_one rfl) (by first | omega | (simp only [List.length_cons, List.length_nil, List.length_append, List.length_take, List.length_drop]; omega)) (by first | omega | (simp only [List.length_cons, List.length_nil, List.length_append, List.length_take, List.length_drop]; omega))).le (Le.eqvArr ((cat_one rfl)))) (by exact rfl) ?_
            refine FRun.slot rfl (fun τ hN hr => step_field_b rfl (rdN hN (hn rfl)) rfl ynFo29_1 (by exact rdS hr rfl rfl) (by exact rdBne hr rfl (by exact List.cons_ne_nil _ _))) (by exact rfl) ?_
            refine FRun.slot rfl (fun τ hN hr => step_load_b rfl (rdN hN (hn rfl)) rfl ynSc27 (by exact rdS hr rfl rfl) (by exact rdBget hr rfl rfl)) (by exact rfl) ?_
            refine FRun.slot rfl (fun τ hN hr => step_moveV rfl (rdN hN (hn rfl)) rfl (by exact rdS hr rfl rfl)) (by exact rfl) ?_
            refine FRun.slot rfl (fun τ hN hr => step_sliceF rfl (rdN hN (hn rfl)) rfl ynSl27 (bts 48 (p.bs.drop i)) (by exact rdS hr rfl rfl) (.val _ (by exact rdS hr rfl rfl)) (.dflt _) rfl (by rw [List.length_drop]; omega) (by omega) (bts_drop _ _)) (by exact rfl) ?_
            refine FRun.whole rfl (step_append rfl (hn rfl) rfl ynSl27 rfl rfl rfl (.v _) (fun _ _ => rfl) (by omega) (by omega)) (by exact rfl) ?_
            refine FRun.whole rfl (step_field_b rfl (hn rfl) rfl ynFo29_1 rfl (by exact List.cons_ne_nil _ _)) (by exact rfl) ?_
            refine FRun.whole rfl (step_store_r rfl rfl ynCs27 rfl rfl rfl rfl rfl rfl rfl) (by exact rfl) ?_
            refine FRun.nil ?_
            refine AWp.le (Le.telArr 65 0 (t' := bts 48 (insBt p.bs s l)) (enter_telZ _ hpos)) ?_
            refine AWp.seq (AWp.region ?_)
            refine ARun.step rfl (step_loadS_b rfl (hn rfl) rfl ynSt29 rfl rfl rfl (by decide)) ?_
            refine ARun.step rfl (call_stepC rfl (hn rfl) rfl ynCo69 (.cons rfl (.agg (.cons (.ref _ rfl) (.cons (.ref _ rfl) .nil))) (.nil)) (copyS (insBk p s l) (insBk_small hs hl (by omega))) rfl (CleanL.all (.cons (clean_strs _) (.cons (clean_btsO _ _) .nil)))) ?_
            refine ARun.step rfl (step_store_r rfl rfl ynCs29 rfl rfl rfl rfl rfl rfl rfl) ?_
            refine ARun.step rfl (step_assignV rfl (hn rfl) rfl rfl) ?_
            refine ARun.nil ?_
            refine AWp.ret ?_
            refine ⟨.inr rfl, 6, 2, _, _, _, ynSt29, by decide, rfl, rfl, rfl, rfl, (.cons rfl (.agg (.cons (.ref _ _ rfl) (.cons (.ref _ _ rfl) (.nil _)))) (.cons rfl (.one (.sc _ _ rfl)) (.nil _))), rfl, ?_⟩
            rw [show enterR p s l = (insBk p s l, 0) by simp only [enterR]; grind]
            rfl

end Go.Proofs.Ytkmacjdigkaabaa
