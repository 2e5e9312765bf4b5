/- Contracts of functions of the program, each met by its body; conditions stand in each statement. No condition. -/
import Derived.Test.YtkmacjdigkaabaaGreatiBase
import Derived.Test.YtkmacjdigkaabaaGreatiSort
import Derived.Test.YtkmacjdigkaabaaGreatHc
import Derived.Test.YtkmacjdigkaabaaGreatProg
import Derived.KernelRfl
set_option linter.unusedVariables false
set_option linter.unusedSimpArgs false
set_option linter.unnecessarySimpa false
set_option linter.unusedSimpArgs false
set_option maxRecDepth 100000
namespace Go.Proofs.YtkmacjdigkaabaaGreat
open Go Go.Mh

theorem sortB_tree (l : List Str) : T.sl 9 1 l.length (fun i => [.str (nth (sortB l) i)]) = strs (sortB l) := by unfold strs; rw [sortB_len]
theorem sortStrM (l : List Str) (h : l.length < 4611686018427387904) : MSpec Tryz.prog 146 [.one (.rw (strs l) (.sl 9 1 l.length (fun i => [.str (nth (sortB l) i)])))] .dead := by
  rw [sortB_tree]; exact sortM sortsStr 9 l h
theorem bl_inj {x y : Str} (h : bl x = bl y) : x = y := by rw [← unbl_bl x, ← unbl_bl y, h]
theorem bytesLt : ∀ (x y : List UInt8), Op.bytesLess x y = decide (x < y)
  | [], [] => by simp [Op.bytesLess]
  | _ :: _, [] => by simp [Op.bytesLess]
  | [], _ :: _ => by simp [Op.bytesLess]
  | a :: x, b :: y => by
    rw [Op.bytesLess, bytesLt x y]
    simp only [List.cons_lt_cons_iff, Bool.decide_or, Bool.decide_and]
    congr 1
theorem strLt_iff (x y : Str) : strLt x y = true ↔ bl x < bl y := by
  unfold strLt bl; rw [bytesLt, ByteArray.toList_eq, ByteArray.toList_eq]; simp
theorem strEq_iff (x y : Str) : strEq x y = true ↔ x = y := by
  unfold strEq
  rw [ByteArray.toList_eq, ByteArray.toList_eq, beq_iff_eq]
  exact ⟨fun h => bl_inj h, fun h => by rw [h]⟩
theorem bl_lt_of {x y : Str} (h : ¬ bl x < bl y) (hne : x ≠ y) : bl y < bl x := by
  rcases List.le_total (bl x) (bl y) with h1 | h1
  · have h2 : bl y ≤ bl x := List.not_lt.1 h
    exact absurd (bl_inj (List.le_antisymm h1 h2)) hne
  · refine Classical.byContradiction fun h3 => hne (bl_inj (List.le_antisymm (List.not_lt.1 h3) h1))
theorem bl_trans {x y z : Str} (h : bl x < bl y) (k : bl y < bl z) : bl x < bl z := List.lt_trans h k
theorem bl_irr {x : Str} (h : bl x < bl x) : False := List.lt_irrefl _ h
/-- ascending, each once -/
def Asc (l : List Str) : Prop := l.Pairwise (fun a b => bl a < bl b)
theorem nth_mem {l : List Str} {i : Nat} (h : i < l.length) : nth l i ∈ l := by
  simp only [nth, List.getD_eq_getElem?_getD, List.getElem?_eq_getElem h, Option.getD_some]; exact List.getElem_mem h
theorem nth_get {l : List Str} {i : Nat} (h : i < l.length) : nth l i = l[i] := by
  simp only [nth, List.getD_eq_getElem?_getD, List.getElem?_eq_getElem h, Option.getD_some]
theorem mem_nth {l : List Str} {x : Str} (h : x ∈ l) : ∃ i, i < l.length ∧ nth l i = x := by
  obtain ⟨i, hi, rfl⟩ := List.mem_iff_getElem.1 h
  exact ⟨i, hi, nth_get hi⟩
theorem has_mem (l : List Str) (s : Str) : hasB l s = true ↔ s ∈ l := by
  simp only [hasB, List.any_eq_true, List.mem_range, strEq_iff]
  constructor
  · rintro ⟨i, hi, rfl⟩; exact nth_mem hi
  · intro h; exact mem_nth h
theorem within_iff (a b : List Str) : withinB a b = true ↔ ∀ x ∈ a, x ∈ b := by
  simp only [withinB, List.all_eq_true, List.mem_range, has_mem]
  constructor
  · intro h x hx
    obtain ⟨i, hi, rfl⟩ := mem_nth hx
    exact h i hi
  · intro h i hi; exact h _ (nth_mem hi)
theorem meets_iff (a b : List Str) : meetsB a b = true ↔ ∃ x ∈ a, x ∈ b := by
  simp only [meetsB, List.any_eq_true, List.mem_range, has_mem]
  constructor
  · rintro ⟨i, hi, h⟩; exact ⟨_, nth_mem hi, h⟩
  · rintro ⟨x, hx, h⟩
    obtain ⟨i, hi, rfl⟩ := mem_nth hx
    exact ⟨i, hi, h⟩
theorem rising_asc (l : List Str) : risingB l = true ↔ Asc l := by
  simp only [risingB, List.all_eq_true, List.mem_range, risAt, Bool.or_eq_true, beq_iff_eq, strLt_iff, Asc, List.pairwise_iff_getElem]
  constructor
  · intro h i j hi hj hij
    induction j with
    | zero => omega
    | succ j ih =>
      have h1 := h (j + 1) hj
      rw [nth_get (by omega : j + 1 - 1 < l.length), nth_get hj] at h1
      have h2 : bl l[j] < bl l[j + 1] := by
        rcases h1 with h1 | h1
        · omega
        · exact h1
      by_cases e : i = j
      · subst e; exact h2
      · exact List.lt_trans (ih (by omega) (by omega)) h2
  · intro h i hi
    by_cases e : i = 0
    · exact .inl e
    · right
      rw [nth_get (by omega : i - 1 < l.length), nth_get hi]
      exact h (i - 1) i (by omega) hi (by omega)
theorem Asc.nodup {l : List Str} (h : Asc l) : l.Nodup := h.imp fun hab e => by rw [e] at hab; exact bl_irr hab
theorem asc_ext {a b : List Str} (ha : Asc a) (hb : Asc b) (h : ∀ x, x ∈ a ↔ x ∈ b) : a = b :=
  List.Perm.eq_of_pairwise (fun x y _ _ h1 h2 => (bl_irr (bl_trans h1 h2)).elim) ha hb ((List.perm_ext_iff_of_nodup ha.nodup hb.nodup).2 h)
/-- with: what is not there yet is added, and all is sorted -/
def addB (l : List Str) (s : Str) : List Str := if hasB l s = true then l else l ++ [s]
def addsGo (l m : List Str) : Nat → List Str
  | 0 => l
  | i + 1 => addB (addsGo l m i) (nth m i)
theorem addB_yes {l : List Str} {s : Str} (h : hasB l s = true) : l = addB l s := by rw [addB, if_pos h]
theorem addB_no {l : List Str} {s : Str} (h : hasB l s = false) : l ++ [s] = addB l s := by rw [addB, if_neg (by simp [h])]
theorem addB_len (l : List Str) (s : Str) : l.length ≤ (addB l s).length ∧ (addB l s).length ≤ l.length + 1 := by
  unfold addB; split
  · omega
  · simp only [List.length_append, List.length_cons, List.length_nil]; omega
theorem addsGo_len (l m : List Str) : ∀ i, (addsGo l m i).length ≤ l.length + i
  | 0 => Nat.le_refl _
  | i + 1 => by
    have h1 := addsGo_len l m i
    have h2 := addB_len (addsGo l m i) (nth m i)
    show (addB (addsGo l m i) (nth m i)).length ≤ _
    omega
def withB (l m : List Str) : List Str := sortB (addsGo l m m.length)
theorem addsGo_spec {l : List Str} (hl : l.Nodup) (m : List Str) : ∀ i, i ≤ m.length → (addsGo l m i).Nodup ∧ ∀ x, x ∈ addsGo l m i ↔ x ∈ l ∨ x ∈ m.take i
  | 0, _ => ⟨hl, fun x => by simp [addsGo]⟩
  | i + 1, hi => by
    obtain ⟨h1, h2⟩ := addsGo_spec hl m i (by omega)
    have ht : m.take (i + 1) = m.take i ++ [nth m i] := by rw [List.take_succ_eq_append_getElem (by omega), nth_get (by omega)]
    simp only [addsGo, addB]
    split
    · rename_i hh
      have hm := (has_mem _ _).1 hh
      refine ⟨h1, fun x => ?_⟩
      rw [ht, h2 x, List.mem_append, List.mem_singleton]
      constructor
      · rintro (h | h)
        · exact .inl h
        · exact .inr (.inl h)
      · rintro (h | h | rfl)
        · exact .inl h
        · exact .inr h
        · exact (h2 _).1 hm
    · rename_i hh
      have hm : nth m i ∉ addsGo l m i := fun h => hh ((has_mem _ _).2 h)
      refine ⟨?_, fun x => ?_⟩
      · rw [List.nodup_append]
        exact ⟨h1, by simp, fun a ha b hb e => by rw [List.mem_singleton] at hb; rw [e, hb] at ha; exact hm ha⟩
      · rw [ht, List.mem_append, h2 x, List.mem_append, List.mem_singleton]
        exact ⟨fun h => h.elim (fun h => h.elim .inl (fun h => .inr (.inl h))) (fun h => .inr (.inr h)), fun h => h.elim (fun h => .inl (.inl h)) (fun h => h.elim (fun h => .inl (.inr h)) .inr)⟩
theorem sortB_asc {l : List Str} (h : l.Nodup) : Asc (sortB l) := by
  have h1 : ((l.map bl).mergeSort fun x y => decide (x ≤ y)).Pairwise (fun a b => decide (a ≤ b) = true) :=
    List.pairwise_mergeSort (fun a b c h1 h2 => by simp only [decide_eq_true_eq] at *; exact List.le_trans h1 h2) (fun a b => by simp only [Bool.or_eq_true, decide_eq_true_eq]; exact List.le_total a b) _
  have h2 : ((l.map bl).mergeSort fun x y => decide (x ≤ y)).Nodup := by
    refine (List.mergeSort_perm _ _).nodup_iff.2 ?_
    exact List.Pairwise.map _ (fun a b hab e => hab (bl_inj e)) h
  unfold Asc sortB
  rw [List.pairwise_map]
  refine (h1.and h2).imp fun {a b} hab => ?_
  rw [bl_unbl, bl_unbl]
  obtain ⟨k1, k2⟩ := hab
  simp only [decide_eq_true_eq] at k1
  exact Classical.byContradiction fun h3 => k2 (List.le_antisymm k1 (List.not_lt.1 h3))
theorem withB_spec {l : List Str} (hl : l.Nodup) (m : List Str) : Asc (withB l m) ∧ ∀ x, x ∈ withB l m ↔ x ∈ l ∨ x ∈ m := by
  obtain ⟨h1, h2⟩ := addsGo_spec hl m m.length (Nat.le_refl _)
  refine ⟨sortB_asc h1, fun x => ?_⟩
  unfold withB
  rw [(sortB_perm _).mem_iff, h2 x, List.take_length]
/-- an insertion -/
def posB (l : List Str) (s : Str) : Nat := match (List.range l.length).find? (fun i => !strLt (nth l i) s) with | some i => i | none => l.length
theorem posB_eq {l : List Str} {s : Str} {i : Nat} (h : ∀ j, j < i → strLt (nth l j) s = true) (hi : i ≤ l.length) (hx : i < l.length → strLt (nth l i) s = false) : posB l s = i := by
  unfold posB
  by_cases hlt : i < l.length
  · have : (List.range l.length).find? (fun i => !strLt (nth l i) s) = some i := by
      rw [List.find?_range_eq_some]
      exact ⟨by simp [hx hlt], List.mem_range.2 hlt, fun j hj => by simp [h j hj]⟩
    rw [this]
  · have hil : i = l.length := by omega
    subst hil
    have : (List.range l.length).find? (fun i => !strLt (nth l i) s) = none := by
      rw [List.find?_eq_none]; intro x hx; simp [h x (List.mem_range.1 hx)]
    rw [this]
theorem posB_spec (l : List Str) (s : Str) : posB l s ≤ l.length ∧ (∀ j, j < posB l s → strLt (nth l j) s = true) ∧ (posB l s < l.length → strLt (nth l (posB l s)) s = false) := by
  unfold posB
  cases h : (List.range l.length).find? (fun i => !strLt (nth l i) s) with
  | none =>
    rw [List.find?_eq_none] at h
    exact ⟨Nat.le_refl _, fun j hj => by have := h j (List.mem_range.2 hj); simpa using this, fun hlt => absurd hlt (Nat.lt_irrefl _)⟩
  | some i =>
    rw [List.find?_range_eq_some] at h
    exact ⟨Nat.le_of_lt (List.mem_range.1 h.2.1), fun j hj => by have := h.2.2 j hj; simpa using this, fun _ => by simpa using h.1⟩
def insB (l : List Str) (s : Str) : List Str := if posB l s < l.length ∧ strEq (nth l (posB l s)) s = true then l else l.take (posB l s) ++ [s] ++ l.drop (posB l s)
theorem insB_len (l : List Str) (s : Str) : (insB l s).length ≤ l.length + 1 := by
  unfold insB; split
  · omega
  · simp only [List.length_append, List.length_take, List.length_drop, List.length_cons, List.length_nil]; omega
theorem insB_spec {l : List Str} (hl : Asc l) (s : Str) : Asc (insB l s) ∧ ∀ x, x ∈ insB l s ↔ x ∈ l ∨ x = s := by
  obtain ⟨p1, p2, p3⟩ := posB_spec l s
  unfold insB
  generalize posB l s = k at *
  split
  · rename_i h
    have hs := (strEq_iff _ _).1 h.2
    refine ⟨hl, fun x => ⟨.inl, fun hx => hx.elim id (fun e => ?_)⟩⟩
    rw [e, ← hs]; exact nth_mem h.1
  · rename_i h
    have hlt : ∀ j, k ≤ j → (hj : j < l.length) → bl s < bl l[j] := fun j hkj hj => by
      have hk : k < l.length := by omega
      have h1 : ¬ bl (nth l k) < bl s := fun h2 => by
        have := p3 hk
        rw [(strLt_iff _ _).2 h2] at this; cases this
      have h2 : nth l k ≠ s := fun e => h ⟨hk, (strEq_iff _ _).2 e⟩
      have h3 := bl_lt_of h1 h2
      rw [nth_get hk] at h3
      by_cases e : k = j
      · subst e; exact h3
      · exact bl_trans h3 ((List.pairwise_iff_getElem.1 hl) k j hk hj (by omega))
    refine ⟨?_, fun x => ?_⟩
    · unfold Asc
      rw [List.pairwise_append, List.pairwise_append]
      refine ⟨⟨hl.sublist (List.take_sublist _ _), by simp, fun a ha b hb => ?_⟩, hl.sublist (List.drop_sublist _ _), fun a ha b hb => ?_⟩
      · rw [List.mem_singleton] at hb
        subst hb
        obtain ⟨j, hj, rfl⟩ := List.mem_take_iff_getElem.1 ha
        have := (strLt_iff _ _).1 (p2 j (by omega))
        rwa [nth_get (by omega)] at this
      · obtain ⟨j, hj, rfl⟩ := List.mem_drop_iff_getElem.1 hb
        have h4 := hlt (k + j) (by omega) (by omega)
        rw [List.mem_append, List.mem_singleton] at ha
        rcases ha with ha | rfl
        · obtain ⟨i, hi, rfl⟩ := List.mem_take_iff_getElem.1 ha
          have := (strLt_iff _ _).1 (p2 i (by omega))
          rw [nth_get (by omega)] at this
          exact bl_trans this h4
        · exact h4
    · rw [List.mem_append, List.mem_append, List.mem_singleton]
      constructor
      · rintro ((h1 | h1) | h1)
        · exact .inl (List.mem_of_mem_take h1)
        · exact .inr h1
        · exact .inl (List.mem_of_mem_drop h1)
      · rintro (h1 | h1)
        · rw [← List.take_append_drop k l, List.mem_append] at h1
          exact h1.elim (fun h => .inl (.inl h)) .inr
        · exact .inl (.inr h1)
def insGo (l m : List Str) : Nat → List Str
  | 0 => l
  | i + 1 => insB (insGo l m i) (nth m i)
theorem insGo_len (l m : List Str) : ∀ i, (insGo l m i).length ≤ l.length + i
  | 0 => Nat.le_refl _
  | i + 1 => by
    have h1 := insGo_len l m i
    have h2 := insB_len (insGo l m i) (nth m i)
    show (insB (insGo l m i) (nth m i)).length ≤ _
    omega
theorem insGo_spec {l : List Str} (hl : Asc l) (m : List Str) : ∀ i, i ≤ m.length → Asc (insGo l m i) ∧ ∀ x, x ∈ insGo l m i ↔ x ∈ l ∨ x ∈ m.take i
  | 0, _ => ⟨hl, fun x => by simp [insGo]⟩
  | i + 1, hi => by
    obtain ⟨h1, h2⟩ := insGo_spec hl m i (by omega)
    have ht : m.take (i + 1) = m.take i ++ [nth m i] := by rw [List.take_succ_eq_append_getElem (by omega), nth_get (by omega)]
    obtain ⟨h3, h4⟩ := insB_spec h1 (nth m i)
    refine ⟨h3, fun x => ?_⟩
    show x ∈ insB _ _ ↔ _
    rw [h4 x, h2 x, ht, List.mem_append, List.mem_singleton, or_assoc]
theorem ins_with {l : List Str} (hl : Asc l) (m : List Str) : insGo l m m.length = withB l m := by
  obtain ⟨h1, h2⟩ := insGo_spec hl m m.length (Nat.le_refl _)
  obtain ⟨h3, h4⟩ := withB_spec hl.nodup m
  refine asc_ext h1 h3 fun x => ?_
  rw [h2 x, h4 x, List.take_length]
theorem strs_cat (a b : List Str) : Eqv (.sl 9 1 (a.length + b.length) (catF a.length (fun i => [.str (nth a i)]) (fun i => [.str (nth b i)]))) (strs (a ++ b)) := by
  unfold strs
  rw [List.length_append]
  refine .rows fun i hi => ?_
  simp only [catF]
  split
  · rename_i h1; rw [nth_append_left h1]
  · rename_i h1; rw [nth_append_right (by omega)]
theorem strs_drop (l : List Str) (i q : Nat) : [T.str (nth l (i + q))] = [T.str (nth (l.drop i) q)] := by
  simp [nth, List.getD_eq_getElem?_getD, List.getElem?_drop]
theorem insB_yes {l : List Str} {s : Str} {i : Nat} (h : ∀ j, j < i → strLt (nth l j) s = true) (hi : i < l.length) (hx : strLt (nth l i) s = false) (he : strEq (nth l i) s = true) : l = insB l s := by
  rw [insB, posB_eq h (Nat.le_of_lt hi) (fun _ => hx), if_pos ⟨hi, he⟩]
theorem insB_no {l : List Str} {s : Str} {i : Nat} (h : ∀ j, j < i → strLt (nth l j) s = true) (hi : i ≤ l.length) (hx : i < l.length → strLt (nth l i) s = false) (he : i < l.length → strEq (nth l i) s = false) : [] ++ l.take i ++ [s] ++ l.drop i = insB l s := by
  rw [List.nil_append, insB, posB_eq h hi hx, if_neg (fun e => by have := he e.1; rw [this] at e; cases e.2)]

theorem ywSl22 : sliceT Tryz.prog 22 = some ⟨9, 1, 16⟩ := by kernel_rfl
theorem ywSc9 : scalarB Tryz.prog 9 = true := by kernel_rfl
theorem ywCo86 : callOk Tryz.prog 86 = true := by kernel_rfl
theorem ywCo146 : callOk Tryz.prog 146 = true := by kernel_rfl
theorem ywMo : Tryz.prog.follows .mixedOrders = true := by kernel_rfl
theorem withI (l m : List Str) (hl : l.length ≤ 1048576) (hm : m.length ≤ 1048576) : ASpec Tryz.prog 82 [.one (strs l), .one (strs m)] (.one (strs (withB l m))) := by
  refine ASpec.body Tryz.func82 rfl [4] rfl 28 rfl rfl rfl ?_
  refine AWp.seq (AWp.region ?_)
  refine ARun.step rfl (step_assignV rfl (hn rfl) rfl rfl) ?_
  refine ARun.nil ?_
  refine AWp.seq (AWp.region ?_)
  refine ARun.step rfl (step_moveV rfl (hn rfl) rfl rfl) ?_
  refine ARun.step rfl (step_appendNil rfl (hn rfl) rfl ywSl22 rfl rfl (.v _) (fun _ _ => rfl) (by omega) (by omega)) ?_
  refine ARun.step rfl (step_assignV rfl (hn rfl) rfl rfl) ?_
  refine ARun.nil ?_
  refine AWp.seq ?_
  refine AWp.seq (AWp.region ?_)
  refine ARun.step rfl (step_moveV rfl (hn rfl) rfl rfl) ?_
  refine ARun.step rfl (step_len_f rfl (hn rfl) rfl ywSl22 rfl) ?_
  refine ARun.step rfl (step_moveV rfl (hn rfl) rfl rfl) ?_
  refine ARun.nil ?_
  refine AWp.block ?_
  refine AWp.loopM (fun i : Nat => mkAS 28 [(5, ⟨true, .one (.ref ⟨.arr 9 0, []⟩)⟩), (10, ⟨true, .one (.v (strs m))⟩), (11, ⟨true, .one (.v (.int .i64 (m.length : Nat)))⟩), (12, ⟨true, .one (.v (.int .i64 (i : Nat)))⟩)] [] [(9, 0, strs (addsGo l m i))]) (fun i => i ≤ m.length) (fun i => m.length - i) 0 ?_ (Le.forgetR rfl ⟨rfl, rfl, rfl, rfl, trivial⟩ trivial ⟨.refl _, trivial⟩) ?_
  · try dsimp only
    omega
  rintro i hi
  have hal := addsGo_len l m i
  refine AWp.seq (AWp.region ?_)
  refine ARun.step rfl (step_lss rfl (hn rfl) rfl rfl rfl) ?_
  refine ARun.nil ?_
  refine AWp.seq ?_
  refine AWp.cond rfl (fun c1 => ?_) (fun c1 => ?_)
  · try simp only [nrm] at c1
    refine AWp.skip ?_
    refine AWp.seq ?_
    refine AWp.block ?_
    refine AWp.seq (AWp.region ?_)
    refine ARun.step rfl (step_index_fN rfl (hn rfl) rfl ywSl22 rfl rfl (by omega)) ?_
    refine ARun.step rfl (step_load_f rfl (hn rfl) rfl ywSc9 rfl (hn rfl) rfl) ?_
    refine ARun.step rfl (step_assignV rfl (hn rfl) rfl rfl) ?_
    refine ARun.nil ?_
    refine AWp.seq (AWp.region ?_)
    refine ARun.step rfl (step_moveV rfl (hn rfl) rfl rfl) ?_
    refine ARun.step rfl (step_moveV rfl (hn rfl) rfl rfl) ?_
    refine ARun.step rfl (call_step1 rfl (hn rfl) rfl ywCo86 (.cons rfl (.one (.ref _ rfl)) (.cons rfl (.one (.v _)) (.nil))) (hasI _ _) rfl) ?_
    refine ARun.step rfl (step_not rfl (hn rfl) rfl rfl) ?_
    refine ARun.nil ?_
    refine AWp.cond rfl (fun c2 => ?_) (fun c2 => ?_)
    · try simp only [nrm] at c2
      refine AWp.region ?_
      refine ARun.step rfl (step_moveV rfl (hn rfl) rfl rfl) ?_
      refine ARun.step rfl (step_moveV rfl (hn rfl) rfl rfl) ?_
      refine ARun.step rfl (step_buildVT rfl (hn rfl) rfl ywSl22 (strs [_]) (.cons rfl rfl rfl rfl (.nil _)) rfl rfl rfl (rows1 rfl)) ?_
      refine ARun.step rfl (step_append_strs rfl (hn rfl) rfl ywSl22 rfl rfl rfl (.v _) (by first | omega | (simp only [List.length_cons, List.length_nil, List.length_append, List.length_take, List.length_drop]; omega)) (by first | omega | (simp only [List.length_cons, List.length_nil, List.length_append, List.length_take, List.length_drop]; omega))) ?_
      refine ARun.step rfl (step_assignV rfl (hn rfl) rfl rfl) ?_
      refine ARun.nil ?_
      refine AWp.region ?_
      refine ARun.step rfl (step_addI rfl (hn rfl) rfl rfl rfl (by omega) (by omega)) ?_
      refine ARun.step rfl (step_moveV rfl (hn rfl) rfl rfl) ?_
      refine ARun.nil ?_
      refine ⟨i + 1, ?_, ?_, Le.forgetR rfl ⟨rfl, rfl, rfl, rfl, trivial⟩ trivial ⟨(by first | exact eqv_strs (addB_yes (by assumption)) | exact eqv_strs (addB_no (by assumption))), trivial⟩⟩
      · try dsimp only
        omega
      · try dsimp only
        omega
    · try simp only [nrm] at c2
      refine AWp.skip ?_
      refine AWp.region ?_
      refine ARun.step rfl (step_addI rfl (hn rfl) rfl rfl rfl (by omega) (by omega)) ?_
      refine ARun.step rfl (step_moveV rfl (hn rfl) rfl rfl) ?_
      refine ARun.nil ?_
      refine ⟨i + 1, ?_, ?_, Le.forgetR rfl ⟨rfl, rfl, rfl, rfl, trivial⟩ trivial ⟨(by first | exact eqv_strs (addB_yes (by assumption)) | exact eqv_strs (addB_no (by assumption))), trivial⟩⟩
      · try dsimp only
        omega
      · try dsimp only
        omega
  · try simp only [nrm] at c1
    refine AWp.exit ?_
    refine AWp.seq (AWp.region ?_)
    refine ARun.step rfl (step_moveV rfl (hn rfl) rfl rfl) ?_
    refine ARun.step rfl (mcall_void (L := [(⟨.arr 9 0, []⟩, 0)]) (TL := [(9, 0, _)]) rfl (hn rfl) rfl ywCo146 rfl (.cons rfl (.one (.rw _ rfl rfl rfl)) (.nil _)) (sortStrM _ (by omega)) (.cons (i := 0) (j := 0) rfl rfl rfl rfl rfl rfl .nil)) ?_
    refine ARun.nil ?_
    refine AWp.seq (AWp.region ?_)
    refine ARun.step rfl (step_moveV rfl (hn rfl) rfl rfl) ?_
    refine ARun.step rfl (step_assignV rfl (hn rfl) rfl rfl) ?_
    refine ARun.nil ?_
    refine AWp.ret ?_
    refine RetIs.ref (.inr rfl) rfl rfl ?_
    obtain rfl : i = m.length := by omega
    exact sortB_tree _
theorem ins53 (l : List Str) (s : Str) (hl : l.length ≤ 2097152) : ASpec Tryz.prog 84 [.one (strs l), .one (.str s)] (.one (.fz (strs (insB l s)))) := by
  refine ASpec.body Tryz.func84 rfl [4] rfl 45 rfl rfl rfl ?_
  refine AWp.seq (AWp.region ?_)
  refine ARun.step rfl (step_assignV rfl (hn rfl) rfl rfl) ?_
  refine ARun.nil ?_
  refine AWp.seq (AWp.region ?_)
  refine ARun.step rfl (step_assignV rfl (hn rfl) rfl rfl) ?_
  refine ARun.nil ?_
  refine AWp.seq ?_
  refine AWp.block ?_
  refine AWp.loopM (fun i : Nat => mkAS 45 [(0, ⟨true, .one (.v (strs l))⟩), (1, ⟨true, .one (.v (.str s))⟩), (5, ⟨true, .one (.v (.int .i64 (i : Nat)))⟩)] [] []) (fun i => i ≤ l.length ∧ ∀ j, j < i → strLt (nth l j) s = true) (fun i => l.length - i) 0 ?_ (Le.forgetR rfl ⟨rfl, rfl, rfl, trivial⟩ trivial trivial) ?_
  · try dsimp only
    exact ⟨by omega, by omega⟩
  rintro i ⟨hi, hall⟩
  refine AWp.seq ?_
  refine AWp.seq (AWp.region ?_)
  refine ARun.step rfl (step_moveV rfl (hn rfl) rfl rfl) ?_
  refine ARun.step rfl (step_moveV rfl (hn rfl) rfl rfl) ?_
  refine ARun.step rfl (step_len_f rfl (hn rfl) rfl ywSl22 rfl) ?_
  refine ARun.step rfl (step_lss rfl (hn rfl) rfl rfl rfl) ?_
  refine ARun.step rfl (step_moveV rfl (hn rfl) rfl rfl) ?_
  refine guardS rfl rfl rfl rfl (hn rfl) (fun g1 g2 => step_moveV rfl (hn rfl) rfl rfl) ?_
  refine guardS rfl rfl rfl rfl (hn rfl) (fun g1 g2 => step_moveV rfl (hn rfl) rfl rfl) ?_
  refine guardS rfl rfl rfl rfl (hn rfl) (fun g1 g2 => step_index_fN rfl (hn rfl) rfl ywSl22 (ev_true rfl (by exact flag2 g1 g2)) (ev_true rfl (by exact flag2 g1 g2)) (by first | omega | (have := of_decide_eq_true g2; omega) | (have := of_decide_eq_false g2; omega) | (simp only [nrm] at g2; omega) | (simp only [nrm, Bool.true_and] at g1 g2; omega))) ?_
  refine guardS rfl rfl rfl rfl (hn rfl) (fun g1 g2 => step_load_f rfl (hn rfl) rfl ywSc9 (ev_true rfl (by exact flag2 g1 g2)) (hn rfl) rfl) ?_
  refine guardS rfl rfl rfl rfl (hn rfl) (fun g1 g2 => step_moveV rfl (hn rfl) rfl rfl) ?_
  refine guardS rfl rfl rfl rfl (hn rfl) (fun g1 g2 => step_slss rfl (hn rfl) rfl (ev_true rfl (by exact flag2 g1 g2)) (ev_true rfl (by exact flag2 g1 g2))) ?_
  refine ARun.step rfl (step_and rfl (hn rfl) rfl rfl rfl (fun h => (by exact flag1 h))) ?_
  refine ARun.nil ?_
  refine AWp.cond rfl (fun c1 => ?_) (fun c1 => ?_)
  · try simp only [nrm] at c1
    refine AWp.skip ?_
    refine AWp.block ?_
    refine AWp.region ?_
    refine ARun.step rfl (step_moveV rfl (hn rfl) rfl rfl) ?_
    refine ARun.step rfl (step_addI rfl (hn rfl) rfl rfl rfl (by omega) (by omega)) ?_
    refine ARun.step rfl (step_assignV rfl (hn rfl) rfl rfl) ?_
    refine ARun.nil ?_
    refine ⟨i + 1, ?_, ?_, Le.forgetR rfl ⟨rfl, rfl, rfl, trivial⟩ trivial trivial⟩
    · try dsimp only
      exact ⟨by omega, upto hall (by grind)⟩
    · try dsimp only
      omega
  · try simp only [nrm] at c1
    refine AWp.exit ?_
    refine AWp.seq ?_
    refine AWp.seq (AWp.region ?_)
    refine ARun.step rfl (step_moveV rfl (hn rfl) rfl rfl) ?_
    refine ARun.step rfl (step_moveV rfl (hn rfl) rfl rfl) ?_
    refine ARun.step rfl (step_len_f rfl (hn rfl) rfl ywSl22 rfl) ?_
    refine ARun.step rfl (step_lss rfl (hn rfl) rfl rfl rfl) ?_
    refine ARun.step rfl (step_moveV rfl (hn rfl) rfl rfl) ?_
    refine guardS rfl rfl rfl rfl (hn rfl) (fun g1 g2 => step_moveV rfl (hn rfl) rfl rfl) ?_
    refine guardS rfl rfl rfl rfl (hn rfl) (fun g1 g2 => step_moveV rfl (hn rfl) rfl rfl) ?_
    refine guardS rfl rfl rfl rfl (hn rfl) (fun g1 g2 => step_index_fN rfl (hn rfl) rfl ywSl22 (ev_true rfl (by exact flag2 g1 g2)) (ev_true rfl (by exact flag2 g1 g2)) (by first | omega | (have := of_decide_eq_true g2; omega) | (have := of_decide_eq_false g2; omega) | (simp only [nrm] at g2; omega) | (simp only [nrm, Bool.true_and] at g1 g2; omega))) ?_
    refine guardS rfl rfl rfl rfl (hn rfl) (fun g1 g2 => step_load_f rfl (hn rfl) rfl ywSc9 (ev_true rfl (by exact flag2 g1 g2)) (hn rfl) rfl) ?_
    refine guardS rfl rfl rfl rfl (hn rfl) (fun g1 g2 => step_moveV rfl (hn rfl) rfl rfl) ?_
    refine guardS rfl rfl rfl rfl (hn rfl) (fun g1 g2 => step_seql rfl (hn rfl) rfl (ev_true rfl (by exact flag2 g1 g2)) (ev_true rfl (by exact flag2 g1 g2))) ?_
    refine ARun.step rfl (step_and rfl (hn rfl) rfl rfl rfl (fun h => (by exact flag1 h))) ?_
    refine ARun.nil ?_
    refine AWp.cond rfl (fun c2 => ?_) (fun c2 => ?_)
    · try simp only [nrm] at c2
      refine AWp.seq (AWp.region ?_)
      refine ARun.step rfl (step_moveV rfl (hn rfl) rfl rfl) ?_
      refine ARun.step rfl (step_assignV rfl (hn rfl) rfl rfl) ?_
      refine ARun.nil ?_
      refine AWp.ret ?_
      refine RetIs.frz (.inr rfl) rfl ?_
      exact congrArg (fun x => T.fz (strs x)) (insB_yes hall (by grind) (by grind) (by grind))
    · try simp only [nrm] at c2
      refine AWp.skip ?_
      refine AWp.seq (AWp.drawM [⟨⟨[], [.s 33, .a 33 0], false⟩, some 33, [37, 40]⟩, ⟨⟨[.s 0], [.s 34], false⟩, none, [33, 37, 40]⟩, ⟨⟨[.s 5], [.s 35], false⟩, none, [33, 37, 40]⟩, ⟨⟨[.s 35, .s 34], [.s 36], false⟩, none, [33, 37, 40]⟩, ⟨⟨[.s 33, .a 33 0, .s 36], [.s 37, .a 37 0, .a 33 0], false⟩, some 37, [40]⟩, ⟨⟨[.s 1], [.s 38], false⟩, none, [33, 37, 40]⟩, ⟨⟨[.s 38], [.s 39], false⟩, none, [33, 37, 40]⟩, ⟨⟨[.s 37, .a 37 0, .s 39], [.s 40, .a 40 0, .a 37 0], false⟩, some 40, []⟩, ⟨⟨[.s 0], [.s 41], false⟩, none, [33, 37, 40]⟩, ⟨⟨[.s 5], [.s 42], false⟩, none, [33, 37, 40]⟩, ⟨⟨[.s 42, .s 41], [.s 43], false⟩, none, [33, 37, 40]⟩, ⟨⟨[], [], true⟩, none, []⟩, ⟨⟨[], [], true⟩, none, []⟩] ywMo rfl rfl (Le.forgetR (n := 45) (sl := [(0, _), (1, _), (5, _), (6, _), (7, _), (8, _), (9, _), (10, _), (17, _), (20, _), (21, _), (22, _), (23, _), (24, _), (31, _)]) (bl := []) (al := []) rfl ⟨rfl, rfl, rfl, rfl, rfl, rfl, rfl, rfl, rfl, rfl, rfl, rfl, rfl, rfl, rfl, trivial⟩ trivial trivial) rfl ?_)
      refine FRun.made (L := []) (t := strs []) rfl (fun τ hN hr hF => step_buildE rfl (rdN hN (hn rfl)) rfl ywSl22 hF _) (by exact rfl) ?_
      refine FRun.slot rfl (fun τ hN hr => step_moveV rfl (rdN hN (hn rfl)) rfl (by exact rdS hr rfl rfl)) (by exact rfl) ?_
      refine FRun.slot rfl (fun τ hN hr => step_moveV rfl (rdN hN (hn rfl)) rfl (by exact rdS hr rfl rfl)) (by exact rfl) ?_
      refine FRun.slot rfl (fun τ hN hr => step_sliceF rfl (rdN hN (hn rfl)) rfl ywSl22 (strs (l.take i)) (by exact rdS hr rfl rfl) (.dflt _) (.val _ (by exact rdS hr rfl rfl)) rfl (by rw [List.length_take]; omega) (by omega) (fun q hq => strs_take _ _ _ hq)) (by exact rfl) ?_
      refine FRun.made (L := [(33, 0)]) (t := strs (_ ++ _)) rfl (fun τ hN hr hF => (step_appendF rfl (rdN hN (hn rfl)) rfl ywSl22 hF (by exact rdS hr rfl rfl) (by exact rdA hr rfl rfl) (by exact rdS hr rfl rfl) (.v _) (fun _ _ => rfl) (by first | omega | (simp only [List.length_cons, List.length_nil, List.length_append, List.length_take, List.length_drop]; omega)) (by first | omega | (simp only [List.length_cons, List.length_nil, List.length_append, List.length_take, List.length_drop]; omega))).le (Le.eqvArr (strs_cat _ _))) (by exact rfl) ?_
      refine FRun.slot rfl (fun τ hN hr => step_moveV rfl (rdN hN (hn rfl)) rfl (by exact rdS hr rfl rfl)) (by exact rfl) ?_
      refine FRun.slot rfl (fun τ hN hr => step_buildVT rfl (rdN hN (hn rfl)) rfl ywSl22 (strs [(s)]) ((by exact .cons (by exact rdS hr rfl rfl) rfl rfl rfl (.nil _))) (by exact rfl) (by exact rfl) (by exact rfl) (by exact (rows1 rfl))) (by exact rfl) ?_
      refine FRun.made (L := [(37, 0)]) (t := strs (_ ++ _)) rfl (fun τ hN hr hF => (step_appendF rfl (rdN hN (hn rfl)) rfl ywSl22 hF (by exact rdS hr rfl rfl) (by exact rdA hr rfl rfl) (by exact rdS hr rfl rfl) (.v _) (fun _ _ => rfl) (by first | omega | (simp only [List.length_cons, List.length_nil, List.length_append, List.length_take, List.length_drop]; omega)) (by first | omega | (simp only [List.length_cons, List.length_nil, List.length_append, List.length_take, List.length_drop]; omega))).le (Le.eqvArr (strs_cat _ _))) (by exact rfl) ?_
      refine FRun.slot rfl (fun τ hN hr => step_moveV rfl (rdN hN (hn rfl)) rfl (by exact rdS hr rfl rfl)) (by exact rfl) ?_
      refine FRun.slot rfl (fun τ hN hr => step_moveV rfl (rdN hN (hn rfl)) rfl (by exact rdS hr rfl rfl)) (by exact rfl) ?_
      refine FRun.slot rfl (fun τ hN hr => step_sliceF rfl (rdN hN (hn rfl)) rfl ywSl22 (strs (l.drop i)) (by exact rdS hr rfl rfl) (.val _ (by exact rdS hr rfl rfl)) (.dflt _) rfl (by rw [List.length_drop]; omega) (by omega) (fun q hq => strs_drop _ _ _)) (by exact rfl) ?_
      refine FRun.whole rfl (step_append_strs rfl (hn rfl) rfl ywSl22 rfl rfl rfl (.v _) (by first | omega | (simp only [List.length_cons, List.length_nil, List.length_append, List.length_take, List.length_drop]; omega)) (by first | omega | (simp only [List.length_cons, List.length_nil, List.length_append, List.length_take, List.length_drop]; omega))) (by exact rfl) ?_
      refine FRun.whole rfl (step_assignV rfl (hn rfl) rfl rfl) (by exact rfl) ?_
      refine FRun.nil ?_
      refine AWp.le (Le.freeze1 45 4 (g := (fun q => [.str (nth (insB l s) q)])) rfl rfl rfl (by intro q hq; rw [insB_no hall hi (by grind) (by grind)])) ?_
      refine AWp.ret ?_
      refine RetIs.frz (.inr rfl) rfl ?_
      exact congrArg T.fz (by rw [insB_no hall hi (by grind) (by grind)]; rfl)

end Go.Proofs.YtkmacjdigkaabaaGreat
