/- Contracts of functions of the program, each met by its body; conditions stand in each statement. No condition. -/
import Derived.Test.YtkmacjdigkaabaahBase
import Derived.Test.YtkmacjdigkaabaahSort
import Derived.Test.YtkmacjdigkaabaaHc
import Derived.Test.YtkmacjdigkaabaaProg
import Derived.KernelRfl
set_option linter.unusedVariables false
set_option linter.unusedSimpArgs false
set_option linter.unnecessarySimpa false
set_option linter.unusedSimpArgs false
set_option maxRecDepth 100000
namespace Go.Proofs.Ytkmacjdigkaabaa
open Go Go.Mh

theorem sortB_tree (l : List Str) : T.sl 9 1 l.length (fun i => [.str (nth (sortB l) i)]) = strs (sortB l) := by unfold strs; rw [sortB_len]
theorem sortStrM (l : List Str) (h : l.length < 4611686018427387904) : MSpec Try.prog 138 [.one (.rw (strs l) (.sl 9 1 l.length (fun i => [.str (nth (sortB l) i)])))] .dead := by
  rw [sortB_tree]; exact sortM sortsStr 9 l h
theorem bl_inj {x y : Str} (h : bl x = bl y) : x = y := by rw [← unbl_bl x, ← unbl_bl y, h]
theorem strEq_iff (x y : Str) : strEq x y = true ↔ x = y := by
  unfold strEq
  rw [ByteArray.toList_eq, ByteArray.toList_eq, beq_iff_eq]
  exact ⟨fun h => bl_inj h, fun h => by rw [h]⟩
theorem bl_irr {x : Str} (h : bl x < bl x) : False := List.lt_irrefl _ h
/-- ascending, each once -/
def Asc (l : List Str) : Prop := l.Pairwise (fun a b => bl a < bl b)
theorem nth_mem {l : List Str} {i : Nat} (h : i < l.length) : nth l i ∈ l := by
  simp only [nth, List.getD_eq_getElem?_getD, List.getElem?_eq_getElem h, Option.getD_some]; exact List.getElem_mem h
theorem nth_get {l : List Str} {i : Nat} (h : i < l.length) : nth l i = l[i] := by
  simp only [nth, List.getD_eq_getElem?_getD, List.getElem?_eq_getElem h, Option.getD_some]
theorem mem_nth {l : List Str} {x : Str} (h : x ∈ l) : ∃ i, i < l.length ∧ nth l i = x := by
  obtain ⟨i, hi, rfl⟩ := List.mem_iff_getElem.1 h
  exact ⟨i, hi, nth_get hi⟩
theorem has_mem (l : List Str) (s : Str) : hasB l s = true ↔ s ∈ l := by
  simp only [hasB, List.any_eq_true, List.mem_range, strEq_iff]
  constructor
  · rintro ⟨i, hi, rfl⟩; exact nth_mem hi
  · intro h; exact mem_nth h
theorem within_iff (a b : List Str) : withinB a b = true ↔ ∀ x ∈ a, x ∈ b := by
  simp only [withinB, List.all_eq_true, List.mem_range, has_mem]
  constructor
  · intro h x hx
    obtain ⟨i, hi, rfl⟩ := mem_nth hx
    exact h i hi
  · intro h i hi; exact h _ (nth_mem hi)
theorem Asc.nodup {l : List Str} (h : Asc l) : l.Nodup := h.imp fun hab e => by rw [e] at hab; exact bl_irr hab
/-- with: what is not there yet is added, and all is sorted -/
def addB (l : List Str) (s : Str) : List Str := if hasB l s = true then l else l ++ [s]
def addsGo (l m : List Str) : Nat → List Str
  | 0 => l
  | i + 1 => addB (addsGo l m i) (nth m i)
theorem addB_yes {l : List Str} {s : Str} (h : hasB l s = true) : l = addB l s := by rw [addB, if_pos h]
theorem addB_no {l : List Str} {s : Str} (h : hasB l s = false) : l ++ [s] = addB l s := by rw [addB, if_neg (by simp [h])]
theorem addB_len (l : List Str) (s : Str) : l.length ≤ (addB l s).length ∧ (addB l s).length ≤ l.length + 1 := by
  unfold addB; split
  · omega
  · simp only [List.length_append, List.length_cons, List.length_nil]; omega
theorem addsGo_len (l m : List Str) : ∀ i, (addsGo l m i).length ≤ l.length + i
  | 0 => Nat.le_refl _
  | i + 1 => by
    have h1 := addsGo_len l m i
    have h2 := addB_len (addsGo l m i) (nth m i)
    show (addB (addsGo l m i) (nth m i)).length ≤ _
    omega
def withB (l m : List Str) : List Str := sortB (addsGo l m m.length)
theorem withB_len (l m : List Str) : (withB l m).length ≤ l.length + m.length := by rw [withB, sortB_len]; exact addsGo_len l m _
theorem addsGo_spec {l : List Str} (hl : l.Nodup) (m : List Str) : ∀ i, i ≤ m.length → (addsGo l m i).Nodup ∧ ∀ x, x ∈ addsGo l m i ↔ x ∈ l ∨ x ∈ m.take i
  | 0, _ => ⟨hl, fun x => by simp [addsGo]⟩
  | i + 1, hi => by
    obtain ⟨h1, h2⟩ := addsGo_spec hl m i (by omega)
    have ht : m.take (i + 1) = m.take i ++ [nth m i] := by rw [List.take_succ_eq_append_getElem (by omega), nth_get (by omega)]
    simp only [addsGo, addB]
    split
    · rename_i hh
      have hm := (has_mem _ _).1 hh
      refine ⟨h1, fun x => ?_⟩
      rw [ht, h2 x, List.mem_append, List.mem_singleton]
      constructor
      · rintro (h | h)
        · exact .inl h
        · exact .inr (.inl h)
      · rintro (h | h | rfl)
        · exact .inl h
        · exact .inr h
        · exact (h2 _).1 hm
    · rename_i hh
      have hm : nth m i ∉ addsGo l m i := fun h => hh ((has_mem _ _).2 h)
      refine ⟨?_, fun x => ?_⟩
      · rw [List.nodup_append]
        exact ⟨h1, by simp, fun a ha b hb e => by rw [List.mem_singleton] at hb; rw [e, hb] at ha; exact hm ha⟩
      · rw [ht, List.mem_append, h2 x, List.mem_append, List.mem_singleton]
        exact ⟨fun h => h.elim (fun h => h.elim .inl (fun h => .inr (.inl h))) (fun h => .inr (.inr h)), fun h => h.elim (fun h => .inl (.inl h)) (fun h => h.elim (fun h => .inl (.inr h)) .inr)⟩
theorem sortB_asc {l : List Str} (h : l.Nodup) : Asc (sortB l) := by
  have h1 : ((l.map bl).mergeSort fun x y => decide (x ≤ y)).Pairwise (fun a b => decide (a ≤ b) = true) :=
    List.pairwise_mergeSort (fun a b c h1 h2 => by simp only [decide_eq_true_eq] at *; exact List.le_trans h1 h2) (fun a b => by simp only [Bool.or_eq_true, decide_eq_true_eq]; exact List.le_total a b) _
  have h2 : ((l.map bl).mergeSort fun x y => decide (x ≤ y)).Nodup := by
    refine (List.mergeSort_perm _ _).nodup_iff.2 ?_
    exact List.Pairwise.map _ (fun a b hab e => hab (bl_inj e)) h
  unfold Asc sortB
  rw [List.pairwise_map]
  refine (h1.and h2).imp fun {a b} hab => ?_
  rw [bl_unbl, bl_unbl]
  obtain ⟨k1, k2⟩ := hab
  simp only [decide_eq_true_eq] at k1
  exact Classical.byContradiction fun h3 => k2 (List.le_antisymm k1 (List.not_lt.1 h3))
theorem withB_spec {l : List Str} (hl : l.Nodup) (m : List Str) : Asc (withB l m) ∧ ∀ x, x ∈ withB l m ↔ x ∈ l ∨ x ∈ m := by
  obtain ⟨h1, h2⟩ := addsGo_spec hl m m.length (Nat.le_refl _)
  refine ⟨sortB_asc h1, fun x => ?_⟩
  unfold withB
  rw [(sortB_perm _).mem_iff, h2 x, List.take_length]
theorem ywSl22 : sliceT Try.prog 22 = some ⟨9, 1, 16⟩ := by kernel_rfl
theorem ywSc9 : scalarB Try.prog 9 = true := by kernel_rfl
theorem ywCo91 : callOk Try.prog 91 = true := by kernel_rfl
theorem ywCo138 : callOk Try.prog 138 = true := by kernel_rfl
theorem withI (l m : List Str) (hl : l.length ≤ 1048576) (hm : m.length ≤ 1048576) : ASpec Try.prog 104 [.one (strs l), .one (strs m)] (.one (strs (withB l m))) := by
  refine ASpec.body Try.func104 rfl [4] rfl 28 rfl rfl rfl ?_
  refine AWp.seq (AWp.region ?_)
  refine ARun.step rfl (step_assignV rfl (hn rfl) rfl rfl) ?_
  refine ARun.nil ?_
  refine AWp.seq (AWp.region ?_)
  refine ARun.step rfl (step_moveV rfl (hn rfl) rfl rfl) ?_
  refine ARun.step rfl (step_appendNil rfl (hn rfl) rfl ywSl22 rfl rfl (.v _) (fun _ _ => rfl) (by omega) (by omega)) ?_
  refine ARun.step rfl (step_assignV rfl (hn rfl) rfl rfl) ?_
  refine ARun.nil ?_
  refine AWp.seq ?_
  refine AWp.seq (AWp.region ?_)
  refine ARun.step rfl (step_moveV rfl (hn rfl) rfl rfl) ?_
  refine ARun.step rfl (step_len_f rfl (hn rfl) rfl ywSl22 rfl) ?_
  refine ARun.step rfl (step_moveV rfl (hn rfl) rfl rfl) ?_
  refine ARun.nil ?_
  refine AWp.block ?_
  refine AWp.loopM (fun i : Nat => mkAS 28 [(5, ⟨true, .one (.ref ⟨.arr 9 0, []⟩)⟩), (10, ⟨true, .one (.v (strs m))⟩), (11, ⟨true, .one (.v (.int .i64 (m.length : Nat)))⟩), (12, ⟨true, .one (.v (.int .i64 (i : Nat)))⟩)] [] [(9, 0, strs (addsGo l m i))]) (fun i => i ≤ m.length) (fun i => m.length - i) 0 ?_ (Le.forgetR rfl ⟨rfl, rfl, rfl, rfl, trivial⟩ trivial ⟨.refl _, trivial⟩) ?_
  · try dsimp only
    omega
  rintro i hi
  have hal := addsGo_len l m i
  refine AWp.seq (AWp.region ?_)
  refine ARun.step rfl (step_lss rfl (hn rfl) rfl rfl rfl) ?_
  refine ARun.nil ?_
  refine AWp.seq ?_
  refine AWp.cond rfl (fun c1 => ?_) (fun c1 => ?_)
  · try simp only [nrm] at c1
    refine AWp.skip ?_
    refine AWp.seq ?_
    refine AWp.block ?_
    refine AWp.seq (AWp.region ?_)
    refine ARun.step rfl (step_index_fN rfl (hn rfl) rfl ywSl22 rfl rfl (by omega)) ?_
    refine ARun.step rfl (step_load_f rfl (hn rfl) rfl ywSc9 rfl (hn rfl) rfl) ?_
    refine ARun.step rfl (step_assignV rfl (hn rfl) rfl rfl) ?_
    refine ARun.nil ?_
    refine AWp.seq (AWp.region ?_)
    refine ARun.step rfl (step_moveV rfl (hn rfl) rfl rfl) ?_
    refine ARun.step rfl (step_moveV rfl (hn rfl) rfl rfl) ?_
    refine ARun.step rfl (call_step1 rfl (hn rfl) rfl ywCo91 (.cons rfl (.one (.ref _ rfl)) (.cons rfl (.one (.v _)) (.nil))) (hasI _ _) rfl) ?_
    refine ARun.step rfl (step_not rfl (hn rfl) rfl rfl) ?_
    refine ARun.nil ?_
    refine AWp.cond rfl (fun c2 => ?_) (fun c2 => ?_)
    · try simp only [nrm] at c2
      refine AWp.region ?_
      refine ARun.step rfl (step_moveV rfl (hn rfl) rfl rfl) ?_
      refine ARun.step rfl (step_moveV rfl (hn rfl) rfl rfl) ?_
      refine ARun.step rfl (step_buildVT rfl (hn rfl) rfl ywSl22 (strs [_]) (.cons rfl rfl rfl rfl (.nil _)) rfl rfl rfl (rows1 rfl)) ?_
      refine ARun.step rfl (step_append_strs rfl (hn rfl) rfl ywSl22 rfl rfl rfl (.v _) (by first | omega | (simp only [List.length_cons, List.length_nil, List.length_append, List.length_take, List.length_drop]; omega)) (by first | omega | (simp only [List.length_cons, List.length_nil, List.length_append, List.length_take, List.length_drop]; omega))) ?_
      refine ARun.step rfl (step_assignV rfl (hn rfl) rfl rfl) ?_
      refine ARun.nil ?_
      refine AWp.region ?_
      refine ARun.step rfl (step_addI rfl (hn rfl) rfl rfl rfl (by omega) (by omega)) ?_
      refine ARun.step rfl (step_moveV rfl (hn rfl) rfl rfl) ?_
      refine ARun.nil ?_
      refine ⟨i + 1, ?_, ?_, Le.forgetR rfl ⟨rfl, rfl, rfl, rfl, trivial⟩ trivial ⟨(by first | exact eqv_strs (addB_yes (by assumption)) | exact eqv_strs (addB_no (by assumption))), trivial⟩⟩
      · try dsimp only
        omega
      · try dsimp only
        omega
    · try simp only [nrm] at c2
      refine AWp.skip ?_
      refine AWp.region ?_
      refine ARun.step rfl (step_addI rfl (hn rfl) rfl rfl rfl (by omega) (by omega)) ?_
      refine ARun.step rfl (step_moveV rfl (hn rfl) rfl rfl) ?_
      refine ARun.nil ?_
      refine ⟨i + 1, ?_, ?_, Le.forgetR rfl ⟨rfl, rfl, rfl, rfl, trivial⟩ trivial ⟨(by first | exact eqv_strs (addB_yes (by assumption)) | exact eqv_strs (addB_no (by assumption))), trivial⟩⟩
      · try dsimp only
        omega
      · try dsimp only
        omega
  · try simp only [nrm] at c1
    refine AWp.exit ?_
    refine AWp.seq (AWp.region ?_)
    refine ARun.step rfl (step_moveV rfl (hn rfl) rfl rfl) ?_
    refine ARun.step rfl (mcall_void (L := [(⟨.arr 9 0, []⟩, 0)]) (TL := [(9, 0, _)]) rfl (hn rfl) rfl ywCo138 rfl (.cons rfl (.one (.rw _ rfl rfl rfl)) (.nil _)) (sortStrM _ (by omega)) (.cons (i := 0) (j := 0) rfl rfl rfl rfl rfl rfl .nil)) ?_
    refine ARun.nil ?_
    refine AWp.seq (AWp.region ?_)
    refine ARun.step rfl (step_moveV rfl (hn rfl) rfl rfl) ?_
    refine ARun.step rfl (step_assignV rfl (hn rfl) rfl rfl) ?_
    refine ARun.nil ?_
    refine AWp.ret ?_
    refine RetIs.ref (.inr rfl) rfl rfl ?_
    obtain rfl : i = m.length := by omega
    exact sortB_tree _

end Go.Proofs.Ytkmacjdigkaabaa
