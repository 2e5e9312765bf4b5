/- Contracts of functions of the program, each met by its body; conditions stand in each statement. No condition. -/
import Derived.Test.YtkmacjdigkaabaaGreatiShr
import Derived.Test.YtkmacjdigkaabaaGreatiSrt
import Derived.Test.YtkmacjdigkaabaaGreatProg
import Derived.KernelRfl
set_option linter.unusedVariables false
set_option linter.unusedSimpArgs false
set_option linter.unnecessarySimpa false
set_option linter.unusedSimpArgs false
set_option maxRecDepth 100000
namespace Go.Proofs.YtkmacjdigkaabaaGreat
open Go Go.Mh

def takenB (p : Bk) (z : Int) (l : List Str) : Bool := (List.range p.bs.length).any fun i => decide ((i : Int) ≠ z) && meetsB (nth p.bs i).has l
def setHas (bs : List Bt) (z : Nat) (h : List Str) : List Bt := bs.set z ⟨(nth bs z).name, h, (nth bs z).needs⟩
theorem setHas_len (bs : List Bt) (z : Nat) (h : List Str) : (setHas bs z h).length = bs.length := by simp [setHas]
theorem nth_setHas {bs : List Bt} {z : Nat} (hz : z < bs.length) (h : List Str) (j : Nat) : nth (setHas bs z h) j = if j = z then ⟨(nth bs z).name, h, (nth bs z).needs⟩ else nth bs j := by
  unfold setHas nth
  rw [List.getD_eq_getElem?_getD, List.getElem?_set]
  by_cases e : z = j
  · subst e; rw [if_pos rfl, if_pos rfl, if_pos hz]; rfl
  · rw [if_neg e, if_neg (fun e' => e e'.symm), List.getD_eq_getElem?_getD]
def askAt (p : Bk) (z : Nat) (l : List Str) : Bk := ⟨p.things, setHas p.bs z (withB (nth p.bs z).has l)⟩
def askR (p : Bk) (s : Str) (l : List Str) : Bk × Int :=
  if bookOk p = true then
    if idxB p s < 0 then (p, 3)
    else if (risingB l && withinB l (nth p.bs (idxB p s).toNat).needs) = true then
      if takenB p (idxB p s) l = true then (p, 5)
      else if ((orderB p).isSome && !(orderB (askAt p (idxB p s).toNat l)).isSome) = true then (p, 6)
      else (askAt p (idxB p s).toNat l, 0)
    else (p, 2)
  else (emptyBk, 1)
theorem bookOk_iff (p : Bk) : bookOk p = true ↔ (p.things.length ≤ 8 ∧ namesB p.things = true ∧ p.bs.length ≤ 5) ∧ ∀ i, i < p.bs.length → (btAt p i = true ∧ ∀ j, j < i → ¬ ∃ x ∈ (nth p.bs i).has, x ∈ (nth p.bs j).has) := by
  simp only [bookOk, Bool.and_eq_true, decide_eq_true_eq, List.all_eq_true, List.mem_range, btFree, Bool.not_eq_true', ← meets_iff, Bool.not_eq_true]
  constructor
  · rintro ⟨⟨⟨h1, h2⟩, h3⟩, h4⟩; exact ⟨⟨h1, h2, h3⟩, h4⟩
  · rintro ⟨⟨h1, h2, h3⟩, h4⟩; exact ⟨⟨⟨h1, h2⟩, h3⟩, h4⟩
theorem btAt_iff (p : Bk) (i : Nat) : btAt p i = true ↔ nameOk (nth p.bs i).name = true ∧ (i = 0 ∨ strLt (nth p.bs (i - 1)).name (nth p.bs i).name = true) ∧ ((∀ x ∈ (nth p.bs i).needs, x ∈ p.things) ∧ Asc (nth p.bs i).needs) ∧ (∀ x ∈ (nth p.bs i).has, x ∈ (nth p.bs i).needs) ∧ Asc (nth p.bs i).has := by
  simp only [btAt, Bool.and_eq_true, Bool.or_eq_true, beq_iff_eq, within_iff, rising_asc]
  constructor
  · rintro ⟨⟨⟨h1, h2⟩, h3⟩, h4⟩; exact ⟨h1, h2, h3, h4⟩
  · rintro ⟨h1, h2, h3, h4⟩; exact ⟨⟨⟨h1, h2⟩, h3⟩, h4⟩
theorem taken_no {p : Bk} {z : Nat} {l : List Str} (h : takenB p (z : Int) l = false) {i : Nat} (hi : i < p.bs.length) (hne : i ≠ z) : ¬ ∃ x ∈ (nth p.bs i).has, x ∈ l := by
  rw [← meets_iff]
  intro hm
  rw [takenB, List.any_eq_false] at h
  exact h i (List.mem_range.2 hi) (by simp [hm]; omega)
/-- more that is had, of what is needed and nobody has -/
theorem ask_ok {p : Bk} {z : Nat} {h : List Str} (hb : bookOk p = true) (hz : z < p.bs.length) (ha : Asc h) (hm : ∀ x ∈ h, x ∈ (nth p.bs z).needs) (hf : ∀ i, i < p.bs.length → i ≠ z → ¬ ∃ x ∈ (nth p.bs i).has, x ∈ h) : bookOk ⟨p.things, setHas p.bs z h⟩ = true := by
  obtain ⟨⟨h1, h2, h3⟩, h4⟩ := (bookOk_iff p).1 hb
  refine (bookOk_iff _).2 ⟨⟨h1, h2, by simpa [setHas] using h3⟩, fun i hi => ?_⟩
  have hi' : i < p.bs.length := by simpa [setHas] using hi
  obtain ⟨g1, g2⟩ := h4 i hi'
  obtain ⟨b1, b2, b3, b4, b5⟩ := (btAt_iff p i).1 g1
  have hnm : ∀ j, (nth (setHas p.bs z h) j).name = (nth p.bs j).name := fun j => by rw [nth_setHas hz]; split <;> simp_all
  have hnd : ∀ j, (nth (setHas p.bs z h) j).needs = (nth p.bs j).needs := fun j => by rw [nth_setHas hz]; split <;> simp_all
  have hhs : ∀ j, (nth (setHas p.bs z h) j).has = if j = z then h else (nth p.bs j).has := fun j => by rw [nth_setHas hz]; split <;> rfl
  refine ⟨(btAt_iff _ i).2 ?_, fun j hj => ?_⟩
  · simp only [hnm, hnd, hhs]
    refine ⟨b1, b2, b3, ?_⟩
    by_cases e : i = z
    · rw [if_pos e, e]; exact ⟨hm, ha⟩
    · rw [if_neg e]; exact ⟨b4, b5⟩
  · simp only [hhs]
    by_cases e : i = z
    · rw [if_pos e, if_neg (by omega)]
      rintro ⟨x, hx, hy⟩
      exact hf j (by omega) (by omega) ⟨x, hy, hx⟩
    · rw [if_neg e]
      by_cases e2 : j = z
      · rw [if_pos e2]; exact hf i hi' e
      · rw [if_neg e2]; exact g2 j hj
theorem askAt_ok {p : Bk} {z : Nat} {l : List Str} (hb : bookOk p = true) (hz : z < p.bs.length) (hl : withinB l (nth p.bs z).needs = true) (ht : takenB p (z : Int) l = false) : bookOk (askAt p z l) = true := by
  obtain ⟨_, h4⟩ := (bookOk_iff p).1 hb
  obtain ⟨g1, g2⟩ := h4 z hz
  obtain ⟨b1, b2, b3, b4, b5⟩ := (btAt_iff p z).1 g1
  obtain ⟨w1, w2⟩ := withB_spec b5.nodup l
  refine ask_ok hb hz w1 (fun x hx => ?_) (fun i hi hne => ?_)
  · rcases (w2 x).1 hx with h | h
    · exact b4 x h
    · exact (within_iff _ _).1 hl x h
  · rintro ⟨x, hx, hy⟩
    rcases (w2 x).1 hy with h | h
    · rcases Nat.lt_or_gt_of_ne hne with h5 | h5
      · exact g2 i h5 ⟨x, h, hx⟩
      · exact (h4 i hi).2 z h5 ⟨x, hx, h⟩
    · exact taken_no ht hi hne ⟨x, hx, h⟩
theorem ask_with {p : Bk} {z : Nat} (l : List Str) (hb : bookOk p = true) (hz : z < p.bs.length) : insGo (nth p.bs z).has l l.length = withB (nth p.bs z).has l := by
  obtain ⟨_, h4⟩ := (bookOk_iff p).1 hb
  exact ins_with ((btAt_iff p z).1 (h4 z hz).1).2.2.2.2 l
theorem asc_sub {a b : List Str} (ha : Asc a) (hb : Asc b) (h : ∀ x ∈ a, x ∈ b) : a.length ≤ b.length := by
  exact ha.nodup.length_le_of_subset h
theorem small_ask {p : Bk} {z : Nat} {l : List Str} (hs : smallBk p) (hb : bookOk p = true) (hz : z < p.bs.length) (hl : withinB l (nth p.bs z).needs = true) : smallBk (askAt p z l) := by
  refine ⟨hs.1, by show (setHas _ _ _).length ≤ _; rw [setHas_len]; exact hs.2.1, fun i hi => ?_⟩
  have hi' : i < p.bs.length := by simpa [askAt, setHas] using hi
  show smallBt (nth (setHas _ _ _) i)
  rw [nth_setHas hz]
  split
  · refine ⟨?_, (hs.2.2 z hz).2⟩
    show (withB _ _).length ≤ _
    obtain ⟨_, h4⟩ := (bookOk_iff p).1 hb
    obtain ⟨g1, g2⟩ := h4 z hz
    obtain ⟨b1, b2, b3, b4, b5⟩ := (btAt_iff p z).1 g1
    obtain ⟨w1, w2⟩ := withB_spec b5.nodup l
    have h := asc_sub w1 b3.2 (fun x hx => by
      rcases (w2 x).1 hx with h | h
      · exact b4 x h
      · exact (within_iff _ _).1 hl x h)
    have := (hs.2.2 z hz).2
    omega
  · exact hs.2.2 i hi'
theorem ask_eqv0 {bs : List Bt} {z : Nat} (hz : z < bs.length) (l : List Str) : Eqv (.sl 105 3 bs.length (fun i => (nth bs i).zcells)) (bts 105 (setHas bs z (insGo (nth bs z).has l 0))) := by
  unfold bts
  rw [setHas_len]
  refine .rows fun j hj => ?_
  rw [nth_setHas hz]
  split
  · rename_i e; subst e; rfl
  · rfl
theorem ask_eqv1 {bs : List Bt} {z i : Nat} (hz : z < bs.length) (l : List Str) : Eqv (.sl 105 3 (setHas bs z (insGo (nth bs z).has l i)).length (setRow (fun j => (nth (setHas bs z (insGo (nth bs z).has l i)) j).zcells) z 1 (.fz (strs (insB (nth (setHas bs z (insGo (nth bs z).has l i)) z).has (nth l i)))))) (bts 105 (setHas bs z (insGo (nth bs z).has l (i + 1)))) := by
  unfold bts
  rw [setHas_len, setHas_len]
  refine .rows fun j hj => ?_
  by_cases e : j = z
  · subst e; simp only [Mh.setRow_self, nth_setHas hz, if_true]; rfl
  · rw [Mh.setRow_other _ _ _ _ e]; simp only [nth_setHas hz, if_neg e]
theorem ask_tree {p : Bk} {z : Nat} (l : List Str) (hb : bookOk p = true) (hz : z < p.bs.length) : Eqv (bts 105 (setHas p.bs z (insGo (nth p.bs z).has l l.length))) (bts 105 (askAt p z l).bs) := by
  unfold askAt; rw [ask_with l hb hz]; exact .refl _
theorem ask_eqv2 {bs : List Bt} {z : Nat} (hz : z < bs.length) (h : List Str) : Eqv (.sl 105 3 bs.length (setRow (fun j => (nth bs j).cells) z 1 (strs h))) (btsO 105 (setHas bs z h)) := by
  unfold btsO
  rw [setHas_len]
  refine .rows fun j hj => ?_
  rw [nth_setHas hz]
  by_cases e : j = z
  · subst e; rw [if_pos rfl, Mh.setRow_self]; rfl
  · rw [if_neg e, Mh.setRow_other _ _ _ _ e]
theorem bt_fz (bs : List Bt) : ∀ i j, i < bs.length → Fz (((nth bs i).cells).getD j .dead) (((nth bs i).zcells).getD j .dead) ∧ noSl (((nth bs i).zcells).getD j .dead) = true := fun i j _ => match j with
  | 0 => ⟨.refl _, rfl⟩
  | 1 => ⟨.fz (.refl _), rfl⟩
  | 2 => ⟨.fz (.refl _), rfl⟩
  | _ + 3 => ⟨.refl _, rfl⟩

theorem ykFo34_1 : fieldOff Tryz.prog 34 1 = some 1 := by kernel_rfl
theorem ykSc32 : scalarB Tryz.prog 32 = true := by kernel_rfl
theorem ykSl32 : sliceT Tryz.prog 32 = some ⟨105, 3, 64⟩ := by kernel_rfl
theorem ykFo105_1 : fieldOff Tryz.prog 105 1 = some 1 := by kernel_rfl
theorem ykSc22 : scalarB Tryz.prog 22 = true := by kernel_rfl
theorem ykCo144 : callOk Tryz.prog 144 = true := by kernel_rfl
theorem ykZs34 : zeroSz Tryz.prog 34 = some 2 := by kernel_rfl
theorem ykSt34 : structSz Tryz.prog 34 = some 2 := by kernel_rfl
theorem ykCo26 : callOk Tryz.prog 26 = true := by kernel_rfl
theorem ykPl34 : structPl Tryz.prog 34 = some [(0, 1), (1, 1)] := by kernel_rfl
theorem ykZc34 : zeroCs Tryz.prog 34 = some [.nil, .nil] := by kernel_rfl
theorem ykCs34 : cellsSz Tryz.prog 34 = some (1 + 1) := by kernel_rfl
theorem ykCo66 : callOk Tryz.prog 66 = true := by kernel_rfl
theorem ykCo70 : callOk Tryz.prog 70 = true := by kernel_rfl
theorem ykCo68 : callOk Tryz.prog 68 = true := by kernel_rfl
theorem ykFo105_2 : fieldOff Tryz.prog 105 2 = some 2 := by kernel_rfl
theorem ykCo69 : callOk Tryz.prog 69 = true := by kernel_rfl
theorem ykSt105 : structSz Tryz.prog 105 = some 3 := by kernel_rfl
theorem ykZs105 : zeroSz Tryz.prog 105 = some 3 := by kernel_rfl
theorem ykCs105 : cellsSz Tryz.prog 105 = some (2 + 1) := by kernel_rfl
theorem ykCo80 : callOk Tryz.prog 80 = true := by kernel_rfl
theorem ykCo81 : callOk Tryz.prog 81 = true := by kernel_rfl
theorem ykCo82 : callOk Tryz.prog 82 = true := by kernel_rfl
theorem ykCs22 : cellsSz Tryz.prog 22 = some (0 + 1) := by kernel_rfl
theorem ykMo : Tryz.prog.follows .mixedOrders = true := by kernel_rfl
theorem ykCo74 : callOk Tryz.prog 74 = true := by kernel_rfl
theorem ykCo75 : callOk Tryz.prog 75 = true := by kernel_rfl
theorem ykCo78 : callOk Tryz.prog 78 = true := by kernel_rfl
theorem ykCo77 : callOk Tryz.prog 77 = true := by kernel_rfl
theorem ykCo83 : callOk Tryz.prog 83 = true := by kernel_rfl
theorem ykSl22 : sliceT Tryz.prog 22 = some ⟨9, 1, 16⟩ := by kernel_rfl
theorem ykSc9 : scalarB Tryz.prog 9 = true := by kernel_rfl
theorem ykCo84 : callOk Tryz.prog 84 = true := by kernel_rfl
theorem ykCo85 : callOk Tryz.prog 85 = true := by kernel_rfl
theorem takenS (p : Bk) (z : Int) (l : List Str)  : ASpec Tryz.prog 83 [.agg (p.cells 105), .one (.int .i64 z), .one (strs l)] (.one (.bool (takenB p z l))) := by
  refine ASpec.body Tryz.func83 rfl [6] rfl 28 rfl rfl rfl ?_
  refine AWp.aggLe 0 rfl (fun hc => ?_)
  have hl : p.bs.length ≤ 9223372036854775807 := hc (.v (bts 105 p.bs)) (by exact List.mem_cons_of_mem _ List.mem_cons_self)
  clear hc
  refine AWp.seq (AWp.region ?_)
  refine ARun.step rfl (step_box_p (m := 1) rfl (hn rfl) rfl rfl rfl rfl rfl) ?_
  refine ARun.step rfl (step_assignV rfl (hn rfl) rfl rfl) ?_
  refine ARun.nil ?_
  refine AWp.seq ?_
  refine AWp.seq (AWp.region ?_)
  refine ARun.step rfl (step_assignV rfl (hn rfl) rfl rfl) ?_
  refine ARun.nil ?_
  refine AWp.block ?_
  refine AWp.loopM (fun i : Nat => mkAS 28 [(1, ⟨true, .one (.v (.int .i64 z))⟩), (2, ⟨true, .one (.v (strs l))⟩), (3, ⟨true, .one (.bptr 3 0)⟩), (7, ⟨true, .one (.v (.int .i64 (i : Nat)))⟩)] [(3, (p.cells 105).map C.v)] []) (fun i => i ≤ p.bs.length ∧ ∀ j, j < i → (decide ((j : Int) ≠ z) && meetsB (nth p.bs j).has l) = false) (fun i => p.bs.length - i) 0 ?_ (Le.forgetR rfl ⟨rfl, rfl, rfl, rfl, trivial⟩ ⟨rfl, trivial⟩ trivial) ?_
  · try dsimp only
    exact ⟨by omega, by omega⟩
  rintro i ⟨hi, hall⟩
  refine AWp.seq ?_
  refine AWp.seq (AWp.region ?_)
  refine ARun.step rfl (step_moveV rfl (hn rfl) rfl rfl) ?_
  refine ARun.step rfl (step_field_b rfl (hn rfl) rfl ykFo34_1 rfl (by exact List.cons_ne_nil _ _)) ?_
  refine ARun.step rfl (step_load_b rfl (hn rfl) rfl ykSc32 rfl rfl) ?_
  refine ARun.step rfl (step_len_f rfl (hn rfl) rfl ykSl32 rfl) ?_
  refine ARun.step rfl (step_lss rfl (hn rfl) rfl rfl rfl) ?_
  refine ARun.nil ?_
  refine AWp.cond rfl (fun c1 => ?_) (fun c1 => ?_)
  · try simp only [nrm] at c1
    refine AWp.skip ?_
    refine AWp.seq ?_
    refine AWp.block ?_
    refine AWp.seq (AWp.region ?_)
    refine ARun.step rfl (step_moveV rfl (hn rfl) rfl rfl) ?_
    refine ARun.step rfl (step_moveV rfl (hn rfl) rfl rfl) ?_
    refine ARun.step rfl (step_neq rfl (hn rfl) rfl rfl rfl) ?_
    refine ARun.step rfl (step_moveV rfl (hn rfl) rfl rfl) ?_
    refine guardS rfl rfl rfl rfl (hn rfl) (fun g1 g2 => step_field_b rfl (hn rfl) rfl ykFo34_1 rfl (by exact List.cons_ne_nil _ _)) ?_
    refine guardS rfl rfl rfl rfl (hn rfl) (fun g1 g2 => step_load_b rfl (hn rfl) rfl ykSc32 (ev_true rfl (by exact flag2 g1 g2)) rfl) ?_
    refine guardS rfl rfl rfl rfl (hn rfl) (fun g1 g2 => step_moveV rfl (hn rfl) rfl rfl) ?_
    refine guardS rfl rfl rfl rfl (hn rfl) (fun g1 g2 => step_index_fN rfl (hn rfl) rfl ykSl32 (ev_true rfl (by exact flag2 g1 g2)) (ev_true rfl (by exact flag2 g1 g2)) (by first | omega | (have := of_decide_eq_true g2; omega) | (have := of_decide_eq_false g2; omega) | (simp only [nrm] at g2; omega) | (simp only [nrm, Bool.true_and] at g1 g2; omega))) ?_
    refine guardS rfl rfl rfl rfl (hn rfl) (fun g1 g2 => step_field_f rfl (hn rfl) rfl ykFo105_1 (ev_true rfl (by exact flag2 g1 g2))) ?_
    refine guardS rfl rfl rfl rfl (hn rfl) (fun g1 g2 => step_load_f rfl (hn rfl) rfl ykSc22 (ev_true rfl (by exact flag2 g1 g2)) (hn rfl) rfl) ?_
    refine guardS rfl rfl rfl rfl (hn rfl) (fun g1 g2 => step_moveV rfl (hn rfl) rfl rfl) ?_
    refine guardS rfl rfl rfl rfl (hn rfl) (fun g1 g2 => call_step1 rfl (hn rfl) rfl ykCo144 (.cons (ev_true rfl (by exact flag2 g1 g2)) (.one (.v _)) (.cons (ev_true rfl (by exact flag2 g1 g2)) (.one (.v _)) (.nil))) (l51Share _ _) rfl) ?_
    refine ARun.step rfl (step_and rfl (hn rfl) rfl rfl rfl (fun h => (by exact flag1 h))) ?_
    refine ARun.nil ?_
    refine AWp.cond rfl (fun c2 => ?_) (fun c2 => ?_)
    · try simp only [nrm] at c2
      refine AWp.seq (AWp.region ?_)
      refine ARun.step rfl (step_assignV rfl (hn rfl) rfl rfl) ?_
      refine ARun.nil ?_
      refine AWp.ret ?_
      refine RetIs.sc (.inr rfl) rfl rfl ?_
      refine congrArg T.bool ?_
      rw [takenB, any_of (i := i) (by omega) (by grind)]
    · try simp only [nrm] at c2
      refine AWp.skip ?_
      refine AWp.region ?_
      refine ARun.step rfl (step_moveV rfl (hn rfl) rfl rfl) ?_
      refine ARun.step rfl (step_addI rfl (hn rfl) rfl rfl rfl (by omega) (by omega)) ?_
      refine ARun.step rfl (step_assignV rfl (hn rfl) rfl rfl) ?_
      refine ARun.nil ?_
      refine ⟨i + 1, ?_, ?_, Le.forgetR rfl ⟨rfl, rfl, rfl, rfl, trivial⟩ ⟨rfl, trivial⟩ trivial⟩
      · try dsimp only
        exact ⟨by omega, upto hall (by grind)⟩
      · try dsimp only
        omega
  · try simp only [nrm] at c1
    refine AWp.exit ?_
    refine AWp.seq (AWp.region ?_)
    refine ARun.step rfl (step_assignV rfl (hn rfl) rfl rfl) ?_
    refine ARun.nil ?_
    refine AWp.ret ?_
    refine RetIs.sc (.inr rfl) rfl rfl ?_
    refine congrArg T.bool ?_
    rw [takenB, any_not (fun j hj => hall j (by omega))]
theorem askI (p : Bk) (s : Str) (l : List Str) (hs : smallBk p) (hl : l.length ≤ 1048576) : ASpec Tryz.prog 19 [.agg (p.cells 105), .one (.str s), .one (strs l)] (.tup [.agg ((askR p s l).1.ocells 105), .one (.int .i64 (askR p s l).2)]) := by
  refine ASpec.bodyC Tryz.func19 rfl 6 34 [7] rfl rfl 95 rfl rfl rfl ?_
  have hs1 := hs.2.1
  have hix := idxB_lt p s
  refine AWp.seq (AWp.region ?_)
  refine ARun.step rfl (step_box_p (m := 1) rfl (hn rfl) rfl rfl rfl rfl rfl) ?_
  refine ARun.step rfl (step_alloc_p rfl (hn rfl) rfl ykZs34) ?_
  refine ARun.step rfl (step_assignV rfl (hn rfl) rfl rfl) ?_
  refine ARun.nil ?_
  refine AWp.seq ?_
  refine AWp.seq (AWp.region ?_)
  refine ARun.step rfl (step_loadS_b rfl (hn rfl) rfl ykSt34 rfl rfl rfl (by decide)) ?_
  refine ARun.step rfl (call_step1 rfl (hn rfl) rfl ykCo26 (.cons rfl (.agg (.cons (.v _) (.cons (.v _) .nil))) (.nil)) (bookOkI _) rfl) ?_
  refine ARun.step rfl (step_not rfl (hn rfl) rfl rfl) ?_
  refine ARun.nil ?_
  refine AWp.cond rfl (fun c1 => ?_) (fun c1 => ?_)
  · try simp only [nrm] at c1
    refine AWp.seq (AWp.region ?_)
    refine ARun.step rfl (step_build rfl (hn rfl) rfl ykPl34 ykZc34 (.nil) rfl) ?_
    refine ARun.step rfl (step_store_p rfl rfl ykCs34 rfl rfl rfl rfl rfl rfl rfl) ?_
    refine ARun.step rfl (step_assignV rfl (hn rfl) rfl rfl) ?_
    refine ARun.nil ?_
    refine AWp.ret ?_
    refine ⟨.inr rfl, 6, 2, _, _, _, ykSt34, by decide, rfl, rfl, rfl, rfl, (.cons rfl (.agg (.cons (.nil 9 1 (fun i => [.str (nth [] i)]) _) (.cons (.nil 105 3 (fun i => (nth ([] : List Bt) i).cells) _) (.nil _)))) (.cons rfl (.one (.sc _ _ rfl)) (.nil _))), rfl, ?_⟩
    rw [show askR p s l = (emptyBk, 1) by simp only [askR]; grind]
    rfl
  · try simp only [nrm] at c1
    refine AWp.skip ?_
    refine AWp.seq (AWp.region ?_)
    refine ARun.step rfl (step_loadS_b rfl (hn rfl) rfl ykSt34 rfl rfl rfl (by decide)) ?_
    refine ARun.step rfl (call_stepN rfl (hn rfl) rfl ykCo66 (.cons rfl (.agg (.cons (.v _) (.cons (.v _) .nil))) (.nil)) (copyI _ hs) rfl rfl) ?_
    refine ARun.step rfl (step_alloc_p rfl (hn rfl) rfl ykZs34) ?_
    refine ARun.step rfl (step_store_r rfl rfl ykCs34 rfl rfl rfl rfl rfl rfl rfl) ?_
    refine ARun.nil ?_
    refine AWp.seq (AWp.region ?_)
    refine ARun.step rfl (step_loadS_b rfl (hn rfl) rfl ykSt34 rfl rfl rfl (by decide)) ?_
    refine ARun.step rfl (step_moveV rfl (hn rfl) rfl rfl) ?_
    refine ARun.step rfl (call_step1 rfl (hn rfl) rfl ykCo70 (.cons rfl (.agg (.cons (.ref _ rfl) (.cons (.refz _ rfl (fz_bts _ _)) .nil))) (.cons rfl (.one (.v _)) (.nil))) (batchI _ _) rfl) ?_
    refine ARun.step rfl (step_assignV rfl (hn rfl) rfl rfl) ?_
    refine ARun.nil ?_
    refine AWp.seq ?_
    refine AWp.seq (AWp.region ?_)
    refine ARun.step rfl (step_moveV rfl (hn rfl) rfl rfl) ?_
    refine ARun.step rfl (step_lss rfl (hn rfl) rfl rfl rfl) ?_
    refine ARun.nil ?_
    refine AWp.cond rfl (fun c2 => ?_) (fun c2 => ?_)
    · try simp only [nrm] at c2
      refine AWp.seq (AWp.region ?_)
      refine ARun.step rfl (step_loadS_b rfl (hn rfl) rfl ykSt34 rfl rfl rfl (by decide)) ?_
      refine ARun.step rfl (step_store_r rfl rfl ykCs34 rfl rfl rfl rfl rfl rfl rfl) ?_
      refine ARun.step rfl (step_assignV rfl (hn rfl) rfl rfl) ?_
      refine ARun.nil ?_
      refine AWp.ret ?_
      refine ⟨.inr rfl, 6, 2, _, _, _, ykSt34, by decide, rfl, rfl, rfl, rfl, (.cons rfl (.agg (.cons (.ref _ _ rfl) (.cons (.ref _ _ rfl) (.nil _)))) (.cons rfl (.one (.sc _ _ rfl)) (.nil _))), rfl, ?_⟩
      rw [show askR p s l = (p, 3) by simp only [askR]; grind]
      rfl
    · try simp only [nrm] at c2
      have hzz : (((idxB p s).toNat : Nat) : Int) = idxB p s := by omega
      have hzl : (idxB p s).toNat < p.bs.length := by omega
      have hzb := (hs.2.2 (idxB p s).toNat hzl).1
      refine AWp.skip ?_
      refine AWp.seq ?_
      refine AWp.seq (AWp.region ?_)
      refine ARun.step rfl (step_moveV rfl (hn rfl) rfl rfl) ?_
      refine ARun.step rfl (call_step1 rfl (hn rfl) rfl ykCo68 (.cons rfl (.one (.v _)) (.nil)) (risingI _) rfl) ?_
      refine ARun.step rfl (step_not rfl (hn rfl) rfl rfl) ?_
      refine ARun.step rfl (step_moveV rfl (hn rfl) rfl rfl) ?_
      refine guardS rfl rfl rfl rfl (hn rfl) (fun g1 g2 => step_moveV rfl (hn rfl) rfl rfl) ?_
      refine guardS rfl rfl rfl rfl (hn rfl) (fun g1 g2 => step_field_b rfl (hn rfl) rfl ykFo34_1 rfl (by exact List.cons_ne_nil _ _)) ?_
      refine guardS rfl rfl rfl rfl (hn rfl) (fun g1 g2 => step_load_b rfl (hn rfl) rfl ykSc32 (ev_true rfl (by exact flag2 g1 g2)) rfl) ?_
      refine guardS rfl rfl rfl rfl (hn rfl) (fun g1 g2 => step_moveV rfl (hn rfl) rfl rfl) ?_
      refine guardS rfl rfl rfl rfl (hn rfl) (fun g1 g2 => step_index_r rfl (hn rfl) rfl ykSl32 (ev_true rfl (by exact flag2 g1 g2)) rfl (ev_true rfl (by exact flag2 g1 g2)) (by first | omega | (have := of_decide_eq_true g2; omega) | (have := of_decide_eq_false g2; omega) | (simp only [nrm] at g2; omega) | (simp only [nrm, Bool.true_and] at g1 g2; omega)) (by first | omega | (have := of_decide_eq_true g2; omega) | (have := of_decide_eq_false g2; omega) | (simp only [nrm] at g2; omega) | (simp only [nrm, Bool.true_and] at g1 g2; omega))) ?_
      refine guardS rfl rfl rfl rfl (hn rfl) (fun g1 g2 => step_field_e rfl (hn rfl) rfl ykFo105_2 (ev_true rfl (by exact flag2 g1 g2)) rfl) ?_
      refine guardS rfl rfl rfl rfl (hn rfl) (fun g1 g2 => step_load_e rfl (hn rfl) rfl ykSc22 (ev_true rfl (by exact flag2 g1 g2)) rfl (by first | omega | (have := of_decide_eq_true g2; omega) | (have := of_decide_eq_false g2; omega) | (simp only [nrm] at g2; omega) | (simp only [nrm, Bool.true_and] at g1 g2; omega)) (hn rfl) rfl) ?_
      refine guardS rfl rfl rfl rfl (hn rfl) (fun g1 g2 => call_step1 rfl (hn rfl) rfl ykCo69 (.cons (ev_true rfl (by exact flag2 g1 g2)) (.one (.v _)) (.cons (ev_true rfl (by exact flag2 g1 g2)) (.one (.ref _ ((node_push _ _ _ _ rfl (by omega)).trans rfl))) (.nil))) (withinI _ _) rfl) ?_
      refine guardS rfl rfl rfl rfl (hn rfl) (fun g1 g2 => step_not rfl (hn rfl) rfl (ev_true rfl (by exact flag2 g1 g2))) ?_
      refine ARun.step rfl (step_or rfl (hn rfl) rfl rfl rfl (fun h => (by exact flag1 h))) ?_
      refine ARun.nil ?_
      refine AWp.cond rfl (fun c3 => ?_) (fun c3 => ?_)
      · try simp only [nrm] at c3
        refine AWp.seq (AWp.region ?_)
        refine ARun.step rfl (step_loadS_b rfl (hn rfl) rfl ykSt34 rfl rfl rfl (by decide)) ?_
        refine ARun.step rfl (step_store_r rfl rfl ykCs34 rfl rfl rfl rfl rfl rfl rfl) ?_
        refine ARun.step rfl (step_assignV rfl (hn rfl) rfl rfl) ?_
        refine ARun.nil ?_
        refine AWp.ret ?_
        refine ⟨.inr rfl, 6, 2, _, _, _, ykSt34, by decide, rfl, rfl, rfl, rfl, (.cons rfl (.agg (.cons (.ref _ _ rfl) (.cons (.ref _ _ rfl) (.nil _)))) (.cons rfl (.one (.sc _ _ rfl)) (.nil _))), rfl, ?_⟩
        rw [show askR p s l = (p, 2) by simp only [askR]; grind]
        rfl
      · try simp only [nrm] at c3
        refine AWp.skip ?_
        refine AWp.seq ?_
        refine AWp.seq (AWp.region ?_)
        refine ARun.step rfl (step_field_b rfl (hn rfl) rfl ykFo34_1 rfl (by exact List.cons_ne_nil _ _)) ?_
        refine ARun.step rfl (step_load_b rfl (hn rfl) rfl ykSc32 rfl rfl) ?_
        refine ARun.step rfl (step_len_r rfl (hn rfl) rfl ykSl32 rfl rfl) ?_
        refine ARun.step rfl (step_moveV rfl (hn rfl) rfl rfl) ?_
        refine ARun.nil ?_
        refine AWp.block ?_
        refine AWp.loopM (fun i : Nat => mkAS 95 [(1, ⟨true, .one (.v (.str s))⟩), (2, ⟨true, .one (.v (strs l))⟩), (6, ⟨true, .one (.bptr 6 0)⟩), (8, ⟨true, .one (.bptr 8 0)⟩), (9, ⟨true, .one (.v (.int .i64 (idxB p s)))⟩), (45, ⟨true, .one (.ref ⟨.arr 22 1, []⟩)⟩), (46, ⟨true, .one (.v (.int .i64 (p.bs.length : Nat)))⟩), (47, ⟨true, .one (.v (.int .i64 (i : Nat)))⟩)] [(6, [.any, .any]), (8, [.ref ⟨.arr 22 0, []⟩, .ref ⟨.arr 22 1, []⟩])] [(22, 0, strs p.things), (22, 1, btsO 105 p.bs)]) (fun i => i ≤ p.bs.length ∧ ∀ j, j < i → (decide ((j : Int) ≠ idxB p s) && meetsB (nth p.bs j).has l) = false) (fun i => p.bs.length - i) 0 ?_ (Le.forgetR rfl ⟨rfl, rfl, rfl, rfl, rfl, rfl, rfl, rfl, trivial⟩ ⟨rfl, rfl, trivial⟩ ⟨.refl _, .refl _, trivial⟩) ?_
        · try dsimp only
          exact ⟨by omega, by omega⟩
        rintro i ⟨hi, hall⟩
        refine AWp.seq (AWp.region ?_)
        refine ARun.step rfl (step_lss rfl (hn rfl) rfl rfl rfl) ?_
        refine ARun.nil ?_
        refine AWp.seq ?_
        refine AWp.cond rfl (fun c4 => ?_) (fun c4 => ?_)
        · try simp only [nrm] at c4
          refine AWp.skip ?_
          refine AWp.seq ?_
          refine AWp.block ?_
          refine AWp.seq (AWp.region ?_)
          refine ARun.step rfl (step_moveV rfl (hn rfl) rfl rfl) ?_
          refine ARun.step rfl (step_index_rN rfl (hn rfl) rfl ykSl32 rfl rfl rfl (by omega)) ?_
          refine ARun.step rfl (step_loadS_e rfl (hn rfl) rfl ykSt105 rfl rfl (by omega) (hn rfl) rfl rfl) ?_
          refine ARun.step rfl (step_alloc_p rfl (hn rfl) rfl ykZs105) ?_
          refine ARun.step rfl (step_assignV rfl (hn rfl) rfl rfl) ?_
          refine ARun.step rfl (step_store_r rfl rfl ykCs105 rfl rfl rfl rfl rfl (by exact (boxAll_cons rfl (boxAll_cons (boxC_push rfl (by omega) rfl) (boxAll_cons (boxC_push rfl (by omega) rfl) rfl)))) rfl) ?_
          refine ARun.nil ?_
          refine AWp.seq (AWp.region ?_)
          refine ARun.step rfl (step_moveV rfl (hn rfl) rfl rfl) ?_
          refine ARun.step rfl (step_moveV rfl (hn rfl) rfl rfl) ?_
          refine ARun.step rfl (step_neq rfl (hn rfl) rfl rfl rfl) ?_
          refine ARun.step rfl (step_moveV rfl (hn rfl) rfl rfl) ?_
          refine guardS rfl rfl rfl rfl (hn rfl) (fun g1 g2 => step_field_b rfl (hn rfl) rfl ykFo105_1 rfl (by exact List.cons_ne_nil _ _)) ?_
          refine guardS rfl rfl rfl rfl (hn rfl) (fun g1 g2 => step_load_b rfl (hn rfl) rfl ykSc22 (ev_true rfl (by exact flag2 g1 g2)) rfl) ?_
          refine guardS rfl rfl rfl rfl (hn rfl) (fun g1 g2 => step_moveV rfl (hn rfl) rfl rfl) ?_
          refine guardS rfl rfl rfl rfl (hn rfl) (fun g1 g2 => call_step1 rfl (hn rfl) rfl ykCo80 (.cons (ev_true rfl (by exact flag2 g1 g2)) (.one (.ref _ ((node_push _ _ _ _ rfl (by omega)).trans rfl))) (.cons (ev_true rfl (by exact flag2 g1 g2)) (.one (.v _)) (.nil))) (meetsI _ _) rfl) ?_
          refine ARun.step rfl (step_and rfl (hn rfl) rfl rfl rfl (fun h => (by exact flag1 h))) ?_
          refine ARun.nil ?_
          refine AWp.cond rfl (fun c5 => ?_) (fun c5 => ?_)
          · try simp only [nrm] at c5
            have ht : takenB p (idxB p s) l = true := by rw [takenB, any_of (i := i) (by omega) (by grind)]
            refine AWp.seq (AWp.region ?_)
            refine ARun.step rfl (step_loadS_b rfl (hn rfl) rfl ykSt34 rfl rfl rfl (by decide)) ?_
            refine ARun.step rfl (step_store_r rfl rfl ykCs34 rfl rfl rfl rfl rfl rfl rfl) ?_
            refine ARun.step rfl (step_assignV rfl (hn rfl) rfl rfl) ?_
            refine ARun.nil ?_
            refine AWp.ret ?_
            refine ⟨.inr rfl, 6, 2, _, _, _, ykSt34, by decide, rfl, rfl, rfl, rfl, (.cons rfl (.agg (.cons (.ref _ _ rfl) (.cons (.ref _ _ rfl) (.nil _)))) (.cons rfl (.one (.sc _ _ rfl)) (.nil _))), rfl, ?_⟩
            rw [show askR p s l = (p, 5) by simp only [askR]; grind]
            rfl
          · try simp only [nrm] at c5
            refine AWp.skip ?_
            refine AWp.region ?_
            refine ARun.step rfl (step_addI rfl (hn rfl) rfl rfl rfl (by omega) (by omega)) ?_
            refine ARun.step rfl (step_moveV rfl (hn rfl) rfl rfl) ?_
            refine ARun.nil ?_
            refine ⟨i + 1, ?_, ?_, Le.forgetR rfl ⟨rfl, rfl, rfl, rfl, rfl, rfl, rfl, rfl, trivial⟩ ⟨rfl, rfl, trivial⟩ ⟨.refl _, .refl _, trivial⟩⟩
            · try dsimp only
              exact ⟨by omega, upto hall (by grind)⟩
            · try dsimp only
              omega
        · try simp only [nrm] at c4
          refine AWp.exit ?_
          have ht : takenB p (idxB p s) l = false := by rw [takenB, any_not (fun j hj => hall j (by omega))]
          refine AWp.seq (AWp.region ?_)
          refine ARun.step rfl (step_loadS_b rfl (hn rfl) rfl ykSt34 rfl rfl rfl (by decide)) ?_
          refine ARun.step rfl (call_stepC rfl (hn rfl) rfl ykCo81 (.cons rfl (.agg (.cons (.ref _ rfl) (.cons (.refz _ rfl (fz_bts _ _)) .nil))) (.nil)) (orderI p c1) rfl (CleanL.all (.cons (clean_strs _) (.cons (.bool _) .nil)))) ?_
          refine ARun.step rfl (step_moveV rfl (hn rfl) rfl rfl) ?_
          refine ARun.step rfl (step_extract rfl (hn rfl) rfl rfl rfl (by intro l h; cases h)) ?_
          refine ARun.step rfl (step_extract rfl (hn rfl) rfl rfl rfl (by intro l h; cases h)) ?_
          refine ARun.step rfl (step_assignV rfl (hn rfl) rfl rfl) ?_
          refine ARun.step rfl (step_assignV rfl (hn rfl) rfl rfl) ?_
          refine ARun.nil ?_
          refine AWp.seq (AWp.region ?_)
          refine ARun.step rfl (step_loadS_b rfl (hn rfl) rfl ykSt34 rfl rfl rfl (by decide)) ?_
          refine ARun.step rfl (call_stepC rfl (hn rfl) rfl ykCo66 (.cons rfl (.agg (.cons (.ref _ rfl) (.cons (.refz _ rfl (fz_bts _ _)) .nil))) (.nil)) (copyI p hs) rfl (CleanL.all (.cons (clean_strs _) (.cons (clean_btsO _ _) .nil)))) ?_
          refine ARun.step rfl (step_alloc_p rfl (hn rfl) rfl ykZs34) ?_
          refine ARun.step rfl (step_store_r rfl rfl ykCs34 rfl rfl rfl rfl rfl rfl rfl) ?_
          refine ARun.nil ?_
          refine AWp.seq (AWp.drawM [⟨⟨[.s 14, .b 14], [.s 70], false⟩, none, [80]⟩, ⟨⟨[.s 70, .b 14], [.s 71], false⟩, none, [80]⟩, ⟨⟨[.s 9], [.s 72], false⟩, none, [80]⟩, ⟨⟨[.s 14, .b 14], [.s 73], false⟩, none, [80]⟩, ⟨⟨[.s 73, .b 14], [.s 74], false⟩, none, [80]⟩, ⟨⟨[.s 9], [.s 75], false⟩, none, [80]⟩, ⟨⟨[.s 74, .a 69 1, .s 75], [.s 76], false⟩, none, [80]⟩, ⟨⟨[.s 76, .a 69 1], [.s 77], false⟩, none, [80]⟩, ⟨⟨[.s 77, .a 69 1], [.s 78], false⟩, none, [80]⟩, ⟨⟨[.s 2], [.s 79], false⟩, none, [80]⟩, ⟨⟨[.s 79, .a 69 1, .s 78], [.s 80, .a 80 0], false⟩, some 80, []⟩, ⟨⟨[], [], true⟩, none, []⟩, ⟨⟨[], [], true⟩, none, []⟩, ⟨⟨[], [], true⟩, none, []⟩] ykMo rfl rfl (Le.forgetR (n := 95) (sl := [(1, _), (2, _), (6, _), (8, _), (9, _), (12, _), (13, _), (14, _), (45, _), (46, _), (47, _), (48, _), (63, _), (64, _), (65, _), (66, _), (67, _), (68, _), (69, _)]) (bl := [(6, _), (8, _), (14, _)]) (al := [(22, 0, _), (22, 1, _), (65, 0, _), (69, 0, _), (69, 1, _)]) rfl ⟨rfl, rfl, rfl, rfl, rfl, rfl, rfl, rfl, rfl, rfl, rfl, rfl, rfl, rfl, rfl, rfl, rfl, rfl, rfl, trivial⟩ ⟨rfl, rfl, rfl, trivial⟩ ⟨.refl _, .refl _, .refl _, .refl _, .refl _, trivial⟩) rfl ?_)
          refine FRun.slot rfl (fun τ hN hr => step_field_b rfl (rdN hN (hn rfl)) rfl ykFo34_1 (by exact rdS hr rfl rfl) (by exact rdBne hr rfl (by exact List.cons_ne_nil _ _))) (by exact rfl) ?_
          refine FRun.slot rfl (fun τ hN hr => step_load_b rfl (rdN hN (hn rfl)) rfl ykSc32 (by exact rdS hr rfl rfl) (by exact rdBget hr rfl rfl)) (by exact rfl) ?_
          refine FRun.slot rfl (fun τ hN hr => step_moveV rfl (rdN hN (hn rfl)) rfl (by exact rdS hr rfl rfl)) (by exact rfl) ?_
          refine FRun.slot rfl (fun τ hN hr => step_field_b rfl (rdN hN (hn rfl)) rfl ykFo34_1 (by exact rdS hr rfl rfl) (by exact rdBne hr rfl (by exact List.cons_ne_nil _ _))) (by exact rfl) ?_
          refine FRun.slot rfl (fun τ hN hr => step_load_b rfl (rdN hN (hn rfl)) rfl ykSc32 (by exact rdS hr rfl rfl) (by exact rdBget hr rfl rfl)) (by exact rfl) ?_
          refine FRun.slot rfl (fun τ hN hr => step_moveV rfl (rdN hN (hn rfl)) rfl (by exact rdS hr rfl rfl)) (by exact rfl) ?_
          refine FRun.slot rfl (fun τ hN hr => step_index_r rfl (rdN hN (hn rfl)) rfl ykSl32 (by exact rdS hr rfl rfl) (by exact rdA hr rfl rfl) (by exact rdS hr rfl rfl) (by omega) (by omega)) (by exact rfl) ?_
          refine FRun.slot rfl (fun τ hN hr => step_field_e rfl (rdN hN (hn rfl)) rfl ykFo105_1 (by exact rdS hr rfl rfl) (by exact rdA hr rfl rfl)) (by exact rfl) ?_
          refine FRun.slot rfl (fun τ hN hr => step_load_e rfl (rdN hN (hn rfl)) rfl ykSc22 (by exact rdS hr rfl rfl) (by exact rdA hr rfl rfl) (by omega) (hn rfl) rfl) (by exact rfl) ?_
          refine FRun.slot rfl (fun τ hN hr => step_moveV rfl (rdN hN (hn rfl)) rfl (by exact rdS hr rfl rfl)) (by exact rfl) ?_
          refine FRun.fresh rfl (fun τ hN hr => call_freshC rfl (rdN hN (hn rfl)) rfl ykCo82 (.cons (by exact rdS hr rfl rfl) (.one (.ref _ (by exact (rdNodePush hr rfl rfl (by omega)).trans rfl))) (.cons (by exact rdS hr rfl rfl) (.one (.v _)) (.nil))) (withI _ _ hzb hl) rfl (clean_strs _)) (by exact rfl) ?_
          refine FRun.whole rfl (step_index_r rfl (hn rfl) rfl ykSl32 rfl rfl rfl (by omega) (by omega)) (by exact rfl) ?_
          refine FRun.whole rfl (step_field_e rfl (hn rfl) rfl ykFo105_1 rfl rfl) (by exact rfl) ?_
          refine FRun.whole rfl (step_store_e rfl rfl ykCs22 rfl rfl (by omega) (hn rfl) rfl rfl rfl) (by exact rfl) ?_
          refine FRun.nil ?_
          refine AWp.seq ?_
          refine AWp.le (Le.retree 69 1 (t := btsO 105 (askAt p (idxB p s).toNat l).bs) (ask_eqv2 hzl _)) ?_
          refine AWp.seq (AWp.region ?_)
          refine ARun.step rfl (step_loadS_b rfl (hn rfl) rfl ykSt34 rfl rfl rfl (by decide)) ?_
          refine ARun.step rfl (call_stepC rfl (hn rfl) rfl ykCo81 (.cons rfl (.agg (.cons (.ref _ rfl) (.cons (.refz _ rfl (fz_bts _ _)) .nil))) (.nil)) (orderI (askAt p (idxB p s).toNat l) (askAt_ok c1 hzl c3.2 (by rw [hzz]; exact ht))) rfl (CleanL.all (.cons (clean_strs _) (.cons (.bool _) .nil)))) ?_
          refine ARun.step rfl (step_moveV rfl (hn rfl) rfl rfl) ?_
          refine ARun.step rfl (step_extract rfl (hn rfl) rfl rfl rfl (by intro l h; cases h)) ?_
          refine ARun.step rfl (step_extract rfl (hn rfl) rfl rfl rfl (by intro l h; cases h)) ?_
          refine ARun.step rfl (step_assignV rfl (hn rfl) rfl rfl) ?_
          refine ARun.step rfl (step_assignV rfl (hn rfl) rfl rfl) ?_
          refine ARun.nil ?_
          refine AWp.seq (AWp.region ?_)
          refine ARun.step rfl (step_moveV rfl (hn rfl) rfl rfl) ?_
          refine ARun.step rfl (step_moveV rfl (hn rfl) rfl rfl) ?_
          refine guardS rfl rfl rfl rfl (hn rfl) (fun g1 g2 => step_moveV rfl (hn rfl) rfl rfl) ?_
          refine guardS rfl rfl rfl rfl (hn rfl) (fun g1 g2 => step_not rfl (hn rfl) rfl (ev_true rfl (by exact flag2 g1 g2))) ?_
          refine ARun.step rfl (step_and rfl (hn rfl) rfl rfl rfl (fun h => (by exact flag1 h))) ?_
          refine ARun.nil ?_
          refine AWp.cond rfl (fun c6 => ?_) (fun c6 => ?_)
          · try simp only [nrm] at c6
            refine AWp.seq (AWp.region ?_)
            refine ARun.step rfl (step_loadS_b rfl (hn rfl) rfl ykSt34 rfl rfl rfl (by decide)) ?_
            refine ARun.step rfl (step_store_r rfl rfl ykCs34 rfl rfl rfl rfl rfl rfl rfl) ?_
            refine ARun.step rfl (step_assignV rfl (hn rfl) rfl rfl) ?_
            refine ARun.nil ?_
            refine AWp.ret ?_
            refine ⟨.inr rfl, 6, 2, _, _, _, ykSt34, by decide, rfl, rfl, rfl, rfl, (.cons rfl (.agg (.cons (.ref _ _ rfl) (.cons (.ref _ _ rfl) (.nil _)))) (.cons rfl (.one (.sc _ _ rfl)) (.nil _))), rfl, ?_⟩
            rw [show askR p s l = (p, 6) by simp only [askR]; grind]
            rfl
          · try simp only [nrm] at c6
            refine AWp.skip ?_
            refine AWp.seq (AWp.region ?_)
            refine ARun.step rfl (step_loadS_b rfl (hn rfl) rfl ykSt34 rfl rfl rfl (by decide)) ?_
            refine ARun.step rfl (step_store_r rfl rfl ykCs34 rfl rfl rfl rfl rfl rfl rfl) ?_
            refine ARun.step rfl (step_assignV rfl (hn rfl) rfl rfl) ?_
            refine ARun.nil ?_
            refine AWp.ret ?_
            refine ⟨.inr rfl, 6, 2, _, _, _, ykSt34, by decide, rfl, rfl, rfl, rfl, (.cons rfl (.agg (.cons (.ref _ _ rfl) (.cons (.ref _ _ rfl) (.nil _)))) (.cons rfl (.one (.sc _ _ rfl)) (.nil _))), rfl, ?_⟩
            rw [show askR p s l = (askAt p (idxB p s).toNat l, 0) by simp only [askR]; grind]
            rfl
theorem askS (p : Bk) (s : Str) (l : List Str) (hs : smallBk p) (hl : l.length ≤ 1048576) : ASpec Tryz.prog 20 [.agg (p.cells 105), .one (.str s), .one (strs l)] (.tup [.agg ((askR p s l).1.ocells 105), .one (.int .i64 (askR p s l).2)]) := by
  refine ASpec.bodyC Tryz.func20 rfl 6 34 [7] rfl rfl 73 rfl rfl rfl ?_
  have hs1 := hs.2.1
  have hix := idxB_lt p s
  refine AWp.seq (AWp.region ?_)
  refine ARun.step rfl (step_box_p (m := 1) rfl (hn rfl) rfl rfl rfl rfl rfl) ?_
  refine ARun.step rfl (step_alloc_p rfl (hn rfl) rfl ykZs34) ?_
  refine ARun.step rfl (step_assignV rfl (hn rfl) rfl rfl) ?_
  refine ARun.nil ?_
  refine AWp.seq ?_
  refine AWp.seq (AWp.region ?_)
  refine ARun.step rfl (step_loadS_b rfl (hn rfl) rfl ykSt34 rfl rfl rfl (by decide)) ?_
  refine ARun.step rfl (call_step1 rfl (hn rfl) rfl ykCo74 (.cons rfl (.agg (.cons (.v _) (.cons (.v _) .nil))) (.nil)) (bookOkS _) rfl) ?_
  refine ARun.step rfl (step_not rfl (hn rfl) rfl rfl) ?_
  refine ARun.nil ?_
  refine AWp.cond rfl (fun c1 => ?_) (fun c1 => ?_)
  · try simp only [nrm] at c1
    refine AWp.seq (AWp.region ?_)
    refine ARun.step rfl (step_build rfl (hn rfl) rfl ykPl34 ykZc34 (.nil) rfl) ?_
    refine ARun.step rfl (step_store_p rfl rfl ykCs34 rfl rfl rfl rfl rfl rfl rfl) ?_
    refine ARun.step rfl (step_assignV rfl (hn rfl) rfl rfl) ?_
    refine ARun.nil ?_
    refine AWp.ret ?_
    refine ⟨.inr rfl, 6, 2, _, _, _, ykSt34, by decide, rfl, rfl, rfl, rfl, (.cons rfl (.agg (.cons (.nil 9 1 (fun i => [.str (nth [] i)]) _) (.cons (.nil 105 3 (fun i => (nth ([] : List Bt) i).cells) _) (.nil _)))) (.cons rfl (.one (.sc _ _ rfl)) (.nil _))), rfl, ?_⟩
    rw [show askR p s l = (emptyBk, 1) by simp only [askR]; grind]
    rfl
  · try simp only [nrm] at c1
    refine AWp.skip ?_
    refine AWp.seq (AWp.region ?_)
    refine ARun.step rfl (step_loadS_b rfl (hn rfl) rfl ykSt34 rfl rfl rfl (by decide)) ?_
    refine ARun.step rfl (call_stepN rfl (hn rfl) rfl ykCo75 (.cons rfl (.agg (.cons (.v _) (.cons (.v _) .nil))) (.nil)) (copyS _ hs) rfl rfl) ?_
    refine ARun.step rfl (step_alloc_p rfl (hn rfl) rfl ykZs34) ?_
    refine ARun.step rfl (step_store_r rfl rfl ykCs34 rfl rfl rfl rfl rfl rfl rfl) ?_
    refine ARun.nil ?_
    refine AWp.seq (AWp.region ?_)
    refine ARun.step rfl (step_loadS_b rfl (hn rfl) rfl ykSt34 rfl rfl rfl (by decide)) ?_
    refine ARun.step rfl (step_moveV rfl (hn rfl) rfl rfl) ?_
    refine ARun.step rfl (call_step1 rfl (hn rfl) rfl ykCo78 (.cons rfl (.agg (.cons (.v _) (.cons (.v _) .nil))) (.cons rfl (.one (.v _)) (.nil))) (l51At _ _) rfl) ?_
    refine ARun.step rfl (step_assignV rfl (hn rfl) rfl rfl) ?_
    refine ARun.nil ?_
    refine AWp.seq ?_
    refine AWp.seq (AWp.region ?_)
    refine ARun.step rfl (step_moveV rfl (hn rfl) rfl rfl) ?_
    refine ARun.step rfl (step_lss rfl (hn rfl) rfl rfl rfl) ?_
    refine ARun.nil ?_
    refine AWp.cond rfl (fun c2 => ?_) (fun c2 => ?_)
    · try simp only [nrm] at c2
      refine AWp.seq (AWp.region ?_)
      refine ARun.step rfl (step_loadS_b rfl (hn rfl) rfl ykSt34 rfl rfl rfl (by decide)) ?_
      refine ARun.step rfl (step_store_r rfl rfl ykCs34 rfl rfl rfl rfl rfl rfl rfl) ?_
      refine ARun.step rfl (step_assignV rfl (hn rfl) rfl rfl) ?_
      refine ARun.nil ?_
      refine AWp.ret ?_
      refine ⟨.inr rfl, 6, 2, _, _, _, ykSt34, by decide, rfl, rfl, rfl, rfl, (.cons rfl (.agg (.cons (.ref _ _ rfl) (.cons (.ref _ _ rfl) (.nil _)))) (.cons rfl (.one (.sc _ _ rfl)) (.nil _))), rfl, ?_⟩
      rw [show askR p s l = (p, 3) by simp only [askR]; grind]
      rfl
    · try simp only [nrm] at c2
      have hzz : (((idxB p s).toNat : Nat) : Int) = idxB p s := by omega
      have hzl : (idxB p s).toNat < p.bs.length := by omega
      have hzb := (hs.2.2 (idxB p s).toNat hzl).1
      refine AWp.skip ?_
      refine AWp.seq ?_
      refine AWp.seq (AWp.region ?_)
      refine ARun.step rfl (step_moveV rfl (hn rfl) rfl rfl) ?_
      refine ARun.step rfl (step_field_b rfl (hn rfl) rfl ykFo34_1 rfl (by exact List.cons_ne_nil _ _)) ?_
      refine ARun.step rfl (step_load_b rfl (hn rfl) rfl ykSc32 rfl rfl) ?_
      refine ARun.step rfl (step_moveV rfl (hn rfl) rfl rfl) ?_
      refine ARun.step rfl (step_index_f rfl (hn rfl) rfl ykSl32 rfl rfl (by omega) (by omega)) ?_
      refine ARun.step rfl (step_field_f rfl (hn rfl) rfl ykFo105_2 rfl) ?_
      refine ARun.step rfl (step_load_f rfl (hn rfl) rfl ykSc22 rfl (hn rfl) rfl) ?_
      refine ARun.step rfl (call_step1 rfl (hn rfl) rfl ykCo77 (.cons rfl (.one (.v _)) (.cons rfl (.one (.v _)) (.nil))) (l51NamesOk _ _) rfl) ?_
      refine ARun.step rfl (step_not rfl (hn rfl) rfl rfl) ?_
      refine ARun.nil ?_
      refine AWp.cond rfl (fun c3 => ?_) (fun c3 => ?_)
      · try simp only [nrm] at c3
        refine AWp.seq (AWp.region ?_)
        refine ARun.step rfl (step_loadS_b rfl (hn rfl) rfl ykSt34 rfl rfl rfl (by decide)) ?_
        refine ARun.step rfl (step_store_r rfl rfl ykCs34 rfl rfl rfl rfl rfl rfl rfl) ?_
        refine ARun.step rfl (step_assignV rfl (hn rfl) rfl rfl) ?_
        refine ARun.nil ?_
        refine AWp.ret ?_
        refine ⟨.inr rfl, 6, 2, _, _, _, ykSt34, by decide, rfl, rfl, rfl, rfl, (.cons rfl (.agg (.cons (.ref _ _ rfl) (.cons (.ref _ _ rfl) (.nil _)))) (.cons rfl (.one (.sc _ _ rfl)) (.nil _))), rfl, ?_⟩
        rw [show askR p s l = (p, 2) by simp only [askR]; grind]
        rfl
      · try simp only [nrm] at c3
        refine AWp.skip ?_
        refine AWp.seq ?_
        refine AWp.seq (AWp.region ?_)
        refine ARun.step rfl (step_loadS_b rfl (hn rfl) rfl ykSt34 rfl rfl rfl (by decide)) ?_
        refine ARun.step rfl (step_moveV rfl (hn rfl) rfl rfl) ?_
        refine ARun.step rfl (step_moveV rfl (hn rfl) rfl rfl) ?_
        refine ARun.step rfl (call_step1 rfl (hn rfl) rfl ykCo83 (.cons rfl (.agg (.cons (.v _) (.cons (.v _) .nil))) (.cons rfl (.one (.v _)) (.cons rfl (.one (.v _)) (.nil)))) (takenS _ _ _) rfl) ?_
        refine ARun.nil ?_
        refine AWp.cond rfl (fun c4 => ?_) (fun c4 => ?_)
        · try simp only [nrm] at c4
          refine AWp.seq (AWp.region ?_)
          refine ARun.step rfl (step_loadS_b rfl (hn rfl) rfl ykSt34 rfl rfl rfl (by decide)) ?_
          refine ARun.step rfl (step_store_r rfl rfl ykCs34 rfl rfl rfl rfl rfl rfl rfl) ?_
          refine ARun.step rfl (step_assignV rfl (hn rfl) rfl rfl) ?_
          refine ARun.nil ?_
          refine AWp.ret ?_
          refine ⟨.inr rfl, 6, 2, _, _, _, ykSt34, by decide, rfl, rfl, rfl, rfl, (.cons rfl (.agg (.cons (.ref _ _ rfl) (.cons (.ref _ _ rfl) (.nil _)))) (.cons rfl (.one (.sc _ _ rfl)) (.nil _))), rfl, ?_⟩
          rw [show askR p s l = (p, 5) by simp only [askR]; grind]
          rfl
        · try simp only [nrm] at c4
          refine AWp.skip ?_
          refine AWp.seq (AWp.region ?_)
          refine ARun.step rfl (step_loadS_b rfl (hn rfl) rfl ykSt34 rfl rfl rfl (by decide)) ?_
          refine ARun.step rfl (call_stepN rfl (hn rfl) rfl ykCo75 (.cons rfl (.agg (.cons (.v _) (.cons (.v _) .nil))) (.nil)) (copyS _ hs) rfl rfl) ?_
          refine ARun.step rfl (step_alloc_p rfl (hn rfl) rfl ykZs34) ?_
          refine ARun.step rfl (step_store_r rfl rfl ykCs34 rfl rfl rfl rfl rfl rfl rfl) ?_
          refine ARun.nil ?_
          refine AWp.seq ?_
          refine AWp.seq (AWp.region ?_)
          refine ARun.step rfl (step_assignV rfl (hn rfl) rfl rfl) ?_
          refine ARun.nil ?_
          refine AWp.block ?_
          refine AWp.le (Le.fzBelow ⟨.arr 40 1, []⟩ (fun i => (nth p.bs i).zcells) rfl (fun _ _ => rfl) (bt_fz p.bs)) ?_
          refine AWp.loopM (fun i : Nat => mkAS 73 [(1, ⟨true, .one (.v (.str s))⟩), (2, ⟨true, .one (.v (strs l))⟩), (3, ⟨true, .one (.bptr 3 0)⟩), (6, ⟨true, .one (.bptr 6 0)⟩), (8, ⟨true, .one (.bptr 8 0)⟩), (9, ⟨true, .one (.v (.int .i64 (idxB p s)))⟩), (10, ⟨true, .one (.bptr 10 0)⟩), (11, ⟨true, .one (.v (.int .i64 (i : Nat)))⟩)] [(3, (p.cells 105).map C.v), (6, [.any, .any]), (8, [.ref ⟨.arr 17 0, []⟩, .ref ⟨.arr 17 1, []⟩]), (10, [.ref ⟨.arr 40 0, []⟩, .ref ⟨.arr 40 1, []⟩])] [(17, 0, strs p.things), (17, 1, btsO 105 p.bs), (40, 0, strs p.things), (40, 1, bts 105 (setHas p.bs (idxB p s).toNat (insGo (nth p.bs (idxB p s).toNat).has l i)))]) (fun i => i ≤ l.length) (fun i => l.length - i) 0 ?_ (Le.forgetR rfl ⟨rfl, rfl, rfl, rfl, rfl, rfl, rfl, rfl, trivial⟩ ⟨rfl, rfl, rfl, rfl, trivial⟩ ⟨.refl _, .refl _, .refl _, (ask_eqv0 hzl _), trivial⟩) ?_
          · try dsimp only
            omega
          rintro i hi
          have hsl := setHas_len p.bs (idxB p s).toNat (insGo (nth p.bs (idxB p s).toNat).has l i)
          have hil := insGo_len (nth p.bs (idxB p s).toNat).has l i
          have hnz : (nth (setHas p.bs (idxB p s).toNat (insGo (nth p.bs (idxB p s).toNat).has l i)) (idxB p s).toNat).has = insGo (nth p.bs (idxB p s).toNat).has l i := by rw [nth_setHas hzl, if_pos rfl]
          refine AWp.seq ?_
          refine AWp.seq (AWp.region ?_)
          refine ARun.step rfl (step_moveV rfl (hn rfl) rfl rfl) ?_
          refine ARun.step rfl (step_moveV rfl (hn rfl) rfl rfl) ?_
          refine ARun.step rfl (step_len_f rfl (hn rfl) rfl ykSl22 rfl) ?_
          refine ARun.step rfl (step_lss rfl (hn rfl) rfl rfl rfl) ?_
          refine ARun.nil ?_
          refine AWp.cond rfl (fun c5 => ?_) (fun c5 => ?_)
          · try simp only [nrm] at c5
            refine AWp.skip ?_
            refine AWp.seq ?_
            refine AWp.block ?_
            refine AWp.draw [⟨[.s 10, .b 10], [.s 47], false⟩, ⟨[.s 47, .b 10], [.s 48], false⟩, ⟨[.s 9], [.s 49], false⟩, ⟨[.s 10, .b 10], [.s 50], false⟩, ⟨[.s 50, .b 10], [.s 51], false⟩, ⟨[.s 9], [.s 52], false⟩, ⟨[.s 51, .a 40 1, .s 52], [.s 53], false⟩, ⟨[.s 53, .a 40 1], [.s 54], false⟩, ⟨[.s 54, .a 40 1], [.s 55], false⟩, ⟨[.s 2], [.s 56], false⟩, ⟨[.s 11], [.s 57], false⟩, ⟨[.s 56, .s 57], [.s 58], false⟩, ⟨[.s 58], [.s 59], false⟩, ⟨[.s 59, .s 55], [.s 60], false⟩, ⟨[.s 48, .a 40 1, .s 49], [.s 61], false⟩, ⟨[.s 61, .a 40 1], [.s 62], false⟩, ⟨[], [], true⟩] ykMo rfl ?_
            refine DRun.step rfl (fun τ hN hr => step_field_b rfl (rdN hN (hn rfl)) rfl ykFo34_1 (by exact rdS hr rfl rfl) (by exact rdBne hr rfl (by exact List.cons_ne_nil _ _))) ?_
            refine DRun.step rfl (fun τ hN hr => step_load_b rfl (rdN hN (hn rfl)) rfl ykSc32 (by exact rdS hr rfl rfl) (by exact rdBget hr rfl rfl)) ?_
            refine DRun.step rfl (fun τ hN hr => step_moveV rfl (rdN hN (hn rfl)) rfl (by exact rdS hr rfl rfl)) ?_
            refine DRun.step rfl (fun τ hN hr => step_field_b rfl (rdN hN (hn rfl)) rfl ykFo34_1 (by exact rdS hr rfl rfl) (by exact rdBne hr rfl (by exact List.cons_ne_nil _ _))) ?_
            refine DRun.step rfl (fun τ hN hr => step_load_b rfl (rdN hN (hn rfl)) rfl ykSc32 (by exact rdS hr rfl rfl) (by exact rdBget hr rfl rfl)) ?_
            refine DRun.step rfl (fun τ hN hr => step_moveV rfl (rdN hN (hn rfl)) rfl (by exact rdS hr rfl rfl)) ?_
            refine DRun.step rfl (fun τ hN hr => step_index_r rfl (rdN hN (hn rfl)) rfl ykSl32 (by exact rdS hr rfl rfl) (by exact rdA hr rfl rfl) (by exact rdS hr rfl rfl) (by omega) (by omega)) ?_
            refine DRun.step rfl (fun τ hN hr => step_field_e rfl (rdN hN (hn rfl)) rfl ykFo105_1 (by exact rdS hr rfl rfl) (by exact rdA hr rfl rfl)) ?_
            refine DRun.step rfl (fun τ hN hr => step_load_e rfl (rdN hN (hn rfl)) rfl ykSc22 (by exact rdS hr rfl rfl) (by exact rdA hr rfl rfl) (by omega) (hn rfl) rfl) ?_
            refine DRun.step rfl (fun τ hN hr => step_moveV rfl (rdN hN (hn rfl)) rfl (by exact rdS hr rfl rfl)) ?_
            refine DRun.step rfl (fun τ hN hr => step_moveV rfl (rdN hN (hn rfl)) rfl (by exact rdS hr rfl rfl)) ?_
            refine DRun.step rfl (fun τ hN hr => step_index_fN rfl (rdN hN (hn rfl)) rfl ykSl22 (by exact rdS hr rfl rfl) (by exact rdS hr rfl rfl) (by omega)) ?_
            refine DRun.step rfl (fun τ hN hr => step_load_f rfl (rdN hN (hn rfl)) rfl ykSc9 (by exact rdS hr rfl rfl) (hn rfl) rfl) ?_
            refine DRun.step rfl (fun τ hN hr => call_stepZ rfl (rdN hN (hn rfl)) rfl ykCo84 (.cons (by exact rdS hr rfl rfl) (.one (.v _)) (.cons (by exact rdS hr rfl rfl) (.one (.v _)) (.nil))) (ins53 _ _ (by rw [hnz]; omega)) rfl (by exact rdNoRefs hr rfl rfl)) ?_
            refine DRun.step rfl (fun τ hN hr => step_index_r rfl (rdN hN (hn rfl)) rfl ykSl32 (by exact rdS hr rfl rfl) (by exact rdA hr rfl rfl) (by exact rdS hr rfl rfl) (by omega) (by omega)) ?_
            refine DRun.step rfl (fun τ hN hr => step_field_e rfl (rdN hN (hn rfl)) rfl ykFo105_1 (by exact rdS hr rfl rfl) (by exact rdA hr rfl rfl)) ?_
            refine DRun.last rfl (by exact rfl) (step_store_1 rfl rfl ykCs22 rfl rfl (by omega) (hn rfl) rfl rfl) ?_
            refine AWp.region ?_
            refine ARun.step rfl (step_moveV rfl (hn rfl) rfl rfl) ?_
            refine ARun.step rfl (step_addI rfl (hn rfl) rfl rfl rfl (by omega) (by omega)) ?_
            refine ARun.step rfl (step_assignV rfl (hn rfl) rfl rfl) ?_
            refine ARun.nil ?_
            refine ⟨i + 1, ?_, ?_, Le.forgetR rfl ⟨rfl, rfl, rfl, rfl, rfl, rfl, rfl, rfl, trivial⟩ ⟨rfl, rfl, rfl, rfl, trivial⟩ ⟨.refl _, .refl _, .refl _, (ask_eqv1 hzl l), trivial⟩⟩
            · try dsimp only
              omega
            · try dsimp only
              omega
          · try simp only [nrm] at c5
            refine AWp.exit ?_
            refine AWp.seq ?_
            obtain rfl : i = l.length := by omega
            refine AWp.le (Le.retree 40 1 (t := bts 105 (askAt p (idxB p s).toNat l).bs) (ask_tree l c1 hzl)) ?_
            refine AWp.seq (AWp.region ?_)
            refine ARun.step rfl (step_loadS_b rfl (hn rfl) rfl ykSt34 rfl rfl rfl (by decide)) ?_
            refine ARun.step rfl (call_step1 rfl (hn rfl) rfl ykCo85 (.cons rfl (.agg (.cons (.v _) (.cons (.v _) .nil))) (.nil)) (safeS _) rfl) ?_
            refine ARun.step rfl (step_moveV rfl (hn rfl) rfl rfl) ?_
            refine guardS rfl rfl rfl rfl (hn rfl) (fun g1 g2 => step_loadS_b rfl (hn rfl) rfl ykSt34 rfl rfl rfl (by decide)) ?_
            refine guardS rfl rfl rfl rfl (hn rfl) (fun g1 g2 => call_step1 rfl (hn rfl) rfl ykCo85 (.cons (ev_true rfl (by exact flag2 g1 g2)) (.agg (.cons (.ref _ rfl) (.cons (.ref _ rfl) .nil))) (.nil)) (safeS (askAt p (idxB p s).toNat l)) rfl) ?_
            refine guardS rfl rfl rfl rfl (hn rfl) (fun g1 g2 => step_not rfl (hn rfl) rfl (ev_true rfl (by exact flag2 g1 g2))) ?_
            refine ARun.step rfl (step_and rfl (hn rfl) rfl rfl rfl (fun h => (by exact flag1 h))) ?_
            refine ARun.nil ?_
            refine AWp.cond rfl (fun c6 => ?_) (fun c6 => ?_)
            · try simp only [nrm] at c6
              refine AWp.seq (AWp.region ?_)
              refine ARun.step rfl (step_loadS_b rfl (hn rfl) rfl ykSt34 rfl rfl rfl (by decide)) ?_
              refine ARun.step rfl (step_store_r rfl rfl ykCs34 rfl rfl rfl rfl rfl rfl rfl) ?_
              refine ARun.step rfl (step_assignV rfl (hn rfl) rfl rfl) ?_
              refine ARun.nil ?_
              refine AWp.ret ?_
              refine ⟨.inr rfl, 6, 2, _, _, _, ykSt34, by decide, rfl, rfl, rfl, rfl, (.cons rfl (.agg (.cons (.ref _ _ rfl) (.cons (.ref _ _ rfl) (.nil _)))) (.cons rfl (.one (.sc _ _ rfl)) (.nil _))), rfl, ?_⟩
              rw [show askR p s l = (p, 6) by simp only [askR]; grind]
              rfl
            · try simp only [nrm] at c6
              refine AWp.skip ?_
              refine AWp.seq (AWp.region ?_)
              refine ARun.step rfl (step_loadS_b rfl (hn rfl) rfl ykSt34 rfl rfl rfl (by decide)) ?_
              refine ARun.step rfl (call_stepC rfl (hn rfl) rfl ykCo75 (.cons rfl (.agg (.cons (.ref _ rfl) (.cons (.ref _ rfl) .nil))) (.nil)) (copyS (askAt p (idxB p s).toNat l) (small_ask hs c1 hzl c3.1)) rfl (CleanL.all (.cons (clean_strs _) (.cons (clean_btsO _ _) .nil)))) ?_
              refine ARun.step rfl (step_store_r rfl rfl ykCs34 rfl rfl rfl rfl rfl rfl rfl) ?_
              refine ARun.step rfl (step_assignV rfl (hn rfl) rfl rfl) ?_
              refine ARun.nil ?_
              refine AWp.ret ?_
              refine ⟨.inr rfl, 6, 2, _, _, _, ykSt34, by decide, rfl, rfl, rfl, rfl, (.cons rfl (.agg (.cons (.ref _ _ rfl) (.cons (.ref _ _ rfl) (.nil _)))) (.cons rfl (.one (.sc _ _ rfl)) (.nil _))), rfl, ?_⟩
              rw [show askR p s l = (askAt p (idxB p s).toNat l, 0) by simp only [askR]; grind]
              rfl

end Go.Proofs.YtkmacjdigkaabaaGreat
