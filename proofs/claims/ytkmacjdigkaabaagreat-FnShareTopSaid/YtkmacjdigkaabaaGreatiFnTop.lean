/- Contracts of functions of the program, each met by its body; conditions stand in each statement. No condition. -/
import Derived.Test.YtkmacjdigkaabaaGreatiRd53
import Derived.Test.YtkmacjdigkaabaaGreatProg
import Derived.KernelRfl
set_option linter.unusedVariables false
set_option linter.unusedSimpArgs false
set_option linter.unnecessarySimpa false
set_option linter.unusedSimpArgs false
set_option maxRecDepth 100000
namespace Go.Proofs.YtkmacjdigkaabaaGreat
open Go Go.Mh

theorem enterIZ (p : Bk) (s : Str) (l : List Str) (hs : smallBk p) (hl : l.length ≤ 1048576) : ASpec Tryz.prog 17 [.agg (p.cells 105), .one (.str s), .one (strs l)] (.tup [.agg ((enterR p s l).1.zcells 105), .one (.int .i64 (enterR p s l).2)]) := (enterI p s l hs hl).letGo (.tup (.cons (.agg (.cons (.fz (.refl _)) (.cons (.fz (fz_bts _ _)) .nil))) (.cons (.one (.sc _ rfl)) .nil)))

theorem lessIZ (p : Bk) (s : Str) (l : List Str) (hs : smallBk p) (hl : l.length ≤ 1048576) : ASpec Tryz.prog 21 [.agg (p.cells 105), .one (.str s), .one (strs l)] (.tup [.agg ((lessR p s l).1.zcells 105), .one (.int .i64 (lessR p s l).2)]) := (lessI p s l hs hl).letGo (.tup (.cons (.agg (.cons (.fz (.refl _)) (.cons (.fz (fz_bts _ _)) .nil))) (.cons (.one (.sc _ rfl)) .nil)))

theorem leaveIZ (p : Bk) (s : Str) (hs : smallBk p) : ASpec Tryz.prog 23 [.agg (p.cells 105), .one (.str s)] (.tup [.agg ((leaveR p s).1.zcells 105), .one (.int .i64 (leaveR p s).2)]) := (leaveI p s hs).letGo (.tup (.cons (.agg (.cons (.fz (.refl _)) (.cons (.fz (fz_bts _ _)) .nil))) (.cons (.one (.sc _ rfl)) .nil)))

theorem askIZ (p : Bk) (s : Str) (l : List Str) (hs : smallBk p) (hl : l.length ≤ 1048576) : ASpec Tryz.prog 19 [.agg (p.cells 105), .one (.str s), .one (strs l)] (.tup [.agg ((askR p s l).1.zcells 105), .one (.int .i64 (askR p s l).2)]) := (askI p s l hs hl).letGo (.tup (.cons (.agg (.cons (.fz (.refl _)) (.cons (.fz (fz_bts _ _)) .nil))) (.cons (.one (.sc _ rfl)) .nil)))

theorem askR_is (p : Bk) (s : Str) (l : List Str) : askR p s l = (emptyBk, 1) ∨ (BkOk p ∧ (askR p s l = (p, 3) ∨ ∃ z, z < p.bs.length ∧ (nth p.bs z).name = s ∧ (askR p s l = (p, 2) ∨ (risingB l = true ∧ withinB l (nth p.bs z).needs = true ∧ ((takenB p (z : Int) l = true ∧ askR p s l = (p, 5)) ∨
    (takenB p (z : Int) l = false ∧ (((orderB p).isSome = true ∧ (orderB (askAt p z l)).isSome = false ∧ askR p s l = (p, 6)) ∨ (((orderB p).isSome = true → (orderB (askAt p z l)).isSome = true) ∧ askR p s l = (askAt p z l, 0))))))))) := by
  unfold askR
  split
  · rename_i hb
    right
    refine ⟨(bk_ok p).1 hb, ?_⟩
    split
    · exact .inl rfl
    · rename_i hz
      obtain ⟨h1, h2⟩ := pos_nm (p := p) (s := s) (by omega)
      refine .inr ⟨(idxB p s).toNat, h1, h2, ?_⟩
      rw [show ((idxB p s).toNat : Int) = idxB p s by omega]
      split
      · rename_i hr
        rw [Bool.and_eq_true] at hr
        refine .inr ⟨hr.1, hr.2, ?_⟩
        split
        · rename_i ht; exact .inl ⟨ht, rfl⟩
        · rename_i ht
          refine .inr ⟨by simpa using ht, ?_⟩
          split
          · rename_i hs
            simp only [Bool.and_eq_true, Bool.not_eq_true'] at hs
            exact .inl ⟨hs.1, hs.2, rfl⟩
          · rename_i hs
            refine .inr ⟨fun h => ?_, rfl⟩
            cases hh : (orderB (askAt p (idxB p s).toNat l)).isSome with
            | true => rfl
            | false => exact absurd (by simp [h, hh]) hs
      · exact .inl rfl
  · exact .inl rfl
theorem ask_ok' {p : Bk} {z : Nat} {l : List Str} (hb : BkOk p) (hz : z < p.bs.length) (hw : withinB l (nth p.bs z).needs = true) (ht : takenB p (z : Int) l = false) : BkOk (askAt p z l) :=
  (bk_ok _).1 (askAt_ok ((bk_ok p).2 hb) hz hw ht)

def Good (p : Bk) : Prop := BkOk p ∧ (orderB p).isSome = true ∧ p.things.length ≤ 5
theorem Good.le {p : Bk} (h : Good p) : bkLe p 5 := ok_le h.1 h.2.2
theorem good_empty {x : List Str} (h : x.Sublist thg5) : Good ⟨x, []⟩ := by
  have h5 : x.length ≤ 5 := h.length_le
  have hb : BkOk ⟨x, []⟩ := by
    refine ⟨by show x.length ≤ 8; omega, ?_, Nat.zero_le _, List.Pairwise.nil, fun b hb => absurd hb List.not_mem_nil, List.Pairwise.nil⟩
    unfold namesB
    rw [Bool.and_eq_true, rising_asc]
    refine ⟨?_, List.Pairwise.sublist h ((rising_asc _).1 (by kernel_rfl))⟩
    rw [List.all_eq_true]
    intro i hi
    have hm := h.subset (nth_mem (List.mem_range.1 hi))
    have : ∀ y ∈ thg5, nameOk y = true := by decide
    exact this _ hm
  exact ⟨hb, (safe_iff hb).2 ⟨[], ord_nil _, fun b hb => absurd hb List.not_mem_nil⟩, h5⟩
def Step1 (p x : Bk) (d : Int) : Prop := Good x ∧ (d ≠ 0 → x = p)
theorem top_enter {p : Bk} (h : Good p) (s : Str) (l : List Str) : Step1 p (enterR p s l).1 (enterR p s l).2 := by
  unfold enterR
  rw [if_pos ((bk_ok p).2 h.1)]
  split
  · rename_i hn
    split
    · exact ⟨h, fun _ => rfl⟩
    · rename_i hi
      split
      · exact ⟨h, fun _ => rfl⟩
      · rename_i h5
        simp only [Bool.and_eq_true] at hn
        have hq := ins_ok h.1 hn.1 hn.2.1 hn.2.2 (show idxB p s < 0 by omega) (by omega)
        exact ⟨⟨hq, by rw [ins_safe h.1 hq (by omega)]; exact h.2.1, h.2.2⟩, fun e => absurd rfl e⟩
  · exact ⟨h, fun _ => rfl⟩
theorem top_less {p : Bk} (h : Good p) (s : Str) (l : List Str) : Step1 p (lessR p s l).1 (lessR p s l).2 := by
  unfold lessR
  rw [if_pos ((bk_ok p).2 h.1)]
  split
  · exact ⟨h, fun _ => rfl⟩
  · rename_i hz
    have hp := (pos_nm (p := p) (s := s) (by omega)).1
    split
    · rename_i hr
      rw [Bool.and_eq_true] at hr
      exact ⟨⟨less_ok h.1 hp hr.1 hr.2, less_safe h.1 hp hr.1 hr.2 h.2.1, h.2.2⟩, fun e => absurd rfl e⟩
    · exact ⟨h, fun _ => rfl⟩
theorem top_leave {p : Bk} (h : Good p) (s : Str) : Step1 p (leaveR p s).1 (leaveR p s).2 := by
  unfold leaveR
  rw [if_pos ((bk_ok p).2 h.1)]
  split
  · exact ⟨h, fun _ => rfl⟩
  · rename_i hz
    have hp := (pos_nm (p := p) (s := s) (by omega)).1
    exact ⟨⟨cut_ok h.1, cut_safe h.1 hp h.2.1, h.2.2⟩, fun e => absurd rfl e⟩
theorem top_ask {p : Bk} (h : Good p) (s : Str) (l : List Str) : Step1 p (askR p s l).1 (askR p s l).2 := by
  rcases askR_is p s l with h1 | ⟨hb, h1 | ⟨z, hz, hn, h1 | ⟨hr, hw, ⟨ht, h1⟩ | ⟨ht, ⟨hs, hx, h1⟩ | ⟨hs, h1⟩⟩⟩⟩⟩
  · unfold askR at h1
    rw [if_pos ((bk_ok p).2 h.1)] at h1
    exfalso
    repeat' split at h1
    all_goals (have := (Prod.mk.inj h1).2; revert this; decide)
  iterate 4 (rw [h1]; exact ⟨h, fun _ => rfl⟩)
  rw [h1]
  exact ⟨⟨ask_ok' hb hz hw ht, hs h.2.1, h.2.2⟩, fun e => absurd rfl e⟩
theorem selGo_sub (f : Str → Bool) (n : List Str) : ∀ i, i ≤ n.length → (selGo f n i).Sublist (n.take i)
  | 0, _ => by simp [selGo]
  | i + 1, hi => by
    simp only [selGo]
    have ih := selGo_sub f n i (by omega)
    rw [take_next (show i < n.length by omega)]
    split
    · exact ih.append (List.Sublist.refl _)
    · exact ih.trans (List.sublist_append_left _ _)
theorem miss_is {p : Bk} (hb : BkOk p) {z : Nat} (hz : z < p.bs.length) : ∀ {i : Nat}, i ≤ p.bs.length → missGo p (nth p.bs z).name i = if z < i then selGo (notHas (nth p.bs z)) (nth p.bs z).needs (nth p.bs z).needs.length else []
  | 0, _ => rfl
  | i + 1, hi => by
    simp only [missGo]
    rw [miss_is hb hz (i := i) (by omega)]
    by_cases e : i = z
    · subst e
      rw [if_neg (by omega), if_pos ((strEq_iff _ _).2 rfl), if_pos (by omega), List.nil_append]
    · have : ¬ strEq (nth p.bs i).name (nth p.bs z).name = true := fun h => e (nm_ix hb (by omega) hz ((strEq_iff _ _).1 h))
      rw [if_neg this, List.append_nil]
      by_cases h2 : z < i
      · rw [if_pos h2, if_pos (by omega)]
      · rw [if_neg h2, if_neg (by omega)]
/-- the last loop: who can have all asks, has all, and goes -/
theorem top_last {p : Bk} (h : Good p) (h0 : 0 < p.bs.length) : 0 < (movesB p).length ∧ ∃ z, z < p.bs.length ∧ Good (askAt p z (missB p (nth (movesB p) 0))) ∧ Good (cutBk (askAt p z (missB p (nth (movesB p) 0))) z) ∧ askR p (nth (movesB p) 0) (missB p (nth (movesB p) 0)) = (askAt p z (missB p (nth (movesB p) 0)), 0) ∧
    leaveR (askAt p z (missB p (nth (movesB p) 0))) (nth (movesB p) 0) = (cutBk (askAt p z (missB p (nth (movesB p) 0))) z, 0) := by
  have hb := h.1
  have hne : 0 < (movesB p).length := by
    obtain ⟨i, h1, h2⟩ := safe_moves h.2.1 h0
    exact List.length_pos_of_mem (moves_mem.2 ⟨hb, i, h1, h2, rfl⟩)
  refine ⟨hne, ?_⟩
  obtain ⟨_, z, hz, hc, hnm⟩ := moves_mem.1 (nth_mem hne)
  refine ⟨z, hz, ?_⟩
  rw [← hnm]
  have hbz := hb.all _ (nth_memA hz)
  have hm : missB p (nth p.bs z).name = selGo (notHas (nth p.bs z)) (nth p.bs z).needs (nth p.bs z).needs.length := by rw [missB, miss_is hb hz (Nat.le_refl _), if_pos hz]
  have hsub : (missB p (nth p.bs z).name).Sublist (nth p.bs z).needs := by
    rw [hm]; have := selGo_sub (notHas (nth p.bs z)) (nth p.bs z).needs _ (Nat.le_refl _); rwa [List.take_length] at this
  have hr : risingB (missB p (nth p.bs z).name) = true := (rising_asc _).2 (hbz.na.sublist hsub)
  have hw : withinB (missB p (nth p.bs z).name) (nth p.bs z).needs = true := (within_iff _ _).2 fun x hx => hsub.subset hx
  have hcan := (can_iff hb hz).1 hc
  have ht : takenB p (z : Int) (missB p (nth p.bs z).name) = false := by
    cases hh : takenB p (z : Int) (missB p (nth p.bs z).name) with
    | false => rfl
    | true =>
      simp only [takenB, List.any_eq_true, List.mem_range, Bool.and_eq_true, decide_eq_true_eq] at hh
      obtain ⟨i, hi, hne2, hmm⟩ := hh
      obtain ⟨y, hy1, hy2⟩ := (meets_iff _ _).1 hmm
      exact (hcan _ (nth_memA hi) (fun e => hne2 (by rw [nm_ix hb hi hz e])) List.not_mem_nil y hy1 (hsub.subset hy2)).elim
  generalize missB p (nth p.bs z).name = ms at hr hw ht
  have hq := ask_ok' hb hz hw ht
  have hs := ask_move (l := ms) hb hz hq hc h.2.1
  have e1 : (nth (askAt p z ms).bs z).name = (nth p.bs z).name := by rw [nth_ask hz, if_pos rfl]
  have hz' : z < (askAt p z ms).bs.length := by rw [ask_len]; exact hz
  refine ⟨⟨hq, hs, h.2.2⟩, ⟨cut_ok hq, cut_safe hq hz' hs, h.2.2⟩, ?_, ?_⟩
  · unfold askR
    rw [if_pos ((bk_ok p).2 hb), nm_pos hb hz, if_neg (by omega), Int.toNat_natCast, if_pos (by rw [hr, hw]; rfl), if_neg (by rw [ht]; decide), if_neg (by rw [hs]; simp)]
  · unfold leaveR
    rw [if_pos ((bk_ok _).2 hq), ← e1, nm_pos hq hz', if_neg (by omega), Int.toNat_natCast]

theorem top_walk {p : Bk} (h : Good p) (h0 : 0 < p.bs.length) : 0 < (movesB p).length ∧ ∃ xa xc, Good xa ∧ Good xc ∧ xc.bs.length + 1 = p.bs.length ∧ askR p (nth (movesB p) 0) (missB p (nth (movesB p) 0)) = (xa, 0) ∧ leaveR xa (nth (movesB p) 0) = (xc, 0) := by
  obtain ⟨h1, z, hz, h2, h3, h4, h5⟩ := top_last h h0
  refine ⟨h1, _, _, h2, h3, ?_, h4, h5⟩
  rw [show (cutBk (askAt p z (missB p (nth (movesB p) 0))) z).bs.length = (askAt p z (missB p (nth (movesB p) 0))).bs.length - 1 from cutL_len (by rw [ask_len]; exact hz), ask_len]
  omega
theorem whMissingZ (p : Bk) (s : Str) (hp : bkLe p 5) : ASpec Tryz.prog 30 [.agg (p.cells 105), .one (.str s)] (.one (.fz (strs (missB p s)))) := (whMissing p s hp).letGo (.p (.one (.fz (.refl _))))

theorem zhSl45 : sliceT Tryz.prog 45 = some ⟨5, 1, 1⟩ := by kernel_rfl
theorem zhCo16 : callOk Tryz.prog 16 = true := by kernel_rfl
theorem zhZs34 : zeroSz Tryz.prog 34 = some 2 := by kernel_rfl
theorem zhCs34 : cellsSz Tryz.prog 34 = some (1 + 1) := by kernel_rfl
theorem zhSl46 : sliceT Tryz.prog 46 = some ⟨50, 3, 48⟩ := by kernel_rfl
theorem zhSt50 : structSz Tryz.prog 50 = some 3 := by kernel_rfl
theorem zhZs50 : zeroSz Tryz.prog 50 = some 3 := by kernel_rfl
theorem zhCs50 : cellsSz Tryz.prog 50 = some (2 + 1) := by kernel_rfl
theorem zhSt34 : structSz Tryz.prog 34 = some 2 := by kernel_rfl
theorem zhCo25 : callOk Tryz.prog 25 = true := by kernel_rfl
theorem zhCo26 : callOk Tryz.prog 26 = true := by kernel_rfl
theorem zhCo27 : callOk Tryz.prog 27 = true := by kernel_rfl
theorem zhCo28 : callOk Tryz.prog 28 = true := by kernel_rfl
theorem zhFo50_0 : fieldOff Tryz.prog 50 0 = some 0 := by kernel_rfl
theorem zhSc3 : scalarB Tryz.prog 3 = true := by kernel_rfl
theorem zhFo50_1 : fieldOff Tryz.prog 50 1 = some 1 := by kernel_rfl
theorem zhSc9 : scalarB Tryz.prog 9 = true := by kernel_rfl
theorem zhFo50_2 : fieldOff Tryz.prog 50 2 = some 2 := by kernel_rfl
theorem zhSc22 : scalarB Tryz.prog 22 = true := by kernel_rfl
theorem zhCo17 : callOk Tryz.prog 17 = true := by kernel_rfl
theorem zhCo18 : callOk Tryz.prog 18 = true := by kernel_rfl
theorem zhCo19 : callOk Tryz.prog 19 = true := by kernel_rfl
theorem zhCo20 : callOk Tryz.prog 20 = true := by kernel_rfl
theorem zhCo21 : callOk Tryz.prog 21 = true := by kernel_rfl
theorem zhCo22 : callOk Tryz.prog 22 = true := by kernel_rfl
theorem zhCo23 : callOk Tryz.prog 23 = true := by kernel_rfl
theorem zhCo24 : callOk Tryz.prog 24 = true := by kernel_rfl
theorem zhFo34_1 : fieldOff Tryz.prog 34 1 = some 1 := by kernel_rfl
theorem zhSc32 : scalarB Tryz.prog 32 = true := by kernel_rfl
theorem zhSl32 : sliceT Tryz.prog 32 = some ⟨105, 3, 64⟩ := by kernel_rfl
theorem zhCo29 : callOk Tryz.prog 29 = true := by kernel_rfl
theorem zhSl22 : sliceT Tryz.prog 22 = some ⟨9, 1, 16⟩ := by kernel_rfl
theorem zhCo30 : callOk Tryz.prog 30 = true := by kernel_rfl
theorem zhMo : Tryz.prog.follows .mixedOrders = true := by kernel_rfl
set_option maxHeartbeats 1000000 in
theorem lawFnShareTop (b : List UInt8)  : ASpec Tryz.prog 4 [.one (bytesT 5 b)] (.one (.bool true)) := by
  refine ASpec.body Tryz.func4 rfl [2] rfl 196 rfl rfl rfl ?_
  refine AWp.seq (AWp.region ?_)
  refine ARun.step rfl (step_assignV rfl (hn rfl) rfl rfl) ?_
  refine ARun.nil ?_
  refine AWp.seq ?_
  refine AWp.seq (AWp.region ?_)
  refine ARun.step rfl (step_moveV rfl (hn rfl) rfl rfl) ?_
  refine ARun.step rfl (step_len_f rfl (hn rfl) rfl zhSl45 rfl) ?_
  refine ARun.step rfl (step_gtr rfl (hn rfl) rfl rfl rfl) ?_
  refine ARun.nil ?_
  refine AWp.cond rfl (fun c1 => ?_) (fun c1 => ?_)
  · try simp only [nrm] at c1
    refine AWp.seq (AWp.region ?_)
    refine ARun.step rfl (step_assignV rfl (hn rfl) rfl rfl) ?_
    refine ARun.nil ?_
    refine AWp.ret ?_
    refine RetIs.sc (.inr rfl) rfl rfl ?_
    refine congrArg T.bool ?_
    rfl
  · try simp only [nrm] at c1
    refine AWp.skip ?_
    obtain ⟨t, ds, ⟨ht, hds, hdl⟩, hd⟩ := drawShareDoes b (by omega)
    have hg0 := good_empty ht
    refine AWp.seq (AWp.region ?_)
    refine ARun.step rfl (step_moveV rfl (hn rfl) rfl rfl) ?_
    refine ARun.step rfl (call_stepZ rfl (hn rfl) rfl zhCo16 (.cons rfl (.one (.v _)) (.nil)) hd rfl rfl) ?_
    refine ARun.step rfl (step_moveV rfl (hn rfl) rfl rfl) ?_
    refine ARun.step rfl (step_extract rfl (hn rfl) rfl rfl rfl (by intro l h; cases h)) ?_
    refine ARun.step rfl (step_extract rfl (hn rfl) rfl rfl rfl (by intro l h; cases h)) ?_
    refine ARun.step rfl (step_alloc_p rfl (hn rfl) rfl zhZs34) ?_
    refine ARun.step rfl (step_store_p rfl rfl zhCs34 rfl rfl rfl rfl rfl rfl rfl) ?_
    refine ARun.step rfl (step_assignV rfl (hn rfl) rfl rfl) ?_
    refine ARun.nil ?_
    refine AWp.seq ?_
    refine AWp.seq (AWp.region ?_)
    refine ARun.step rfl (step_assignV rfl (hn rfl) rfl rfl) ?_
    refine ARun.nil ?_
    refine AWp.block ?_
    refine AWp.loopM (fun x : Nat × Bk => mkAS 196 [(3, ⟨true, .one (.bptr 3 0)⟩), (4, ⟨true, .one (.v (dos 50 ds))⟩), (5, ⟨true, .one (.v (.int .i64 (x.1 : Nat)))⟩)] [(3, [.v (strs x.2.things), .v (bts 105 x.2.bs)])] []) (fun x => x.1 ≤ ds.length ∧ Good x.2) (fun x => ds.length - x.1) (0, ⟨t, []⟩) ?_ (Le.forgetR rfl ⟨rfl, rfl, rfl, trivial⟩ ⟨rfl, trivial⟩ trivial) ?_
    · try dsimp only
      exact ⟨Nat.zero_le _, hg0⟩
    rintro x ⟨hi, hg⟩
    refine AWp.seq ?_
    refine AWp.seq (AWp.region ?_)
    refine ARun.step rfl (step_moveV rfl (hn rfl) rfl rfl) ?_
    refine ARun.step rfl (step_moveV rfl (hn rfl) rfl rfl) ?_
    refine ARun.step rfl (step_len_f rfl (hn rfl) rfl zhSl46 rfl) ?_
    refine ARun.step rfl (step_lss rfl (hn rfl) rfl rfl rfl) ?_
    refine ARun.nil ?_
    refine AWp.cond rfl (fun c2 => ?_) (fun c2 => ?_)
    · try simp only [nrm] at c2
      have hdd := hds _ (nth_memA (show x.1 < ds.length by omega))
      have hsm := hg.le.small (show 5 ≤ 1048576 by omega)
      refine AWp.skip ?_
      refine AWp.seq ?_
      refine AWp.block ?_
      refine AWp.seq (AWp.region ?_)
      refine ARun.step rfl (step_moveV rfl (hn rfl) rfl rfl) ?_
      refine ARun.step rfl (step_moveV rfl (hn rfl) rfl rfl) ?_
      refine ARun.step rfl (step_index_fN rfl (hn rfl) rfl zhSl46 rfl rfl (by omega)) ?_
      refine ARun.step rfl (step_loadS_f rfl (hn rfl) rfl zhSt50 rfl (hn rfl) rfl rfl) ?_
      refine ARun.step rfl (step_alloc_p rfl (hn rfl) rfl zhZs50) ?_
      refine ARun.step rfl (step_store_p rfl rfl zhCs50 rfl rfl rfl rfl rfl rfl rfl) ?_
      refine ARun.nil ?_
      refine AWp.seq (AWp.region ?_)
      refine ARun.step rfl (step_loadS_b rfl (hn rfl) rfl zhSt34 rfl rfl rfl (by decide)) ?_
      refine ARun.step rfl (step_alloc_p rfl (hn rfl) rfl zhZs34) ?_
      refine ARun.step rfl (step_store_p rfl rfl zhCs34 rfl rfl rfl rfl rfl rfl rfl) ?_
      refine ARun.nil ?_
      refine AWp.seq (AWp.region ?_)
      refine ARun.step rfl (step_loadS_b rfl (hn rfl) rfl zhSt34 rfl rfl rfl (by decide)) ?_
      refine ARun.step rfl (step_alloc_p rfl (hn rfl) rfl zhZs34) ?_
      refine ARun.step rfl (step_store_p rfl rfl zhCs34 rfl rfl rfl rfl rfl rfl rfl) ?_
      refine ARun.nil ?_
      refine AWp.seq (AWp.region ?_)
      refine ARun.step rfl (step_assignV rfl (hn rfl) rfl rfl) ?_
      refine ARun.nil ?_
      refine AWp.seq (AWp.region ?_)
      refine ARun.step rfl (step_assignV rfl (hn rfl) rfl rfl) ?_
      refine ARun.nil ?_
      refine AWp.join (fun y : Bk × Int => mkAS 196 [(3, ⟨true, .one (.bptr 3 0)⟩), (4, ⟨true, .one (.v (dos 50 ds))⟩), (5, ⟨true, .one (.v (.int .i64 (x.1 : Nat)))⟩), (7, ⟨true, .one (.bptr 7 0)⟩), (8, ⟨true, .one (.bptr 8 0)⟩), (9, ⟨true, .one (.v (.int .i64 y.2))⟩), (10, ⟨true, .one (.v (.int .i64 y.2))⟩)] [(3, [.v (strs x.2.things), .v (bts 105 x.2.bs)]), (7, [.v (strs y.1.things), .v (bts 105 y.1.bs)]), (8, [.v (strs y.1.things), .v (bts 105 y.1.bs)])] []) (fun y => Step1 x.2 y.1 y.2) ?_ ?_
      · rintro y hy
        refine AWp.seq ?_
        refine AWp.seq (AWp.region ?_)
        refine ARun.step rfl (step_moveV rfl (hn rfl) rfl rfl) ?_
        refine ARun.step rfl (step_moveV rfl (hn rfl) rfl rfl) ?_
        refine ARun.step rfl (step_neq rfl (hn rfl) rfl rfl rfl) ?_
        refine ARun.step rfl (step_moveV rfl (hn rfl) rfl rfl) ?_
        refine guardS rfl rfl rfl rfl (hn rfl) (fun g1 g2 => step_loadS_b rfl (hn rfl) rfl zhSt34 rfl rfl rfl (by decide)) ?_
        refine guardS rfl rfl rfl rfl (hn rfl) (fun g1 g2 => step_loadS_b rfl (hn rfl) rfl zhSt34 rfl rfl rfl (by decide)) ?_
        refine guardS rfl rfl rfl rfl (hn rfl) (fun g1 g2 => call_step1 rfl (hn rfl) rfl zhCo25 (.cons (ev_true rfl (by exact flag2 g1 g2)) (.agg (.cons (.v _) (.cons (.v _) .nil))) (.cons (ev_true rfl (by exact flag2 g1 g2)) (.agg (.cons (.v _) (.cons (.v _) .nil))) (.nil))) (whBook _ _) rfl) ?_
        refine guardS rfl rfl rfl rfl (hn rfl) (fun g1 g2 => step_not rfl (hn rfl) rfl (ev_true rfl (by exact flag2 g1 g2))) ?_
        refine ARun.step rfl (step_or rfl (hn rfl) rfl rfl rfl (fun h => (by exact flag1 h))) ?_
        refine ARun.step rfl (step_moveV rfl (hn rfl) rfl rfl) ?_
        refine guardS rfl rfl rfl rfl (hn rfl) (fun g1 g2 => step_loadS_b rfl (hn rfl) rfl zhSt34 rfl rfl rfl (by decide)) ?_
        refine guardS rfl rfl rfl rfl (hn rfl) (fun g1 g2 => call_step1 rfl (hn rfl) rfl zhCo26 (.cons (ev_true rfl (by exact flag2 g1 g2)) (.agg (.cons (.v _) (.cons (.v _) .nil))) (.nil)) (bookOkI _) rfl) ?_
        refine guardS rfl rfl rfl rfl (hn rfl) (fun g1 g2 => step_not rfl (hn rfl) rfl (ev_true rfl (by exact flag2 g1 g2))) ?_
        refine ARun.step rfl (step_or rfl (hn rfl) rfl rfl rfl (fun h => (by exact flag1 h))) ?_
        refine ARun.step rfl (step_moveV rfl (hn rfl) rfl rfl) ?_
        refine guardS rfl rfl rfl rfl (hn rfl) (fun g1 g2 => step_loadS_b rfl (hn rfl) rfl zhSt34 rfl rfl rfl (by decide)) ?_
        refine guardS rfl rfl rfl rfl (hn rfl) (fun g1 g2 => call_step1 rfl (hn rfl) rfl zhCo27 (.cons (ev_true rfl (by exact flag2 g1 g2)) (.agg (.cons (.v _) (.cons (.v _) .nil))) (.nil)) (safeI _) rfl) ?_
        refine guardS rfl rfl rfl rfl (hn rfl) (fun g1 g2 => step_not rfl (hn rfl) rfl (ev_true rfl (by exact flag2 g1 g2))) ?_
        refine ARun.step rfl (step_or rfl (hn rfl) rfl rfl rfl (fun h => (by exact flag1 h))) ?_
        refine ARun.step rfl (step_moveV rfl (hn rfl) rfl rfl) ?_
        refine guardS rfl rfl rfl rfl (hn rfl) (fun g1 g2 => step_loadS_b rfl (hn rfl) rfl zhSt34 rfl rfl rfl (by decide)) ?_
        refine guardS rfl rfl rfl rfl (hn rfl) (fun g1 g2 => call_step1 rfl (hn rfl) rfl zhCo28 (.cons (ev_true rfl (by exact flag2 g1 g2)) (.agg (.cons (.v _) (.cons (.v _) .nil))) (.nil)) (stuckI _) rfl) ?_
        refine ARun.step rfl (step_or rfl (hn rfl) rfl rfl rfl (fun h => (by exact flag1 h))) ?_
        refine ARun.step rfl (step_moveV rfl (hn rfl) rfl rfl) ?_
        refine guardS rfl rfl rfl rfl (hn rfl) (fun g1 g2 => step_moveV rfl (hn rfl) rfl rfl) ?_
        refine guardS rfl rfl rfl rfl (hn rfl) (fun g1 g2 => step_neq rfl (hn rfl) rfl (ev_true rfl (by exact flag2 g1 g2)) rfl) ?_
        refine guardS rfl rfl rfl rfl (hn rfl) (fun g1 g2 => step_moveV rfl (hn rfl) rfl (ev_true rfl (by exact flag2 g1 g2))) ?_
        refine guardS rfl rfl rfl rfl (hn rfl) (fun g1 g2 => step_loadS_b rfl (hn rfl) rfl zhSt34 rfl rfl rfl (by decide)) ?_
        refine guardS rfl rfl rfl rfl (hn rfl) (fun g1 g2 => step_loadS_b rfl (hn rfl) rfl zhSt34 rfl rfl rfl (by decide)) ?_
        refine guardS rfl rfl rfl rfl (hn rfl) (fun g1 g2 => call_step1 rfl (hn rfl) rfl zhCo25 (.cons (ev_true rfl (by exact flag2 g1 g2)) (.agg (.cons (.v _) (.cons (.v _) .nil))) (.cons (ev_true rfl (by exact flag2 g1 g2)) (.agg (.cons (.v _) (.cons (.v _) .nil))) (.nil))) (whBook _ _) rfl) ?_
        refine guardS rfl rfl rfl rfl (hn rfl) (fun g1 g2 => step_not rfl (hn rfl) rfl (ev_true rfl (by exact flag2 g1 g2))) ?_
        refine guardS rfl rfl rfl rfl (hn rfl) (fun g1 g2 => step_and rfl (hn rfl) rfl (ev_true rfl (by exact flag2 g1 g2)) rfl (fun h => (by exact flag2 (by exact flag2 g1 g2) h))) ?_
        refine ARun.step rfl (step_or rfl (hn rfl) rfl rfl rfl (fun h => (by exact flag1 h))) ?_
        refine ARun.nil ?_
        refine AWp.cond rfl (fun c3 => ?_) (fun c3 => ?_)
        · try simp only [nrm] at c3
          refine AWp.seq (AWp.region ?_)
          refine ARun.step rfl (step_assignV rfl (hn rfl) rfl rfl) ?_
          refine ARun.nil ?_
          refine AWp.ret ?_
          refine RetIs.sc (.inr rfl) rfl rfl ?_
          refine congrArg T.bool ?_
          exfalso
          obtain ⟨hgy, hye⟩ := hy
          rcases c3 with c3 | c3
          · rw [eqBk_refl, (bk_ok _).2 hgy.1, hgy.2.1, stuck_not hgy.2.1] at c3
            simp at c3
          · rw [hye c3.1, eqBk_refl] at c3; cases c3.2
        · try simp only [nrm] at c3
          refine AWp.skip ?_
          refine AWp.region ?_
          refine ARun.step rfl (step_loadS_b rfl (hn rfl) rfl zhSt34 rfl rfl rfl (by decide)) ?_
          refine ARun.step rfl (step_store_p rfl rfl zhCs34 rfl rfl rfl rfl rfl rfl rfl) ?_
          refine ARun.nil ?_
          refine AWp.region ?_
          refine ARun.step rfl (step_moveV rfl (hn rfl) rfl rfl) ?_
          refine ARun.step rfl (step_addI rfl (hn rfl) rfl rfl rfl (by omega) (by omega)) ?_
          refine ARun.step rfl (step_assignV rfl (hn rfl) rfl rfl) ?_
          refine ARun.nil ?_
          refine ⟨(x.1 + 1, y.1), ?_, ?_, Le.forgetR rfl ⟨rfl, rfl, rfl, trivial⟩ ⟨rfl, trivial⟩ trivial⟩
          · try dsimp only
            exact ⟨by omega, hy.1⟩
          · try dsimp only
            omega
      · refine AWp.seq (AWp.region ?_)
        refine ARun.step rfl (step_field_b rfl (hn rfl) rfl zhFo50_0 rfl (by exact List.cons_ne_nil _ _)) ?_
        refine ARun.step rfl (step_load_b rfl (hn rfl) rfl zhSc3 rfl rfl) ?_
        refine ARun.nil ?_
        refine AWp.block ?_
        refine AWp.seq (AWp.region ?_)
        refine ARun.step rfl (step_eql rfl (hn rfl) rfl rfl rfl) ?_
        refine ARun.step rfl (step_assignV rfl (hn rfl) rfl rfl) ?_
        refine ARun.nil ?_
        refine AWp.cond rfl (fun c4 => ?_) (fun c4 => ?_)
        · try simp only [nrm] at c4
          have hi1 := enterIZ x.2 (nth ds x.1).name (nth ds x.1).list hsm (by omega)
          have hs1 := enterSZ x.2 (nth ds x.1).name (nth ds x.1).list hsm (by omega)
          obtain ⟨x1, d1, hr1⟩ : ∃ X D, enterR x.2 (nth ds x.1).name (nth ds x.1).list = (X, D) := ⟨_, _, rfl⟩
          rw [hr1] at hi1 hs1
          dsimp only at hi1 hs1
          refine AWp.seq (AWp.region ?_)
          refine ARun.step rfl (step_loadS_b rfl (hn rfl) rfl zhSt34 rfl rfl rfl (by decide)) ?_
          refine ARun.step rfl (step_field_b rfl (hn rfl) rfl zhFo50_1 rfl (by exact List.cons_ne_nil _ _)) ?_
          refine ARun.step rfl (step_load_b rfl (hn rfl) rfl zhSc9 rfl rfl) ?_
          refine ARun.step rfl (step_field_b rfl (hn rfl) rfl zhFo50_2 rfl (by exact List.cons_ne_nil _ _)) ?_
          refine ARun.step rfl (step_load_b rfl (hn rfl) rfl zhSc22 rfl rfl) ?_
          refine ARun.step rfl (call_stepZ rfl (hn rfl) rfl zhCo17 (.cons rfl (.agg (.cons (.v _) (.cons (.v _) .nil))) (.cons rfl (.one (.v _)) (.cons rfl (.one (.v _)) (.nil)))) hi1 rfl rfl) ?_
          refine ARun.step rfl (step_moveV rfl (hn rfl) rfl rfl) ?_
          refine ARun.step rfl (step_extract rfl (hn rfl) rfl rfl rfl (by intro l h; cases h)) ?_
          refine ARun.step rfl (step_extract rfl (hn rfl) rfl rfl rfl (by intro l h; cases h)) ?_
          refine ARun.step rfl (step_store_p rfl rfl zhCs34 rfl rfl rfl rfl rfl rfl rfl) ?_
          refine ARun.step rfl (step_assignV rfl (hn rfl) rfl rfl) ?_
          refine ARun.nil ?_
          refine AWp.region ?_
          refine ARun.step rfl (step_loadS_b rfl (hn rfl) rfl zhSt34 rfl rfl rfl (by decide)) ?_
          refine ARun.step rfl (step_field_b rfl (hn rfl) rfl zhFo50_1 rfl (by exact List.cons_ne_nil _ _)) ?_
          refine ARun.step rfl (step_load_b rfl (hn rfl) rfl zhSc9 rfl rfl) ?_
          refine ARun.step rfl (step_field_b rfl (hn rfl) rfl zhFo50_2 rfl (by exact List.cons_ne_nil _ _)) ?_
          refine ARun.step rfl (step_load_b rfl (hn rfl) rfl zhSc22 rfl rfl) ?_
          refine ARun.step rfl (call_stepZ rfl (hn rfl) rfl zhCo18 (.cons rfl (.agg (.cons (.v _) (.cons (.v _) .nil))) (.cons rfl (.one (.v _)) (.cons rfl (.one (.v _)) (.nil)))) hs1 rfl rfl) ?_
          refine ARun.step rfl (step_moveV rfl (hn rfl) rfl rfl) ?_
          refine ARun.step rfl (step_extract rfl (hn rfl) rfl rfl rfl (by intro l h; cases h)) ?_
          refine ARun.step rfl (step_extract rfl (hn rfl) rfl rfl rfl (by intro l h; cases h)) ?_
          refine ARun.step rfl (step_store_p rfl rfl zhCs34 rfl rfl rfl rfl rfl rfl rfl) ?_
          refine ARun.step rfl (step_assignV rfl (hn rfl) rfl rfl) ?_
          refine ARun.nil ?_
          refine ⟨((x1, d1)), ?_, Le.forgetR rfl ⟨rfl, rfl, rfl, rfl, rfl, rfl, rfl, trivial⟩ ⟨rfl, rfl, rfl, trivial⟩ trivial⟩
          try dsimp only
          have h := top_enter hg (nth ds x.1).name (nth ds x.1).list; rw [hr1] at h; exact h
        · try simp only [nrm] at c4
          refine AWp.seq (AWp.region ?_)
          refine ARun.step rfl (step_eql rfl (hn rfl) rfl rfl rfl) ?_
          refine ARun.step rfl (step_assignV rfl (hn rfl) rfl rfl) ?_
          refine ARun.nil ?_
          refine AWp.cond rfl (fun c5 => ?_) (fun c5 => ?_)
          · try simp only [nrm] at c5
            have hi2 := askIZ x.2 (nth ds x.1).name (nth ds x.1).list hsm (by omega)
            have hs2 := askSZ x.2 (nth ds x.1).name (nth ds x.1).list hsm (by omega)
            obtain ⟨x2, d2, hr2⟩ : ∃ X D, askR x.2 (nth ds x.1).name (nth ds x.1).list = (X, D) := ⟨_, _, rfl⟩
            rw [hr2] at hi2 hs2
            dsimp only at hi2 hs2
            refine AWp.seq (AWp.region ?_)
            refine ARun.step rfl (step_loadS_b rfl (hn rfl) rfl zhSt34 rfl rfl rfl (by decide)) ?_
            refine ARun.step rfl (step_field_b rfl (hn rfl) rfl zhFo50_1 rfl (by exact List.cons_ne_nil _ _)) ?_
            refine ARun.step rfl (step_load_b rfl (hn rfl) rfl zhSc9 rfl rfl) ?_
            refine ARun.step rfl (step_field_b rfl (hn rfl) rfl zhFo50_2 rfl (by exact List.cons_ne_nil _ _)) ?_
            refine ARun.step rfl (step_load_b rfl (hn rfl) rfl zhSc22 rfl rfl) ?_
            refine ARun.step rfl (call_stepZ rfl (hn rfl) rfl zhCo19 (.cons rfl (.agg (.cons (.v _) (.cons (.v _) .nil))) (.cons rfl (.one (.v _)) (.cons rfl (.one (.v _)) (.nil)))) hi2 rfl rfl) ?_
            refine ARun.step rfl (step_moveV rfl (hn rfl) rfl rfl) ?_
            refine ARun.step rfl (step_extract rfl (hn rfl) rfl rfl rfl (by intro l h; cases h)) ?_
            refine ARun.step rfl (step_extract rfl (hn rfl) rfl rfl rfl (by intro l h; cases h)) ?_
            refine ARun.step rfl (step_store_p rfl rfl zhCs34 rfl rfl rfl rfl rfl rfl rfl) ?_
            refine ARun.step rfl (step_assignV rfl (hn rfl) rfl rfl) ?_
            refine ARun.nil ?_
            refine AWp.region ?_
            refine ARun.step rfl (step_loadS_b rfl (hn rfl) rfl zhSt34 rfl rfl rfl (by decide)) ?_
            refine ARun.step rfl (step_field_b rfl (hn rfl) rfl zhFo50_1 rfl (by exact List.cons_ne_nil _ _)) ?_
            refine ARun.step rfl (step_load_b rfl (hn rfl) rfl zhSc9 rfl rfl) ?_
            refine ARun.step rfl (step_field_b rfl (hn rfl) rfl zhFo50_2 rfl (by exact List.cons_ne_nil _ _)) ?_
            refine ARun.step rfl (step_load_b rfl (hn rfl) rfl zhSc22 rfl rfl) ?_
            refine ARun.step rfl (call_stepZ rfl (hn rfl) rfl zhCo20 (.cons rfl (.agg (.cons (.v _) (.cons (.v _) .nil))) (.cons rfl (.one (.v _)) (.cons rfl (.one (.v _)) (.nil)))) hs2 rfl rfl) ?_
            refine ARun.step rfl (step_moveV rfl (hn rfl) rfl rfl) ?_
            refine ARun.step rfl (step_extract rfl (hn rfl) rfl rfl rfl (by intro l h; cases h)) ?_
            refine ARun.step rfl (step_extract rfl (hn rfl) rfl rfl rfl (by intro l h; cases h)) ?_
            refine ARun.step rfl (step_store_p rfl rfl zhCs34 rfl rfl rfl rfl rfl rfl rfl) ?_
            refine ARun.step rfl (step_assignV rfl (hn rfl) rfl rfl) ?_
            refine ARun.nil ?_
            refine ⟨((x2, d2)), ?_, Le.forgetR rfl ⟨rfl, rfl, rfl, rfl, rfl, rfl, rfl, trivial⟩ ⟨rfl, rfl, rfl, trivial⟩ trivial⟩
            try dsimp only
            have h := top_ask hg (nth ds x.1).name (nth ds x.1).list; rw [hr2] at h; exact h
          · try simp only [nrm] at c5
            refine AWp.seq (AWp.region ?_)
            refine ARun.step rfl (step_eql rfl (hn rfl) rfl rfl rfl) ?_
            refine ARun.step rfl (step_assignV rfl (hn rfl) rfl rfl) ?_
            refine ARun.nil ?_
            refine AWp.cond rfl (fun c6 => ?_) (fun c6 => ?_)
            · try simp only [nrm] at c6
              have hi3 := lessIZ x.2 (nth ds x.1).name (nth ds x.1).list hsm (by omega)
              have hs3 := lessSZ x.2 (nth ds x.1).name (nth ds x.1).list hsm (by omega)
              obtain ⟨x3, d3, hr3⟩ : ∃ X D, lessR x.2 (nth ds x.1).name (nth ds x.1).list = (X, D) := ⟨_, _, rfl⟩
              rw [hr3] at hi3 hs3
              dsimp only at hi3 hs3
              refine AWp.seq (AWp.region ?_)
              refine ARun.step rfl (step_loadS_b rfl (hn rfl) rfl zhSt34 rfl rfl rfl (by decide)) ?_
              refine ARun.step rfl (step_field_b rfl (hn rfl) rfl zhFo50_1 rfl (by exact List.cons_ne_nil _ _)) ?_
              refine ARun.step rfl (step_load_b rfl (hn rfl) rfl zhSc9 rfl rfl) ?_
              refine ARun.step rfl (step_field_b rfl (hn rfl) rfl zhFo50_2 rfl (by exact List.cons_ne_nil _ _)) ?_
              refine ARun.step rfl (step_load_b rfl (hn rfl) rfl zhSc22 rfl rfl) ?_
              refine ARun.step rfl (call_stepZ rfl (hn rfl) rfl zhCo21 (.cons rfl (.agg (.cons (.v _) (.cons (.v _) .nil))) (.cons rfl (.one (.v _)) (.cons rfl (.one (.v _)) (.nil)))) hi3 rfl rfl) ?_
              refine ARun.step rfl (step_moveV rfl (hn rfl) rfl rfl) ?_
              refine ARun.step rfl (step_extract rfl (hn rfl) rfl rfl rfl (by intro l h; cases h)) ?_
              refine ARun.step rfl (step_extract rfl (hn rfl) rfl rfl rfl (by intro l h; cases h)) ?_
              refine ARun.step rfl (step_store_p rfl rfl zhCs34 rfl rfl rfl rfl rfl rfl rfl) ?_
              refine ARun.step rfl (step_assignV rfl (hn rfl) rfl rfl) ?_
              refine ARun.nil ?_
              refine AWp.region ?_
              refine ARun.step rfl (step_loadS_b rfl (hn rfl) rfl zhSt34 rfl rfl rfl (by decide)) ?_
              refine ARun.step rfl (step_field_b rfl (hn rfl) rfl zhFo50_1 rfl (by exact List.cons_ne_nil _ _)) ?_
              refine ARun.step rfl (step_load_b rfl (hn rfl) rfl zhSc9 rfl rfl) ?_
              refine ARun.step rfl (step_field_b rfl (hn rfl) rfl zhFo50_2 rfl (by exact List.cons_ne_nil _ _)) ?_
              refine ARun.step rfl (step_load_b rfl (hn rfl) rfl zhSc22 rfl rfl) ?_
              refine ARun.step rfl (call_stepZ rfl (hn rfl) rfl zhCo22 (.cons rfl (.agg (.cons (.v _) (.cons (.v _) .nil))) (.cons rfl (.one (.v _)) (.cons rfl (.one (.v _)) (.nil)))) hs3 rfl rfl) ?_
              refine ARun.step rfl (step_moveV rfl (hn rfl) rfl rfl) ?_
              refine ARun.step rfl (step_extract rfl (hn rfl) rfl rfl rfl (by intro l h; cases h)) ?_
              refine ARun.step rfl (step_extract rfl (hn rfl) rfl rfl rfl (by intro l h; cases h)) ?_
              refine ARun.step rfl (step_store_p rfl rfl zhCs34 rfl rfl rfl rfl rfl rfl rfl) ?_
              refine ARun.step rfl (step_assignV rfl (hn rfl) rfl rfl) ?_
              refine ARun.nil ?_
              refine ⟨((x3, d3)), ?_, Le.forgetR rfl ⟨rfl, rfl, rfl, rfl, rfl, rfl, rfl, trivial⟩ ⟨rfl, rfl, rfl, trivial⟩ trivial⟩
              try dsimp only
              have h := top_less hg (nth ds x.1).name (nth ds x.1).list; rw [hr3] at h; exact h
            · try simp only [nrm] at c6
              have hi4 := leaveIZ x.2 (nth ds x.1).name hsm
              have hs4 := leaveSZ x.2 (nth ds x.1).name hsm
              obtain ⟨x4, d4, hr4⟩ : ∃ X D, leaveR x.2 (nth ds x.1).name = (X, D) := ⟨_, _, rfl⟩
              rw [hr4] at hi4 hs4
              dsimp only at hi4 hs4
              refine AWp.seq (AWp.region ?_)
              refine ARun.step rfl (step_loadS_b rfl (hn rfl) rfl zhSt34 rfl rfl rfl (by decide)) ?_
              refine ARun.step rfl (step_field_b rfl (hn rfl) rfl zhFo50_1 rfl (by exact List.cons_ne_nil _ _)) ?_
              refine ARun.step rfl (step_load_b rfl (hn rfl) rfl zhSc9 rfl rfl) ?_
              refine ARun.step rfl (call_stepZ rfl (hn rfl) rfl zhCo23 (.cons rfl (.agg (.cons (.v _) (.cons (.v _) .nil))) (.cons rfl (.one (.v _)) (.nil))) hi4 rfl rfl) ?_
              refine ARun.step rfl (step_moveV rfl (hn rfl) rfl rfl) ?_
              refine ARun.step rfl (step_extract rfl (hn rfl) rfl rfl rfl (by intro l h; cases h)) ?_
              refine ARun.step rfl (step_extract rfl (hn rfl) rfl rfl rfl (by intro l h; cases h)) ?_
              refine ARun.step rfl (step_store_p rfl rfl zhCs34 rfl rfl rfl rfl rfl rfl rfl) ?_
              refine ARun.step rfl (step_assignV rfl (hn rfl) rfl rfl) ?_
              refine ARun.nil ?_
              refine AWp.region ?_
              refine ARun.step rfl (step_loadS_b rfl (hn rfl) rfl zhSt34 rfl rfl rfl (by decide)) ?_
              refine ARun.step rfl (step_field_b rfl (hn rfl) rfl zhFo50_1 rfl (by exact List.cons_ne_nil _ _)) ?_
              refine ARun.step rfl (step_load_b rfl (hn rfl) rfl zhSc9 rfl rfl) ?_
              refine ARun.step rfl (call_stepZ rfl (hn rfl) rfl zhCo24 (.cons rfl (.agg (.cons (.v _) (.cons (.v _) .nil))) (.cons rfl (.one (.v _)) (.nil))) hs4 rfl rfl) ?_
              refine ARun.step rfl (step_moveV rfl (hn rfl) rfl rfl) ?_
              refine ARun.step rfl (step_extract rfl (hn rfl) rfl rfl rfl (by intro l h; cases h)) ?_
              refine ARun.step rfl (step_extract rfl (hn rfl) rfl rfl rfl (by intro l h; cases h)) ?_
              refine ARun.step rfl (step_store_p rfl rfl zhCs34 rfl rfl rfl rfl rfl rfl rfl) ?_
              refine ARun.step rfl (step_assignV rfl (hn rfl) rfl rfl) ?_
              refine ARun.nil ?_
              refine ⟨((x4, d4)), ?_, Le.forgetR rfl ⟨rfl, rfl, rfl, rfl, rfl, rfl, rfl, trivial⟩ ⟨rfl, rfl, rfl, trivial⟩ trivial⟩
              try dsimp only
              have h := top_leave hg (nth ds x.1).name; rw [hr4] at h; exact h
    · try simp only [nrm] at c2
      refine AWp.exit ?_
      refine AWp.seq ?_
      refine AWp.seq (AWp.region ?_)
      refine ARun.step rfl (step_field_b rfl (hn rfl) rfl zhFo34_1 rfl (by exact List.cons_ne_nil _ _)) ?_
      refine ARun.step rfl (step_load_b rfl (hn rfl) rfl zhSc32 rfl rfl) ?_
      refine ARun.step rfl (step_len_f rfl (hn rfl) rfl zhSl32 rfl) ?_
      refine ARun.step rfl (step_assignV rfl (hn rfl) rfl rfl) ?_
      refine ARun.nil ?_
      refine AWp.block ?_
      refine AWp.loopM (fun z : Nat × Bk => mkAS 196 [(3, ⟨true, .one (.bptr 3 0)⟩), (11, ⟨true, .one (.v (.int .i64 (z.1 : Nat)))⟩)] [(3, [.v (strs z.2.things), .v (bts 105 z.2.bs)])] []) (fun z => z.1 = z.2.bs.length ∧ Good z.2) (fun z => z.1) (x.2.bs.length, x.2) ?_ (Le.forgetR rfl ⟨rfl, rfl, trivial⟩ ⟨rfl, trivial⟩ trivial) ?_
      · try dsimp only
        exact ⟨rfl, hg⟩
      rintro z ⟨hz, hg2⟩
      refine AWp.seq ?_
      refine AWp.seq (AWp.region ?_)
      refine ARun.step rfl (step_moveV rfl (hn rfl) rfl rfl) ?_
      refine ARun.step rfl (step_gtr rfl (hn rfl) rfl rfl rfl) ?_
      refine ARun.nil ?_
      refine AWp.cond rfl (fun c7 => ?_) (fun c7 => ?_)
      · try simp only [nrm] at c7
        refine AWp.skip ?_
        refine AWp.seq ?_
        refine AWp.block ?_
        obtain ⟨hm, xa, xc, hga, hgc, hlc, ha, hv⟩ := top_walk hg2 (by omega)
        have hml := missGo_len (s := nth (movesB z.2) 0) hg2.le (Nat.le_refl _)
        have hbl := hg2.1.bl5
        have hi5 := askIZ z.2 (nth (movesB z.2) 0) (missB z.2 (nth (movesB z.2) 0)) (hg2.le.small (by omega)) (by show (missGo _ _ _).length ≤ _; omega)
        rw [ha] at hi5
        dsimp only at hi5
        have hi6 := leaveIZ xa (nth (movesB z.2) 0) (hga.le.small (by omega))
        rw [hv] at hi6
        dsimp only at hi6
        refine AWp.seq (AWp.region ?_)
        refine ARun.step rfl (step_loadS_b rfl (hn rfl) rfl zhSt34 rfl rfl rfl (by decide)) ?_
        refine ARun.step rfl (call_stepZ rfl (hn rfl) rfl zhCo29 (.cons rfl (.agg (.cons (.v _) (.cons (.v _) .nil))) (.nil)) (movesIZ z.2) rfl rfl) ?_
        refine ARun.step rfl (step_assignV rfl (hn rfl) rfl rfl) ?_
        refine ARun.nil ?_
        refine AWp.seq ?_
        refine AWp.seq (AWp.region ?_)
        refine ARun.step rfl (step_moveV rfl (hn rfl) rfl rfl) ?_
        refine ARun.step rfl (step_len_f rfl (hn rfl) rfl zhSl22 rfl) ?_
        refine ARun.step rfl (step_eql rfl (hn rfl) rfl rfl rfl) ?_
        refine ARun.nil ?_
        refine AWp.cond rfl (fun c8 => ?_) (fun c8 => ?_)
        · try simp only [nrm] at c8
          refine AWp.seq (AWp.region ?_)
          refine ARun.step rfl (step_assignV rfl (hn rfl) rfl rfl) ?_
          refine ARun.nil ?_
          refine AWp.ret ?_
          refine RetIs.sc (.inr rfl) rfl rfl ?_
          refine congrArg T.bool ?_
          exfalso
          omega
        · try simp only [nrm] at c8
          refine AWp.skip ?_
          refine AWp.seq (AWp.drawM [⟨⟨[.s 3, .b 3], [.s 160], false⟩, none, [13]⟩, ⟨⟨[.s 12], [.s 161], false⟩, none, [13]⟩, ⟨⟨[.s 161], [.s 162], false⟩, none, [13]⟩, ⟨⟨[.s 162], [.s 163], false⟩, none, [13]⟩, ⟨⟨[.s 3, .b 3], [.s 164], false⟩, none, [13]⟩, ⟨⟨[.s 12], [.s 165], false⟩, none, [13]⟩, ⟨⟨[.s 165], [.s 166], false⟩, none, [13]⟩, ⟨⟨[.s 166], [.s 167], false⟩, none, [13]⟩, ⟨⟨[.s 167, .s 164], [.s 168], false⟩, none, [13]⟩, ⟨⟨[.s 168, .s 163, .s 160], [.s 169], false⟩, none, [13]⟩, ⟨⟨[.s 169], [.s 159], false⟩, none, [13]⟩, ⟨⟨[.s 159], [.s 170], false⟩, none, [13]⟩, ⟨⟨[.s 159], [.s 171], false⟩, none, [13]⟩, ⟨⟨[], [.s 13, .b 13], false⟩, some 13, []⟩, ⟨⟨[.b 13, .s 13, .s 170], [.b 13], false⟩, none, []⟩, ⟨⟨[], [], true⟩, none, []⟩] zhMo rfl rfl (Le.forgetR (n := 196) (sl := [(3, _), (11, _), (12, _), (150, _), (151, _), (154, _), (155, _), (156, _), (157, _), (158, _)]) (bl := [(3, _)]) (al := []) rfl ⟨rfl, rfl, rfl, rfl, rfl, rfl, rfl, rfl, rfl, rfl, trivial⟩ ⟨rfl, trivial⟩ trivial) rfl ?_)
          refine FRun.slot rfl (fun τ hN hr => step_loadS_b rfl (rdN hN (hn rfl)) rfl zhSt34 (by exact rdS hr rfl rfl) (by exact rdBtake hr rfl rfl) rfl (by decide)) (by exact rfl) ?_
          refine FRun.slot rfl (fun τ hN hr => step_moveV rfl (rdN hN (hn rfl)) rfl (by exact rdS hr rfl rfl)) (by exact rfl) ?_
          refine FRun.slot rfl (fun τ hN hr => step_index_fN rfl (rdN hN (hn rfl)) rfl zhSl22 (by exact rdS hr rfl rfl) rfl (by omega)) (by exact rfl) ?_
          refine FRun.slot rfl (fun τ hN hr => step_load_f rfl (rdN hN (hn rfl)) rfl zhSc9 (by exact rdS hr rfl rfl) (hn rfl) rfl) (by exact rfl) ?_
          refine FRun.slot rfl (fun τ hN hr => step_loadS_b rfl (rdN hN (hn rfl)) rfl zhSt34 (by exact rdS hr rfl rfl) (by exact rdBtake hr rfl rfl) rfl (by decide)) (by exact rfl) ?_
          refine FRun.slot rfl (fun τ hN hr => step_moveV rfl (rdN hN (hn rfl)) rfl (by exact rdS hr rfl rfl)) (by exact rfl) ?_
          refine FRun.slot rfl (fun τ hN hr => step_index_fN rfl (rdN hN (hn rfl)) rfl zhSl22 (by exact rdS hr rfl rfl) rfl (by omega)) (by exact rfl) ?_
          refine FRun.slot rfl (fun τ hN hr => step_load_f rfl (rdN hN (hn rfl)) rfl zhSc9 (by exact rdS hr rfl rfl) (hn rfl) rfl) (by exact rfl) ?_
          refine FRun.slot rfl (fun τ hN hr => call_stepZ rfl (rdN hN (hn rfl)) rfl zhCo30 (.cons (by exact rdS hr rfl rfl) (.agg (.cons (.v _) (.cons (.v _) .nil))) (.cons (by exact rdS hr rfl rfl) (.one (.v _)) (.nil))) (whMissingZ z.2 (nth (movesB z.2) 0) hg2.le) rfl (by exact rdNoRefs hr rfl rfl)) (by exact rfl) ?_
          refine FRun.slot rfl (fun τ hN hr => call_stepZ rfl (rdN hN (hn rfl)) rfl zhCo19 (.cons (by exact rdS hr rfl rfl) (.agg (.cons (.v _) (.cons (.v _) .nil))) (.cons (by exact rdS hr rfl rfl) (.one (.v _)) (.cons (by exact rdS hr rfl rfl) (.one (.v _)) (.nil)))) hi5 rfl (by exact rdNoRefs hr rfl rfl)) (by exact rfl) ?_
          refine FRun.slot rfl (fun τ hN hr => step_moveV rfl (rdN hN (hn rfl)) rfl (by exact rdS hr rfl rfl)) (by exact rfl) ?_
          refine FRun.slot rfl (fun τ hN hr => step_extract rfl (rdN hN (hn rfl)) rfl (by exact rdS hr rfl rfl) rfl (by intro l h; cases h)) (by exact rfl) ?_
          refine FRun.slot rfl (fun τ hN hr => step_extract rfl (rdN hN (hn rfl)) rfl (by exact rdS hr rfl rfl) rfl (by intro l h; cases h)) (by exact rfl) ?_
          refine FRun.boxN rfl (fun τ hN hr hF => step_allocN rfl (rdN hN (hn rfl)) rfl zhZs34 hF) (by exact rfl) ?_
          refine FRun.boxW rfl (fun τ hN hr => step_store_p rfl rfl zhCs34 (by exact rdS hr rfl rfl) (by exact rdB hr rfl rfl) (by exact rfl) (by exact rdS hr rfl rfl) (by exact rfl) (by exact rfl) (by exact rfl)) (by exact rfl) ?_
          refine FRun.whole rfl (step_assignV rfl (hn rfl) rfl rfl) (by exact rfl) ?_
          refine FRun.nil ?_
          refine AWp.seq (AWp.drawM [⟨⟨[.s 13, .b 13], [.s 173], false⟩, none, [15]⟩, ⟨⟨[.s 12], [.s 174], false⟩, none, [15]⟩, ⟨⟨[.s 174], [.s 175], false⟩, none, [15]⟩, ⟨⟨[.s 175], [.s 176], false⟩, none, [15]⟩, ⟨⟨[.s 176, .s 173], [.s 177], false⟩, none, [15]⟩, ⟨⟨[.s 177], [.s 172], false⟩, none, [15]⟩, ⟨⟨[.s 172], [.s 178], false⟩, none, [15]⟩, ⟨⟨[.s 172], [.s 179], false⟩, none, [15]⟩, ⟨⟨[], [.s 15, .b 15], false⟩, some 15, []⟩, ⟨⟨[.b 15, .s 15, .s 178], [.b 15], false⟩, none, []⟩, ⟨⟨[], [], true⟩, none, []⟩] zhMo rfl rfl (Le.forgetR (n := 196) (sl := [(3, _), (11, _), (12, _), (13, _), (14, _), (150, _), (151, _), (154, _), (155, _), (156, _), (157, _), (158, _), (159, _), (160, _), (161, _), (162, _), (163, _), (164, _), (165, _), (166, _), (167, _), (168, _), (169, _), (170, _), (171, _)]) (bl := [(3, _), (13, _)]) (al := []) rfl ⟨rfl, rfl, rfl, rfl, rfl, rfl, rfl, rfl, rfl, rfl, rfl, rfl, rfl, rfl, rfl, rfl, rfl, rfl, rfl, rfl, rfl, rfl, rfl, rfl, rfl, trivial⟩ ⟨rfl, rfl, trivial⟩ trivial) rfl ?_)
          refine FRun.slot rfl (fun τ hN hr => step_loadS_b rfl (rdN hN (hn rfl)) rfl zhSt34 (by exact rdS hr rfl rfl) (by exact rdBtake hr rfl rfl) rfl (by decide)) (by exact rfl) ?_
          refine FRun.slot rfl (fun τ hN hr => step_moveV rfl (rdN hN (hn rfl)) rfl (by exact rdS hr rfl rfl)) (by exact rfl) ?_
          refine FRun.slot rfl (fun τ hN hr => step_index_fN rfl (rdN hN (hn rfl)) rfl zhSl22 (by exact rdS hr rfl rfl) rfl (by omega)) (by exact rfl) ?_
          refine FRun.slot rfl (fun τ hN hr => step_load_f rfl (rdN hN (hn rfl)) rfl zhSc9 (by exact rdS hr rfl rfl) (hn rfl) rfl) (by exact rfl) ?_
          refine FRun.slot rfl (fun τ hN hr => call_stepZ rfl (rdN hN (hn rfl)) rfl zhCo23 (.cons (by exact rdS hr rfl rfl) (.agg (.cons (.v _) (.cons (.v _) .nil))) (.cons (by exact rdS hr rfl rfl) (.one (.v _)) (.nil))) hi6 rfl (by exact rdNoRefs hr rfl rfl)) (by exact rfl) ?_
          refine FRun.slot rfl (fun τ hN hr => step_moveV rfl (rdN hN (hn rfl)) rfl (by exact rdS hr rfl rfl)) (by exact rfl) ?_
          refine FRun.slot rfl (fun τ hN hr => step_extract rfl (rdN hN (hn rfl)) rfl (by exact rdS hr rfl rfl) rfl (by intro l h; cases h)) (by exact rfl) ?_
          refine FRun.slot rfl (fun τ hN hr => step_extract rfl (rdN hN (hn rfl)) rfl (by exact rdS hr rfl rfl) rfl (by intro l h; cases h)) (by exact rfl) ?_
          refine FRun.boxN rfl (fun τ hN hr hF => step_allocN rfl (rdN hN (hn rfl)) rfl zhZs34 hF) (by exact rfl) ?_
          refine FRun.boxW rfl (fun τ hN hr => step_store_p rfl rfl zhCs34 (by exact rdS hr rfl rfl) (by exact rdB hr rfl rfl) (by exact rfl) (by exact rdS hr rfl rfl) (by exact rfl) (by exact rfl) (by exact rfl)) (by exact rfl) ?_
          refine FRun.whole rfl (step_assignV rfl (hn rfl) rfl rfl) (by exact rfl) ?_
          refine FRun.nil ?_
          refine AWp.seq ?_
          refine AWp.seq (AWp.region ?_)
          refine ARun.step rfl (step_moveV rfl (hn rfl) rfl rfl) ?_
          refine ARun.step rfl (step_neq rfl (hn rfl) rfl rfl rfl) ?_
          refine ARun.step rfl (step_moveV rfl (hn rfl) rfl rfl) ?_
          refine guardS rfl rfl rfl rfl (hn rfl) (fun g1 g2 => step_moveV rfl (hn rfl) rfl rfl) ?_
          refine guardS rfl rfl rfl rfl (hn rfl) (fun g1 g2 => step_neq rfl (hn rfl) rfl (ev_true rfl (by exact flag2 g1 g2)) rfl) ?_
          refine ARun.step rfl (step_or rfl (hn rfl) rfl rfl rfl (fun h => (by exact flag1 h))) ?_
          refine ARun.step rfl (step_moveV rfl (hn rfl) rfl rfl) ?_
          refine guardS rfl rfl rfl rfl (hn rfl) (fun g1 g2 => step_loadS_b rfl (hn rfl) rfl zhSt34 rfl rfl rfl (by decide)) ?_
          refine guardS rfl rfl rfl rfl (hn rfl) (fun g1 g2 => call_step1 rfl (hn rfl) rfl zhCo27 (.cons (ev_true rfl (by exact flag2 g1 g2)) (.agg (.cons (.v _) (.cons (.v _) .nil))) (.nil)) (safeI _) rfl) ?_
          refine guardS rfl rfl rfl rfl (hn rfl) (fun g1 g2 => step_not rfl (hn rfl) rfl (ev_true rfl (by exact flag2 g1 g2))) ?_
          refine ARun.step rfl (step_or rfl (hn rfl) rfl rfl rfl (fun h => (by exact flag1 h))) ?_
          refine ARun.nil ?_
          refine AWp.cond rfl (fun c9 => ?_) (fun c9 => ?_)
          · try simp only [nrm] at c9
            refine AWp.seq (AWp.region ?_)
            refine ARun.step rfl (step_assignV rfl (hn rfl) rfl rfl) ?_
            refine ARun.nil ?_
            refine AWp.ret ?_
            refine RetIs.sc (.inr rfl) rfl rfl ?_
            refine congrArg T.bool ?_
            exfalso
            rw [hga.2.1] at c9
            simp at c9
          · try simp only [nrm] at c9
            refine AWp.skip ?_
            refine AWp.region ?_
            refine ARun.step rfl (step_loadS_b rfl (hn rfl) rfl zhSt34 rfl rfl rfl (by decide)) ?_
            refine ARun.step rfl (step_store_p rfl rfl zhCs34 rfl rfl rfl rfl rfl rfl rfl) ?_
            refine ARun.nil ?_
            refine AWp.region ?_
            refine ARun.step rfl (step_moveV rfl (hn rfl) rfl rfl) ?_
            refine ARun.step rfl (step_decN rfl (hn rfl) rfl rfl rfl (by omega) (by omega)) ?_
            refine ARun.step rfl (step_assignV rfl (hn rfl) rfl rfl) ?_
            refine ARun.nil ?_
            refine ⟨(z.1 - 1, xc), ?_, ?_, Le.forgetR rfl ⟨rfl, rfl, trivial⟩ ⟨rfl, trivial⟩ trivial⟩
            · try dsimp only
              exact ⟨by omega, hgc⟩
            · try dsimp only
              omega
      · try simp only [nrm] at c7
        refine AWp.exit ?_
        refine AWp.seq (AWp.region ?_)
        refine ARun.step rfl (step_field_b rfl (hn rfl) rfl zhFo34_1 rfl (by exact List.cons_ne_nil _ _)) ?_
        refine ARun.step rfl (step_load_b rfl (hn rfl) rfl zhSc32 rfl rfl) ?_
        refine ARun.step rfl (step_len_f rfl (hn rfl) rfl zhSl32 rfl) ?_
        refine ARun.step rfl (step_eql rfl (hn rfl) rfl rfl rfl) ?_
        refine ARun.step rfl (step_assignV rfl (hn rfl) rfl rfl) ?_
        refine ARun.nil ?_
        refine AWp.ret ?_
        refine RetIs.sc (.inr rfl) rfl rfl ?_
        refine congrArg T.bool ?_
        rw [beq_iff_eq]
        omega

end Go.Proofs.YtkmacjdigkaabaaGreat
