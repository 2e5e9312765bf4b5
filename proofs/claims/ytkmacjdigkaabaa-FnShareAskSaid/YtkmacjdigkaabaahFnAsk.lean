/- Contracts of functions of the program, each met by its body; conditions stand in each statement. No condition. -/
import Derived.Test.YtkmacjdigkaabaahWwith
import Derived.Test.YtkmacjdigkaabaaProg
import Derived.KernelRfl
set_option linter.unusedVariables false
set_option linter.unusedSimpArgs false
set_option linter.unnecessarySimpa false
set_option linter.unusedSimpArgs false
set_option maxRecDepth 100000
namespace Go.Proofs.Ytkmacjdigkaabaa
open Go Go.Mh
theorem one_has {p : Bk} (hb : bookOk p = true) {s : Str} {i j : Nat} (hi : i < p.bs.length) (hj : j < p.bs.length) (h1 : hasB (nth p.bs i).has s = true) (h2 : hasB (nth p.bs j).has s = true) : i = j := by
  have hd := ((bk_ok p).1 hb).dj
  rw [List.pairwise_iff_getElem] at hd
  rw [has_mem, nth_getA hi] at h1
  rw [has_mem, nth_getA hj] at h2
  rcases Nat.lt_trichotomy i j with h | h | h
  · exact (hd i j hi hj h s h1 h2).elim
  · exact h
  · exact (hd j i hj hi h s h2 h1).elim
theorem who_is {p : Bk} (hb : bookOk p = true) {s : Str} {i : Nat} (hi : i < p.bs.length) (h : hasB (nth p.bs i).has s = true) : whoB p s = (nth p.bs i).name := by
  unfold whoB
  rw [if_pos hb]
  have : (List.range p.bs.length).find? (fun i => hasB (nth p.bs i).has s) = some i := by
    rw [List.find?_range_eq_some]
    refine ⟨h, List.mem_range.2 hi, fun j hj => ?_⟩
    cases hh : hasB (nth p.bs j).has s with
    | false => rfl
    | true => have := one_has hb (by omega) hi hh h; omega
  simp only [this]

theorem askIZ (p : Bk) (s : Str) (l : List Str) (hs : smallBk p) (hl : l.length ≤ 1048576) : ASpec Try.prog 48 [.agg (p.cells 48), .one (.str s), .one (strs l)] (.tup [.agg ((askR p s l).1.zcells 48), .one (.int .i64 (askR p s l).2)]) := (askI p s l hs hl).letGo (.tup (.cons (.agg (.cons (.fz (.refl _)) (.cons (.fz (fz_bts _ _)) .nil))) (.cons (.one (.sc _ rfl)) .nil)))

theorem askR_is (p : Bk) (s : Str) (l : List Str) : askR p s l = (emptyBk, 1) ∨ (BkOk p ∧ (askR p s l = (p, 3) ∨ ∃ z, z < p.bs.length ∧ (nth p.bs z).name = s ∧ (askR p s l = (p, 2) ∨ (risingB l = true ∧ withinB l (nth p.bs z).needs = true ∧ ((takenB p (z : Int) l = true ∧ askR p s l = (p, 5)) ∨
    (takenB p (z : Int) l = false ∧ (((orderB p).isSome = true ∧ (orderB (askAt p z l)).isSome = false ∧ askR p s l = (p, 6)) ∨ (((orderB p).isSome = true → (orderB (askAt p z l)).isSome = true) ∧ askR p s l = (askAt p z l, 0))))))))) := by
  unfold askR
  split
  · rename_i hb
    right
    refine ⟨(bk_ok p).1 hb, ?_⟩
    split
    · exact .inl rfl
    · rename_i hz
      obtain ⟨h1, h2⟩ := pos_nm (p := p) (s := s) (by omega)
      refine .inr ⟨(idxB p s).toNat, h1, h2, ?_⟩
      rw [show ((idxB p s).toNat : Int) = idxB p s by omega]
      split
      · rename_i hr
        rw [Bool.and_eq_true] at hr
        refine .inr ⟨hr.1, hr.2, ?_⟩
        split
        · rename_i ht; exact .inl ⟨ht, rfl⟩
        · rename_i ht
          refine .inr ⟨by simpa using ht, ?_⟩
          split
          · rename_i hs
            simp only [Bool.and_eq_true, Bool.not_eq_true'] at hs
            exact .inl ⟨hs.1, hs.2, rfl⟩
          · rename_i hs
            refine .inr ⟨fun h => ?_, rfl⟩
            cases hh : (orderB (askAt p (idxB p s).toNat l)).isSome with
            | true => rfl
            | false => exact absurd (by simp [h, hh]) hs
      · exact .inl rfl
  · exact .inl rfl
theorem ask_mem {p : Bk} {z : Nat} {l : List Str} (hb : BkOk p) (hz : z < p.bs.length) {x : Str} : x ∈ (nth (askAt p z l).bs z).has ↔ x ∈ (nth p.bs z).has ∨ x ∈ l := by
  rw [nth_ask hz, if_pos rfl]
  exact (withB_spec (hb.all _ (nth_memA hz)).ha.nodup l).2 x
theorem ask_ok' {p : Bk} {z : Nat} {l : List Str} (hb : BkOk p) (hz : z < p.bs.length) (hw : withinB l (nth p.bs z).needs = true) (ht : takenB p (z : Int) l = false) : BkOk (askAt p z l) :=
  (bk_ok _).1 (askAt_ok ((bk_ok p).2 hb) hz hw ht)
theorem askF1 {p x : Bk} {s : Str} {l : List Str} {d : Int} (h : askR p s l = (x, d)) (hd : d = 1) : x = emptyBk := by
  rcases askR_is p s l with h1 | ⟨hb, h1 | ⟨z, hz, hn, h1 | ⟨hr, hw, ⟨ht, h1⟩ | ⟨ht, ⟨hs, hx, h1⟩ | ⟨hs, h1⟩⟩⟩⟩⟩
  all_goals (rw [h] at h1; obtain ⟨e1, e2⟩ := Prod.mk.inj h1)
  · exact e1
  all_goals omega
theorem askF2 {p x : Bk} {s : Str} {l : List Str} {d : Int} (h : askR p s l = (x, d)) (h0 : d ≠ 0) (hd : d ≠ 1) : x = p := by
  rcases askR_is p s l with h1 | ⟨hb, h1 | ⟨z, hz, hn, h1 | ⟨hr, hw, ⟨ht, h1⟩ | ⟨ht, ⟨hs, hx, h1⟩ | ⟨hs, h1⟩⟩⟩⟩⟩
  all_goals (rw [h] at h1; obtain ⟨e1, e2⟩ := Prod.mk.inj h1)
  all_goals first | exact e1 | omega
theorem askF0 {p x : Bk} {s : Str} {l : List Str} {d : Int} (h : askR p s l = (x, d)) (hd : d = 0) : bookOk x = true ∧ ((orderB p).isSome = true → (orderB x).isSome = true) ∧ ∀ i, i < l.length → whoB x (nth l i) = s := by
  rcases askR_is p s l with h1 | ⟨hb, h1 | ⟨z, hz, hn, h1 | ⟨hr, hw, ⟨ht, h1⟩ | ⟨ht, ⟨hs, hx, h1⟩ | ⟨hs, h1⟩⟩⟩⟩⟩
  all_goals (rw [h] at h1; obtain ⟨e1, e2⟩ := Prod.mk.inj h1)
  iterate 5 omega
  have hq := (bk_ok _).2 (ask_ok' hb hz hw ht)
  rw [e1]
  refine ⟨hq, hs, fun i hi => ?_⟩
  rw [who_is hq (i := z) (by rw [ask_len]; exact hz) ((has_mem _ _).2 ((ask_mem hb hz).2 (.inr (nth_mem hi)))), nth_ask hz, if_pos rfl]
  exact hn
theorem nth_wth {p : Bk} {s : Str} {l : List Str} : ∀ {n i : Nat}, i < n → nth (wthGo p s l n) i = wthBt s l (nth p.bs i)
  | n + 1, i, hi => by
    simp only [wthGo]
    by_cases e : i < n
    · rw [nth_append_left (by rw [wthGo_len]; exact e)]; exact nth_wth e
    · obtain rfl : i = n := by omega
      rw [nth_append_right (by rw [wthGo_len]; exact Nat.le_refl _), wthGo_len, Nat.sub_self]; rfl
theorem askF6 {p x : Bk} {s : Str} {l : List Str} {d : Int} (h : askR p s l = (x, d)) (hd : d = 6) : hasB (movesB p) s = false ∧ ∀ n g, whB (wthBk p s l) n g = false := by
  rcases askR_is p s l with h1 | ⟨hb, h1 | ⟨z, hz, hn, h1 | ⟨hr, hw, ⟨ht, h1⟩ | ⟨ht, ⟨hs, hx, h1⟩ | ⟨hs, h1⟩⟩⟩⟩⟩
  all_goals (rw [h] at h1; obtain ⟨e1, e2⟩ := Prod.mk.inj h1)
  iterate 4 omega
  · have hq := ask_ok' hb hz hw ht
    subst hn
    constructor
    · rw [moves_has hb hz]
      cases hm : canB p z [] with
      | false => rfl
      | true => rw [ask_move hb hz hq hm hs] at hx; cases hx
    · intro n g
      cases hw' : whB (wthBk p (nth p.bs z).name l) n g with
      | false => rfl
      | true =>
        obtain ⟨o, ho⟩ := wh_fits hw'
        have hwo := (fits_iff (fits_ok ho)).1 ho
        have hlen : (wthBk p (nth p.bs z).name l).bs.length = p.bs.length := wthGo_len _ _ _ _
        have key : (orderB (askAt p z l)).isSome = true := by
          refine (safe_iff hq).2 ⟨o, ord_map (fun b hb' => ?_) (fun c hc => ?_) hwo⟩
          · obtain ⟨i, hi, rfl⟩ := List.mem_iff_getElem.1 hb'
            rw [hlen] at hi
            rw [← nth_getA]
            have e : nth (wthBk p (nth p.bs z).name l).bs i = wthBt (nth p.bs z).name l (nth p.bs i) := nth_wth hi
            refine ⟨nth (askAt p z l).bs i, nth_memA (by rw [ask_len]; exact hi), ?_, ?_⟩
            · rw [e, nth_ask hz, wthBt]
              split
              · rename_i e2; subst e2; rw [if_pos ((strEq_iff _ _).2 rfl)]
              · split
                · rename_i e3; exact (strEq_iff _ _).1 e3
                · rfl
            · rw [e, nth_ask hz, wthBt]
              split
              · rename_i e2; subst e2; rw [if_pos ((strEq_iff _ _).2 rfl)]; exact fun x hx => hx
              · split
                · exact fun x hx => hx
                · exact fun x hx => hx
          · obtain ⟨i, hi, rfl⟩ := List.mem_iff_getElem.1 hc
            rw [ask_len] at hi
            rw [← nth_getA]
            have e : nth (wthBk p (nth p.bs z).name l).bs i = wthBt (nth p.bs z).name l (nth p.bs i) := nth_wth hi
            refine ⟨nth (wthBk p (nth p.bs z).name l).bs i, nth_memA (by rw [hlen]; exact hi), ?_, ?_⟩
            · rw [e, nth_ask hz, wthBt]
              split
              · rename_i e3
                have := nm_ix hb hi hz ((strEq_iff _ _).1 e3)
                subst this; rw [if_pos rfl]
              · rename_i e3
                rw [if_neg (fun e2 => e3 (by rw [e2]; exact (strEq_iff _ _).2 rfl))]
            · rw [e, nth_ask hz]
              by_cases e2 : i = z
              · subst e2
                rw [if_pos rfl, wthBt, if_pos ((strEq_iff _ _).2 rfl)]
                intro x hx
                have hbz := hb.all _ (nth_memA hz)
                have hx' := (withB_spec hbz.ha.nodup l).2 x |>.1 hx
                have hxn : x ∈ (nth p.bs i).needs := hx'.elim (hbz.hd x) ((within_iff _ _).1 hw x)
                obtain ⟨j, hj, hjx⟩ := mem_nth hxn
                refine selGo_mem ⟨j, hj, hjx, ?_⟩
                rw [wthF, Bool.or_eq_true, has_mem, has_mem]; exact hx'
              · rw [if_neg e2, wthBt, if_neg (fun e3 => e2 (nm_ix hb hi hz ((strEq_iff _ _).1 e3)))]
                exact fun x hx => hx
        rw [key] at hx; cases hx
  · omega
theorem askF5 {p x : Bk} {s : Str} {l : List Str} {d : Int} (h : askR p s l = (x, d)) (hd : d = 5) : ∃ j, j < l.length ∧ whoB p (nth l j) ≠ s ∧ whoB p (nth l j) ≠ ⟨#[]⟩ := by
  rcases askR_is p s l with h1 | ⟨hb, h1 | ⟨z, hz, hn, h1 | ⟨hr, hw, ⟨ht, h1⟩ | ⟨ht, ⟨hs, hx, h1⟩ | ⟨hs, h1⟩⟩⟩⟩⟩
  all_goals (rw [h] at h1; obtain ⟨e1, e2⟩ := Prod.mk.inj h1)
  iterate 3 omega
  · simp only [takenB, List.any_eq_true, List.mem_range, Bool.and_eq_true, decide_eq_true_eq] at ht
    obtain ⟨i, hi, hne, hm⟩ := ht
    obtain ⟨y, hy1, hy2⟩ := (meets_iff _ _).1 hm
    obtain ⟨j, hj, rfl⟩ := mem_nth hy2
    refine ⟨j, hj, ?_⟩
    rw [who_is ((bk_ok p).2 hb) hi ((has_mem _ _).2 hy1), ← hn]
    refine ⟨fun e => hne (by rw [nm_ix hb hi hz e]), fun e => ?_⟩
    have := (hb.all _ (nth_memA hi)).nm
    rw [e] at this
    exact absurd this (by decide)
  all_goals omega

theorem zfSl41 : sliceT Try.prog 41 = some ⟨5, 1, 1⟩ := by kernel_rfl
theorem zfCo47 : callOk Try.prog 47 = true := by kernel_rfl
theorem zfZs29 : zeroSz Try.prog 29 = some 2 := by kernel_rfl
theorem zfCs29 : cellsSz Try.prog 29 = some (1 + 1) := by kernel_rfl
theorem zfSt29 : structSz Try.prog 29 = some 2 := by kernel_rfl
theorem zfCo48 : callOk Try.prog 48 = true := by kernel_rfl
theorem zfCo49 : callOk Try.prog 49 = true := by kernel_rfl
theorem zfPl29 : structPl Try.prog 29 = some [(0, 1), (1, 1)] := by kernel_rfl
theorem zfZc29 : zeroCs Try.prog 29 = some [.nil, .nil] := by kernel_rfl
theorem zfCo50 : callOk Try.prog 50 = true := by kernel_rfl
theorem zfCo30 : callOk Try.prog 30 = true := by kernel_rfl
theorem zfCo28 : callOk Try.prog 28 = true := by kernel_rfl
theorem zfCo51 : callOk Try.prog 51 = true := by kernel_rfl
theorem zfSl22 : sliceT Try.prog 22 = some ⟨9, 1, 16⟩ := by kernel_rfl
theorem zfCo43 : callOk Try.prog 43 = true := by kernel_rfl
theorem zfSc9 : scalarB Try.prog 9 = true := by kernel_rfl
theorem zfCo25 : callOk Try.prog 25 = true := by kernel_rfl
theorem zfMo : Try.prog.follows .mixedOrders = true := by kernel_rfl
theorem zfCo42 : callOk Try.prog 42 = true := by kernel_rfl
theorem zfCo35 : callOk Try.prog 35 = true := by kernel_rfl
set_option maxHeartbeats 1000000 in
theorem lawFnShareAsk (b : List UInt8)  : ASpec Try.prog 8 [.one (bytesT 5 b)] (.one (.bool true)) := by
  refine ASpec.body Try.func8 rfl [2] rfl 123 rfl rfl rfl ?_
  refine AWp.seq (AWp.region ?_)
  refine ARun.step rfl (step_assignV rfl (hn rfl) rfl rfl) ?_
  refine ARun.nil ?_
  refine AWp.seq ?_
  refine AWp.seq (AWp.region ?_)
  refine ARun.step rfl (step_moveV rfl (hn rfl) rfl rfl) ?_
  refine ARun.step rfl (step_len_f rfl (hn rfl) rfl zfSl41 rfl) ?_
  refine ARun.step rfl (step_gtr rfl (hn rfl) rfl rfl rfl) ?_
  refine ARun.nil ?_
  refine AWp.cond rfl (fun c1 => ?_) (fun c1 => ?_)
  · try simp only [nrm] at c1
    refine AWp.seq (AWp.region ?_)
    refine ARun.step rfl (step_assignV rfl (hn rfl) rfl rfl) ?_
    refine ARun.nil ?_
    refine AWp.ret ?_
    refine RetIs.sc (.inr rfl) rfl rfl ?_
    refine congrArg T.bool ?_
    rfl
  · try simp only [nrm] at c1
    refine AWp.skip ?_
    obtain ⟨k, s, l, ⟨hk, hl⟩, hd⟩ := drawShareAsk b (by omega)
    obtain ⟨w, _, hwe, hw⟩ := whWithE k s l hk hl
    have hwl : w.bs.length ≤ 8 := by rw [hwe]; show (wthGo _ _ _ _).length ≤ 8; rw [wthGo_len]; have := hk.2.1; omega
    refine AWp.seq (AWp.region ?_)
    refine ARun.step rfl (step_moveV rfl (hn rfl) rfl rfl) ?_
    refine ARun.step rfl (call_stepZ rfl (hn rfl) rfl zfCo47 (.cons rfl (.one (.v _)) (.nil)) hd rfl rfl) ?_
    refine ARun.step rfl (step_moveV rfl (hn rfl) rfl rfl) ?_
    refine ARun.step rfl (step_extract rfl (hn rfl) rfl rfl rfl (by intro l h; cases h)) ?_
    refine ARun.step rfl (step_extract rfl (hn rfl) rfl rfl rfl (by intro l h; cases h)) ?_
    refine ARun.step rfl (step_extract rfl (hn rfl) rfl rfl rfl (by intro l h; cases h)) ?_
    refine ARun.step rfl (step_alloc_p rfl (hn rfl) rfl zfZs29) ?_
    refine ARun.step rfl (step_store_p rfl rfl zfCs29 rfl rfl rfl rfl rfl rfl rfl) ?_
    refine ARun.step rfl (step_assignV rfl (hn rfl) rfl rfl) ?_
    refine ARun.step rfl (step_assignV rfl (hn rfl) rfl rfl) ?_
    refine ARun.nil ?_
    have hi1 := askIZ k s l (hk.small (by omega)) (by omega)
    have hs1 := askSZ k s l (hk.small (by omega)) (by omega)
    obtain ⟨x1, d1, hr1⟩ : ∃ x d, askR k s l = (x, d) := ⟨_, _, rfl⟩
    rw [hr1] at hi1 hs1
    dsimp only at hi1 hs1
    refine AWp.seq (AWp.region ?_)
    refine ARun.step rfl (step_loadS_b rfl (hn rfl) rfl zfSt29 rfl rfl rfl (by decide)) ?_
    refine ARun.step rfl (step_moveV rfl (hn rfl) rfl rfl) ?_
    refine ARun.step rfl (step_moveV rfl (hn rfl) rfl rfl) ?_
    refine ARun.step rfl (call_stepZ rfl (hn rfl) rfl zfCo48 (.cons rfl (.agg (.cons (.v _) (.cons (.v _) .nil))) (.cons rfl (.one (.v _)) (.cons rfl (.one (.v _)) (.nil)))) hi1 rfl rfl) ?_
    refine ARun.step rfl (step_moveV rfl (hn rfl) rfl rfl) ?_
    refine ARun.step rfl (step_extract rfl (hn rfl) rfl rfl rfl (by intro l h; cases h)) ?_
    refine ARun.step rfl (step_extract rfl (hn rfl) rfl rfl rfl (by intro l h; cases h)) ?_
    refine ARun.step rfl (step_alloc_p rfl (hn rfl) rfl zfZs29) ?_
    refine ARun.step rfl (step_store_p rfl rfl zfCs29 rfl rfl rfl rfl rfl rfl rfl) ?_
    refine ARun.step rfl (step_assignV rfl (hn rfl) rfl rfl) ?_
    refine ARun.nil ?_
    refine AWp.seq (AWp.region ?_)
    refine ARun.step rfl (step_loadS_b rfl (hn rfl) rfl zfSt29 rfl rfl rfl (by decide)) ?_
    refine ARun.step rfl (step_moveV rfl (hn rfl) rfl rfl) ?_
    refine ARun.step rfl (step_moveV rfl (hn rfl) rfl rfl) ?_
    refine ARun.step rfl (call_stepZ rfl (hn rfl) rfl zfCo49 (.cons rfl (.agg (.cons (.v _) (.cons (.v _) .nil))) (.cons rfl (.one (.v _)) (.cons rfl (.one (.v _)) (.nil)))) hs1 rfl rfl) ?_
    refine ARun.step rfl (step_moveV rfl (hn rfl) rfl rfl) ?_
    refine ARun.step rfl (step_extract rfl (hn rfl) rfl rfl rfl (by intro l h; cases h)) ?_
    refine ARun.step rfl (step_extract rfl (hn rfl) rfl rfl rfl (by intro l h; cases h)) ?_
    refine ARun.step rfl (step_alloc_p rfl (hn rfl) rfl zfZs29) ?_
    refine ARun.step rfl (step_store_p rfl rfl zfCs29 rfl rfl rfl rfl rfl rfl rfl) ?_
    refine ARun.step rfl (step_assignV rfl (hn rfl) rfl rfl) ?_
    refine ARun.nil ?_
    refine AWp.join (fun u : Unit => mkAS 123 [(3, ⟨true, .one (.bptr 3 0)⟩), (4, ⟨true, .one (.v (.str s))⟩), (5, ⟨true, .one (.v (strs l))⟩), (6, ⟨true, .one (.bptr 6 0)⟩), (7, ⟨true, .one (.v (.int .i64 d1))⟩)] [(3, [.v (strs k.things), .v (bts 48 k.bs)]), (6, [.v (strs x1.things), .v (bts 48 x1.bs)])] []) (fun u => True) ?_ ?_
    · rintro u _
      refine AWp.seq ?_
      refine AWp.seq (AWp.region ?_)
      refine ARun.step rfl (step_moveV rfl (hn rfl) rfl rfl) ?_
      refine ARun.step rfl (step_eql rfl (hn rfl) rfl rfl rfl) ?_
      refine ARun.nil ?_
      refine AWp.cond rfl (fun c2 => ?_) (fun c2 => ?_)
      · try simp only [nrm] at c2
        refine AWp.seq (AWp.region ?_)
        refine ARun.step rfl (step_loadS_b rfl (hn rfl) rfl zfSt29 rfl rfl rfl (by decide)) ?_
        refine ARun.step rfl (step_build rfl (hn rfl) rfl zfPl29 zfZc29 (.nil) rfl) ?_
        refine ARun.step rfl (call_step1 rfl (hn rfl) rfl zfCo50 (.cons rfl (.agg (.cons (.v _) (.cons (.v _) .nil))) (.cons rfl (.agg (.cons (.nil _ _ _) (.cons (.nil _ _ _) .nil))) (.nil))) (whBook x1 emptyBk) rfl) ?_
        refine ARun.step rfl (step_assignV rfl (hn rfl) rfl rfl) ?_
        refine ARun.nil ?_
        refine AWp.ret ?_
        refine RetIs.sc (.inr rfl) rfl rfl ?_
        refine congrArg T.bool ?_
        rw [askF1 hr1 c2, eqBk_refl]
      · try simp only [nrm] at c2
        refine AWp.skip ?_
        refine AWp.join (fun u : Unit => mkAS 123 [(3, ⟨true, .one (.bptr 3 0)⟩), (4, ⟨true, .one (.v (.str s))⟩), (5, ⟨true, .one (.v (strs l))⟩), (6, ⟨true, .one (.bptr 6 0)⟩), (7, ⟨true, .one (.v (.int .i64 d1))⟩)] [(3, [.v (strs k.things), .v (bts 48 k.bs)]), (6, [.v (strs x1.things), .v (bts 48 x1.bs)])] []) (fun u => d1 ≠ 0 ∧ d1 ≠ 1) ?_ ?_
        · rintro u ⟨hd0, hd1⟩
          refine AWp.seq ?_
          refine AWp.seq (AWp.region ?_)
          refine ARun.step rfl (step_loadS_b rfl (hn rfl) rfl zfSt29 rfl rfl rfl (by decide)) ?_
          refine ARun.step rfl (step_loadS_b rfl (hn rfl) rfl zfSt29 rfl rfl rfl (by decide)) ?_
          refine ARun.step rfl (call_step1 rfl (hn rfl) rfl zfCo50 (.cons rfl (.agg (.cons (.v _) (.cons (.v _) .nil))) (.cons rfl (.agg (.cons (.v _) (.cons (.v _) .nil))) (.nil))) (whBook _ _) rfl) ?_
          refine ARun.step rfl (step_not rfl (hn rfl) rfl rfl) ?_
          refine ARun.step rfl (step_moveV rfl (hn rfl) rfl rfl) ?_
          refine guardS rfl rfl rfl rfl (hn rfl) (fun g1 g2 => step_moveV rfl (hn rfl) rfl rfl) ?_
          refine guardS rfl rfl rfl rfl (hn rfl) (fun g1 g2 => step_eql rfl (hn rfl) rfl (ev_true rfl (by exact flag2 g1 g2)) rfl) ?_
          refine guardS rfl rfl rfl rfl (hn rfl) (fun g1 g2 => step_moveV rfl (hn rfl) rfl (ev_true rfl (by exact flag2 g1 g2))) ?_
          refine guardS rfl rfl rfl rfl (hn rfl) (fun g1 g2 => step_loadS_b rfl (hn rfl) rfl zfSt29 rfl rfl rfl (by decide)) ?_
          refine guardS rfl rfl rfl rfl (hn rfl) (fun g1 g2 => call_stepZ rfl (hn rfl) rfl zfCo30 (.cons (ev_true rfl (by exact flag2 g1 g2)) (.agg (.cons (.v _) (.cons (.v _) .nil))) (.nil)) (movesIZ k) rfl rfl) ?_
          refine guardS rfl rfl rfl rfl (hn rfl) (fun g1 g2 => step_moveV rfl (hn rfl) rfl rfl) ?_
          refine guardS rfl rfl rfl rfl (hn rfl) (fun g1 g2 => call_step1 rfl (hn rfl) rfl zfCo28 (.cons (ev_true rfl (by exact flag2 g1 g2)) (.one (.v _)) (.cons (ev_true rfl (by exact flag2 g1 g2)) (.one (.v _)) (.nil))) (whHas _ _) rfl) ?_
          refine guardS rfl rfl rfl rfl (hn rfl) (fun g1 g2 => step_moveV rfl (hn rfl) rfl (ev_true rfl (by exact flag2 g1 g2))) ?_
          refine guardS rfl rfl rfl rfl (hn rfl) (fun g1 g2 => step_loadS_b rfl (hn rfl) rfl zfSt29 rfl rfl rfl (by decide)) ?_
          refine guardS rfl rfl rfl rfl (hn rfl) (fun g1 g2 => step_moveV rfl (hn rfl) rfl rfl) ?_
          refine guardS rfl rfl rfl rfl (hn rfl) (fun g1 g2 => step_moveV rfl (hn rfl) rfl rfl) ?_
          refine guardS rfl rfl rfl rfl (hn rfl) (fun g1 g2 => call_stepZ rfl (hn rfl) rfl zfCo51 (.cons (ev_true rfl (by exact flag2 g1 g2)) (.agg (.cons (.v _) (.cons (.v _) .nil))) (.cons (ev_true rfl (by exact flag2 g1 g2)) (.one (.v _)) (.cons (ev_true rfl (by exact flag2 g1 g2)) (.one (.v _)) (.nil)))) hw rfl rfl) ?_
          refine guardS rfl rfl rfl rfl (hn rfl) (fun g1 g2 => step_buildVT rfl (hn rfl) rfl zfSl22 (strs []) (.nil _) rfl rfl rfl rows0) ?_
          refine guardS rfl rfl rfl rfl (hn rfl) (fun g1 g2 => call_step1 rfl (hn rfl) rfl zfCo43 (.cons (ev_true rfl (by exact flag2 g1 g2)) (.agg (.cons (.v _) (.cons (.v _) .nil))) (.cons (ev_true rfl (by exact flag2 g1 g2)) (.one (.v _)) (.nil))) (whSome w [] hwl (Nat.zero_le _)) rfl) ?_
          refine guardS rfl rfl rfl rfl (hn rfl) (fun g1 g2 => step_or rfl (hn rfl) rfl (ev_true rfl (by exact flag2 g1 g2)) rfl (fun h => (by exact flag2 (by exact flag2 g1 g2) h))) ?_
          refine guardS rfl rfl rfl rfl (hn rfl) (fun g1 g2 => step_and rfl (hn rfl) rfl (ev_true rfl (by exact flag2 g1 g2)) rfl (fun h => (by exact flag2 (by exact flag2 g1 g2) h))) ?_
          refine ARun.step rfl (step_or rfl (hn rfl) rfl rfl rfl (fun h => (by exact flag1 h))) ?_
          refine ARun.nil ?_
          refine AWp.cond rfl (fun c3 => ?_) (fun c3 => ?_)
          · try simp only [nrm] at c3
            refine AWp.seq (AWp.region ?_)
            refine ARun.step rfl (step_assignV rfl (hn rfl) rfl rfl) ?_
            refine ARun.nil ?_
            refine AWp.ret ?_
            refine RetIs.sc (.inr rfl) rfl rfl ?_
            refine congrArg T.bool ?_
            exfalso
            rcases c3 with c3 | ⟨h6, c3⟩
            · rw [askF2 hr1 hd0 hd1, eqBk_refl] at c3; cases c3
            · obtain ⟨f1, f2⟩ := askF6 hr1 h6
              rcases c3 with c3 | c3
              · rw [f1] at c3; cases c3
              · rw [hwe, f2] at c3; cases c3
          · try simp only [nrm] at c3
            refine AWp.skip ?_
            refine AWp.seq ?_
            refine AWp.seq (AWp.region ?_)
            refine ARun.step rfl (step_moveV rfl (hn rfl) rfl rfl) ?_
            refine ARun.step rfl (step_eql rfl (hn rfl) rfl rfl rfl) ?_
            refine ARun.nil ?_
            refine AWp.cond rfl (fun c4 => ?_) (fun c4 => ?_)
            · try simp only [nrm] at c4
              refine AWp.seq ?_
              refine AWp.seq (AWp.region ?_)
              refine ARun.step rfl (step_assignV rfl (hn rfl) rfl rfl) ?_
              refine ARun.nil ?_
              refine AWp.block ?_
              refine AWp.loopM (fun i : Nat => mkAS 123 [(3, ⟨true, .one (.bptr 3 0)⟩), (4, ⟨true, .one (.v (.str s))⟩), (5, ⟨true, .one (.v (strs l))⟩), (6, ⟨true, .one (.bptr 6 0)⟩), (7, ⟨true, .one (.v (.int .i64 d1))⟩), (11, ⟨true, .one (.v (.int .i64 (i : Nat)))⟩)] [(3, [.v (strs k.things), .v (bts 48 k.bs)]), (6, [.v (strs x1.things), .v (bts 48 x1.bs)])] []) (fun i => i ≤ l.length ∧ ∀ j, j < i → (!strEq (whoB k (nth l j)) s && !strEq (whoB k (nth l j)) ⟨#[]⟩) = false) (fun i => l.length - i) 0 ?_ (Le.forgetR rfl ⟨rfl, rfl, rfl, rfl, rfl, rfl, trivial⟩ ⟨rfl, rfl, trivial⟩ trivial) ?_
              · try dsimp only
                exact ⟨by omega, by omega⟩
              rintro i ⟨hi, hall⟩
              refine AWp.seq ?_
              refine AWp.seq (AWp.region ?_)
              refine ARun.step rfl (step_moveV rfl (hn rfl) rfl rfl) ?_
              refine ARun.step rfl (step_moveV rfl (hn rfl) rfl rfl) ?_
              refine ARun.step rfl (step_len_f rfl (hn rfl) rfl zfSl22 rfl) ?_
              refine ARun.step rfl (step_lss rfl (hn rfl) rfl rfl rfl) ?_
              refine ARun.nil ?_
              refine AWp.cond rfl (fun c5 => ?_) (fun c5 => ?_)
              · try simp only [nrm] at c5
                refine AWp.skip ?_
                refine AWp.seq ?_
                refine AWp.block ?_
                refine AWp.seq (AWp.draw [⟨[.s 3, .b 3], [.s 106], false⟩, ⟨[.s 5], [.s 107], false⟩, ⟨[.s 11], [.s 108], false⟩, ⟨[.s 107, .s 108], [.s 109], false⟩, ⟨[.s 109], [.s 110], false⟩, ⟨[.s 110, .s 106], [.s 111], false⟩, ⟨[.s 4], [.s 112], false⟩, ⟨[.s 111, .s 112], [.s 113], false⟩, ⟨[.s 113], [.s 114], false⟩, ⟨[.s 3, .b 3, .s 114], [.s 115], false⟩, ⟨[.s 5, .s 114], [.s 116], false⟩, ⟨[.s 11, .s 114], [.s 117], false⟩, ⟨[.s 116, .s 117, .s 114], [.s 118], false⟩, ⟨[.s 118, .s 114], [.s 119], false⟩, ⟨[.s 119, .s 115, .s 114], [.s 120], false⟩, ⟨[.s 120, .s 114], [.s 121], false⟩, ⟨[.s 114, .s 121], [.s 122], false⟩] zfMo rfl ?_)
                refine DRun.step rfl (fun τ hN hr => step_loadS_b rfl (rdN hN (hn rfl)) rfl zfSt29 (by exact rdS hr rfl rfl) (by exact rdBtake hr rfl rfl) rfl (by decide)) ?_
                refine DRun.step rfl (fun τ hN hr => step_moveV rfl (rdN hN (hn rfl)) rfl (by exact rdS hr rfl rfl)) ?_
                refine DRun.step rfl (fun τ hN hr => step_moveV rfl (rdN hN (hn rfl)) rfl (by exact rdS hr rfl rfl)) ?_
                refine DRun.step rfl (fun τ hN hr => step_index_fN rfl (rdN hN (hn rfl)) rfl zfSl22 (by exact rdS hr rfl rfl) (by exact rdS hr rfl rfl) (by omega)) ?_
                refine DRun.step rfl (fun τ hN hr => step_load_f rfl (rdN hN (hn rfl)) rfl zfSc9 (by exact rdS hr rfl rfl) (hn rfl) rfl) ?_
                refine DRun.step rfl (fun τ hN hr => call_step1 rfl (rdN hN (hn rfl)) rfl zfCo25 (.cons (by exact rdS hr rfl rfl) (.agg (.cons (.v _) (.cons (.v _) .nil))) (.cons (by exact rdS hr rfl rfl) (.one (.v _)) (.nil))) (whoI _ _) rfl) ?_
                refine DRun.step rfl (fun τ hN hr => step_moveV rfl (rdN hN (hn rfl)) rfl (by exact rdS hr rfl rfl)) ?_
                refine DRun.step rfl (fun τ hN hr => step_sneq rfl (rdN hN (hn rfl)) rfl (by exact rdS hr rfl rfl) (by exact rdS hr rfl rfl)) ?_
                refine DRun.step rfl (fun τ hN hr => step_moveV rfl (rdN hN (hn rfl)) rfl (by exact rdS hr rfl rfl)) ?_
                refine guardD rfl rfl rfl rfl rfl (hn rfl) (fun τ hN hr g1 g2 => step_loadS_b rfl (rdN hN (hn rfl)) rfl zfSt29 (by exact rdS hr rfl rfl) (by exact rdBtake hr rfl rfl) rfl (by decide)) ?_
                refine guardD rfl rfl rfl rfl rfl (hn rfl) (fun τ hN hr g1 g2 => step_moveV rfl (rdN hN (hn rfl)) rfl (by exact rdS hr rfl rfl)) ?_
                refine guardD rfl rfl rfl rfl rfl (hn rfl) (fun τ hN hr g1 g2 => step_moveV rfl (rdN hN (hn rfl)) rfl (by exact rdS hr rfl rfl)) ?_
                refine guardD rfl rfl rfl rfl rfl (hn rfl) (fun τ hN hr g1 g2 => step_index_fN rfl (rdN hN (hn rfl)) rfl zfSl22 (ev_true (by exact rdS hr rfl rfl) (by exact flag2 g1 g2)) (ev_true (by exact rdS hr rfl rfl) (by exact flag2 g1 g2)) (by first | omega | (have := of_decide_eq_true g2; omega) | (have := of_decide_eq_false g2; omega) | (simp only [nrm] at g2; omega) | (simp only [nrm, Bool.true_and] at g1 g2; omega))) ?_
                refine guardD rfl rfl rfl rfl rfl (hn rfl) (fun τ hN hr g1 g2 => step_load_f rfl (rdN hN (hn rfl)) rfl zfSc9 (ev_true (by exact rdS hr rfl rfl) (by exact flag2 g1 g2)) (hn rfl) rfl) ?_
                refine guardD rfl rfl rfl rfl rfl (hn rfl) (fun τ hN hr g1 g2 => call_step1 rfl (rdN hN (hn rfl)) rfl zfCo25 (.cons (ev_true (by exact rdS hr rfl rfl) (by exact flag2 g1 g2)) (.agg (.cons (.v _) (.cons (.v _) .nil))) (.cons (ev_true (by exact rdS hr rfl rfl) (by exact flag2 g1 g2)) (.one (.v _)) (.nil))) (whoI _ _) rfl) ?_
                refine guardD rfl rfl rfl rfl rfl (hn rfl) (fun τ hN hr g1 g2 => step_sneq rfl (rdN hN (hn rfl)) rfl (ev_true (by exact rdS hr rfl rfl) (by exact flag2 g1 g2)) rfl) ?_
                refine DRun.step rfl (fun τ hN hr => step_and rfl (rdN hN (hn rfl)) rfl (by exact rdS hr rfl rfl) (by exact rdS hr rfl rfl) (fun h => (by exact flag1 h))) ?_
                refine DRun.nil ?_
                refine AWp.cond rfl (fun c6 => ?_) (fun c6 => ?_)
                · try simp only [nrm] at c6
                  refine AWp.seq (AWp.region ?_)
                  refine ARun.step rfl (step_assignV rfl (hn rfl) rfl rfl) ?_
                  refine ARun.nil ?_
                  refine AWp.ret ?_
                  refine RetIs.sc (.inr rfl) rfl rfl ?_
                  refine congrArg T.bool ?_
                  rfl
                · try simp only [nrm] at c6
                  refine AWp.skip ?_
                  refine AWp.region ?_
                  refine ARun.step rfl (step_moveV rfl (hn rfl) rfl rfl) ?_
                  refine ARun.step rfl (step_addI rfl (hn rfl) rfl rfl rfl (by omega) (by omega)) ?_
                  refine ARun.step rfl (step_assignV rfl (hn rfl) rfl rfl) ?_
                  refine ARun.nil ?_
                  refine ⟨i + 1, ?_, ?_, Le.forgetR rfl ⟨rfl, rfl, rfl, rfl, rfl, rfl, trivial⟩ ⟨rfl, rfl, trivial⟩ trivial⟩
                  · try dsimp only
                    exact ⟨by omega, upto hall (by grind)⟩
                  · try dsimp only
                    omega
              · try simp only [nrm] at c5
                refine AWp.exit ?_
                refine AWp.seq (AWp.region ?_)
                refine ARun.step rfl (step_assignV rfl (hn rfl) rfl rfl) ?_
                refine ARun.nil ?_
                refine AWp.ret ?_
                refine RetIs.sc (.inr rfl) rfl rfl ?_
                refine congrArg T.bool ?_
                exfalso
                obtain ⟨j, hj, f1, f2⟩ := askF5 hr1 c4
                have f3 := hall j (by omega)
                rw [Bool.and_eq_false_iff] at f3
                rcases f3 with f3 | f3
                · exact f1 ((strEq_iff _ _).1 (by simpa using f3))
                · exact f2 ((strEq_iff _ _).1 (by simpa using f3))
            · try simp only [nrm] at c4
              refine AWp.skip ?_
              refine AWp.seq (AWp.region ?_)
              refine ARun.step rfl (step_assignV rfl (hn rfl) rfl rfl) ?_
              refine ARun.nil ?_
              refine AWp.ret ?_
              refine RetIs.sc (.inr rfl) rfl rfl ?_
              refine congrArg T.bool ?_
              rfl
        · refine AWp.seq (AWp.region ?_)
          refine ARun.step rfl (step_moveV rfl (hn rfl) rfl rfl) ?_
          refine ARun.step rfl (step_eql rfl (hn rfl) rfl rfl rfl) ?_
          refine ARun.nil ?_
          refine AWp.cond rfl (fun c7 => ?_) (fun c7 => ?_)
          · try simp only [nrm] at c7
            refine AWp.seq ?_
            refine AWp.seq (AWp.region ?_)
            refine ARun.step rfl (step_assignV rfl (hn rfl) rfl rfl) ?_
            refine ARun.nil ?_
            refine AWp.block ?_
            refine AWp.loopM (fun i : Nat => mkAS 123 [(3, ⟨true, .one (.bptr 3 0)⟩), (4, ⟨true, .one (.v (.str s))⟩), (5, ⟨true, .one (.v (strs l))⟩), (6, ⟨true, .one (.bptr 6 0)⟩), (7, ⟨true, .one (.v (.int .i64 d1))⟩), (10, ⟨true, .one (.v (.int .i64 (i : Nat)))⟩)] [(3, [.v (strs k.things), .v (bts 48 k.bs)]), (6, [.v (strs x1.things), .v (bts 48 x1.bs)])] []) (fun i => i ≤ l.length) (fun i => l.length - i) 0 ?_ (Le.forgetR rfl ⟨rfl, rfl, rfl, rfl, rfl, rfl, trivial⟩ ⟨rfl, rfl, trivial⟩ trivial) ?_
            · try dsimp only
              omega
            rintro i hi
            refine AWp.seq ?_
            refine AWp.seq (AWp.region ?_)
            refine ARun.step rfl (step_moveV rfl (hn rfl) rfl rfl) ?_
            refine ARun.step rfl (step_moveV rfl (hn rfl) rfl rfl) ?_
            refine ARun.step rfl (step_len_f rfl (hn rfl) rfl zfSl22 rfl) ?_
            refine ARun.step rfl (step_lss rfl (hn rfl) rfl rfl rfl) ?_
            refine ARun.nil ?_
            refine AWp.cond rfl (fun c8 => ?_) (fun c8 => ?_)
            · try simp only [nrm] at c8
              refine AWp.skip ?_
              refine AWp.seq ?_
              refine AWp.block ?_
              refine AWp.seq (AWp.draw [⟨[.s 6, .b 6], [.s 57], false⟩, ⟨[.s 5], [.s 58], false⟩, ⟨[.s 10], [.s 59], false⟩, ⟨[.s 58, .s 59], [.s 60], false⟩, ⟨[.s 60], [.s 61], false⟩, ⟨[.s 61, .s 57], [.s 62], false⟩, ⟨[.s 4], [.s 63], false⟩, ⟨[.s 62, .s 63], [.s 64], false⟩] zfMo rfl ?_)
              refine DRun.step rfl (fun τ hN hr => step_loadS_b rfl (rdN hN (hn rfl)) rfl zfSt29 (by exact rdS hr rfl rfl) (by exact rdBtake hr rfl rfl) rfl (by decide)) ?_
              refine DRun.step rfl (fun τ hN hr => step_moveV rfl (rdN hN (hn rfl)) rfl (by exact rdS hr rfl rfl)) ?_
              refine DRun.step rfl (fun τ hN hr => step_moveV rfl (rdN hN (hn rfl)) rfl (by exact rdS hr rfl rfl)) ?_
              refine DRun.step rfl (fun τ hN hr => step_index_fN rfl (rdN hN (hn rfl)) rfl zfSl22 (by exact rdS hr rfl rfl) (by exact rdS hr rfl rfl) (by omega)) ?_
              refine DRun.step rfl (fun τ hN hr => step_load_f rfl (rdN hN (hn rfl)) rfl zfSc9 (by exact rdS hr rfl rfl) (hn rfl) rfl) ?_
              refine DRun.step rfl (fun τ hN hr => call_step1 rfl (rdN hN (hn rfl)) rfl zfCo25 (.cons (by exact rdS hr rfl rfl) (.agg (.cons (.v _) (.cons (.v _) .nil))) (.cons (by exact rdS hr rfl rfl) (.one (.v _)) (.nil))) (whoI _ _) rfl) ?_
              refine DRun.step rfl (fun τ hN hr => step_moveV rfl (rdN hN (hn rfl)) rfl (by exact rdS hr rfl rfl)) ?_
              refine DRun.step rfl (fun τ hN hr => step_sneq rfl (rdN hN (hn rfl)) rfl (by exact rdS hr rfl rfl) (by exact rdS hr rfl rfl)) ?_
              refine DRun.nil ?_
              refine AWp.cond rfl (fun c9 => ?_) (fun c9 => ?_)
              · try simp only [nrm] at c9
                refine AWp.seq (AWp.region ?_)
                refine ARun.step rfl (step_assignV rfl (hn rfl) rfl rfl) ?_
                refine ARun.nil ?_
                refine AWp.ret ?_
                refine RetIs.sc (.inr rfl) rfl rfl ?_
                refine congrArg T.bool ?_
                exfalso
                rw [(askF0 hr1 c7).2.2 i (by omega), strEq_refl] at c9; cases c9
              · try simp only [nrm] at c9
                refine AWp.skip ?_
                refine AWp.region ?_
                refine ARun.step rfl (step_moveV rfl (hn rfl) rfl rfl) ?_
                refine ARun.step rfl (step_addI rfl (hn rfl) rfl rfl rfl (by omega) (by omega)) ?_
                refine ARun.step rfl (step_assignV rfl (hn rfl) rfl rfl) ?_
                refine ARun.nil ?_
                refine ⟨i + 1, ?_, ?_, Le.forgetR rfl ⟨rfl, rfl, rfl, rfl, rfl, rfl, trivial⟩ ⟨rfl, rfl, trivial⟩ trivial⟩
                · try dsimp only
                  omega
                · try dsimp only
                  omega
            · try simp only [nrm] at c8
              refine AWp.exit ?_
              refine AWp.seq (AWp.region ?_)
              refine ARun.step rfl (step_loadS_b rfl (hn rfl) rfl zfSt29 rfl rfl rfl (by decide)) ?_
              refine ARun.step rfl (call_step1 rfl (hn rfl) rfl zfCo42 (.cons rfl (.agg (.cons (.v _) (.cons (.v _) .nil))) (.nil)) (bookOkI _) rfl) ?_
              refine ARun.step rfl (step_moveV rfl (hn rfl) rfl rfl) ?_
              refine guardS rfl rfl rfl rfl (hn rfl) (fun g1 g2 => step_loadS_b rfl (hn rfl) rfl zfSt29 rfl rfl rfl (by decide)) ?_
              refine guardS rfl rfl rfl rfl (hn rfl) (fun g1 g2 => call_step1 rfl (hn rfl) rfl zfCo35 (.cons (ev_true rfl (by exact flag2 g1 g2)) (.agg (.cons (.v _) (.cons (.v _) .nil))) (.nil)) (safeI _) rfl) ?_
              refine guardS rfl rfl rfl rfl (hn rfl) (fun g1 g2 => step_moveV rfl (hn rfl) rfl (ev_true rfl (by exact flag2 g1 g2))) ?_
              refine guardS rfl rfl rfl rfl (hn rfl) (fun g1 g2 => step_loadS_b rfl (hn rfl) rfl zfSt29 rfl rfl rfl (by decide)) ?_
              refine guardS rfl rfl rfl rfl (hn rfl) (fun g1 g2 => call_step1 rfl (hn rfl) rfl zfCo35 (.cons (ev_true rfl (by exact flag2 g1 g2)) (.agg (.cons (.v _) (.cons (.v _) .nil))) (.nil)) (safeI _) rfl) ?_
              refine guardS rfl rfl rfl rfl (hn rfl) (fun g1 g2 => step_not rfl (hn rfl) rfl (ev_true rfl (by exact flag2 g1 g2))) ?_
              refine guardS rfl rfl rfl rfl (hn rfl) (fun g1 g2 => step_or rfl (hn rfl) rfl (ev_true rfl (by exact flag2 g1 g2)) rfl (fun h => (by exact flag2 (by exact flag2 g1 g2) h))) ?_
              refine ARun.step rfl (step_and rfl (hn rfl) rfl rfl rfl (fun h => (by exact flag1 h))) ?_
              refine ARun.step rfl (step_assignV rfl (hn rfl) rfl rfl) ?_
              refine ARun.nil ?_
              refine AWp.ret ?_
              refine RetIs.sc (.inr rfl) rfl rfl ?_
              refine congrArg T.bool ?_
              obtain ⟨f1, f2, _⟩ := askF0 hr1 c7
              rw [f1, Bool.true_and]
              cases hh : (orderB k).isSome with
              | false => simp
              | true => rw [f2 hh]; rfl
          · try simp only [nrm] at c7
            refine AWp.skip ?_
            refine ⟨(()), ?_, Le.forgetR rfl ⟨rfl, rfl, rfl, rfl, rfl, trivial⟩ ⟨rfl, rfl, trivial⟩ trivial⟩
            try dsimp only
            exact ⟨by omega, by omega⟩
    · refine AWp.seq (AWp.region ?_)
      refine ARun.step rfl (step_moveV rfl (hn rfl) rfl rfl) ?_
      refine ARun.step rfl (step_moveV rfl (hn rfl) rfl rfl) ?_
      refine ARun.step rfl (step_neq rfl (hn rfl) rfl rfl rfl) ?_
      refine ARun.step rfl (step_moveV rfl (hn rfl) rfl rfl) ?_
      refine guardS rfl rfl rfl rfl (hn rfl) (fun g1 g2 => step_loadS_b rfl (hn rfl) rfl zfSt29 rfl rfl rfl (by decide)) ?_
      refine guardS rfl rfl rfl rfl (hn rfl) (fun g1 g2 => step_loadS_b rfl (hn rfl) rfl zfSt29 rfl rfl rfl (by decide)) ?_
      refine guardS rfl rfl rfl rfl (hn rfl) (fun g1 g2 => call_step1 rfl (hn rfl) rfl zfCo50 (.cons (ev_true rfl (by exact flag2 g1 g2)) (.agg (.cons (.v _) (.cons (.v _) .nil))) (.cons (ev_true rfl (by exact flag2 g1 g2)) (.agg (.cons (.v _) (.cons (.v _) .nil))) (.nil))) (whBook _ _) rfl) ?_
      refine guardS rfl rfl rfl rfl (hn rfl) (fun g1 g2 => step_not rfl (hn rfl) rfl (ev_true rfl (by exact flag2 g1 g2))) ?_
      refine ARun.step rfl (step_or rfl (hn rfl) rfl rfl rfl (fun h => (by exact flag1 h))) ?_
      refine ARun.nil ?_
      refine AWp.cond rfl (fun c10 => ?_) (fun c10 => ?_)
      · try simp only [nrm] at c10
        refine AWp.seq (AWp.region ?_)
        refine ARun.step rfl (step_assignV rfl (hn rfl) rfl rfl) ?_
        refine ARun.nil ?_
        refine AWp.ret ?_
        refine RetIs.sc (.inr rfl) rfl rfl ?_
        refine congrArg T.bool ?_
        exfalso
        rcases c10 with c10 | c10
        · exact c10 trivial
        · rw [eqBk_refl] at c10; cases c10
      · try simp only [nrm] at c10
        refine AWp.skip ?_
        refine ⟨(()), ?_, Le.forgetR rfl ⟨rfl, rfl, rfl, rfl, rfl, trivial⟩ ⟨rfl, rfl, trivial⟩ trivial⟩
        try dsimp only
        all_goals trivial

end Go.Proofs.Ytkmacjdigkaabaa
