/- Contracts of functions of the program, each met by its body; conditions stand in each statement. No condition. -/
import Derived.Test.YtkmacjdigkaabaahWh2
import Derived.Test.YtkmacjdigkaabaaProg
import Derived.KernelRfl
set_option linter.unusedVariables false
set_option linter.unusedSimpArgs false
set_option linter.unnecessarySimpa false
set_option linter.unusedSimpArgs false
set_option maxRecDepth 100000
namespace Go.Proofs.Ytkmacjdigkaabaa
open Go Go.Mh

theorem enterIZ (p : Bk) (s : Str) (l : List Str) (hs : smallBk p) (hl : l.length ≤ 1048576) : ASpec Try.prog 21 [.agg (p.cells 48), .one (.str s), .one (strs l)] (.tup [.agg ((enterR p s l).1.zcells 48), .one (.int .i64 (enterR p s l).2)]) := (enterI p s l hs hl).letGo (.tup (.cons (.agg (.cons (.fz (.refl _)) (.cons (.fz (fz_bts _ _)) .nil))) (.cons (.one (.sc _ rfl)) .nil)))

theorem lessIZ (p : Bk) (s : Str) (l : List Str) (hs : smallBk p) (hl : l.length ≤ 1048576) : ASpec Try.prog 53 [.agg (p.cells 48), .one (.str s), .one (strs l)] (.tup [.agg ((lessR p s l).1.zcells 48), .one (.int .i64 (lessR p s l).2)]) := (lessI p s l hs hl).letGo (.tup (.cons (.agg (.cons (.fz (.refl _)) (.cons (.fz (fz_bts _ _)) .nil))) (.cons (.one (.sc _ rfl)) .nil)))

theorem leaveIZ (p : Bk) (s : Str) (hs : smallBk p) : ASpec Try.prog 14 [.agg (p.cells 48), .one (.str s)] (.tup [.agg ((leaveR p s).1.zcells 48), .one (.int .i64 (leaveR p s).2)]) := (leaveI p s hs).letGo (.tup (.cons (.agg (.cons (.fz (.refl _)) (.cons (.fz (fz_bts _ _)) .nil))) (.cons (.one (.sc _ rfl)) .nil)))

theorem lessR_safe {p : Bk} {s : Str} {l : List Str} (h : (lessR p s l).2 = 0) (hs : (orderB p).isSome = true) : (orderB (lessR p s l).1).isSome = true := by
  unfold lessR at h ⊢
  split at h
  · rename_i hb
    rw [if_pos hb]
    split at h
    · cases h
    · rename_i hz
      rw [if_neg hz]
      split at h
      · rename_i hr
        rw [if_pos hr]
        rw [Bool.and_eq_true] at hr
        exact less_safe ((bk_ok p).1 hb) (pos_nm (by omega)).1 hr.1 hr.2 hs
      · cases h
  · cases h
theorem lessR_same {p : Bk} {s : Str} {l : List Str} (h : 1 < (lessR p s l).2) : (lessR p s l).1 = p := by
  unfold lessR at h ⊢
  split
  · rename_i hb
    rw [if_pos hb] at h
    split
    · rfl
    · rename_i hz
      rw [if_neg hz] at h
      split
      · rename_i hr; rw [if_pos hr] at h; exact absurd h (by simp)
      · rfl
  · rename_i hb; rw [if_neg hb] at h; exact absurd h (by simp)
theorem leaveR_ok {p : Bk} {s : Str} (h : (leaveR p s).2 = 0) : (leaveR p s).1.bs.length = p.bs.length - 1 ∧ 0 < p.bs.length ∧ ((orderB p).isSome = true → (orderB (leaveR p s).1).isSome = true) := by
  unfold leaveR at h ⊢
  split at h
  · rename_i hb
    rw [if_pos hb]
    split at h
    · cases h
    · rename_i hz
      rw [if_neg hz]
      have hp := (pos_nm (p := p) (s := s) (by omega)).1
      exact ⟨cutL_len hp, by omega, cut_safe ((bk_ok p).1 hb) hp⟩
  · cases h
theorem enterR_ok {p : Bk} {s : Str} {l : List Str} (h : (enterR p s l).2 = 0) : (enterR p s l).1.bs.length = p.bs.length + 1 ∧ (orderB (enterR p s l).1).isSome = (orderB p).isSome := by
  unfold enterR at h ⊢
  split at h
  · rename_i hb
    rw [if_pos hb]
    split at h
    · rename_i hn
      rw [if_pos hn]
      split at h
      · cases h
      · rename_i hi
        rw [if_neg hi]
        split at h
        · cases h
        · rename_i h5
          rw [if_neg h5]
          simp only [Bool.and_eq_true] at hn
          exact ⟨insBt_len _ _ _, ins_safe ((bk_ok p).1 hb) (ins_ok ((bk_ok p).1 hb) hn.1 hn.2.1 hn.2.2 (by omega) (by omega)) (by omega)⟩
    · cases h
  · cases h
theorem enterR_same {p : Bk} {s : Str} {l : List Str} (h : ¬ (enterR p s l).2 < 2) : (enterR p s l).1 = p := by
  unfold enterR at h ⊢
  split
  · rename_i hb
    rw [if_pos hb] at h
    split
    · rename_i hn
      rw [if_pos hn] at h
      split
      · rfl
      · rename_i hi
        rw [if_neg hi] at h
        split
        · rfl
        · rename_i h5; rw [if_neg h5] at h; exact absurd (by simp) h
    · rfl
  · rename_i hb; rw [if_neg hb] at h; exact absurd (by simp) h

theorem zaSl41 : sliceT Try.prog 41 = some ⟨5, 1, 1⟩ := by kernel_rfl
theorem zaCo52 : callOk Try.prog 52 = true := by kernel_rfl
theorem zaZs29 : zeroSz Try.prog 29 = some 2 := by kernel_rfl
theorem zaCs29 : cellsSz Try.prog 29 = some (1 + 1) := by kernel_rfl
theorem zaSt29 : structSz Try.prog 29 = some 2 := by kernel_rfl
theorem zaCo53 : callOk Try.prog 53 = true := by kernel_rfl
theorem zaCo54 : callOk Try.prog 54 = true := by kernel_rfl
theorem zaCo14 : callOk Try.prog 14 = true := by kernel_rfl
theorem zaCo12 : callOk Try.prog 12 = true := by kernel_rfl
theorem zaCo55 : callOk Try.prog 55 = true := by kernel_rfl
theorem zaCo21 : callOk Try.prog 21 = true := by kernel_rfl
theorem zaCo19 : callOk Try.prog 19 = true := by kernel_rfl
theorem zaCo50 : callOk Try.prog 50 = true := by kernel_rfl
theorem zaCo35 : callOk Try.prog 35 = true := by kernel_rfl
theorem zaUb4 : Try.prog.underlying 4 = some .bool := by kernel_rfl
theorem zaFo29_1 : fieldOff Try.prog 29 1 = some 1 := by kernel_rfl
theorem zaSc27 : scalarB Try.prog 27 = true := by kernel_rfl
theorem zaSl27 : sliceT Try.prog 27 = some ⟨48, 3, 64⟩ := by kernel_rfl
theorem zaMo : Try.prog.follows .mixedOrders = true := by kernel_rfl
set_option maxHeartbeats 1000000 in
theorem lawFnShareLess (b m : List UInt8)  : ASpec Try.prog 9 [.one (bytesT 5 b), .one (bytesT 5 m)] (.one (.bool true)) := by
  refine ASpec.body Try.func9 rfl [4] rfl 185 rfl rfl rfl ?_
  refine AWp.seq (AWp.region ?_)
  refine ARun.step rfl (step_assignV rfl (hn rfl) rfl rfl) ?_
  refine ARun.nil ?_
  refine AWp.seq ?_
  refine AWp.seq (AWp.region ?_)
  refine ARun.step rfl (step_moveV rfl (hn rfl) rfl rfl) ?_
  refine ARun.step rfl (step_len_f rfl (hn rfl) rfl zaSl41 rfl) ?_
  refine ARun.step rfl (step_gtr rfl (hn rfl) rfl rfl rfl) ?_
  refine ARun.step rfl (step_moveV rfl (hn rfl) rfl rfl) ?_
  refine guardS rfl rfl rfl rfl (hn rfl) (fun g1 g2 => step_moveV rfl (hn rfl) rfl rfl) ?_
  refine guardS rfl rfl rfl rfl (hn rfl) (fun g1 g2 => step_len_f rfl (hn rfl) rfl zaSl41 (ev_true rfl (by exact flag2 g1 g2))) ?_
  refine guardS rfl rfl rfl rfl (hn rfl) (fun g1 g2 => step_gtr rfl (hn rfl) rfl (ev_true rfl (by exact flag2 g1 g2)) rfl) ?_
  refine ARun.step rfl (step_or rfl (hn rfl) rfl rfl rfl (fun h => (by exact flag1 h))) ?_
  refine ARun.nil ?_
  refine AWp.cond rfl (fun c1 => ?_) (fun c1 => ?_)
  · try simp only [nrm] at c1
    refine AWp.seq (AWp.region ?_)
    refine ARun.step rfl (step_assignV rfl (hn rfl) rfl rfl) ?_
    refine ARun.nil ?_
    refine AWp.ret ?_
    refine RetIs.sc (.inr rfl) rfl rfl ?_
    refine congrArg T.bool ?_
    rfl
  · try simp only [nrm] at c1
    refine AWp.skip ?_
    obtain ⟨k, s, l, ⟨hk, hl⟩, hd⟩ := drawShareLess b (by omega)
    refine AWp.seq (AWp.region ?_)
    refine ARun.step rfl (step_moveV rfl (hn rfl) rfl rfl) ?_
    refine ARun.step rfl (call_stepZ rfl (hn rfl) rfl zaCo52 (.cons rfl (.one (.v _)) (.nil)) hd rfl rfl) ?_
    refine ARun.step rfl (step_moveV rfl (hn rfl) rfl rfl) ?_
    refine ARun.step rfl (step_extract rfl (hn rfl) rfl rfl rfl (by intro l h; cases h)) ?_
    refine ARun.step rfl (step_extract rfl (hn rfl) rfl rfl rfl (by intro l h; cases h)) ?_
    refine ARun.step rfl (step_extract rfl (hn rfl) rfl rfl rfl (by intro l h; cases h)) ?_
    refine ARun.step rfl (step_alloc_p rfl (hn rfl) rfl zaZs29) ?_
    refine ARun.step rfl (step_store_p rfl rfl zaCs29 rfl rfl rfl rfl rfl rfl rfl) ?_
    refine ARun.step rfl (step_assignV rfl (hn rfl) rfl rfl) ?_
    refine ARun.step rfl (step_assignV rfl (hn rfl) rfl rfl) ?_
    refine ARun.nil ?_
    have hi1 := lessIZ k s l (hk.small (by omega)) (by omega)
    have hs1 := lessSZ k s l (hk.small (by omega)) (by omega)
    obtain ⟨x1, d1, hr1⟩ : ∃ x d, lessR k s l = (x, d) := ⟨_, _, rfl⟩
    rw [hr1] at hi1 hs1
    dsimp only at hi1 hs1
    refine AWp.seq (AWp.region ?_)
    refine ARun.step rfl (step_loadS_b rfl (hn rfl) rfl zaSt29 rfl rfl rfl (by decide)) ?_
    refine ARun.step rfl (step_moveV rfl (hn rfl) rfl rfl) ?_
    refine ARun.step rfl (step_moveV rfl (hn rfl) rfl rfl) ?_
    refine ARun.step rfl (call_stepZ rfl (hn rfl) rfl zaCo53 (.cons rfl (.agg (.cons (.v _) (.cons (.v _) .nil))) (.cons rfl (.one (.v _)) (.cons rfl (.one (.v _)) (.nil)))) hi1 rfl rfl) ?_
    refine ARun.step rfl (step_moveV rfl (hn rfl) rfl rfl) ?_
    refine ARun.step rfl (step_extract rfl (hn rfl) rfl rfl rfl (by intro l h; cases h)) ?_
    refine ARun.step rfl (step_extract rfl (hn rfl) rfl rfl rfl (by intro l h; cases h)) ?_
    refine ARun.step rfl (step_alloc_p rfl (hn rfl) rfl zaZs29) ?_
    refine ARun.step rfl (step_store_p rfl rfl zaCs29 rfl rfl rfl rfl rfl rfl rfl) ?_
    refine ARun.step rfl (step_assignV rfl (hn rfl) rfl rfl) ?_
    refine ARun.nil ?_
    refine AWp.seq (AWp.region ?_)
    refine ARun.step rfl (step_loadS_b rfl (hn rfl) rfl zaSt29 rfl rfl rfl (by decide)) ?_
    refine ARun.step rfl (step_moveV rfl (hn rfl) rfl rfl) ?_
    refine ARun.step rfl (step_moveV rfl (hn rfl) rfl rfl) ?_
    refine ARun.step rfl (call_stepZ rfl (hn rfl) rfl zaCo54 (.cons rfl (.agg (.cons (.v _) (.cons (.v _) .nil))) (.cons rfl (.one (.v _)) (.cons rfl (.one (.v _)) (.nil)))) hs1 rfl rfl) ?_
    refine ARun.step rfl (step_moveV rfl (hn rfl) rfl rfl) ?_
    refine ARun.step rfl (step_extract rfl (hn rfl) rfl rfl rfl (by intro l h; cases h)) ?_
    refine ARun.step rfl (step_extract rfl (hn rfl) rfl rfl rfl (by intro l h; cases h)) ?_
    refine ARun.step rfl (step_alloc_p rfl (hn rfl) rfl zaZs29) ?_
    refine ARun.step rfl (step_store_p rfl rfl zaCs29 rfl rfl rfl rfl rfl rfl rfl) ?_
    refine ARun.step rfl (step_assignV rfl (hn rfl) rfl rfl) ?_
    refine ARun.nil ?_
    refine AWp.join (fun u : Unit => mkAS 185 [(1, ⟨true, .one (.v (bytesT 5 m))⟩), (5, ⟨true, .one (.bptr 5 0)⟩), (6, ⟨true, .one (.v (.str s))⟩), (7, ⟨true, .one (.v (strs l))⟩)] [(5, [.v (strs k.things), .v (bts 48 k.bs)])] []) (fun u => True) ?_ ?_
    · rintro u _
      have hkl := hk.2.1
      have hi2 := leaveIZ k s (hk.small (by omega))
      have hs2 := leaveSZ k s (hk.small (by omega))
      obtain ⟨x2, d2, hr2⟩ : ∃ x d, leaveR k s = (x, d) := ⟨_, _, rfl⟩
      rw [hr2] at hi2 hs2
      dsimp only at hi2 hs2
      refine AWp.seq (AWp.region ?_)
      refine ARun.step rfl (step_loadS_b rfl (hn rfl) rfl zaSt29 rfl rfl rfl (by decide)) ?_
      refine ARun.step rfl (step_moveV rfl (hn rfl) rfl rfl) ?_
      refine ARun.step rfl (call_stepZ rfl (hn rfl) rfl zaCo14 (.cons rfl (.agg (.cons (.v _) (.cons (.v _) .nil))) (.cons rfl (.one (.v _)) (.nil))) hi2 rfl rfl) ?_
      refine ARun.step rfl (step_moveV rfl (hn rfl) rfl rfl) ?_
      refine ARun.step rfl (step_extract rfl (hn rfl) rfl rfl rfl (by intro l h; cases h)) ?_
      refine ARun.step rfl (step_extract rfl (hn rfl) rfl rfl rfl (by intro l h; cases h)) ?_
      refine ARun.step rfl (step_alloc_p rfl (hn rfl) rfl zaZs29) ?_
      refine ARun.step rfl (step_store_p rfl rfl zaCs29 rfl rfl rfl rfl rfl rfl rfl) ?_
      refine ARun.step rfl (step_assignV rfl (hn rfl) rfl rfl) ?_
      refine ARun.nil ?_
      refine AWp.seq (AWp.region ?_)
      refine ARun.step rfl (step_loadS_b rfl (hn rfl) rfl zaSt29 rfl rfl rfl (by decide)) ?_
      refine ARun.step rfl (step_moveV rfl (hn rfl) rfl rfl) ?_
      refine ARun.step rfl (call_stepZ rfl (hn rfl) rfl zaCo12 (.cons rfl (.agg (.cons (.v _) (.cons (.v _) .nil))) (.cons rfl (.one (.v _)) (.nil))) hs2 rfl rfl) ?_
      refine ARun.step rfl (step_moveV rfl (hn rfl) rfl rfl) ?_
      refine ARun.step rfl (step_extract rfl (hn rfl) rfl rfl rfl (by intro l h; cases h)) ?_
      refine ARun.step rfl (step_extract rfl (hn rfl) rfl rfl rfl (by intro l h; cases h)) ?_
      refine ARun.step rfl (step_alloc_p rfl (hn rfl) rfl zaZs29) ?_
      refine ARun.step rfl (step_store_p rfl rfl zaCs29 rfl rfl rfl rfl rfl rfl rfl) ?_
      refine ARun.step rfl (step_assignV rfl (hn rfl) rfl rfl) ?_
      refine ARun.nil ?_
      refine AWp.join (fun u : Unit => mkAS 185 [(1, ⟨true, .one (.v (bytesT 5 m))⟩)] [] []) (fun u => True) ?_ ?_
      · rintro u _
        obtain ⟨k2, s2, l2, ⟨hk2, hl2⟩, hd2⟩ := drawShareEnter m (by omega)
        have hkl2 := hk2.2.1
        refine AWp.seq (AWp.region ?_)
        refine ARun.step rfl (step_moveV rfl (hn rfl) rfl rfl) ?_
        refine ARun.step rfl (call_stepZ rfl (hn rfl) rfl zaCo55 (.cons rfl (.one (.v _)) (.nil)) hd2 rfl rfl) ?_
        refine ARun.step rfl (step_moveV rfl (hn rfl) rfl rfl) ?_
        refine ARun.step rfl (step_extract rfl (hn rfl) rfl rfl rfl (by intro l h; cases h)) ?_
        refine ARun.step rfl (step_extract rfl (hn rfl) rfl rfl rfl (by intro l h; cases h)) ?_
        refine ARun.step rfl (step_extract rfl (hn rfl) rfl rfl rfl (by intro l h; cases h)) ?_
        refine ARun.step rfl (step_alloc_p rfl (hn rfl) rfl zaZs29) ?_
        refine ARun.step rfl (step_store_p rfl rfl zaCs29 rfl rfl rfl rfl rfl rfl rfl) ?_
        refine ARun.step rfl (step_assignV rfl (hn rfl) rfl rfl) ?_
        refine ARun.step rfl (step_assignV rfl (hn rfl) rfl rfl) ?_
        refine ARun.nil ?_
        have hi3 := enterIZ k2 s2 l2 (hk2.small (by omega)) (by omega)
        have hs3 := enterSZ k2 s2 l2 (hk2.small (by omega)) (by omega)
        obtain ⟨x3, d3, hr3⟩ : ∃ x d, enterR k2 s2 l2 = (x, d) := ⟨_, _, rfl⟩
        rw [hr3] at hi3 hs3
        dsimp only at hi3 hs3
        refine AWp.seq (AWp.region ?_)
        refine ARun.step rfl (step_loadS_b rfl (hn rfl) rfl zaSt29 rfl rfl rfl (by decide)) ?_
        refine ARun.step rfl (step_moveV rfl (hn rfl) rfl rfl) ?_
        refine ARun.step rfl (step_moveV rfl (hn rfl) rfl rfl) ?_
        refine ARun.step rfl (call_stepZ rfl (hn rfl) rfl zaCo21 (.cons rfl (.agg (.cons (.v _) (.cons (.v _) .nil))) (.cons rfl (.one (.v _)) (.cons rfl (.one (.v _)) (.nil)))) hi3 rfl rfl) ?_
        refine ARun.step rfl (step_moveV rfl (hn rfl) rfl rfl) ?_
        refine ARun.step rfl (step_extract rfl (hn rfl) rfl rfl rfl (by intro l h; cases h)) ?_
        refine ARun.step rfl (step_extract rfl (hn rfl) rfl rfl rfl (by intro l h; cases h)) ?_
        refine ARun.step rfl (step_alloc_p rfl (hn rfl) rfl zaZs29) ?_
        refine ARun.step rfl (step_store_p rfl rfl zaCs29 rfl rfl rfl rfl rfl rfl rfl) ?_
        refine ARun.step rfl (step_assignV rfl (hn rfl) rfl rfl) ?_
        refine ARun.nil ?_
        refine AWp.seq (AWp.region ?_)
        refine ARun.step rfl (step_loadS_b rfl (hn rfl) rfl zaSt29 rfl rfl rfl (by decide)) ?_
        refine ARun.step rfl (step_moveV rfl (hn rfl) rfl rfl) ?_
        refine ARun.step rfl (step_moveV rfl (hn rfl) rfl rfl) ?_
        refine ARun.step rfl (call_stepZ rfl (hn rfl) rfl zaCo19 (.cons rfl (.agg (.cons (.v _) (.cons (.v _) .nil))) (.cons rfl (.one (.v _)) (.cons rfl (.one (.v _)) (.nil)))) hs3 rfl rfl) ?_
        refine ARun.step rfl (step_moveV rfl (hn rfl) rfl rfl) ?_
        refine ARun.step rfl (step_extract rfl (hn rfl) rfl rfl rfl (by intro l h; cases h)) ?_
        refine ARun.step rfl (step_extract rfl (hn rfl) rfl rfl rfl (by intro l h; cases h)) ?_
        refine ARun.step rfl (step_alloc_p rfl (hn rfl) rfl zaZs29) ?_
        refine ARun.step rfl (step_store_p rfl rfl zaCs29 rfl rfl rfl rfl rfl rfl rfl) ?_
        refine ARun.step rfl (step_assignV rfl (hn rfl) rfl rfl) ?_
        refine ARun.nil ?_
        refine AWp.seq (AWp.draw [⟨[.s 20], [.s 147], false⟩, ⟨[.s 22], [.s 148], false⟩, ⟨[.s 147, .s 148], [.s 149], false⟩, ⟨[.s 149], [.s 150], false⟩, ⟨[.s 19, .b 19, .s 150], [.s 151], false⟩, ⟨[.s 21, .b 21, .s 150], [.s 152], false⟩, ⟨[.s 152, .s 151, .s 150], [.s 153], false⟩, ⟨[.s 150, .s 153], [.s 154], false⟩, ⟨[.s 154], [.s 155], false⟩, ⟨[.s 20, .s 155], [.s 156], false⟩, ⟨[.s 156, .s 155], [.s 157], false⟩, ⟨[.s 157, .s 155], [.s 158], false⟩, ⟨[.s 19, .b 19, .s 158], [.s 159], false⟩, ⟨[.s 159, .s 158], [.s 160], false⟩, ⟨[.s 16, .b 16, .s 158], [.s 161], false⟩, ⟨[.s 161, .s 158], [.s 162], false⟩, ⟨[.s 160, .s 162, .s 158], [.s 163], false⟩, ⟨[.s 163, .s 158], [.s 164], false⟩, ⟨[.s 19, .b 19, .s 164], [.s 165], false⟩, ⟨[.s 165, .b 19, .s 164], [.s 166], false⟩, ⟨[.s 166, .s 164], [.s 167], false⟩, ⟨[.s 16, .b 16, .s 164], [.s 168], false⟩, ⟨[.s 168, .b 16, .s 164], [.s 169], false⟩, ⟨[.s 169, .s 164], [.s 170], false⟩, ⟨[.s 170, .s 164], [.s 171], false⟩, ⟨[.s 167, .s 171, .s 164], [.s 172], false⟩, ⟨[.s 164, .s 172, .s 158], [.s 173], false⟩, ⟨[.s 158, .s 173, .s 155], [.s 174], false⟩, ⟨[.s 155, .s 174], [.s 175], false⟩, ⟨[.s 175], [.s 176], false⟩, ⟨[.s 20, .s 176], [.s 177], false⟩, ⟨[.s 177, .s 176], [.s 178], false⟩, ⟨[.s 178, .s 176], [.s 179], false⟩, ⟨[.s 19, .b 19, .s 179], [.s 180], false⟩, ⟨[.s 16, .b 16, .s 179], [.s 181], false⟩, ⟨[.s 181, .s 180, .s 179], [.s 182], false⟩, ⟨[.s 179, .s 182, .s 176], [.s 183], false⟩, ⟨[.s 176, .s 183], [.s 184], false⟩, ⟨[], [], true⟩] zaMo (by kernel_rfl) ?_)
        refine DRun.step rfl (fun τ hN hr => step_moveV rfl (rdN hN (hn rfl)) rfl (by exact rdS hr rfl rfl)) ?_
        refine DRun.step rfl (fun τ hN hr => step_moveV rfl (rdN hN (hn rfl)) rfl (by exact rdS hr rfl rfl)) ?_
        refine DRun.step rfl (fun τ hN hr => step_eql rfl (rdN hN (hn rfl)) rfl (by exact rdS hr rfl rfl) (by exact rdS hr rfl rfl)) ?_
        refine DRun.step rfl (fun τ hN hr => step_moveV rfl (rdN hN (hn rfl)) rfl (by exact rdS hr rfl rfl)) ?_
        refine guardD rfl rfl rfl rfl rfl (hn rfl) (fun τ hN hr g1 g2 => step_loadS_b rfl (rdN hN (hn rfl)) rfl zaSt29 (by exact rdS hr rfl rfl) (by exact rdBtake hr rfl rfl) rfl (by decide)) ?_
        refine guardD rfl rfl rfl rfl rfl (hn rfl) (fun τ hN hr g1 g2 => step_loadS_b rfl (rdN hN (hn rfl)) rfl zaSt29 (by exact rdS hr rfl rfl) (by exact rdBtake hr rfl rfl) rfl (by decide)) ?_
        refine guardD rfl rfl rfl rfl rfl (hn rfl) (fun τ hN hr g1 g2 => call_step1 rfl (rdN hN (hn rfl)) rfl zaCo50 (.cons (ev_true (by exact rdS hr rfl rfl) (by exact flag2 g1 g2)) (.agg (.cons (.v _) (.cons (.v _) .nil))) (.cons (ev_true (by exact rdS hr rfl rfl) (by exact flag2 g1 g2)) (.agg (.cons (.v _) (.cons (.v _) .nil))) (.nil))) (whBook _ _) rfl) ?_
        refine DRun.step rfl (fun τ hN hr => step_and rfl (rdN hN (hn rfl)) rfl (by exact rdS hr rfl rfl) (by exact rdS hr rfl rfl) (fun h => (by exact flag1 h))) ?_
        refine DRun.step rfl (fun τ hN hr => step_moveV rfl (rdN hN (hn rfl)) rfl (by exact rdS hr rfl rfl)) ?_
        refine guardD rfl rfl rfl rfl rfl (hn rfl) (fun τ hN hr g1 g2 => step_moveV rfl (rdN hN (hn rfl)) rfl (by exact rdS hr rfl rfl)) ?_
        refine guardD rfl rfl rfl rfl rfl (hn rfl) (fun τ hN hr g1 g2 => step_neq rfl (rdN hN (hn rfl)) rfl (ev_true (by exact rdS hr rfl rfl) (by exact flag2 g1 g2)) rfl) ?_
        refine guardD rfl rfl rfl rfl rfl (hn rfl) (fun τ hN hr g1 g2 => step_moveV rfl (rdN hN (hn rfl)) rfl (ev_true (by exact rdS hr rfl rfl) (by exact flag2 g1 g2))) ?_
        refine guardD rfl rfl rfl rfl rfl (hn rfl) (fun τ hN hr g1 g2 => step_loadS_b rfl (rdN hN (hn rfl)) rfl zaSt29 (by exact rdS hr rfl rfl) (by exact rdBtake hr rfl rfl) rfl (by decide)) ?_
        refine guardD rfl rfl rfl rfl rfl (hn rfl) (fun τ hN hr g1 g2 => call_step1 rfl (rdN hN (hn rfl)) rfl zaCo35 (.cons (ev_true (by exact rdS hr rfl rfl) (by exact flag2 g1 g2)) (.agg (.cons (.v _) (.cons (.v _) .nil))) (.nil)) (safeI _) rfl) ?_
        refine guardD rfl rfl rfl rfl rfl (hn rfl) (fun τ hN hr g1 g2 => step_loadS_b rfl (rdN hN (hn rfl)) rfl zaSt29 (by exact rdS hr rfl rfl) (by exact rdBtake hr rfl rfl) rfl (by decide)) ?_
        refine guardD rfl rfl rfl rfl rfl (hn rfl) (fun τ hN hr g1 g2 => call_step1 rfl (rdN hN (hn rfl)) rfl zaCo35 (.cons (ev_true (by exact rdS hr rfl rfl) (by exact flag2 g1 g2)) (.agg (.cons (.v _) (.cons (.v _) .nil))) (.nil)) (safeI _) rfl) ?_
        refine guardD rfl rfl rfl rfl rfl (hn rfl) (fun τ hN hr g1 g2 => step_beql rfl (rdN hN (hn rfl)) rfl zaUb4 (ev_true (by exact rdS hr rfl rfl) (by exact flag2 g1 g2)) (ev_true (by exact rdS hr rfl rfl) (by exact flag2 g1 g2))) ?_
        refine guardD rfl rfl rfl rfl rfl (hn rfl) (fun τ hN hr g1 g2 => step_moveV rfl (rdN hN (hn rfl)) rfl (ev_true (by exact rdS hr rfl rfl) (by exact flag2 g1 g2))) ?_
        refine guardD rfl rfl rfl rfl rfl (hn rfl) (fun τ hN hr g1 g2 => step_field_b rfl (rdN hN (hn rfl)) rfl zaFo29_1 (by exact rdS hr rfl rfl) (by exact rdBne hr rfl (by exact List.cons_ne_nil _ _))) ?_
        refine guardD rfl rfl rfl rfl rfl (hn rfl) (fun τ hN hr g1 g2 => step_load_b rfl (rdN hN (hn rfl)) rfl zaSc27 (ev_true (by exact rdS hr rfl rfl) (by exact flag2 g1 g2)) (by exact rdBget hr rfl rfl)) ?_
        refine guardD rfl rfl rfl rfl rfl (hn rfl) (fun τ hN hr g1 g2 => step_len_f rfl (rdN hN (hn rfl)) rfl zaSl27 (ev_true (by exact rdS hr rfl rfl) (by exact flag2 g1 g2))) ?_
        refine guardD rfl rfl rfl rfl rfl (hn rfl) (fun τ hN hr g1 g2 => step_field_b rfl (rdN hN (hn rfl)) rfl zaFo29_1 (by exact rdS hr rfl rfl) (by exact rdBne hr rfl (by exact List.cons_ne_nil _ _))) ?_
        refine guardD rfl rfl rfl rfl rfl (hn rfl) (fun τ hN hr g1 g2 => step_load_b rfl (rdN hN (hn rfl)) rfl zaSc27 (ev_true (by exact rdS hr rfl rfl) (by exact flag2 g1 g2)) (by exact rdBget hr rfl rfl)) ?_
        refine guardD rfl rfl rfl rfl rfl (hn rfl) (fun τ hN hr g1 g2 => step_len_f rfl (rdN hN (hn rfl)) rfl zaSl27 (ev_true (by exact rdS hr rfl rfl) (by exact flag2 g1 g2))) ?_
        refine guardD rfl rfl rfl rfl rfl (hn rfl) (fun τ hN hr g1 g2 => step_addI (m := (k2.bs.length : Nat)) (n := 1) rfl (rdN hN (hn rfl)) rfl (ev_true (by exact rdS hr rfl rfl) (by exact flag2 g1 g2)) rfl (by omega) (by omega)) ?_
        refine guardD rfl rfl rfl rfl rfl (hn rfl) (fun τ hN hr g1 g2 => step_eql rfl (rdN hN (hn rfl)) rfl (ev_true (by exact rdS hr rfl rfl) (by exact flag2 g1 g2)) (ev_true (by exact rdS hr rfl rfl) (by exact flag2 g1 g2))) ?_
        refine guardD rfl rfl rfl rfl rfl (hn rfl) (fun τ hN hr g1 g2 => step_and rfl (rdN hN (hn rfl)) rfl (ev_true (by exact rdS hr rfl rfl) (by exact flag2 g1 g2)) (by exact rdS hr rfl rfl) (fun h => (by exact flag2 (by exact flag2 g1 g2) h))) ?_
        refine guardD rfl rfl rfl rfl rfl (hn rfl) (fun τ hN hr g1 g2 => step_or rfl (rdN hN (hn rfl)) rfl (ev_true (by exact rdS hr rfl rfl) (by exact flag2 g1 g2)) (by exact rdS hr rfl rfl) (fun h => (by exact flag2 (by exact flag2 g1 g2) h))) ?_
        refine DRun.step rfl (fun τ hN hr => step_and rfl (rdN hN (hn rfl)) rfl (by exact rdS hr rfl rfl) (by exact rdS hr rfl rfl) (fun h => (by exact flag1 h))) ?_
        refine DRun.step rfl (fun τ hN hr => step_moveV rfl (rdN hN (hn rfl)) rfl (by exact rdS hr rfl rfl)) ?_
        refine guardD rfl rfl rfl rfl rfl (hn rfl) (fun τ hN hr g1 g2 => step_moveV rfl (rdN hN (hn rfl)) rfl (by exact rdS hr rfl rfl)) ?_
        refine guardD rfl rfl rfl rfl rfl (hn rfl) (fun τ hN hr g1 g2 => step_lss rfl (rdN hN (hn rfl)) rfl (ev_true (by exact rdS hr rfl rfl) (by exact flag2 g1 g2)) rfl) ?_
        refine guardD rfl rfl rfl rfl rfl (hn rfl) (fun τ hN hr g1 g2 => step_moveV rfl (rdN hN (hn rfl)) rfl (ev_true (by exact rdS hr rfl rfl) (by exact flag2 g1 g2))) ?_
        refine guardD rfl rfl rfl rfl rfl (hn rfl) (fun τ hN hr g1 g2 => step_loadS_b rfl (rdN hN (hn rfl)) rfl zaSt29 (by exact rdS hr rfl rfl) (by exact rdBtake hr rfl rfl) rfl (by decide)) ?_
        refine guardD rfl rfl rfl rfl rfl (hn rfl) (fun τ hN hr g1 g2 => step_loadS_b rfl (rdN hN (hn rfl)) rfl zaSt29 (by exact rdS hr rfl rfl) (by exact rdBtake hr rfl rfl) rfl (by decide)) ?_
        refine guardD rfl rfl rfl rfl rfl (hn rfl) (fun τ hN hr g1 g2 => call_step1 rfl (rdN hN (hn rfl)) rfl zaCo50 (.cons (ev_true (by exact rdS hr rfl rfl) (by exact flag2 g1 g2)) (.agg (.cons (.v _) (.cons (.v _) .nil))) (.cons (ev_true (by exact rdS hr rfl rfl) (by exact flag2 g1 g2)) (.agg (.cons (.v _) (.cons (.v _) .nil))) (.nil))) (whBook _ _) rfl) ?_
        refine guardD rfl rfl rfl rfl rfl (hn rfl) (fun τ hN hr g1 g2 => step_or rfl (rdN hN (hn rfl)) rfl (ev_true (by exact rdS hr rfl rfl) (by exact flag2 g1 g2)) (by exact rdS hr rfl rfl) (fun h => (by exact flag2 (by exact flag2 g1 g2) h))) ?_
        refine DRun.step rfl (fun τ hN hr => step_and rfl (rdN hN (hn rfl)) rfl (by exact rdS hr rfl rfl) (by exact rdS hr rfl rfl) (fun h => (by exact flag1 h))) ?_
        refine DRun.lastS rfl (step_assignV rfl (hn rfl) rfl rfl) ?_
        refine AWp.ret ?_
        refine RetIs.sc (.inr rfl) rfl rfl ?_
        refine congrArg T.bool ?_
        have e1 := enterR_ok (p := k2) (s := s2) (l := l2)
        have e2 := enterR_same (p := k2) (s := s2) (l := l2)
        rw [hr3] at e1 e2
        dsimp only at e1 e2
        simp only [eqBk_refl]
        grind [eqBk_refl]
      · refine AWp.seq (AWp.region ?_)
        refine ARun.step rfl (step_moveV rfl (hn rfl) rfl rfl) ?_
        refine ARun.step rfl (step_moveV rfl (hn rfl) rfl rfl) ?_
        refine ARun.step rfl (step_neq rfl (hn rfl) rfl rfl rfl) ?_
        refine ARun.step rfl (step_moveV rfl (hn rfl) rfl rfl) ?_
        refine guardS rfl rfl rfl rfl (hn rfl) (fun g1 g2 => step_loadS_b rfl (hn rfl) rfl zaSt29 rfl rfl rfl (by decide)) ?_
        refine guardS rfl rfl rfl rfl (hn rfl) (fun g1 g2 => step_loadS_b rfl (hn rfl) rfl zaSt29 rfl rfl rfl (by decide)) ?_
        refine guardS rfl rfl rfl rfl (hn rfl) (fun g1 g2 => call_step1 rfl (hn rfl) rfl zaCo50 (.cons (ev_true rfl (by exact flag2 g1 g2)) (.agg (.cons (.v _) (.cons (.v _) .nil))) (.cons (ev_true rfl (by exact flag2 g1 g2)) (.agg (.cons (.v _) (.cons (.v _) .nil))) (.nil))) (whBook _ _) rfl) ?_
        refine guardS rfl rfl rfl rfl (hn rfl) (fun g1 g2 => step_not rfl (hn rfl) rfl (ev_true rfl (by exact flag2 g1 g2))) ?_
        refine ARun.step rfl (step_or rfl (hn rfl) rfl rfl rfl (fun h => (by exact flag1 h))) ?_
        refine ARun.step rfl (step_moveV rfl (hn rfl) rfl rfl) ?_
        refine guardS rfl rfl rfl rfl (hn rfl) (fun g1 g2 => step_moveV rfl (hn rfl) rfl rfl) ?_
        refine guardS rfl rfl rfl rfl (hn rfl) (fun g1 g2 => step_eql rfl (hn rfl) rfl (ev_true rfl (by exact flag2 g1 g2)) rfl) ?_
        refine guardS rfl rfl rfl rfl (hn rfl) (fun g1 g2 => step_moveV rfl (hn rfl) rfl (ev_true rfl (by exact flag2 g1 g2))) ?_
        refine guardS rfl rfl rfl rfl (hn rfl) (fun g1 g2 => step_field_b rfl (hn rfl) rfl zaFo29_1 rfl (by exact List.cons_ne_nil _ _)) ?_
        refine guardS rfl rfl rfl rfl (hn rfl) (fun g1 g2 => step_load_b rfl (hn rfl) rfl zaSc27 (ev_true rfl (by exact flag2 g1 g2)) rfl) ?_
        refine guardS rfl rfl rfl rfl (hn rfl) (fun g1 g2 => step_len_f rfl (hn rfl) rfl zaSl27 (ev_true rfl (by exact flag2 g1 g2))) ?_
        refine guardS rfl rfl rfl rfl (hn rfl) (fun g1 g2 => step_field_b rfl (hn rfl) rfl zaFo29_1 rfl (by exact List.cons_ne_nil _ _)) ?_
        refine guardS rfl rfl rfl rfl (hn rfl) (fun g1 g2 => step_load_b rfl (hn rfl) rfl zaSc27 (ev_true rfl (by exact flag2 g1 g2)) rfl) ?_
        refine guardS rfl rfl rfl rfl (hn rfl) (fun g1 g2 => step_len_f rfl (hn rfl) rfl zaSl27 (ev_true rfl (by exact flag2 g1 g2))) ?_
        refine guardS rfl rfl rfl rfl (hn rfl) (fun g1 g2 => step_subI rfl (hn rfl) rfl (ev_true rfl (by exact flag2 g1 g2)) rfl (by first | omega | (have := of_decide_eq_true g2; omega) | (have := of_decide_eq_false g2; omega) | (simp only [nrm] at g2; omega) | (simp only [nrm, Bool.true_and] at g1 g2; omega)) (by first | omega | (have := of_decide_eq_true g2; omega) | (have := of_decide_eq_false g2; omega) | (simp only [nrm] at g2; omega) | (simp only [nrm, Bool.true_and] at g1 g2; omega))) ?_
        refine guardS rfl rfl rfl rfl (hn rfl) (fun g1 g2 => step_neq rfl (hn rfl) rfl (ev_true rfl (by exact flag2 g1 g2)) (ev_true rfl (by exact flag2 g1 g2))) ?_
        refine guardS rfl rfl rfl rfl (hn rfl) (fun g1 g2 => step_moveV rfl (hn rfl) rfl (ev_true rfl (by exact flag2 g1 g2))) ?_
        refine guardS rfl rfl rfl rfl (hn rfl) (fun g1 g2 => step_loadS_b rfl (hn rfl) rfl zaSt29 rfl rfl rfl (by decide)) ?_
        refine guardS rfl rfl rfl rfl (hn rfl) (fun g1 g2 => call_step1 rfl (hn rfl) rfl zaCo35 (.cons (ev_true rfl (by exact flag2 g1 g2)) (.agg (.cons (.v _) (.cons (.v _) .nil))) (.nil)) (safeI _) rfl) ?_
        refine guardS rfl rfl rfl rfl (hn rfl) (fun g1 g2 => step_moveV rfl (hn rfl) rfl (ev_true rfl (by exact flag2 g1 g2))) ?_
        refine guardS rfl rfl rfl rfl (hn rfl) (fun g1 g2 => step_loadS_b rfl (hn rfl) rfl zaSt29 rfl rfl rfl (by decide)) ?_
        refine guardS rfl rfl rfl rfl (hn rfl) (fun g1 g2 => call_step1 rfl (hn rfl) rfl zaCo35 (.cons (ev_true rfl (by exact flag2 g1 g2)) (.agg (.cons (.v _) (.cons (.v _) .nil))) (.nil)) (safeI _) rfl) ?_
        refine guardS rfl rfl rfl rfl (hn rfl) (fun g1 g2 => step_not rfl (hn rfl) rfl (ev_true rfl (by exact flag2 g1 g2))) ?_
        refine guardS rfl rfl rfl rfl (hn rfl) (fun g1 g2 => step_and rfl (hn rfl) rfl (ev_true rfl (by exact flag2 g1 g2)) rfl (fun h => (by exact flag2 (by exact flag2 g1 g2) h))) ?_
        refine guardS rfl rfl rfl rfl (hn rfl) (fun g1 g2 => step_or rfl (hn rfl) rfl (ev_true rfl (by exact flag2 g1 g2)) rfl (fun h => (by exact flag2 (by exact flag2 g1 g2) h))) ?_
        refine guardS rfl rfl rfl rfl (hn rfl) (fun g1 g2 => step_and rfl (hn rfl) rfl (ev_true rfl (by exact flag2 g1 g2)) rfl (fun h => (by exact flag2 (by exact flag2 g1 g2) h))) ?_
        refine ARun.step rfl (step_or rfl (hn rfl) rfl rfl rfl (fun h => (by exact flag1 h))) ?_
        refine ARun.nil ?_
        refine AWp.cond rfl (fun c2 => ?_) (fun c2 => ?_)
        · try simp only [nrm] at c2
          refine AWp.seq (AWp.region ?_)
          refine ARun.step rfl (step_assignV rfl (hn rfl) rfl rfl) ?_
          refine ARun.nil ?_
          refine AWp.ret ?_
          refine RetIs.sc (.inr rfl) rfl rfl ?_
          refine congrArg T.bool ?_
          exfalso
          have e1 := leaveR_ok (p := k) (s := s)
          rw [hr2] at e1
          dsimp only at e1
          rcases c2 with (c2 | c2) | ⟨c2, c3⟩
          · exact c2 trivial
          · rw [eqBk_refl] at c2; cases c2
          · obtain ⟨e1, e2, e3⟩ := e1 c2
            rcases c3 with c3 | c3
            · omega
            · rw [e3 c3.1] at c3; cases c3.2
        · try simp only [nrm] at c2
          refine AWp.skip ?_
          refine ⟨(()), ?_, Le.forgetR rfl ⟨rfl, trivial⟩ trivial trivial⟩
          try dsimp only
          all_goals trivial
    · refine AWp.seq (AWp.region ?_)
      refine ARun.step rfl (step_moveV rfl (hn rfl) rfl rfl) ?_
      refine ARun.step rfl (step_moveV rfl (hn rfl) rfl rfl) ?_
      refine ARun.step rfl (step_neq rfl (hn rfl) rfl rfl rfl) ?_
      refine ARun.step rfl (step_moveV rfl (hn rfl) rfl rfl) ?_
      refine guardS rfl rfl rfl rfl (hn rfl) (fun g1 g2 => step_loadS_b rfl (hn rfl) rfl zaSt29 rfl rfl rfl (by decide)) ?_
      refine guardS rfl rfl rfl rfl (hn rfl) (fun g1 g2 => step_loadS_b rfl (hn rfl) rfl zaSt29 rfl rfl rfl (by decide)) ?_
      refine guardS rfl rfl rfl rfl (hn rfl) (fun g1 g2 => call_step1 rfl (hn rfl) rfl zaCo50 (.cons (ev_true rfl (by exact flag2 g1 g2)) (.agg (.cons (.v _) (.cons (.v _) .nil))) (.cons (ev_true rfl (by exact flag2 g1 g2)) (.agg (.cons (.v _) (.cons (.v _) .nil))) (.nil))) (whBook _ _) rfl) ?_
      refine guardS rfl rfl rfl rfl (hn rfl) (fun g1 g2 => step_not rfl (hn rfl) rfl (ev_true rfl (by exact flag2 g1 g2))) ?_
      refine ARun.step rfl (step_or rfl (hn rfl) rfl rfl rfl (fun h => (by exact flag1 h))) ?_
      refine ARun.step rfl (step_moveV rfl (hn rfl) rfl rfl) ?_
      refine guardS rfl rfl rfl rfl (hn rfl) (fun g1 g2 => step_moveV rfl (hn rfl) rfl rfl) ?_
      refine guardS rfl rfl rfl rfl (hn rfl) (fun g1 g2 => step_eql rfl (hn rfl) rfl (ev_true rfl (by exact flag2 g1 g2)) rfl) ?_
      refine guardS rfl rfl rfl rfl (hn rfl) (fun g1 g2 => step_moveV rfl (hn rfl) rfl (ev_true rfl (by exact flag2 g1 g2))) ?_
      refine guardS rfl rfl rfl rfl (hn rfl) (fun g1 g2 => step_loadS_b rfl (hn rfl) rfl zaSt29 rfl rfl rfl (by decide)) ?_
      refine guardS rfl rfl rfl rfl (hn rfl) (fun g1 g2 => call_step1 rfl (hn rfl) rfl zaCo35 (.cons (ev_true rfl (by exact flag2 g1 g2)) (.agg (.cons (.v _) (.cons (.v _) .nil))) (.nil)) (safeI _) rfl) ?_
      refine guardS rfl rfl rfl rfl (hn rfl) (fun g1 g2 => step_and rfl (hn rfl) rfl (ev_true rfl (by exact flag2 g1 g2)) rfl (fun h => (by exact flag2 (by exact flag2 g1 g2) h))) ?_
      refine guardS rfl rfl rfl rfl (hn rfl) (fun g1 g2 => step_moveV rfl (hn rfl) rfl (ev_true rfl (by exact flag2 g1 g2))) ?_
      refine guardS rfl rfl rfl rfl (hn rfl) (fun g1 g2 => step_loadS_b rfl (hn rfl) rfl zaSt29 rfl rfl rfl (by decide)) ?_
      refine guardS rfl rfl rfl rfl (hn rfl) (fun g1 g2 => call_step1 rfl (hn rfl) rfl zaCo35 (.cons (ev_true rfl (by exact flag2 g1 g2)) (.agg (.cons (.v _) (.cons (.v _) .nil))) (.nil)) (safeI _) rfl) ?_
      refine guardS rfl rfl rfl rfl (hn rfl) (fun g1 g2 => step_not rfl (hn rfl) rfl (ev_true rfl (by exact flag2 g1 g2))) ?_
      refine guardS rfl rfl rfl rfl (hn rfl) (fun g1 g2 => step_and rfl (hn rfl) rfl (ev_true rfl (by exact flag2 g1 g2)) rfl (fun h => (by exact flag2 (by exact flag2 g1 g2) h))) ?_
      refine ARun.step rfl (step_or rfl (hn rfl) rfl rfl rfl (fun h => (by exact flag1 h))) ?_
      refine ARun.step rfl (step_moveV rfl (hn rfl) rfl rfl) ?_
      refine guardS rfl rfl rfl rfl (hn rfl) (fun g1 g2 => step_moveV rfl (hn rfl) rfl rfl) ?_
      refine guardS rfl rfl rfl rfl (hn rfl) (fun g1 g2 => step_gtr rfl (hn rfl) rfl (ev_true rfl (by exact flag2 g1 g2)) rfl) ?_
      refine guardS rfl rfl rfl rfl (hn rfl) (fun g1 g2 => step_moveV rfl (hn rfl) rfl (ev_true rfl (by exact flag2 g1 g2))) ?_
      refine guardS rfl rfl rfl rfl (hn rfl) (fun g1 g2 => step_loadS_b rfl (hn rfl) rfl zaSt29 rfl rfl rfl (by decide)) ?_
      refine guardS rfl rfl rfl rfl (hn rfl) (fun g1 g2 => step_loadS_b rfl (hn rfl) rfl zaSt29 rfl rfl rfl (by decide)) ?_
      refine guardS rfl rfl rfl rfl (hn rfl) (fun g1 g2 => call_step1 rfl (hn rfl) rfl zaCo50 (.cons (ev_true rfl (by exact flag2 g1 g2)) (.agg (.cons (.v _) (.cons (.v _) .nil))) (.cons (ev_true rfl (by exact flag2 g1 g2)) (.agg (.cons (.v _) (.cons (.v _) .nil))) (.nil))) (whBook _ _) rfl) ?_
      refine guardS rfl rfl rfl rfl (hn rfl) (fun g1 g2 => step_not rfl (hn rfl) rfl (ev_true rfl (by exact flag2 g1 g2))) ?_
      refine guardS rfl rfl rfl rfl (hn rfl) (fun g1 g2 => step_and rfl (hn rfl) rfl (ev_true rfl (by exact flag2 g1 g2)) rfl (fun h => (by exact flag2 (by exact flag2 g1 g2) h))) ?_
      refine ARun.step rfl (step_or rfl (hn rfl) rfl rfl rfl (fun h => (by exact flag1 h))) ?_
      refine ARun.nil ?_
      refine AWp.cond rfl (fun c3 => ?_) (fun c3 => ?_)
      · try simp only [nrm] at c3
        refine AWp.seq (AWp.region ?_)
        refine ARun.step rfl (step_assignV rfl (hn rfl) rfl rfl) ?_
        refine ARun.nil ?_
        refine AWp.ret ?_
        refine RetIs.sc (.inr rfl) rfl rfl ?_
        refine congrArg T.bool ?_
        exfalso
        have e1 := lessR_safe (p := k) (s := s) (l := l)
        have e2 := lessR_same (p := k) (s := s) (l := l)
        rw [hr1] at e1 e2
        dsimp only at e1 e2
        rcases c3 with (c3 | c3) | c3
        · rcases c3 with c3 | c3
          · exact c3 trivial
          · rw [eqBk_refl] at c3; cases c3
        · grind
        · rw [e2 c3.1, eqBk_refl] at c3; cases c3.2
      · try simp only [nrm] at c3
        refine AWp.skip ?_
        refine ⟨(()), ?_, Le.forgetR rfl ⟨rfl, rfl, rfl, rfl, trivial⟩ ⟨rfl, trivial⟩ trivial⟩
        try dsimp only
        all_goals trivial

end Go.Proofs.Ytkmacjdigkaabaa
