/- Contracts of functions of the program, each met by its body; conditions stand in each statement. No condition. -/
import Derived.Test.YtkmacjdigkaabaahRecRun
import Derived.Test.YtkmacjdigkaabaahSrt
import Derived.Test.YtkmacjdigkaabaahRd41
import Derived.Test.YtkmacjdigkaabaaHo
import Derived.Test.YtkmacjdigkaabaaProg
import Derived.KernelRfl
set_option linter.unusedVariables false
set_option linter.unusedSimpArgs false
set_option linter.unnecessarySimpa false
set_option linter.unusedSimpArgs false
set_option maxRecDepth 100000
namespace Go.Proofs.Ytkmacjdigkaabaa
open Go Go.Mh

theorem says_add {e : Nat} {l : List Say} {x : Say} {g : Nat → List T} (h : g 0 = x.cells) : Eqv (.sl e 2 (l.length + 1) (catF l.length (fun i => (nth l i).cells) g)) (says e (l ++ [x])) := by
  unfold says
  rw [List.length_append, List.length_cons, List.length_nil]
  refine .rows fun i hi => ?_
  simp only [catF]
  split
  · rename_i h1; rw [nth_append_left h1]
  · rename_i h1
    have : i = l.length := by omega
    subst this
    rw [nth_append_right (Nat.le_refl _), Nat.sub_self, h]; rfl
def slotsPh (p : Ph) : List Str := if p.kind = 2 then withB [] [p.a, p.b] else [p.a]
/-- the slots that may be used from a phase on -/
def slotsG (l : List Ph) : Nat → Str → List Str
  | 0, _ => []
  | n + 1, s => if atP l s < 0 then [] else withB (withB (slotsPh (nth l (atP l s).toNat)) (slotsG l n (nth l (atP l s).toNat).thn)) (slotsG l n (nth l (atP l s).toNat).els)
def slotsB (l : List Ph) (s : Str) : List Str := if recOk l = true then slotsG l (l.length + 1) s else []
theorem slotsPh_len (p : Ph) : (slotsPh p).length ≤ 2 := by
  unfold slotsPh
  split
  · exact withB_len _ _
  · simp
theorem slotsG_len (l : List Ph) : ∀ (n : Nat) (s : Str), (slotsG l n s).length + 2 ≤ 2 * 2 ^ n
  | 0, _ => by simp [slotsG]
  | n + 1, s => by
    simp only [slotsG]
    split
    · have := Nat.one_le_two_pow (n := n + 1); simp only [List.length_nil]; omega
    · have h1 := withB_len (withB (slotsPh (nth l (atP l s).toNat)) (slotsG l n (nth l (atP l s).toNat).thn)) (slotsG l n (nth l (atP l s).toNat).els)
      have h2 := withB_len (slotsPh (nth l (atP l s).toNat)) (slotsG l n (nth l (atP l s).toNat).thn)
      have h3 := slotsPh_len (nth l (atP l s).toNat)
      have h4 := slotsG_len l n (nth l (atP l s).toNat).thn
      have h5 := slotsG_len l n (nth l (atP l s).toNat).els
      have h6 : 2 ^ (n + 1) = 2 * 2 ^ n := by rw [Nat.pow_succ]; omega
      omega
theorem slotsG_small (l : List Ph) {n : Nat} (hn : n ≤ 13) (s : Str) : (slotsG l n s).length ≤ 16384 := by
  have h := slotsG_len l n s
  have h2 : 2 ^ n ≤ 2 ^ 13 := Nat.pow_le_pow_right (by omega) hn
  omega
theorem withIZ (l m : List Str) (hl : l.length ≤ 1048576) (hm : m.length ≤ 1048576) : ASpec Try.prog 104 [.one (strs l), .one (strs m)] (.one (.fz (strs (withB l m)))) := (withI l m hl hm).letGo (.p (.one (.fz (.refl _))))

theorem ziFo74_1 : fieldOff Try.prog 74 1 = some 1 := by kernel_rfl
theorem ziSc3 : scalarB Try.prog 3 = true := by kernel_rfl
theorem ziFo74_2 : fieldOff Try.prog 74 2 = some 2 := by kernel_rfl
theorem ziSc9 : scalarB Try.prog 9 = true := by kernel_rfl
theorem ziFo74_3 : fieldOff Try.prog 74 3 = some 3 := by kernel_rfl
theorem ziSl22 : sliceT Try.prog 22 = some ⟨9, 1, 16⟩ := by kernel_rfl
theorem ziCo104 : callOk Try.prog 104 = true := by kernel_rfl
theorem ziCo122 : callOk Try.prog 122 = true := by kernel_rfl
theorem ziSl62 : sliceT Try.prog 62 = some ⟨74, 8, 104⟩ := by kernel_rfl
theorem ziSt74 : structSz Try.prog 74 = some 8 := by kernel_rfl
theorem ziCo147 : callOk Try.prog 147 = true := by kernel_rfl
theorem ziFo74_6 : fieldOff Try.prog 74 6 = some 6 := by kernel_rfl
theorem ziCo124 : callOk Try.prog 124 = true := by kernel_rfl
theorem ziMo : Try.prog.follows .mixedOrders = true := by kernel_rfl
theorem ziFo74_7 : fieldOff Try.prog 74 7 = some 7 := by kernel_rfl
theorem ziCo113 : callOk Try.prog 113 = true := by kernel_rfl
theorem ziCo121 : callOk Try.prog 121 = true := by kernel_rfl
theorem ziCo123 : callOk Try.prog 123 = true := by kernel_rfl
theorem ziZs78 : zeroSz Try.prog 78 = some 2 := by kernel_rfl
theorem ziCo111 : callOk Try.prog 111 = true := by kernel_rfl
theorem ziPl78 : structPl Try.prog 78 = some [(0, 1), (1, 1)] := by kernel_rfl
theorem ziZc78 : zeroCs Try.prog 78 = some [.v (.int .i64 0), .v (.bool false)] := by kernel_rfl
theorem ziCs78 : cellsSz Try.prog 78 = some (1 + 1) := by kernel_rfl
theorem ziSl140 : sliceT Try.prog 140 = some ⟨3, 1, 8⟩ := by kernel_rfl
theorem ziFo78_0 : fieldOff Try.prog 78 0 = some 0 := by kernel_rfl
theorem ziCs3 : cellsSz Try.prog 3 = some (0 + 1) := by kernel_rfl
theorem ziSt78 : structSz Try.prog 78 = some 2 := by kernel_rfl
theorem ziCo109 : callOk Try.prog 109 = true := by kernel_rfl
theorem ziCo110 : callOk Try.prog 110 = true := by kernel_rfl
theorem ziSl63 : sliceT Try.prog 63 = some ⟨78, 2, 16⟩ := by kernel_rfl
theorem ziCo112 : callOk Try.prog 112 = true := by kernel_rfl
theorem slotsPhI (p : Ph)  : ASpec Try.prog 147 [.agg p.cells] (.one (.fz (strs (slotsPh p)))) := by
  refine ASpec.body Try.func147 rfl [2] rfl 15 rfl rfl rfl ?_
  refine AWp.seq (AWp.region ?_)
  refine ARun.step rfl (step_box_p (m := 7) rfl (hn rfl) rfl rfl rfl rfl rfl) ?_
  refine ARun.step rfl (step_assignV rfl (hn rfl) rfl rfl) ?_
  refine ARun.nil ?_
  refine AWp.seq ?_
  refine AWp.seq (AWp.region ?_)
  refine ARun.step rfl (step_field_b rfl (hn rfl) rfl ziFo74_1 rfl (by exact List.cons_ne_nil _ _)) ?_
  refine ARun.step rfl (step_load_b rfl (hn rfl) rfl ziSc3 rfl rfl) ?_
  refine ARun.step rfl (step_eql rfl (hn rfl) rfl rfl rfl) ?_
  refine ARun.nil ?_
  refine AWp.cond rfl (fun c1 => ?_) (fun c1 => ?_)
  · try simp only [nrm] at c1
    refine AWp.seq (AWp.region ?_)
    refine ARun.step rfl (step_field_b rfl (hn rfl) rfl ziFo74_2 rfl (by exact List.cons_ne_nil _ _)) ?_
    refine ARun.step rfl (step_load_b rfl (hn rfl) rfl ziSc9 rfl rfl) ?_
    refine ARun.step rfl (step_field_b rfl (hn rfl) rfl ziFo74_3 rfl (by exact List.cons_ne_nil _ _)) ?_
    refine ARun.step rfl (step_load_b rfl (hn rfl) rfl ziSc9 rfl rfl) ?_
    refine ARun.step rfl (step_buildVT rfl (hn rfl) rfl ziSl22 (strs [p.a, p.b]) (.cons rfl rfl rfl rfl (.cons rfl rfl rfl rfl (.nil _))) rfl rfl rfl (rowsE ⟨rfl, rfl, trivial⟩)) ?_
    refine ARun.step rfl (call_stepZ rfl (hn rfl) rfl ziCo104 (.cons rfl (.one (.nil _ _ _)) (.cons rfl (.one (.v _)) (.nil))) (withIZ [] [p.a, p.b] (by simp) (by simp)) rfl rfl) ?_
    refine ARun.step rfl (step_assignV rfl (hn rfl) rfl rfl) ?_
    refine ARun.nil ?_
    refine AWp.ret ?_
    refine RetIs.frz (.inr rfl) rfl ?_
    rw [slotsPh, if_pos (by assumption)]
    rfl
  · try simp only [nrm] at c1
    refine AWp.skip ?_
    refine AWp.seq (AWp.region ?_)
    refine ARun.step rfl (step_field_b rfl (hn rfl) rfl ziFo74_2 rfl (by exact List.cons_ne_nil _ _)) ?_
    refine ARun.step rfl (step_load_b rfl (hn rfl) rfl ziSc9 rfl rfl) ?_
    refine ARun.step rfl (step_buildVT rfl (hn rfl) rfl ziSl22 (strs [p.a]) (.cons rfl rfl rfl rfl (.nil _)) rfl rfl rfl (rowsE ⟨rfl, trivial⟩)) ?_
    refine ARun.step rfl (step_assignV rfl (hn rfl) rfl rfl) ?_
    refine ARun.nil ?_
    refine AWp.ret ?_
    refine RetIs.frz (.inr rfl) rfl ?_
    rw [slotsPh, if_neg (by assumption)]
    rfl
theorem slotsI0 (l : List Ph) (n : Nat) (s : Str) (h : recOk l = true) (hnn : n ≤ 12) (hr : rank l s < n + 1) (ih : ∀ s, rank l s < n → ASpec Try.prog 124 [.one (phs 74 l), .one (.str s)] (.one (.fz (strs (slotsG l n s))))) : ASpec Try.prog 124 [.one (phs 74 l), .one (.str s)] (.one (.fz (strs (slotsG l (n + 1) s)))) := by
  refine ASpec.body Try.func124 rfl [4] rfl 34 rfl rfl rfl ?_
  have ha := atP_lt l s
  have hlen := recOk_len h
  refine AWp.seq (AWp.region ?_)
  refine ARun.step rfl (step_assignV rfl (hn rfl) rfl rfl) ?_
  refine ARun.nil ?_
  refine AWp.seq (AWp.region ?_)
  refine ARun.step rfl (step_moveV rfl (hn rfl) rfl rfl) ?_
  refine ARun.step rfl (step_moveV rfl (hn rfl) rfl rfl) ?_
  refine ARun.step rfl (call_step1 rfl (hn rfl) rfl ziCo122 (.cons rfl (.one (.v _)) (.cons rfl (.one (.v _)) (.nil))) (phaseI _ _) rfl) ?_
  refine ARun.step rfl (step_assignV rfl (hn rfl) rfl rfl) ?_
  refine ARun.nil ?_
  refine AWp.seq ?_
  refine AWp.seq (AWp.region ?_)
  refine ARun.step rfl (step_moveV rfl (hn rfl) rfl rfl) ?_
  refine ARun.step rfl (step_lss rfl (hn rfl) rfl rfl rfl) ?_
  refine ARun.nil ?_
  refine AWp.cond rfl (fun c1 => ?_) (fun c1 => ?_)
  · try simp only [nrm] at c1
    refine AWp.seq (AWp.region ?_)
    refine ARun.step rfl (step_assignV rfl (hn rfl) rfl rfl) ?_
    refine ARun.nil ?_
    refine AWp.le (Le.nilV 4 9 1 (fun i => [.str (nth [] i)]) rfl) ?_
    refine AWp.ret ?_
    refine RetIs.frz (.inr rfl) rfl ?_
    rw [slotsG, if_pos (by omega)]
    rfl
  · try simp only [nrm] at c1
    have hrl := rank_le l s
    have hrt := rank_thn h (s := s) (by omega)
    have hsp := slotsPh_len (nth l (atP l s).toNat)
    have hs1 := slotsG_small l (n := n) (by omega) (nth l (atP l s).toNat).thn
    have hs2 := slotsG_small l (n := n) (by omega) (nth l (atP l s).toNat).els
    have hs3 := withB_len (slotsPh (nth l (atP l s).toNat)) (slotsG l n (nth l (atP l s).toNat).thn)
    refine AWp.skip ?_
    refine AWp.seq (AWp.draw [⟨[.s 0], [.s 12], false⟩, ⟨[.s 5], [.s 13], false⟩, ⟨[.s 12, .s 13], [.s 14], false⟩, ⟨[.s 14], [.s 15], false⟩, ⟨[.s 15], [.s 16], false⟩, ⟨[.s 0], [.s 17], false⟩, ⟨[.s 0], [.s 18], false⟩, ⟨[.s 5], [.s 19], false⟩, ⟨[.s 18, .s 19], [.s 20], false⟩, ⟨[.s 20], [.s 21], false⟩, ⟨[.s 21], [.s 22], false⟩, ⟨[.s 22, .s 17], [.s 23], false⟩, ⟨[.s 23, .s 16], [.s 24], false⟩, ⟨[], [], true⟩] ziMo rfl ?_)
    refine DRun.step rfl (fun τ hN hr => step_moveV rfl (rdN hN (hn rfl)) rfl (by exact rdS hr rfl rfl)) ?_
    refine DRun.step rfl (fun τ hN hr => step_moveV rfl (rdN hN (hn rfl)) rfl (by exact rdS hr rfl rfl)) ?_
    refine DRun.step rfl (fun τ hN hr => step_index_f rfl (rdN hN (hn rfl)) rfl ziSl62 (by exact rdS hr rfl rfl) (by exact rdS hr rfl rfl) (by omega) (by omega)) ?_
    refine DRun.step rfl (fun τ hN hr => step_loadS_f rfl (rdN hN (hn rfl)) rfl ziSt74 (by exact rdS hr rfl rfl) (hn rfl) rfl rfl) ?_
    refine DRun.step rfl (fun τ hN hr => call_stepZ rfl (rdN hN (hn rfl)) rfl ziCo147 (.cons (by exact rdS hr rfl rfl) (.agg (.cons (.v _) (.cons (.v _) (.cons (.v _) (.cons (.v _) (.cons (.v _) (.cons (.v _) (.cons (.v _) (.cons (.v _) .nil))))))))) (.nil)) (slotsPhI (nth l (atP l s).toNat)) rfl (by exact rdNoRefs hr rfl rfl)) ?_
    refine DRun.step rfl (fun τ hN hr => step_moveV rfl (rdN hN (hn rfl)) rfl (by exact rdS hr rfl rfl)) ?_
    refine DRun.step rfl (fun τ hN hr => step_moveV rfl (rdN hN (hn rfl)) rfl (by exact rdS hr rfl rfl)) ?_
    refine DRun.step rfl (fun τ hN hr => step_moveV rfl (rdN hN (hn rfl)) rfl (by exact rdS hr rfl rfl)) ?_
    refine DRun.step rfl (fun τ hN hr => step_index_f rfl (rdN hN (hn rfl)) rfl ziSl62 (by exact rdS hr rfl rfl) (by exact rdS hr rfl rfl) (by omega) (by omega)) ?_
    refine DRun.step rfl (fun τ hN hr => step_field_f rfl (rdN hN (hn rfl)) rfl ziFo74_6 (by exact rdS hr rfl rfl)) ?_
    refine DRun.step rfl (fun τ hN hr => step_load_f rfl (rdN hN (hn rfl)) rfl ziSc9 (by exact rdS hr rfl rfl) (hn rfl) rfl) ?_
    refine DRun.step rfl (fun τ hN hr => call_stepZ rfl (rdN hN (hn rfl)) rfl ziCo124 (.cons (by exact rdS hr rfl rfl) (.one (.v _)) (.cons (by exact rdS hr rfl rfl) (.one (.v _)) (.nil))) (ih _ (by omega)) rfl (by exact rdNoRefs hr rfl rfl)) ?_
    refine DRun.step rfl (fun τ hN hr => call_stepZ rfl (rdN hN (hn rfl)) rfl ziCo104 (.cons (by exact rdS hr rfl rfl) (.one (.v _)) (.cons (by exact rdS hr rfl rfl) (.one (.v _)) (.nil))) (withIZ _ _ (by omega) (by omega)) rfl (by exact rdNoRefs hr rfl rfl)) ?_
    refine DRun.lastS rfl (step_assignV rfl (hn rfl) rfl rfl) ?_
    refine AWp.seq (AWp.region ?_)
    refine ARun.step rfl (step_moveV rfl (hn rfl) rfl rfl) ?_
    refine ARun.step rfl (step_moveV rfl (hn rfl) rfl rfl) ?_
    refine ARun.step rfl (step_moveV rfl (hn rfl) rfl rfl) ?_
    refine ARun.step rfl (step_moveV rfl (hn rfl) rfl rfl) ?_
    refine ARun.step rfl (step_index_f rfl (hn rfl) rfl ziSl62 rfl rfl (by omega) (by omega)) ?_
    refine ARun.step rfl (step_field_f rfl (hn rfl) rfl ziFo74_7 rfl) ?_
    refine ARun.step rfl (step_load_f rfl (hn rfl) rfl ziSc9 rfl (hn rfl) rfl) ?_
    refine ARun.step rfl (call_stepZ rfl (hn rfl) rfl ziCo124 (.cons rfl (.one (.v _)) (.cons rfl (.one (.v _)) (.nil))) (ih _ (by omega)) rfl rfl) ?_
    refine ARun.step rfl (call_stepZ rfl (hn rfl) rfl ziCo104 (.cons rfl (.one (.v _)) (.cons rfl (.one (.v _)) (.nil))) (withIZ _ _ (by omega) (by omega)) rfl rfl) ?_
    refine ARun.step rfl (step_assignV rfl (hn rfl) rfl rfl) ?_
    refine ARun.nil ?_
    refine AWp.ret ?_
    refine RetIs.frz (.inr rfl) rfl ?_
    rw [slotsG, if_neg (by omega)]
    rfl
theorem slotsI1 (l : List Ph) (h : recOk l = true) : ∀ (n : Nat) (s : Str), n ≤ 13 → rank l s < n → ASpec Try.prog 124 [.one (phs 74 l), .one (.str s)] (.one (.fz (strs (slotsG l n s))))
  | 0, s, _, hr => by omega
  | n + 1, s, hn, hr => slotsI0 l n s h (by omega) hr (fun s hs => slotsI1 l h n s (by omega) hs)
theorem slotsI (l : List Ph) (s : Str)  : ASpec Try.prog 67 [.one (phs 74 l), .one (.str s)] (.one (.fz (strs (slotsB l s)))) := by
  refine ASpec.body Try.func67 rfl [4] rfl 11 rfl rfl rfl ?_
  refine AWp.seq (AWp.region ?_)
  refine ARun.step rfl (step_assignV rfl (hn rfl) rfl rfl) ?_
  refine ARun.nil ?_
  refine AWp.seq ?_
  refine AWp.seq (AWp.region ?_)
  refine ARun.step rfl (step_moveV rfl (hn rfl) rfl rfl) ?_
  refine ARun.step rfl (call_step1 rfl (hn rfl) rfl ziCo113 (.cons rfl (.one (.v _)) (.nil)) (recOkI _) rfl) ?_
  refine ARun.step rfl (step_not rfl (hn rfl) rfl rfl) ?_
  refine ARun.nil ?_
  refine AWp.cond rfl (fun c1 => ?_) (fun c1 => ?_)
  · try simp only [nrm] at c1
    refine AWp.seq (AWp.region ?_)
    refine ARun.step rfl (step_assignV rfl (hn rfl) rfl rfl) ?_
    refine ARun.nil ?_
    refine AWp.le (Le.nilV 4 9 1 (fun i => [.str (nth [] i)]) rfl) ?_
    refine AWp.ret ?_
    refine RetIs.frz (.inr rfl) rfl ?_
    rw [slotsB, if_neg (by simp [c1])]
    rfl
  · try simp only [nrm] at c1
    have hl13 := recOk_len c1
    refine AWp.skip ?_
    refine AWp.seq (AWp.region ?_)
    refine ARun.step rfl (step_moveV rfl (hn rfl) rfl rfl) ?_
    refine ARun.step rfl (step_moveV rfl (hn rfl) rfl rfl) ?_
    refine ARun.step rfl (call_stepZ rfl (hn rfl) rfl ziCo124 (.cons rfl (.one (.v _)) (.cons rfl (.one (.v _)) (.nil))) (slotsI1 l c1 (l.length + 1) s (by omega) (rank_le l s)) rfl rfl) ?_
    refine ARun.step rfl (step_assignV rfl (hn rfl) rfl rfl) ?_
    refine ARun.nil ?_
    refine AWp.ret ?_
    refine RetIs.frz (.inr rfl) rfl ?_
    rw [slotsB, if_pos c1]
    rfl
theorem recBoundI (l : List Ph) (s : Str)  : ASpec Try.prog 63 [.one (phs 74 l), .one (.str s)] (.one (.int .i64 (if recOk l = true then bnd l s else 0))) := by
  refine ASpec.body Try.func63 rfl [4] rfl 11 rfl rfl rfl ?_
  refine AWp.seq (AWp.region ?_)
  refine ARun.step rfl (step_assignV rfl (hn rfl) rfl rfl) ?_
  refine ARun.nil ?_
  refine AWp.seq ?_
  refine AWp.seq (AWp.region ?_)
  refine ARun.step rfl (step_moveV rfl (hn rfl) rfl rfl) ?_
  refine ARun.step rfl (call_step1 rfl (hn rfl) rfl ziCo113 (.cons rfl (.one (.v _)) (.nil)) (recOkI _) rfl) ?_
  refine ARun.step rfl (step_not rfl (hn rfl) rfl rfl) ?_
  refine ARun.nil ?_
  refine AWp.cond rfl (fun c1 => ?_) (fun c1 => ?_)
  · try simp only [nrm] at c1
    refine AWp.seq (AWp.region ?_)
    refine ARun.step rfl (step_assignV rfl (hn rfl) rfl rfl) ?_
    refine ARun.nil ?_
    refine AWp.ret ?_
    refine RetIs.sc (.inr rfl) rfl rfl ?_
    refine congrArg (T.int _) ?_
    rw [if_neg (by simp [c1])]
  · try simp only [nrm] at c1
    refine AWp.skip ?_
    refine AWp.seq (AWp.region ?_)
    refine ARun.step rfl (step_moveV rfl (hn rfl) rfl rfl) ?_
    refine ARun.step rfl (step_moveV rfl (hn rfl) rfl rfl) ?_
    refine ARun.step rfl (call_step1 rfl (hn rfl) rfl ziCo121 (.cons rfl (.one (.v _)) (.cons rfl (.one (.v _)) (.nil))) (bndI l c1 s) rfl) ?_
    refine ARun.step rfl (step_assignV rfl (hn rfl) rfl rfl) ?_
    refine ARun.nil ?_
    refine AWp.ret ?_
    refine RetIs.sc (.inr rfl) rfl rfl ?_
    refine congrArg (T.int _) ?_
    rw [if_pos c1]
theorem wrTexts (a b : List Str)  : ASpec Try.prog 59 [.one (strs a), .one (strs b)] (.one (.bool (eqL strEq a b))) := by
  refine ASpec.body Try.func59 rfl [4] rfl 26 rfl rfl rfl ?_
  refine AWp.lenLe 0 rfl (fun hl => ?_)
  refine AWp.seq (AWp.region ?_)
  refine ARun.step rfl (step_assignV rfl (hn rfl) rfl rfl) ?_
  refine ARun.nil ?_
  refine AWp.seq ?_
  refine AWp.seq (AWp.region ?_)
  refine ARun.step rfl (step_moveV rfl (hn rfl) rfl rfl) ?_
  refine ARun.step rfl (step_len_f rfl (hn rfl) rfl ziSl22 rfl) ?_
  refine ARun.step rfl (step_moveV rfl (hn rfl) rfl rfl) ?_
  refine ARun.step rfl (step_len_f rfl (hn rfl) rfl ziSl22 rfl) ?_
  refine ARun.step rfl (step_neq rfl (hn rfl) rfl rfl rfl) ?_
  refine ARun.nil ?_
  refine AWp.cond rfl (fun c1 => ?_) (fun c1 => ?_)
  · try simp only [nrm] at c1
    refine AWp.seq (AWp.region ?_)
    refine ARun.step rfl (step_assignV rfl (hn rfl) rfl rfl) ?_
    refine ARun.nil ?_
    refine AWp.ret ?_
    refine RetIs.sc (.inr rfl) rfl rfl ?_
    refine congrArg T.bool ?_
    rw [eqL, show (a.length == b.length) = false by simp; omega, Bool.false_and]
  · try simp only [nrm] at c1
    refine AWp.skip ?_
    refine AWp.seq ?_
    refine AWp.seq (AWp.region ?_)
    refine ARun.step rfl (step_assignV rfl (hn rfl) rfl rfl) ?_
    refine ARun.nil ?_
    refine AWp.block ?_
    refine AWp.loopM (fun i : Nat => mkAS 26 [(0, ⟨true, .one (.v (strs a))⟩), (1, ⟨true, .one (.v (strs b))⟩), (5, ⟨true, .one (.v (.int .i64 (i : Nat)))⟩)] [] []) (fun i => i ≤ a.length ∧ ∀ j, j < i → strEq (nth a j) (nth b j) = true) (fun i => a.length - i) 0 ?_ (Le.forgetR rfl ⟨rfl, rfl, rfl, trivial⟩ trivial trivial) ?_
    · try dsimp only
      exact ⟨by omega, by omega⟩
    rintro i ⟨hi, hall⟩
    refine AWp.seq ?_
    refine AWp.seq (AWp.region ?_)
    refine ARun.step rfl (step_moveV rfl (hn rfl) rfl rfl) ?_
    refine ARun.step rfl (step_moveV rfl (hn rfl) rfl rfl) ?_
    refine ARun.step rfl (step_len_f rfl (hn rfl) rfl ziSl22 rfl) ?_
    refine ARun.step rfl (step_lss rfl (hn rfl) rfl rfl rfl) ?_
    refine ARun.nil ?_
    refine AWp.cond rfl (fun c2 => ?_) (fun c2 => ?_)
    · try simp only [nrm] at c2
      refine AWp.skip ?_
      refine AWp.seq ?_
      refine AWp.block ?_
      refine AWp.seq (AWp.draw [⟨[.s 0], [.s 17], false⟩, ⟨[.s 5], [.s 18], false⟩, ⟨[.s 17, .s 18], [.s 19], false⟩, ⟨[.s 19], [.s 20], false⟩, ⟨[.s 1], [.s 21], false⟩, ⟨[.s 5], [.s 22], false⟩, ⟨[.s 21, .s 22], [.s 23], false⟩, ⟨[.s 23], [.s 24], false⟩, ⟨[.s 20, .s 24], [.s 25], false⟩] ziMo rfl ?_)
      refine DRun.step rfl (fun τ hN hr => step_moveV rfl (rdN hN (hn rfl)) rfl (by exact rdS hr rfl rfl)) ?_
      refine DRun.step rfl (fun τ hN hr => step_moveV rfl (rdN hN (hn rfl)) rfl (by exact rdS hr rfl rfl)) ?_
      refine DRun.step rfl (fun τ hN hr => step_index_fN rfl (rdN hN (hn rfl)) rfl ziSl22 (by exact rdS hr rfl rfl) (by exact rdS hr rfl rfl) (by omega)) ?_
      refine DRun.step rfl (fun τ hN hr => step_load_f rfl (rdN hN (hn rfl)) rfl ziSc9 (by exact rdS hr rfl rfl) (hn rfl) rfl) ?_
      refine DRun.step rfl (fun τ hN hr => step_moveV rfl (rdN hN (hn rfl)) rfl (by exact rdS hr rfl rfl)) ?_
      refine DRun.step rfl (fun τ hN hr => step_moveV rfl (rdN hN (hn rfl)) rfl (by exact rdS hr rfl rfl)) ?_
      refine DRun.step rfl (fun τ hN hr => step_index_fN rfl (rdN hN (hn rfl)) rfl ziSl22 (by exact rdS hr rfl rfl) (by exact rdS hr rfl rfl) (by omega)) ?_
      refine DRun.step rfl (fun τ hN hr => step_load_f rfl (rdN hN (hn rfl)) rfl ziSc9 (by exact rdS hr rfl rfl) (hn rfl) rfl) ?_
      refine DRun.step rfl (fun τ hN hr => step_sneq rfl (rdN hN (hn rfl)) rfl (by exact rdS hr rfl rfl) (by exact rdS hr rfl rfl)) ?_
      refine DRun.nil ?_
      refine AWp.cond rfl (fun c3 => ?_) (fun c3 => ?_)
      · try simp only [nrm] at c3
        refine AWp.seq (AWp.region ?_)
        refine ARun.step rfl (step_assignV rfl (hn rfl) rfl rfl) ?_
        refine ARun.nil ?_
        refine AWp.ret ?_
        refine RetIs.sc (.inr rfl) rfl rfl ?_
        refine congrArg T.bool ?_
        rw [eqL, all_not (i := i) (by omega) (by assumption), Bool.and_false]
      · try simp only [nrm] at c3
        refine AWp.skip ?_
        refine AWp.region ?_
        refine ARun.step rfl (step_moveV rfl (hn rfl) rfl rfl) ?_
        refine ARun.step rfl (step_addI rfl (hn rfl) rfl rfl rfl (by omega) (by omega)) ?_
        refine ARun.step rfl (step_assignV rfl (hn rfl) rfl rfl) ?_
        refine ARun.nil ?_
        refine ⟨i + 1, ?_, ?_, Le.forgetR rfl ⟨rfl, rfl, rfl, trivial⟩ trivial trivial⟩
        · try dsimp only
          exact ⟨by omega, upto hall (by assumption)⟩
        · try dsimp only
          omega
    · try simp only [nrm] at c2
      refine AWp.exit ?_
      refine AWp.seq (AWp.region ?_)
      refine ARun.step rfl (step_assignV rfl (hn rfl) rfl rfl) ?_
      refine ARun.nil ?_
      refine AWp.ret ?_
      refine RetIs.sc (.inr rfl) rfl rfl ?_
      refine congrArg T.bool ?_
      rw [eqL, all_of (fun j hj => hall j (by omega)), show (a.length == b.length) = true by simp; omega, Bool.and_true]
theorem wrHas (a : List Str) (s : Str)  : ASpec Try.prog 123 [.one (strs a), .one (.str s)] (.one (.bool (hasB a s))) := by
  refine ASpec.body Try.func123 rfl [4] rfl 18 rfl rfl rfl ?_
  refine AWp.lenLe 0 rfl (fun hl => ?_)
  refine AWp.seq (AWp.region ?_)
  refine ARun.step rfl (step_assignV rfl (hn rfl) rfl rfl) ?_
  refine ARun.nil ?_
  refine AWp.seq ?_
  refine AWp.seq (AWp.region ?_)
  refine ARun.step rfl (step_assignV rfl (hn rfl) rfl rfl) ?_
  refine ARun.nil ?_
  refine AWp.block ?_
  refine AWp.loopM (fun i : Nat => mkAS 18 [(0, ⟨true, .one (.v (strs a))⟩), (1, ⟨true, .one (.v (.str s))⟩), (5, ⟨true, .one (.v (.int .i64 (i : Nat)))⟩)] [] []) (fun i => i ≤ a.length ∧ ∀ j, j < i → strEq (nth a j) s = false) (fun i => a.length - i) 0 ?_ (Le.forgetR rfl ⟨rfl, rfl, rfl, trivial⟩ trivial trivial) ?_
  · try dsimp only
    exact ⟨by omega, by omega⟩
  rintro i ⟨hi, hall⟩
  refine AWp.seq ?_
  refine AWp.seq (AWp.region ?_)
  refine ARun.step rfl (step_moveV rfl (hn rfl) rfl rfl) ?_
  refine ARun.step rfl (step_moveV rfl (hn rfl) rfl rfl) ?_
  refine ARun.step rfl (step_len_f rfl (hn rfl) rfl ziSl22 rfl) ?_
  refine ARun.step rfl (step_lss rfl (hn rfl) rfl rfl rfl) ?_
  refine ARun.nil ?_
  refine AWp.cond rfl (fun c1 => ?_) (fun c1 => ?_)
  · try simp only [nrm] at c1
    refine AWp.skip ?_
    refine AWp.seq ?_
    refine AWp.block ?_
    refine AWp.seq (AWp.region ?_)
    refine ARun.step rfl (step_moveV rfl (hn rfl) rfl rfl) ?_
    refine ARun.step rfl (step_moveV rfl (hn rfl) rfl rfl) ?_
    refine ARun.step rfl (step_index_fN rfl (hn rfl) rfl ziSl22 rfl rfl (by omega)) ?_
    refine ARun.step rfl (step_load_f rfl (hn rfl) rfl ziSc9 rfl (hn rfl) rfl) ?_
    refine ARun.step rfl (step_moveV rfl (hn rfl) rfl rfl) ?_
    refine ARun.step rfl (step_seql rfl (hn rfl) rfl rfl rfl) ?_
    refine ARun.nil ?_
    refine AWp.cond rfl (fun c2 => ?_) (fun c2 => ?_)
    · try simp only [nrm] at c2
      refine AWp.seq (AWp.region ?_)
      refine ARun.step rfl (step_assignV rfl (hn rfl) rfl rfl) ?_
      refine ARun.nil ?_
      refine AWp.ret ?_
      refine RetIs.sc (.inr rfl) rfl rfl ?_
      refine congrArg T.bool ?_
      rw [hasB, any_of (i := i) (by omega) (by assumption)]
    · try simp only [nrm] at c2
      refine AWp.skip ?_
      refine AWp.region ?_
      refine ARun.step rfl (step_moveV rfl (hn rfl) rfl rfl) ?_
      refine ARun.step rfl (step_addI rfl (hn rfl) rfl rfl rfl (by omega) (by omega)) ?_
      refine ARun.step rfl (step_assignV rfl (hn rfl) rfl rfl) ?_
      refine ARun.nil ?_
      refine ⟨i + 1, ?_, ?_, Le.forgetR rfl ⟨rfl, rfl, rfl, trivial⟩ trivial trivial⟩
      · try dsimp only
        exact ⟨by omega, upto hall (by assumption)⟩
      · try dsimp only
        omega
  · try simp only [nrm] at c1
    refine AWp.exit ?_
    refine AWp.seq (AWp.region ?_)
    refine ARun.step rfl (step_assignV rfl (hn rfl) rfl rfl) ?_
    refine ARun.nil ?_
    refine AWp.ret ?_
    refine RetIs.sc (.inr rfl) rfl rfl ?_
    refine congrArg T.bool ?_
    rw [hasB, any_not (fun j hj => hall j (by omega))]
theorem wrAll (a b : List Str)  : ASpec Try.prog 66 [.one (strs a), .one (strs b)] (.one (.bool (withinB a b))) := by
  refine ASpec.body Try.func66 rfl [4] rfl 19 rfl rfl rfl ?_
  refine AWp.lenLe 0 rfl (fun hl => ?_)
  refine AWp.seq (AWp.region ?_)
  refine ARun.step rfl (step_assignV rfl (hn rfl) rfl rfl) ?_
  refine ARun.nil ?_
  refine AWp.seq ?_
  refine AWp.seq (AWp.region ?_)
  refine ARun.step rfl (step_assignV rfl (hn rfl) rfl rfl) ?_
  refine ARun.nil ?_
  refine AWp.block ?_
  refine AWp.loopM (fun i : Nat => mkAS 19 [(0, ⟨true, .one (.v (strs a))⟩), (1, ⟨true, .one (.v (strs b))⟩), (5, ⟨true, .one (.v (.int .i64 (i : Nat)))⟩)] [] []) (fun i => i ≤ a.length ∧ ∀ j, j < i → hasB b (nth a j) = true) (fun i => a.length - i) 0 ?_ (Le.forgetR rfl ⟨rfl, rfl, rfl, trivial⟩ trivial trivial) ?_
  · try dsimp only
    exact ⟨by omega, by omega⟩
  rintro i ⟨hi, hall⟩
  refine AWp.seq ?_
  refine AWp.seq (AWp.region ?_)
  refine ARun.step rfl (step_moveV rfl (hn rfl) rfl rfl) ?_
  refine ARun.step rfl (step_moveV rfl (hn rfl) rfl rfl) ?_
  refine ARun.step rfl (step_len_f rfl (hn rfl) rfl ziSl22 rfl) ?_
  refine ARun.step rfl (step_lss rfl (hn rfl) rfl rfl rfl) ?_
  refine ARun.nil ?_
  refine AWp.cond rfl (fun c1 => ?_) (fun c1 => ?_)
  · try simp only [nrm] at c1
    refine AWp.skip ?_
    refine AWp.seq ?_
    refine AWp.block ?_
    refine AWp.seq (AWp.region ?_)
    refine ARun.step rfl (step_moveV rfl (hn rfl) rfl rfl) ?_
    refine ARun.step rfl (step_moveV rfl (hn rfl) rfl rfl) ?_
    refine ARun.step rfl (step_moveV rfl (hn rfl) rfl rfl) ?_
    refine ARun.step rfl (step_index_fN rfl (hn rfl) rfl ziSl22 rfl rfl (by omega)) ?_
    refine ARun.step rfl (step_load_f rfl (hn rfl) rfl ziSc9 rfl (hn rfl) rfl) ?_
    refine ARun.step rfl (call_step1 rfl (hn rfl) rfl ziCo123 (.cons rfl (.one (.v _)) (.cons rfl (.one (.v _)) (.nil))) (wrHas _ _) rfl) ?_
    refine ARun.step rfl (step_not rfl (hn rfl) rfl rfl) ?_
    refine ARun.nil ?_
    refine AWp.cond rfl (fun c2 => ?_) (fun c2 => ?_)
    · try simp only [nrm] at c2
      refine AWp.seq (AWp.region ?_)
      refine ARun.step rfl (step_assignV rfl (hn rfl) rfl rfl) ?_
      refine ARun.nil ?_
      refine AWp.ret ?_
      refine RetIs.sc (.inr rfl) rfl rfl ?_
      refine congrArg T.bool ?_
      rw [withinB, all_not (i := i) (by omega) (by assumption)]
    · try simp only [nrm] at c2
      refine AWp.skip ?_
      refine AWp.region ?_
      refine ARun.step rfl (step_moveV rfl (hn rfl) rfl rfl) ?_
      refine ARun.step rfl (step_addI rfl (hn rfl) rfl rfl rfl (by omega) (by omega)) ?_
      refine ARun.step rfl (step_assignV rfl (hn rfl) rfl rfl) ?_
      refine ARun.nil ?_
      refine ⟨i + 1, ?_, ?_, Le.forgetR rfl ⟨rfl, rfl, rfl, trivial⟩ trivial trivial⟩
      · try dsimp only
        exact ⟨by omega, upto hall (by assumption)⟩
      · try dsimp only
        omega
  · try simp only [nrm] at c1
    refine AWp.exit ?_
    refine AWp.seq (AWp.region ?_)
    refine ARun.step rfl (step_assignV rfl (hn rfl) rfl rfl) ?_
    refine ARun.nil ?_
    refine AWp.ret ?_
    refine RetIs.sc (.inr rfl) rfl rfl ?_
    refine congrArg T.bool ?_
    rw [withinB, all_of (fun j hj => hall j (by omega))]
theorem l45Say (b : List UInt8) (p : Nat) (hb : b.length ≤ 2000) (hp : p ≤ 800000000) : ∃ (q : Nat) (y : Say), (p ≤ q ∧ q ≤ p + 5) ∧ LSpec Try.prog 112 138 (rdR 5 b p) (rdR 5 b q) [] (.agg y.cells) := by
  suffices key : ∃ i : Nat × Say, (p ≤ i.1 ∧ i.1 ≤ p + 5) ∧ LSpec Try.prog 112 138 (rdR 5 b p) (rdR 5 b i.1) [] (.agg i.2.cells) from (by obtain ⟨i, g, h⟩ := key; exact ⟨i.1, i.2, g, h⟩)
  refine LSpec.exC Try.func112 rfl 2 78 [] rfl rfl 20 rfl rfl rfl rfl (fun i : Nat × Say => rdR 5 b i.1) (fun i : Nat × Say => (.agg i.2.cells)) (fun i : Nat × Say => p ≤ i.1 ∧ i.1 ≤ p + 5) (fun i => rfl) (fun i => rfl) ?_
  apply E.reg
  · intro Q hQ
    refine AWp.seq (AWp.region ?_)
    refine ARun.step rfl (step_alloc_p rfl (hn rfl) rfl ziZs78) ?_
    refine ARun.nil ?_
    exact hQ.out
  obtain ⟨_, k1, ⟨rfl, hk1⟩, hl1⟩ := l41pick b (p) (24) (by first | assumption | omega | decide | (simp only [List.length_append, List.length_cons, List.length_nil, List.length_take, List.length_drop]; omega)) (by first | assumption | omega | decide | (simp only [List.length_append, List.length_cons, List.length_nil, List.length_take, List.length_drop]; omega)) (by first | assumption | omega | decide | (simp only [List.length_append, List.length_cons, List.length_nil, List.length_take, List.length_drop]; omega)) (by first | assumption | omega | decide | (simp only [List.length_append, List.length_cons, List.length_nil, List.length_take, List.length_drop]; omega))
  obtain ⟨_, k2, ⟨rfl, hk2⟩, hl2⟩ := l41pick b (p + 1) (3) (by first | assumption | omega | decide | (simp only [List.length_append, List.length_cons, List.length_nil, List.length_take, List.length_drop]; omega)) (by first | assumption | omega | decide | (simp only [List.length_append, List.length_cons, List.length_nil, List.length_take, List.length_drop]; omega)) (by first | assumption | omega | decide | (simp only [List.length_append, List.length_cons, List.length_nil, List.length_take, List.length_drop]; omega)) (by first | assumption | omega | decide | (simp only [List.length_append, List.length_cons, List.length_nil, List.length_take, List.length_drop]; omega))
  apply E.reg
  · intro Q hQ
    refine AWp.seq (AWp.region ?_)
    refine ARun.step rfl (step_moveV rfl (hn rfl) rfl rfl) ?_
    refine ARun.step rfl (call_stepLZ rfl (hn rfl) rfl ziCo111 rfl rfl rfl rfl (.cons rfl (.one (.v _)) (.nil)) hl1 rfl rfl) ?_
    refine ARun.step rfl (step_moveV rfl (hn rfl) rfl rfl) ?_
    refine ARun.step rfl (call_stepLZ rfl (hn rfl) rfl ziCo111 rfl rfl rfl rfl (.cons rfl (.one (.v _)) (.nil)) hl2 rfl rfl) ?_
    refine ARun.step rfl (step_gtr rfl (hn rfl) rfl rfl rfl) ?_
    refine ARun.step rfl (step_build rfl (hn rfl) rfl ziPl78 ziZc78 (.cons rfl rfl rfl rfl (.cons rfl rfl rfl rfl (.nil))) rfl) ?_
    refine ARun.step rfl (step_alloc_p rfl (hn rfl) rfl ziZs78) ?_
    refine ARun.step rfl (step_store_p (bs := [_, _]) rfl rfl ziCs78 rfl rfl rfl rfl rfl rfl rfl) ?_
    refine ARun.nil ?_
    exact hQ.out
  refine E.mono (fun Q h => AWp.seq h) ?_
  obtain ⟨_, k3, ⟨rfl, hk3⟩, hl3⟩ := l41pick b (p + 1 + 1) (24) (by first | assumption | omega | decide | (simp only [List.length_append, List.length_cons, List.length_nil, List.length_take, List.length_drop]; omega)) (by first | assumption | omega | decide | (simp only [List.length_append, List.length_cons, List.length_nil, List.length_take, List.length_drop]; omega)) (by first | assumption | omega | decide | (simp only [List.length_append, List.length_cons, List.length_nil, List.length_take, List.length_drop]; omega)) (by first | assumption | omega | decide | (simp only [List.length_append, List.length_cons, List.length_nil, List.length_take, List.length_drop]; omega))
  apply E.reg
  · intro Q hQ
    refine AWp.seq (AWp.region ?_)
    refine ARun.step rfl (step_moveV rfl (hn rfl) rfl rfl) ?_
    refine ARun.step rfl (call_stepLZ rfl (hn rfl) rfl ziCo111 rfl rfl rfl rfl (.cons rfl (.one (.v _)) (.nil)) hl3 rfl rfl) ?_
    refine ARun.step rfl (step_eql rfl (hn rfl) rfl rfl rfl) ?_
    refine ARun.nil ?_
    exact hQ.out
  refine E.cond rfl (fun c1 => ?_) (fun c1 => ?_)
  · try simp only [nrm] at c1
    obtain ⟨_, k4, ⟨rfl, hk4⟩, hl4⟩ := l41pick b (p + 1 + 1 + 1) (4) (by first | assumption | omega | decide | (simp only [List.length_append, List.length_cons, List.length_nil, List.length_take, List.length_drop]; omega)) (by first | assumption | omega | decide | (simp only [List.length_append, List.length_cons, List.length_nil, List.length_take, List.length_drop]; omega)) (by first | assumption | omega | decide | (simp only [List.length_append, List.length_cons, List.length_nil, List.length_take, List.length_drop]; omega)) (by first | assumption | omega | decide | (simp only [List.length_append, List.length_cons, List.length_nil, List.length_take, List.length_drop]; omega))
    apply E.reg
    · intro Q hQ
      refine AWp.region ?_
      refine ARun.step rfl (step_buildVT rfl (hn rfl) rfl ziSl140 (ints 3 [-1, -9223372036854775808, 9223372036854775807, 0]) (.cons rfl rfl rfl rfl (.cons rfl rfl rfl rfl (.cons rfl rfl rfl rfl (.cons rfl rfl rfl rfl (.nil _))))) rfl rfl rfl (rowsE ⟨rfl, rfl, rfl, rfl, trivial⟩)) ?_
      refine ARun.step rfl (step_moveV rfl (hn rfl) rfl rfl) ?_
      refine ARun.step rfl (call_stepLZ rfl (hn rfl) rfl ziCo111 rfl rfl rfl rfl (.cons rfl (.one (.v _)) (.nil)) hl4 rfl rfl) ?_
      refine ARun.step rfl (step_index_fN rfl (hn rfl) rfl ziSl140 rfl rfl (by first | omega | (simp only [List.length_cons, List.length_nil]; omega))) ?_
      refine ARun.step rfl (step_load_f rfl (hn rfl) rfl ziSc3 rfl (hn rfl) rfl) ?_
      refine ARun.step rfl (step_field_b rfl (hn rfl) rfl ziFo78_0 rfl (by exact List.cons_ne_nil _ _)) ?_
      refine ARun.step rfl (step_store_p (bs := [_, _]) rfl rfl ziCs3 rfl rfl rfl rfl rfl rfl rfl) ?_
      refine ARun.nil ?_
      exact hQ.out
    apply E.reg
    · intro Q hQ
      refine AWp.seq (AWp.region ?_)
      refine ARun.step rfl (step_loadS_b rfl (hn rfl) rfl ziSt78 rfl rfl rfl (by decide)) ?_
      refine ARun.step rfl (step_store_p (bs := [_, _]) rfl rfl ziCs78 rfl rfl rfl rfl rfl rfl rfl) ?_
      refine ARun.nil ?_
      exact hQ.out
    refine E.mono (fun Q h => AWp.ret h) ?_
    apply E.ret (i := (_, Say.mk _ _))
    · refine ⟨.inr rfl, ⟨2, 2, _, _, _, ziSt78, by decide, rfl, rfl, rfl, rfl, (.cons rfl (.agg (.cons (.sc _ _ rfl) (.cons (.sc _ _ rfl) (.nil _)))) (.nil _)), rfl, ?_⟩, (.refl _)⟩
      refine congrArg PV.agg ?_
      dsimp only [Say.cells]
      all_goals rfl
    · try dsimp only
      all_goals (exact ⟨by omega, by omega⟩)
  · try simp only [nrm] at c1
    refine E.mono (fun Q h => AWp.skip h) ?_
    apply E.reg
    · intro Q hQ
      refine AWp.seq (AWp.region ?_)
      refine ARun.step rfl (step_loadS_b rfl (hn rfl) rfl ziSt78 rfl rfl rfl (by decide)) ?_
      refine ARun.step rfl (step_store_p (bs := [_, _]) rfl rfl ziCs78 rfl rfl rfl rfl rfl rfl rfl) ?_
      refine ARun.nil ?_
      exact hQ.out
    refine E.mono (fun Q h => AWp.ret h) ?_
    apply E.ret (i := (_, Say.mk _ _))
    · refine ⟨.inr rfl, ⟨2, 2, _, _, _, ziSt78, by decide, rfl, rfl, rfl, rfl, (.cons rfl (.agg (.cons (.sc _ _ rfl) (.cons (.sc _ _ rfl) (.nil _)))) (.nil _)), rfl, ?_⟩, (.refl _)⟩
      refine congrArg PV.agg ?_
      dsimp only [Say.cells]
      all_goals rfl
    · try dsimp only
      all_goals (exact ⟨by omega, by omega⟩)
theorem drawRecRun (b : List UInt8) (h0 : b.length ≤ 2097152) : ∃ (x : List Ph) (y : List Say), (x.length ≤ 13 ∧ y.length ≤ 12) ∧ ASpec Try.prog 56 [.one (bytesT 5 b)] (.tup [.one (.fz (phs 74 x)), .one (.fz (says 78 y))]) := by
  suffices key : ∃ i : List Ph × List Say, (i.1.length ≤ 13 ∧ i.2.length ≤ 12) ∧ ASpec Try.prog 56 [.one (bytesT 5 b)] (.tup [.one (.fz (phs 74 i.1)), .one (.fz (says 78 i.2))]) from (by obtain ⟨i, g, h⟩ := key; exact ⟨i.1, i.2, g, h⟩)
  refine ASpec.ex Try.func56 rfl [2, 3] rfl 26 rfl rfl rfl (fun i : List Ph × List Say => (.tup [.one (.fz (phs 74 i.1)), .one (.fz (says 78 i.2))])) (fun i : List Ph × List Say => i.1.length ≤ 13 ∧ i.2.length ≤ 12) ?_
  have hb : (b.take 2000).length ≤ 2000 := by rw [List.length_take]; omega
  apply E.reg
  · intro Q hQ
    refine AWp.seq (AWp.region ?_)
    refine ARun.step rfl (step_assignV rfl (hn rfl) rfl rfl) ?_
    refine ARun.step rfl (step_assignV rfl (hn rfl) rfl rfl) ?_
    refine ARun.nil ?_
    exact hQ.out
  apply E.reg
  · intro Q hQ
    refine AWp.seq (AWp.region ?_)
    refine ARun.step rfl (step_moveV rfl (hn rfl) rfl rfl) ?_
    refine ARun.step rfl (call_open rfl (hn rfl) rfl ziCo109 (.cons rfl (.one (.v _)) (.nil)) (l41Open _ (by assumption)) rfl) ?_
    refine ARun.step rfl (step_assignV rfl (hn rfl) rfl rfl) ?_
    refine ARun.nil ?_
    exact hQ.out
  obtain ⟨q1, x1, ⟨hqa1, hqb1, hxb1⟩, hl1⟩ := l45Any (b.take 2000) (0)  (by first | assumption | omega | decide | (simp only [List.length_append, List.length_cons, List.length_nil, List.length_take, List.length_drop]; omega)) (by first | assumption | omega | decide | (simp only [List.length_append, List.length_cons, List.length_nil, List.length_take, List.length_drop]; omega))
  apply E.reg
  · intro Q hQ
    refine AWp.seq (AWp.region ?_)
    refine ARun.step rfl (step_moveV rfl (hn rfl) rfl rfl) ?_
    refine ARun.step rfl (call_stepLZ rfl (hn rfl) rfl ziCo110 rfl rfl rfl rfl (.nil) hl1 rfl rfl) ?_
    refine ARun.step rfl (step_assignV rfl (hn rfl) rfl rfl) ?_
    refine ARun.nil ?_
    exact hQ.out
  apply E.reg
  · intro Q hQ
    refine AWp.seq (AWp.region ?_)
    refine ARun.step rfl (step_buildSlice rfl (hn rfl) (ps := []) rfl ziSl63 rfl rfl (by simp) (by intro q hq; cases hq) rfl) ?_
    refine ARun.step rfl (step_assignV rfl (hn rfl) rfl rfl) ?_
    refine ARun.nil ?_
    exact hQ.out
  refine E.mono (fun Q h => AWp.seq h) ?_
  obtain ⟨_, k2, ⟨rfl, hk2⟩, hl2⟩ := l41pick (b.take 2000) (q1) (12) (by first | assumption | omega | decide | (simp only [List.length_append, List.length_cons, List.length_nil, List.length_take, List.length_drop]; omega)) (by first | assumption | omega | decide | (simp only [List.length_append, List.length_cons, List.length_nil, List.length_take, List.length_drop]; omega)) (by first | assumption | omega | decide | (simp only [List.length_append, List.length_cons, List.length_nil, List.length_take, List.length_drop]; omega)) (by first | assumption | omega | decide | (simp only [List.length_append, List.length_cons, List.length_nil, List.length_take, List.length_drop]; omega))
  apply E.reg
  · intro Q hQ
    refine AWp.seq (AWp.region ?_)
    refine ARun.step rfl (step_moveV rfl (hn rfl) rfl rfl) ?_
    refine ARun.step rfl (call_stepLZ rfl (hn rfl) rfl ziCo111 rfl rfl rfl rfl (.cons rfl (.one (.v _)) (.nil)) hl2 rfl rfl) ?_
    refine ARun.step rfl (step_assignV rfl (hn rfl) rfl rfl) ?_
    refine ARun.nil ?_
    exact hQ.out
  refine E.mono (fun Q h => AWp.block h) ?_
  refine E.loop (fun x : Nat × List Say × Nat => mkAS 26 [(4, ⟨true, .one (.eptr ⟨.arr 9 0, []⟩ 0 0)⟩), (5, ⟨true, .one (.v (phs 74 x1))⟩), (6, ⟨true, .one (.ref ⟨.arr 12 0, []⟩)⟩), (7, ⟨true, .one (.v (.int .i64 (x.1 : Nat)))⟩)] [] [(9, 0, ptT 138 (rdR 5 (b.take 2000) x.2.2)), (12, 0, says 78 x.2.1)]) (fun x => x.2.1.length + x.1 ≤ 12 ∧ x.2.2 + 5 * x.1 ≤ 6000) (fun x => x.1) (k2, [], q1 + 1) ?_ (Le.forgetR rfl ⟨rfl, rfl, rfl, rfl, trivial⟩ trivial ⟨.refl _, (.rows (fun i hi => absurd hi (Nat.not_lt_zero _))), trivial⟩) ?_
  · try dsimp only
    exact ⟨by simp only [List.length_nil]; omega, by omega⟩
  rintro x ⟨hi, hpp⟩ ih1
  refine E.mono (fun Q h => AWp.seq h) ?_
  apply E.reg
  · intro Q hQ
    refine AWp.seq (AWp.region ?_)
    refine ARun.step rfl (step_moveV rfl (hn rfl) rfl rfl) ?_
    refine ARun.step rfl (step_gtr rfl (hn rfl) rfl rfl rfl) ?_
    refine ARun.nil ?_
    exact hQ.out
  refine E.cond rfl (fun c1 => ?_) (fun c1 => ?_)
  · try simp only [nrm] at c1
    refine E.mono (fun Q h => AWp.skip h) ?_
    refine E.mono (fun Q h => AWp.seq h) ?_
    refine E.mono (fun Q h => AWp.block h) ?_
    obtain ⟨q3, y3, ⟨hqa3, hqb3⟩, hl3⟩ := l45Say (b.take 2000) (x.2.2)  (by first | assumption | omega | decide | (simp only [List.length_append, List.length_cons, List.length_nil, List.length_take, List.length_drop]; omega)) (by first | assumption | omega | decide | (simp only [List.length_append, List.length_cons, List.length_nil, List.length_take, List.length_drop]; omega))
    apply E.reg
    · intro Q hQ
      refine AWp.region ?_
      refine ARun.step rfl (step_moveV rfl (hn rfl) rfl rfl) ?_
      refine ARun.step rfl (step_moveV rfl (hn rfl) rfl rfl) ?_
      refine ARun.step rfl (call_stepLZ rfl (hn rfl) rfl ziCo112 rfl rfl rfl rfl (.nil) hl3 rfl rfl) ?_
      refine ARun.step rfl (step_buildV rfl (hn rfl) rfl ziSl63 (.cons rfl rfl rfl rfl (.nil _)) rfl rfl) ?_
      refine ARun.step rfl (step_append rfl (hn rfl) rfl ziSl63 rfl rfl rfl (.v _) (flatRows_one rfl) (by first | omega | (simp only [List.length_cons, List.length_nil]; omega)) (by first | omega | (simp only [List.length_cons, List.length_nil]; omega))) ?_
      refine ARun.step rfl (step_assignV rfl (hn rfl) rfl rfl) ?_
      refine ARun.nil ?_
      exact hQ.out
    apply E.reg
    · intro Q hQ
      refine AWp.region ?_
      refine ARun.step rfl (step_moveV rfl (hn rfl) rfl rfl) ?_
      refine ARun.step rfl (step_decN rfl (hn rfl) rfl rfl rfl (by omega) (by omega)) ?_
      refine ARun.step rfl (step_assignV rfl (hn rfl) rfl rfl) ?_
      refine ARun.nil ?_
      exact hQ.out
    refine ih1 (x.1 - 1, x.2.1 ++ [y3], q3) _ ?_ ?_ (Le.forgetR rfl ⟨rfl, rfl, rfl, rfl, trivial⟩ trivial ⟨.refl _, (says_add rfl), trivial⟩)
    · try dsimp only
      simp only [List.length_append, List.length_cons, List.length_nil]; exact ⟨by omega, by omega⟩
    · try dsimp only
      omega
  · try simp only [nrm] at c1
    refine E.mono (fun Q h => AWp.exit h) ?_
    apply E.reg
    · intro Q hQ
      refine AWp.seq (AWp.region ?_)
      refine ARun.step rfl (step_moveV rfl (hn rfl) rfl rfl) ?_
      refine ARun.step rfl (step_moveV rfl (hn rfl) rfl rfl) ?_
      refine ARun.step rfl (step_assignV rfl (hn rfl) rfl rfl) ?_
      refine ARun.step rfl (step_assignV rfl (hn rfl) rfl rfl) ?_
      refine ARun.nil ?_
      exact hQ.out
    refine E.mono (fun Q h => AWp.le (Le.letGo 12 0 (g := _) rfl (fun _ _ => rfl)) h) ?_
    refine E.mono (fun Q h => AWp.ret h) ?_
    apply E.ret (i := (_, _))
    · refine ⟨.inr rfl, _, _, (.cons rfl (.one (.frz _ _ _ _ _)) (.cons rfl (.one (.frz _ _ _ _ _)) (.nil _))), rfl, ?_⟩
      rfl
    · try dsimp only
      all_goals (exact ⟨by omega, (show x.2.1.length ≤ 12 by omega)⟩)

end Go.Proofs.Ytkmacjdigkaabaa
