/- Contracts of functions of the program, each met by its body; conditions stand in each statement. No condition. -/
import Derived.Test.YtkmacjdigkaabaaGreatiWh2
import Derived.Test.YtkmacjdigkaabaaGreatHn
import Derived.Test.YtkmacjdigkaabaaGreatProg
import Derived.KernelRfl
set_option linter.unusedVariables false
set_option linter.unusedSimpArgs false
set_option linter.unnecessarySimpa false
set_option linter.unusedSimpArgs false
set_option maxRecDepth 100000
namespace Go.Proofs.YtkmacjdigkaabaaGreat
open Go Go.Mh

def dos (e : Nat) (l : List Do) : T := .sl e 3 l.length (fun i => (nth l i).zcells)
theorem dos_add {e : Nat} {l : List Do} {x : Do} {g : Nat → List T} (h : g 0 = x.zcells) : Eqv (.sl e 3 (l.length + 1) (catF l.length (fun i => (nth l i).zcells) g)) (dos e (l ++ [x])) := by
  unfold dos
  rw [List.length_append, List.length_cons, List.length_nil]
  refine .rows fun i hi => ?_
  simp only [catF]
  split
  · rename_i h1; rw [nth_append_left h1]
  · rename_i h1
    have : i = l.length := by omega
    subst this
    rw [nth_append_right (Nat.le_refl _), Nat.sub_self, h]; rfl
theorem memD_add {P : Do → Prop} {l : List Do} {x : Do} (h : ∀ b ∈ l, P b) (hx : P x) : ∀ b ∈ l ++ [x], P b := fun b hb => by
  rcases List.mem_append.1 hb with h1 | h1
  · exact h b h1
  · rw [List.mem_singleton.1 h1]; exact hx
def selGo (f : Str → Bool) (n : List Str) : Nat → List Str
  | 0 => []
  | i + 1 => if f (nth n i) = true then selGo f n i ++ [nth n i] else selGo f n i
theorem selGo_yes {f : Str → Bool} {n : List Str} {i : Nat} (h : f (nth n i) = true) : selGo f n i ++ [nth n i] = selGo f n (i + 1) := by simp only [selGo, if_pos h]
theorem selGo_no {f : Str → Bool} {n : List Str} {i : Nat} (h : f (nth n i) = false) : selGo f n i = selGo f n (i + 1) := by simp only [selGo, h]; rfl
theorem selGo_len (f : Str → Bool) (n : List Str) (i : Nat) : (selGo f n i).length ≤ i := by
  induction i with
  | zero => exact Nat.le_refl _
  | succ i ih =>
    simp only [selGo]; split
    · simp; omega
    · omega
theorem miss_yes {a : List Str} {f : Str → Bool} {n : List Str} {i : Nat} (h : f (nth n i) = true) : (a ++ selGo f n i) ++ [nth n i] = a ++ selGo f n (i + 1) := by rw [List.append_assoc, selGo_yes h]
theorem miss_no {a : List Str} {f : Str → Bool} {n : List Str} {i : Nat} (h : f (nth n i) = false) : a ++ selGo f n i = a ++ selGo f n (i + 1) := by rw [selGo_no h]
def notHas (y : Bt) (x : Str) : Bool := !hasB y.has x
def missGo (p : Bk) (s : Str) : Nat → List Str
  | 0 => []
  | i + 1 => missGo p s i ++ (if strEq (nth p.bs i).name s = true then selGo (notHas (nth p.bs i)) (nth p.bs i).needs (nth p.bs i).needs.length else [])
def missB (p : Bk) (s : Str) : List Str := missGo p s p.bs.length
theorem missGo_len {p : Bk} {s : Str} (h : bkLe p 5) : ∀ {i : Nat}, i ≤ p.bs.length → (missGo p s i).length ≤ 5 * i
  | 0, _ => Nat.le_refl _
  | i + 1, hi => by
    have ih := missGo_len (s := s) h (i := i) (by omega)
    have hn := (h.2.2 _ (nth_memA (show i < p.bs.length by omega))).2
    have hs := selGo_len (notHas (nth p.bs i)) (nth p.bs i).needs (nth p.bs i).needs.length
    simp only [missGo, List.length_append]
    split
    · omega
    · simp only [List.length_nil]; omega

theorem zgSl22 : sliceT Tryz.prog 22 = some ⟨9, 1, 16⟩ := by kernel_rfl
theorem zgFo34_1 : fieldOff Tryz.prog 34 1 = some 1 := by kernel_rfl
theorem zgSc32 : scalarB Tryz.prog 32 = true := by kernel_rfl
theorem zgSl32 : sliceT Tryz.prog 32 = some ⟨105, 3, 64⟩ := by kernel_rfl
theorem zgFo105_2 : fieldOff Tryz.prog 105 2 = some 2 := by kernel_rfl
theorem zgSc22 : scalarB Tryz.prog 22 = true := by kernel_rfl
theorem zgFo105_0 : fieldOff Tryz.prog 105 0 = some 0 := by kernel_rfl
theorem zgSc9 : scalarB Tryz.prog 9 = true := by kernel_rfl
theorem zgFo105_1 : fieldOff Tryz.prog 105 1 = some 1 := by kernel_rfl
theorem zgCo92 : callOk Tryz.prog 92 = true := by kernel_rfl
theorem zgMo : Tryz.prog.follows .mixedOrders = true := by kernel_rfl
theorem zgZs34 : zeroSz Tryz.prog 34 = some 2 := by kernel_rfl
theorem zgCo61 : callOk Tryz.prog 61 = true := by kernel_rfl
theorem zgCo62 : callOk Tryz.prog 62 = true := by kernel_rfl
theorem zgCs34 : cellsSz Tryz.prog 34 = some (1 + 1) := by kernel_rfl
theorem zgSt34 : structSz Tryz.prog 34 = some 2 := by kernel_rfl
theorem zgSl46 : sliceT Tryz.prog 46 = some ⟨50, 3, 48⟩ := by kernel_rfl
theorem zgCo63 : callOk Tryz.prog 63 = true := by kernel_rfl
theorem zgCo64 : callOk Tryz.prog 64 = true := by kernel_rfl
theorem zgZs50 : zeroSz Tryz.prog 50 = some 3 := by kernel_rfl
theorem zgCs50 : cellsSz Tryz.prog 50 = some (2 + 1) := by kernel_rfl
theorem zgSt50 : structSz Tryz.prog 50 = some 3 := by kernel_rfl
theorem zgCo65 : callOk Tryz.prog 65 = true := by kernel_rfl
theorem whMissing (p : Bk) (s : Str) (hp : bkLe p 5) : ASpec Tryz.prog 30 [.agg (p.cells 105), .one (.str s)] (.one (strs (missB p s))) := by
  refine ASpec.body Tryz.func30 rfl [4] rfl 67 rfl rfl rfl ?_
  have hpl := hp.2.1
  refine AWp.seq (AWp.region ?_)
  refine ARun.step rfl (step_box_p (m := 1) rfl (hn rfl) rfl rfl rfl rfl rfl) ?_
  refine ARun.step rfl (step_assignV rfl (hn rfl) rfl rfl) ?_
  refine ARun.nil ?_
  refine AWp.seq (AWp.region ?_)
  refine ARun.step rfl (step_build0 rfl (hn rfl) rfl zgSl22) ?_
  refine ARun.step rfl (step_assignV rfl (hn rfl) rfl rfl) ?_
  refine ARun.nil ?_
  refine AWp.seq ?_
  refine AWp.seq (AWp.region ?_)
  refine ARun.step rfl (step_assignV rfl (hn rfl) rfl rfl) ?_
  refine ARun.nil ?_
  refine AWp.block ?_
  refine AWp.loopM (fun x : Nat => mkAS 67 [(1, ⟨true, .one (.v (.str s))⟩), (2, ⟨true, .one (.bptr 2 0)⟩), (5, ⟨true, .one (.ref ⟨.arr 8 0, []⟩)⟩), (6, ⟨true, .one (.v (.int .i64 (x : Nat)))⟩)] [(2, [.v (strs p.things), .v (bts 105 p.bs)])] [(8, 0, strs (missGo p s x))]) (fun x => x ≤ p.bs.length) (fun x => p.bs.length - x) 0 ?_ (Le.forgetR rfl ⟨rfl, rfl, rfl, rfl, trivial⟩ ⟨rfl, trivial⟩ ⟨.refl _, trivial⟩) ?_
  · try dsimp only
    omega
  rintro x hx
  have hml := missGo_len (s := s) hp hx
  refine AWp.seq ?_
  refine AWp.seq (AWp.region ?_)
  refine ARun.step rfl (step_moveV rfl (hn rfl) rfl rfl) ?_
  refine ARun.step rfl (step_field_b rfl (hn rfl) rfl zgFo34_1 rfl (by exact List.cons_ne_nil _ _)) ?_
  refine ARun.step rfl (step_load_b rfl (hn rfl) rfl zgSc32 rfl rfl) ?_
  refine ARun.step rfl (step_len_f rfl (hn rfl) rfl zgSl32 rfl) ?_
  refine ARun.step rfl (step_lss rfl (hn rfl) rfl rfl rfl) ?_
  refine ARun.nil ?_
  refine AWp.cond rfl (fun c1 => ?_) (fun c1 => ?_)
  · try simp only [nrm] at c1
    have hnb := hp.2.2 _ (nth_memA (show x < p.bs.length by omega))
    refine AWp.skip ?_
    refine AWp.seq ?_
    refine AWp.block ?_
    refine AWp.seq (AWp.region ?_)
    refine ARun.step rfl (step_assignV rfl (hn rfl) rfl rfl) ?_
    refine ARun.nil ?_
    refine AWp.block ?_
    refine AWp.loopM (fun z : Nat => mkAS 67 [(1, ⟨true, .one (.v (.str s))⟩), (2, ⟨true, .one (.bptr 2 0)⟩), (5, ⟨true, .one (.ref ⟨.arr 8 0, []⟩)⟩), (6, ⟨true, .one (.v (.int .i64 (x : Nat)))⟩), (7, ⟨true, .one (.v (.int .i64 (z : Nat)))⟩)] [(2, [.v (strs p.things), .v (bts 105 p.bs)])] [(8, 0, strs (missGo p s x ++ (selGo (notHas (nth p.bs x)) (nth p.bs x).needs z)))]) (fun z => z ≤ (nth p.bs x).needs.length ∧ (strEq (nth p.bs x).name s = false → z = 0)) (fun z => (nth p.bs x).needs.length - z) 0 ?_ (Le.forgetR rfl ⟨rfl, rfl, rfl, rfl, rfl, trivial⟩ ⟨rfl, trivial⟩ ⟨(by exact eqv_strs (by simp [selGo])), trivial⟩) ?_
    · try dsimp only
      exact ⟨by omega, fun _ => rfl⟩
    rintro z ⟨hz, hz0⟩
    have hsl := selGo_len (notHas (nth p.bs x)) (nth p.bs x).needs z
    refine AWp.seq ?_
    refine AWp.seq (AWp.region ?_)
    refine ARun.step rfl (step_moveV rfl (hn rfl) rfl rfl) ?_
    refine ARun.step rfl (step_field_b rfl (hn rfl) rfl zgFo34_1 rfl (by exact List.cons_ne_nil _ _)) ?_
    refine ARun.step rfl (step_load_b rfl (hn rfl) rfl zgSc32 rfl rfl) ?_
    refine ARun.step rfl (step_moveV rfl (hn rfl) rfl rfl) ?_
    refine ARun.step rfl (step_index_fN rfl (hn rfl) rfl zgSl32 rfl rfl (by omega)) ?_
    refine ARun.step rfl (step_field_f rfl (hn rfl) rfl zgFo105_2 rfl) ?_
    refine ARun.step rfl (step_load_f rfl (hn rfl) rfl zgSc22 rfl (hn rfl) rfl) ?_
    refine ARun.step rfl (step_len_f rfl (hn rfl) rfl zgSl22 rfl) ?_
    refine ARun.step rfl (step_lss rfl (hn rfl) rfl rfl rfl) ?_
    refine ARun.step rfl (step_moveV rfl (hn rfl) rfl rfl) ?_
    refine guardS rfl rfl rfl rfl (hn rfl) (fun g1 g2 => step_field_b rfl (hn rfl) rfl zgFo34_1 rfl (by exact List.cons_ne_nil _ _)) ?_
    refine guardS rfl rfl rfl rfl (hn rfl) (fun g1 g2 => step_load_b rfl (hn rfl) rfl zgSc32 (ev_true rfl (by exact flag2 g1 g2)) rfl) ?_
    refine guardS rfl rfl rfl rfl (hn rfl) (fun g1 g2 => step_moveV rfl (hn rfl) rfl rfl) ?_
    refine guardS rfl rfl rfl rfl (hn rfl) (fun g1 g2 => step_index_fN rfl (hn rfl) rfl zgSl32 (ev_true rfl (by exact flag2 g1 g2)) (ev_true rfl (by exact flag2 g1 g2)) (by first | omega | (have := of_decide_eq_true g2; omega) | (have := of_decide_eq_false g2; omega) | (simp only [nrm] at g2; omega) | (simp only [nrm, Bool.true_and] at g1 g2; omega))) ?_
    refine guardS rfl rfl rfl rfl (hn rfl) (fun g1 g2 => step_field_f rfl (hn rfl) rfl zgFo105_0 (ev_true rfl (by exact flag2 g1 g2))) ?_
    refine guardS rfl rfl rfl rfl (hn rfl) (fun g1 g2 => step_load_f rfl (hn rfl) rfl zgSc9 (ev_true rfl (by exact flag2 g1 g2)) (hn rfl) rfl) ?_
    refine guardS rfl rfl rfl rfl (hn rfl) (fun g1 g2 => step_moveV rfl (hn rfl) rfl rfl) ?_
    refine guardS rfl rfl rfl rfl (hn rfl) (fun g1 g2 => step_seql rfl (hn rfl) rfl (ev_true rfl (by exact flag2 g1 g2)) (ev_true rfl (by exact flag2 g1 g2))) ?_
    refine ARun.step rfl (step_and rfl (hn rfl) rfl rfl rfl (fun h => (by exact flag1 h))) ?_
    refine ARun.nil ?_
    refine AWp.cond rfl (fun c2 => ?_) (fun c2 => ?_)
    · try simp only [nrm] at c2
      refine AWp.skip ?_
      refine AWp.seq ?_
      refine AWp.block ?_
      refine AWp.seq (AWp.draw [⟨[.s 2, .b 2], [.s 37], false⟩, ⟨[.s 37, .b 2], [.s 38], false⟩, ⟨[.s 6], [.s 39], false⟩, ⟨[.s 38, .s 39], [.s 40], false⟩, ⟨[.s 40], [.s 41], false⟩, ⟨[.s 41], [.s 42], false⟩, ⟨[.s 2, .b 2], [.s 43], false⟩, ⟨[.s 43, .b 2], [.s 44], false⟩, ⟨[.s 6], [.s 45], false⟩, ⟨[.s 44, .s 45], [.s 46], false⟩, ⟨[.s 46], [.s 47], false⟩, ⟨[.s 47], [.s 48], false⟩, ⟨[.s 7], [.s 49], false⟩, ⟨[.s 48, .s 49], [.s 50], false⟩, ⟨[.s 50], [.s 51], false⟩, ⟨[.s 51, .s 42], [.s 52], false⟩, ⟨[.s 52], [.s 53], false⟩] zgMo rfl ?_)
      refine DRun.step rfl (fun τ hN hr => step_field_b rfl (rdN hN (hn rfl)) rfl zgFo34_1 (by exact rdS hr rfl rfl) (by exact rdBne hr rfl (by exact List.cons_ne_nil _ _))) ?_
      refine DRun.step rfl (fun τ hN hr => step_load_b rfl (rdN hN (hn rfl)) rfl zgSc32 (by exact rdS hr rfl rfl) (by exact rdBget hr rfl rfl)) ?_
      refine DRun.step rfl (fun τ hN hr => step_moveV rfl (rdN hN (hn rfl)) rfl (by exact rdS hr rfl rfl)) ?_
      refine DRun.step rfl (fun τ hN hr => step_index_fN rfl (rdN hN (hn rfl)) rfl zgSl32 (by exact rdS hr rfl rfl) (by exact rdS hr rfl rfl) (by omega)) ?_
      refine DRun.step rfl (fun τ hN hr => step_field_f rfl (rdN hN (hn rfl)) rfl zgFo105_1 (by exact rdS hr rfl rfl)) ?_
      refine DRun.step rfl (fun τ hN hr => step_load_f rfl (rdN hN (hn rfl)) rfl zgSc22 (by exact rdS hr rfl rfl) (hn rfl) rfl) ?_
      refine DRun.step rfl (fun τ hN hr => step_field_b rfl (rdN hN (hn rfl)) rfl zgFo34_1 (by exact rdS hr rfl rfl) (by exact rdBne hr rfl (by exact List.cons_ne_nil _ _))) ?_
      refine DRun.step rfl (fun τ hN hr => step_load_b rfl (rdN hN (hn rfl)) rfl zgSc32 (by exact rdS hr rfl rfl) (by exact rdBget hr rfl rfl)) ?_
      refine DRun.step rfl (fun τ hN hr => step_moveV rfl (rdN hN (hn rfl)) rfl (by exact rdS hr rfl rfl)) ?_
      refine DRun.step rfl (fun τ hN hr => step_index_fN rfl (rdN hN (hn rfl)) rfl zgSl32 (by exact rdS hr rfl rfl) (by exact rdS hr rfl rfl) (by omega)) ?_
      refine DRun.step rfl (fun τ hN hr => step_field_f rfl (rdN hN (hn rfl)) rfl zgFo105_2 (by exact rdS hr rfl rfl)) ?_
      refine DRun.step rfl (fun τ hN hr => step_load_f rfl (rdN hN (hn rfl)) rfl zgSc22 (by exact rdS hr rfl rfl) (hn rfl) rfl) ?_
      refine DRun.step rfl (fun τ hN hr => step_moveV rfl (rdN hN (hn rfl)) rfl (by exact rdS hr rfl rfl)) ?_
      refine DRun.step rfl (fun τ hN hr => step_index_fN rfl (rdN hN (hn rfl)) rfl zgSl22 (by exact rdS hr rfl rfl) (by exact rdS hr rfl rfl) (by omega)) ?_
      refine DRun.step rfl (fun τ hN hr => step_load_f rfl (rdN hN (hn rfl)) rfl zgSc9 (by exact rdS hr rfl rfl) (hn rfl) rfl) ?_
      refine DRun.step rfl (fun τ hN hr => call_step1 rfl (rdN hN (hn rfl)) rfl zgCo92 (.cons (by exact rdS hr rfl rfl) (.one (.v _)) (.cons (by exact rdS hr rfl rfl) (.one (.v _)) (.nil))) (whHas _ _) rfl) ?_
      refine DRun.step rfl (fun τ hN hr => step_not rfl (rdN hN (hn rfl)) rfl (by exact rdS hr rfl rfl)) ?_
      refine DRun.nil ?_
      refine AWp.cond rfl (fun c3 => ?_) (fun c3 => ?_)
      · try simp only [nrm] at c3
        refine AWp.region ?_
        refine ARun.step rfl (step_moveV rfl (hn rfl) rfl rfl) ?_
        refine ARun.step rfl (step_field_b rfl (hn rfl) rfl zgFo34_1 rfl (by exact List.cons_ne_nil _ _)) ?_
        refine ARun.step rfl (step_load_b rfl (hn rfl) rfl zgSc32 rfl rfl) ?_
        refine ARun.step rfl (step_moveV rfl (hn rfl) rfl rfl) ?_
        refine ARun.step rfl (step_index_fN rfl (hn rfl) rfl zgSl32 rfl rfl (by omega)) ?_
        refine ARun.step rfl (step_field_f rfl (hn rfl) rfl zgFo105_2 rfl) ?_
        refine ARun.step rfl (step_load_f rfl (hn rfl) rfl zgSc22 rfl (hn rfl) rfl) ?_
        refine ARun.step rfl (step_moveV rfl (hn rfl) rfl rfl) ?_
        refine ARun.step rfl (step_index_fN rfl (hn rfl) rfl zgSl22 rfl rfl (by omega)) ?_
        refine ARun.step rfl (step_load_f rfl (hn rfl) rfl zgSc9 rfl (hn rfl) rfl) ?_
        refine ARun.step rfl (step_buildVT rfl (hn rfl) rfl zgSl22 (strs [_]) (.cons rfl rfl rfl rfl (.nil _)) rfl rfl rfl (rows1 rfl)) ?_
        refine ARun.step rfl (step_append_strs rfl (hn rfl) rfl zgSl22 rfl rfl rfl (.v _) (by first | omega | (simp only [List.length_cons, List.length_nil, List.length_append, List.length_take, List.length_drop]; omega)) (by first | omega | (simp only [List.length_cons, List.length_nil, List.length_append, List.length_take, List.length_drop]; omega))) ?_
        refine ARun.step rfl (step_assignV rfl (hn rfl) rfl rfl) ?_
        refine ARun.nil ?_
        refine AWp.region ?_
        refine ARun.step rfl (step_moveV rfl (hn rfl) rfl rfl) ?_
        refine ARun.step rfl (step_addI rfl (hn rfl) rfl rfl rfl (by omega) (by omega)) ?_
        refine ARun.step rfl (step_assignV rfl (hn rfl) rfl rfl) ?_
        refine ARun.nil ?_
        refine ⟨z + 1, ?_, ?_, Le.forgetR rfl ⟨rfl, rfl, rfl, rfl, rfl, trivial⟩ ⟨rfl, trivial⟩ ⟨(by first | exact eqv_strs (miss_yes (f := notHas (nth p.bs x)) (by rw [notHas]; grind)) | exact eqv_strs (miss_no (f := notHas (nth p.bs x)) (by rw [notHas]; grind))), trivial⟩⟩
        · try dsimp only
          exact ⟨by omega, fun h => by grind⟩
        · try dsimp only
          omega
      · try simp only [nrm] at c3
        refine AWp.skip ?_
        refine AWp.region ?_
        refine ARun.step rfl (step_moveV rfl (hn rfl) rfl rfl) ?_
        refine ARun.step rfl (step_addI rfl (hn rfl) rfl rfl rfl (by omega) (by omega)) ?_
        refine ARun.step rfl (step_assignV rfl (hn rfl) rfl rfl) ?_
        refine ARun.nil ?_
        refine ⟨z + 1, ?_, ?_, Le.forgetR rfl ⟨rfl, rfl, rfl, rfl, rfl, trivial⟩ ⟨rfl, trivial⟩ ⟨(by first | exact eqv_strs (miss_yes (f := notHas (nth p.bs x)) (by rw [notHas]; grind)) | exact eqv_strs (miss_no (f := notHas (nth p.bs x)) (by rw [notHas]; grind))), trivial⟩⟩
        · try dsimp only
          exact ⟨by omega, fun h => by grind⟩
        · try dsimp only
          omega
    · try simp only [nrm] at c2
      refine AWp.exit ?_
      refine AWp.region ?_
      refine ARun.step rfl (step_moveV rfl (hn rfl) rfl rfl) ?_
      refine ARun.step rfl (step_addI rfl (hn rfl) rfl rfl rfl (by omega) (by omega)) ?_
      refine ARun.step rfl (step_assignV rfl (hn rfl) rfl rfl) ?_
      refine ARun.nil ?_
      refine ⟨x + 1, ?_, ?_, Le.forgetR rfl ⟨rfl, rfl, rfl, rfl, trivial⟩ ⟨rfl, trivial⟩ ⟨(by exact eqv_strs (by rw [missGo]; by_cases hs : strEq (nth p.bs x).name s = true; (rw [if_pos hs, show z = (nth p.bs x).needs.length by grind]); (rw [if_neg hs, hz0 (by simpa using hs)]; rfl))), trivial⟩⟩
      · try dsimp only
        omega
      · try dsimp only
        omega
  · try simp only [nrm] at c1
    refine AWp.exit ?_
    refine AWp.seq (AWp.region ?_)
    refine ARun.step rfl (step_moveV rfl (hn rfl) rfl rfl) ?_
    refine ARun.step rfl (step_assignV rfl (hn rfl) rfl rfl) ?_
    refine ARun.nil ?_
    refine AWp.ret ?_
    refine RetIs.ref (.inr rfl) rfl rfl ?_
    obtain rfl : x = p.bs.length := by omega
    rfl
set_option maxHeartbeats 1000000 in
theorem drawShareDoes (b : List UInt8) (h0 : b.length ≤ 2097152) : ∃ (x : List Str) (l : List Do), (x.Sublist thg5 ∧ (∀ d ∈ l, d.list.length ≤ 10) ∧ l.length ≤ 40) ∧ ASpec Tryz.prog 16 [.one (bytesT 5 b)] (.tup [.agg ((⟨x, []⟩ : Bk).zcells 105), .one (.fz (dos 50 l))]) := by
  suffices key : ∃ i : List Str × List Do, (i.1.Sublist thg5 ∧ (∀ d ∈ i.2, d.list.length ≤ 10) ∧ i.2.length ≤ 40) ∧ ASpec Tryz.prog 16 [.one (bytesT 5 b)] (.tup [.agg ((⟨i.1, []⟩ : Bk).zcells 105), .one (.fz (dos 50 i.2))]) from (by obtain ⟨i, g, h⟩ := key; exact ⟨i.1, i.2, g, h⟩)
  refine ASpec.exC Tryz.func16 rfl 2 34 [3] rfl rfl 34 rfl rfl rfl (fun i : List Str × List Do => (.tup [.agg ((⟨i.1, []⟩ : Bk).zcells 105), .one (.fz (dos 50 i.2))])) (fun i : List Str × List Do => i.1.Sublist thg5 ∧ (∀ d ∈ i.2, d.list.length ≤ 10) ∧ i.2.length ≤ 40) ?_
  have hb : (b.take 2000).length ≤ 2000 := by rw [List.length_take]; omega
  apply E.reg
  · intro Q hQ
    refine AWp.seq (AWp.region ?_)
    refine ARun.step rfl (step_alloc_p rfl (hn rfl) rfl zgZs34) ?_
    refine ARun.step rfl (step_assignV rfl (hn rfl) rfl rfl) ?_
    refine ARun.nil ?_
    exact hQ.out
  apply E.reg
  · intro Q hQ
    refine AWp.seq (AWp.region ?_)
    refine ARun.step rfl (step_moveV rfl (hn rfl) rfl rfl) ?_
    refine ARun.step rfl (call_open rfl (hn rfl) rfl zgCo61 (.cons rfl (.one (.v _)) (.nil)) (l51Open _ (by assumption)) rfl) ?_
    refine ARun.step rfl (step_assignV rfl (hn rfl) rfl rfl) ?_
    refine ARun.nil ?_
    exact hQ.out
  obtain ⟨q1, x1, ⟨hqa1, hqb1, hsub1, hsl1⟩, hl1⟩ := l55Base (b.take 2000) (0)  (by first | assumption | omega | decide | (simp only [List.length_append, List.length_cons, List.length_nil, List.length_take, List.length_drop]; omega)) (by first | assumption | omega | decide | (simp only [List.length_append, List.length_cons, List.length_nil, List.length_take, List.length_drop]; omega))
  apply E.reg
  · intro Q hQ
    refine AWp.seq (AWp.region ?_)
    refine ARun.step rfl (step_moveV rfl (hn rfl) rfl rfl) ?_
    refine ARun.step rfl (call_stepLZ rfl (hn rfl) rfl zgCo62 rfl rfl rfl rfl (.nil) hl1 rfl rfl) ?_
    refine ARun.step rfl (step_alloc_p rfl (hn rfl) rfl zgZs34) ?_
    refine ARun.step rfl (step_store_p (bs := [_, _]) rfl rfl zgCs34 rfl rfl rfl rfl rfl rfl rfl) ?_
    refine ARun.nil ?_
    exact hQ.out
  refine E.mono (fun Q h => AWp.le (Le.reBox 5 rfl (.cons (.refl _) (.cons (.nlsl 105 3 (fun i => (nth ([] : List Bt) i).zcells)) .nil))) h) ?_
  apply E.reg
  · intro Q hQ
    refine AWp.seq (AWp.region ?_)
    refine ARun.step rfl (step_loadS_b rfl (hn rfl) rfl zgSt34 rfl rfl rfl (by decide)) ?_
    refine ARun.step rfl (step_alloc_p rfl (hn rfl) rfl zgZs34) ?_
    refine ARun.step rfl (step_store_p (bs := [_, _]) rfl rfl zgCs34 rfl rfl rfl rfl rfl rfl rfl) ?_
    refine ARun.nil ?_
    exact hQ.out
  apply E.reg
  · intro Q hQ
    refine AWp.seq (AWp.region ?_)
    refine ARun.step rfl (step_buildSlice rfl (hn rfl) (ps := []) rfl zgSl46 rfl rfl (by simp) (by intro q hq; cases hq) rfl) ?_
    refine ARun.step rfl (step_assignV rfl (hn rfl) rfl rfl) ?_
    refine ARun.nil ?_
    exact hQ.out
  refine E.mono (fun Q h => AWp.seq h) ?_
  obtain ⟨_, k2, ⟨rfl, hk2⟩, hl2⟩ := l51pick (b.take 2000) (q1) (40) (by first | assumption | omega | decide | (simp only [List.length_append, List.length_cons, List.length_nil, List.length_take, List.length_drop]; omega)) (by first | assumption | omega | decide | (simp only [List.length_append, List.length_cons, List.length_nil, List.length_take, List.length_drop]; omega)) (by first | assumption | omega | decide | (simp only [List.length_append, List.length_cons, List.length_nil, List.length_take, List.length_drop]; omega)) (by first | assumption | omega | decide | (simp only [List.length_append, List.length_cons, List.length_nil, List.length_take, List.length_drop]; omega))
  apply E.reg
  · intro Q hQ
    refine AWp.seq (AWp.region ?_)
    refine ARun.step rfl (step_moveV rfl (hn rfl) rfl rfl) ?_
    refine ARun.step rfl (call_stepLZ rfl (hn rfl) rfl zgCo63 rfl rfl rfl rfl (.cons rfl (.one (.v _)) (.nil)) hl2 rfl rfl) ?_
    refine ARun.step rfl (step_assignV rfl (hn rfl) rfl rfl) ?_
    refine ARun.nil ?_
    exact hQ.out
  refine E.mono (fun Q h => AWp.block h) ?_
  refine E.loop (fun x : Nat × Bk × List Do × Nat => mkAS 34 [(2, ⟨true, .one (.bptr 2 0)⟩), (4, ⟨true, .one (.eptr ⟨.arr 11 0, []⟩ 0 0)⟩), (5, ⟨true, .one (.bptr 5 0)⟩), (6, ⟨true, .one (.bptr 6 0)⟩), (7, ⟨true, .one (.ref ⟨.arr 15 0, []⟩)⟩), (8, ⟨true, .one (.v (.int .i64 (x.1 : Nat)))⟩)] [(2, [.any, .any]), (5, [.v (strs x1), .v (bts 105 [])]), (6, [.v (strs x.2.1.things), .v (bts 105 x.2.1.bs)])] [(11, 0, ptT 155 (rdR 5 (b.take 2000) x.2.2.2)), (15, 0, dos 50 x.2.2.1)]) (fun x => x.1 ≤ 39 ∧ bkLe x.2.1 5 ∧ (∀ d ∈ x.2.2.1, d.list.length ≤ 10) ∧ x.2.2.1.length + x.1 ≤ 40 ∧ x.2.2.2 + 30 * x.1 ≤ 5000) (fun x => x.1) (k2, ⟨x1, []⟩, [], q1 + 1) ?_ (Le.forgetR rfl ⟨rfl, rfl, rfl, rfl, rfl, rfl, trivial⟩ ⟨rfl, rfl, rfl, trivial⟩ ⟨.refl _, (.rows (fun i hi => absurd hi (Nat.not_lt_zero _))), trivial⟩) ?_
  · try dsimp only
    exact ⟨by omega, ⟨by assumption, Nat.zero_le _, fun b hb => absurd hb (List.not_mem_nil)⟩, fun d hd => absurd hd (List.not_mem_nil), by simp only [List.length_nil]; omega, by omega⟩
  rintro x ⟨hi, hbk, hds, hdl, hpp⟩ ih1
  have hk6 := hbk.mono (show 5 ≤ 6 by omega)
  refine E.mono (fun Q h => AWp.seq h) ?_
  apply E.reg
  · intro Q hQ
    refine AWp.seq (AWp.region ?_)
    refine ARun.step rfl (step_moveV rfl (hn rfl) rfl rfl) ?_
    refine ARun.step rfl (step_gtr rfl (hn rfl) rfl rfl rfl) ?_
    refine ARun.nil ?_
    exact hQ.out
  refine E.cond rfl (fun c1 => ?_) (fun c1 => ?_)
  · try simp only [nrm] at c1
    refine E.mono (fun Q h => AWp.skip h) ?_
    refine E.mono (fun Q h => AWp.seq h) ?_
    refine E.mono (fun Q h => AWp.block h) ?_
    obtain ⟨q3, d3, ⟨hqa3, hqb3, hka3, hkb3, hln3⟩, hl3⟩ := l55Does (b.take 2000) (x.2.2.2) x.2.1 (by first | assumption | omega | decide | (simp only [List.length_append, List.length_cons, List.length_nil, List.length_take, List.length_drop]; omega)) (by first | assumption | omega | decide | (simp only [List.length_append, List.length_cons, List.length_nil, List.length_take, List.length_drop]; omega)) (by first | assumption | omega | decide | (simp only [List.length_append, List.length_cons, List.length_nil, List.length_take, List.length_drop]; omega))
    apply E.reg
    · intro Q hQ
      refine AWp.seq (AWp.region ?_)
      refine ARun.step rfl (step_moveV rfl (hn rfl) rfl rfl) ?_
      refine ARun.step rfl (step_loadS_b rfl (hn rfl) rfl zgSt34 rfl rfl rfl (by decide)) ?_
      refine ARun.step rfl (call_stepLZ rfl (hn rfl) rfl zgCo64 rfl rfl rfl rfl (.cons rfl (.agg (.cons (.v _) (.cons (.v _) .nil))) (.nil)) hl3 rfl rfl) ?_
      refine ARun.step rfl (step_alloc_p rfl (hn rfl) rfl zgZs50) ?_
      refine ARun.step rfl (step_store_p (bs := [_, _, _]) rfl rfl zgCs50 rfl rfl rfl rfl rfl rfl rfl) ?_
      refine ARun.nil ?_
      exact hQ.out
    apply E.reg
    · intro Q hQ
      refine AWp.seq (AWp.region ?_)
      refine ARun.step rfl (step_loadS_b rfl (hn rfl) rfl zgSt34 rfl rfl rfl (by decide)) ?_
      refine ARun.step rfl (step_loadS_b rfl (hn rfl) rfl zgSt50 rfl rfl rfl (by decide)) ?_
      refine ARun.step rfl (call_stepZ rfl (hn rfl) rfl zgCo65 (.cons rfl (.agg (.cons (.v _) (.cons (.v _) .nil))) (.cons rfl (.agg (.cons (.v _) (.cons (.v _) (.cons (.v _) .nil)))) (.nil))) (l55Step _ _ (by assumption) (by assumption)) rfl rfl) ?_
      refine ARun.step rfl (step_store_p (bs := [_, _]) rfl rfl zgCs34 rfl rfl rfl rfl rfl rfl rfl) ?_
      refine ARun.nil ?_
      exact hQ.out
    apply E.reg
    · intro Q hQ
      refine AWp.region ?_
      refine ARun.step rfl (step_moveV rfl (hn rfl) rfl rfl) ?_
      refine ARun.step rfl (step_loadS_b rfl (hn rfl) rfl zgSt50 rfl rfl rfl (by decide)) ?_
      refine ARun.step rfl (step_buildV rfl (hn rfl) rfl zgSl46 (.cons rfl rfl rfl rfl (.nil _)) rfl rfl) ?_
      refine ARun.step rfl (step_append rfl (hn rfl) rfl zgSl46 rfl rfl rfl (.v _) (flatRows_one rfl) (by first | omega | (simp only [List.length_cons, List.length_nil]; omega)) (by first | omega | (simp only [List.length_cons, List.length_nil]; omega))) ?_
      refine ARun.step rfl (step_assignV rfl (hn rfl) rfl rfl) ?_
      refine ARun.nil ?_
      exact hQ.out
    apply E.reg
    · intro Q hQ
      refine AWp.region ?_
      refine ARun.step rfl (step_moveV rfl (hn rfl) rfl rfl) ?_
      refine ARun.step rfl (step_decN rfl (hn rfl) rfl rfl rfl (by omega) (by omega)) ?_
      refine ARun.step rfl (step_assignV rfl (hn rfl) rfl rfl) ?_
      refine ARun.nil ?_
      exact hQ.out
    refine ih1 (x.1 - 1, stepB x.2.1 d3, x.2.2.1 ++ [d3], q3) _ ?_ ?_ (Le.forgetR rfl ⟨rfl, rfl, rfl, rfl, rfl, rfl, trivial⟩ ⟨rfl, rfl, rfl, trivial⟩ ⟨.refl _, (dos_add rfl), trivial⟩)
    · try dsimp only
      exact ⟨by omega, step_le hbk, memD_add hds (by omega), by simp only [List.length_append, List.length_cons, List.length_nil]; omega, by omega⟩
    · try dsimp only
      omega
  · try simp only [nrm] at c1
    refine E.mono (fun Q h => AWp.exit h) ?_
    apply E.reg
    · intro Q hQ
      refine AWp.seq (AWp.region ?_)
      refine ARun.step rfl (step_loadS_b rfl (hn rfl) rfl zgSt34 rfl rfl rfl (by decide)) ?_
      refine ARun.step rfl (step_moveV rfl (hn rfl) rfl rfl) ?_
      refine ARun.step rfl (step_store_p (bs := [_, _]) rfl rfl zgCs34 rfl rfl rfl rfl rfl rfl rfl) ?_
      refine ARun.step rfl (step_assignV rfl (hn rfl) rfl rfl) ?_
      refine ARun.nil ?_
      exact hQ.out
    refine E.mono (fun Q h => AWp.le (Le.letGo 15 0 (g := _) rfl (fun _ _ => rfl)) h) ?_
    refine E.mono (fun Q h => AWp.ret h) ?_
    apply E.ret (i := (_, _))
    · refine ⟨.inr rfl, 2, 2, _, _, _, zgSt34, by decide, rfl, rfl, rfl, rfl, (.cons rfl (.agg (.cons (.frz _ _ _ _ _) (.cons (.frz _ _ _ _ _) (.nil _)))) (.cons rfl (.one (.frz _ _ _ _ _)) (.nil _))), rfl, ?_⟩
      rfl
    · try dsimp only
      all_goals (exact ⟨hsub1, hds, (show x.2.2.1.length ≤ 40 by omega)⟩)

end Go.Proofs.YtkmacjdigkaabaaGreat
