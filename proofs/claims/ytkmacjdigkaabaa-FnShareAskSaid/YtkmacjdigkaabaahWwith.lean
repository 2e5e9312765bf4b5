/- Contracts of functions of the program, each met by its body; conditions stand in each statement. No condition. -/
import Derived.Test.YtkmacjdigkaabaahWsome
import Derived.Test.YtkmacjdigkaabaaProg
import Derived.KernelRfl
set_option linter.unusedVariables false
set_option linter.unusedSimpArgs false
set_option linter.unnecessarySimpa false
set_option linter.unusedSimpArgs false
set_option maxRecDepth 100000
namespace Go.Proofs.Ytkmacjdigkaabaa
open Go Go.Mh

def selGo (f : Str → Bool) (n : List Str) : Nat → List Str
  | 0 => []
  | i + 1 => if f (nth n i) = true then selGo f n i ++ [nth n i] else selGo f n i
theorem selGo_len (f : Str → Bool) (n : List Str) (i : Nat) : (selGo f n i).length ≤ i := by
  induction i with
  | zero => exact Nat.le_refl _
  | succ i ih =>
    simp only [selGo]; split
    · simp; omega
    · omega
theorem selGo_yes {f : Str → Bool} {n : List Str} {i : Nat} (h : f (nth n i) = true) : selGo f n i ++ [nth n i] = selGo f n (i + 1) := by simp only [selGo, if_pos h]
theorem selGo_no {f : Str → Bool} {n : List Str} {i : Nat} (h : f (nth n i) = false) : selGo f n i = selGo f n (i + 1) := by simp only [selGo, h]; rfl
theorem selGo_mem {f : Str → Bool} {n : List Str} {x : Str} : ∀ {i : Nat}, (∃ j, j < i ∧ nth n j = x ∧ f x = true) → x ∈ selGo f n i
  | 0, h => by obtain ⟨j, h, _⟩ := h; omega
  | i + 1, h => by
    obtain ⟨j, h1, h2, h3⟩ := h
    simp only [selGo]
    by_cases e : j = i
    · subst e; rw [h2, if_pos h3]; exact List.mem_append_right _ (List.mem_singleton.2 rfl)
    · have := selGo_mem (f := f) (n := n) (x := x) (i := i) ⟨j, by omega, h2, h3⟩
      split
      · exact List.mem_append_left _ this
      · exact this
def wthF (y : Bt) (l : List Str) (x : Str) : Bool := hasB y.has x || hasB l x
def wthBt (s : Str) (l : List Str) (y : Bt) : Bt := if strEq y.name s = true then ⟨s, selGo (wthF y l) y.needs y.needs.length, y.needs⟩ else y
def wthGo (p : Bk) (s : Str) (l : List Str) : Nat → List Bt
  | 0 => []
  | i + 1 => wthGo p s l i ++ [wthBt s l (nth p.bs i)]
theorem wthGo_len (p : Bk) (s : Str) (l : List Str) : ∀ i, (wthGo p s l i).length = i
  | 0 => rfl
  | i + 1 => by simp only [wthGo, List.length_append, List.length_cons, List.length_nil, wthGo_len p s l i]
def wthBk (p : Bk) (s : Str) (l : List Str) : Bk := ⟨p.things, wthGo p s l p.bs.length⟩

theorem zeZs29 : zeroSz Try.prog 29 = some 2 := by kernel_rfl
theorem zeFo29_0 : fieldOff Try.prog 29 0 = some 0 := by kernel_rfl
theorem zeSc22 : scalarB Try.prog 22 = true := by kernel_rfl
theorem zePl29 : structPl Try.prog 29 = some [(0, 1), (1, 1)] := by kernel_rfl
theorem zeZc29 : zeroCs Try.prog 29 = some [.nil, .nil] := by kernel_rfl
theorem zeCs29 : cellsSz Try.prog 29 = some (1 + 1) := by kernel_rfl
theorem zeFo29_1 : fieldOff Try.prog 29 1 = some 1 := by kernel_rfl
theorem zeSc27 : scalarB Try.prog 27 = true := by kernel_rfl
theorem zeSl27 : sliceT Try.prog 27 = some ⟨48, 3, 64⟩ := by kernel_rfl
theorem zeSt48 : structSz Try.prog 48 = some 3 := by kernel_rfl
theorem zeZs48 : zeroSz Try.prog 48 = some 3 := by kernel_rfl
theorem zeCs48 : cellsSz Try.prog 48 = some (2 + 1) := by kernel_rfl
theorem zeCs27 : cellsSz Try.prog 27 = some (0 + 1) := by kernel_rfl
theorem zeFo48_0 : fieldOff Try.prog 48 0 = some 0 := by kernel_rfl
theorem zeSc9 : scalarB Try.prog 9 = true := by kernel_rfl
theorem zeSl22 : sliceT Try.prog 22 = some ⟨9, 1, 16⟩ := by kernel_rfl
theorem zeFo48_2 : fieldOff Try.prog 48 2 = some 2 := by kernel_rfl
theorem zeFo48_1 : fieldOff Try.prog 48 1 = some 1 := by kernel_rfl
theorem zeCo28 : callOk Try.prog 28 = true := by kernel_rfl
theorem zeMo : Try.prog.follows .mixedOrders = true := by kernel_rfl
theorem zePl48 : structPl Try.prog 48 = some [(0, 1), (1, 1), (2, 1)] := by kernel_rfl
theorem zeZc48 : zeroCs Try.prog 48 = some [.v (.str ⟨#[]⟩), .nil, .nil] := by kernel_rfl
theorem zeSt29 : structSz Try.prog 29 = some 2 := by kernel_rfl
set_option maxHeartbeats 1000000 in
theorem whWithE (p : Bk) (s : Str) (l : List Str) (hp : bkLe p 6) (hl : l.length ≤ 10) : ∃ (w : Bk) (u : Unit), (w = wthBk p s l) ∧ ASpec Try.prog 51 [.agg (p.cells 48), .one (.str s), .one (strs l)] (.agg (w.zcells 48)) := by
  suffices key : ∃ i : Bk × Unit, (i.1 = wthBk p s l) ∧ ASpec Try.prog 51 [.agg (p.cells 48), .one (.str s), .one (strs l)] (.agg (i.1.zcells 48)) from (by obtain ⟨i, g, h⟩ := key; exact ⟨i.1, i.2, g, h⟩)
  refine ASpec.exC Try.func51 rfl 6 29 [] rfl rfl 76 rfl rfl rfl (fun i : Bk × Unit => (.agg (i.1.zcells 48))) (fun i : Bk × Unit => i.1 = wthBk p s l) ?_
  have hpl := hp.2.1
  apply E.reg
  · intro Q hQ
    refine AWp.seq (AWp.region ?_)
    refine ARun.step rfl (step_box_p (m := 1) rfl (hn rfl) rfl rfl rfl rfl rfl) ?_
    refine ARun.step rfl (step_alloc_p rfl (hn rfl) rfl zeZs29) ?_
    refine ARun.nil ?_
    exact hQ.out
  apply E.reg
  · intro Q hQ
    refine AWp.seq (AWp.region ?_)
    refine ARun.step rfl (step_field_b rfl (hn rfl) rfl zeFo29_0 rfl (by exact List.cons_ne_nil _ _)) ?_
    refine ARun.step rfl (step_load_b rfl (hn rfl) rfl zeSc22 rfl rfl) ?_
    refine ARun.step rfl (step_build rfl (hn rfl) rfl zePl29 zeZc29 (.cons rfl rfl rfl rfl (.nil)) rfl) ?_
    refine ARun.step rfl (step_alloc_p rfl (hn rfl) rfl zeZs29) ?_
    refine ARun.step rfl (step_store_p (bs := [_, _]) rfl rfl zeCs29 rfl rfl rfl rfl rfl rfl rfl) ?_
    refine ARun.nil ?_
    exact hQ.out
  refine E.mono (fun Q h => AWp.seq h) ?_
  apply E.reg
  · intro Q hQ
    refine AWp.seq (AWp.region ?_)
    refine ARun.step rfl (step_assignV rfl (hn rfl) rfl rfl) ?_
    refine ARun.nil ?_
    exact hQ.out
  refine E.mono (fun Q h => AWp.block h) ?_
  refine E.mono (fun Q h => AWp.le (Le.nilRefB 7 1 73 48 3 (fun i => (nth ([] : List Bt) i).zcells) _ rfl rfl rfl) h) ?_
  refine E.loop (fun x : Nat => mkAS 76 [(1, ⟨true, .one (.v (.str s))⟩), (2, ⟨true, .one (.v (strs l))⟩), (3, ⟨true, .one (.bptr 3 0)⟩), (6, ⟨true, .one (.bptr 6 0)⟩), (7, ⟨true, .one (.bptr 7 0)⟩), (8, ⟨true, .one (.v (.int .i64 (x : Nat)))⟩)] [(3, [.v (strs p.things), .v (bts 48 p.bs)]), (6, [.any, .any]), (7, [.v (strs p.things), .ref ⟨.arr 73 0, []⟩])] [(73, 0, bts 48 (wthGo p s l x))]) (fun x => x ≤ p.bs.length) (fun x => p.bs.length - x) 0 ?_ (Le.forgetR rfl ⟨rfl, rfl, rfl, rfl, rfl, rfl, trivial⟩ ⟨rfl, rfl, rfl, trivial⟩ ⟨.refl _, trivial⟩) ?_
  · try dsimp only
    omega
  rintro x hx ih1
  refine E.mono (fun Q h => AWp.seq h) ?_
  apply E.reg
  · intro Q hQ
    refine AWp.seq (AWp.region ?_)
    refine ARun.step rfl (step_moveV rfl (hn rfl) rfl rfl) ?_
    refine ARun.step rfl (step_field_b rfl (hn rfl) rfl zeFo29_1 rfl (by exact List.cons_ne_nil _ _)) ?_
    refine ARun.step rfl (step_load_b rfl (hn rfl) rfl zeSc27 rfl rfl) ?_
    refine ARun.step rfl (step_len_f rfl (hn rfl) rfl zeSl27 rfl) ?_
    refine ARun.step rfl (step_lss rfl (hn rfl) rfl rfl rfl) ?_
    refine ARun.nil ?_
    exact hQ.out
  refine E.cond rfl (fun c1 => ?_) (fun c1 => ?_)
  · try simp only [nrm] at c1
    have hnb := hp.2.2 _ (nth_memA (show x < p.bs.length by omega))
    have hwl := wthGo_len p s l x
    refine E.mono (fun Q h => AWp.skip h) ?_
    refine E.mono (fun Q h => AWp.seq h) ?_
    refine E.mono (fun Q h => AWp.block h) ?_
    apply E.reg
    · intro Q hQ
      refine AWp.seq (AWp.region ?_)
      refine ARun.step rfl (step_field_b rfl (hn rfl) rfl zeFo29_1 rfl (by exact List.cons_ne_nil _ _)) ?_
      refine ARun.step rfl (step_load_b rfl (hn rfl) rfl zeSc27 rfl rfl) ?_
      refine ARun.step rfl (step_moveV rfl (hn rfl) rfl rfl) ?_
      refine ARun.step rfl (step_index_fN rfl (hn rfl) rfl zeSl27 rfl rfl (by first | omega | (simp only [List.length_cons, List.length_nil]; omega))) ?_
      refine ARun.step rfl (step_loadS_f rfl (hn rfl) rfl zeSt48 rfl (hn rfl) rfl rfl) ?_
      refine ARun.step rfl (step_alloc_p rfl (hn rfl) rfl zeZs48) ?_
      refine ARun.step rfl (step_store_p (bs := [_, _, _]) rfl rfl zeCs48 rfl rfl rfl rfl rfl rfl rfl) ?_
      refine ARun.nil ?_
      exact hQ.out
    refine E.join (fun y : Bt => mkAS 76 [(1, ⟨true, .one (.v (.str s))⟩), (2, ⟨true, .one (.v (strs l))⟩), (3, ⟨true, .one (.bptr 3 0)⟩), (6, ⟨true, .one (.bptr 6 0)⟩), (7, ⟨true, .one (.bptr 7 0)⟩), (8, ⟨true, .one (.v (.int .i64 (x : Nat)))⟩), (9, ⟨true, .one (.bptr 9 0)⟩)] [(3, [.v (strs p.things), .v (bts 48 p.bs)]), (6, [.any, .any]), (7, [.v (strs p.things), .ref ⟨.arr 73 0, []⟩]), (9, [.v (.str y.name), .v (strs y.has), .v (strs y.needs)])] [(73, 0, bts 48 (wthGo p s l x))]) (fun y => y = wthBt s l (nth p.bs x)) ?_ ?_
    · rintro y rfl
      apply E.reg
      · intro Q hQ
        refine AWp.region ?_
        refine ARun.step rfl (step_field_b rfl (hn rfl) rfl zeFo29_1 rfl (by exact List.cons_ne_nil _ _)) ?_
        refine ARun.step rfl (step_load_b rfl (hn rfl) rfl zeSc27 rfl rfl) ?_
        refine ARun.step rfl (step_loadS_b rfl (hn rfl) rfl zeSt48 rfl rfl rfl (by decide)) ?_
        refine ARun.step rfl (step_buildV rfl (hn rfl) rfl zeSl27 (.cons rfl rfl rfl rfl (.nil _)) rfl rfl) ?_
        refine ARun.step rfl (step_append rfl (hn rfl) rfl zeSl27 rfl rfl rfl (.v _) (flatRows_one rfl) (by first | omega | (simp only [List.length_cons, List.length_nil]; omega)) (by first | omega | (simp only [List.length_cons, List.length_nil]; omega))) ?_
        refine ARun.step rfl (step_field_b rfl (hn rfl) rfl zeFo29_1 rfl (by exact List.cons_ne_nil _ _)) ?_
        refine ARun.step rfl (step_store_r rfl rfl zeCs27 rfl rfl rfl rfl rfl rfl rfl) ?_
        refine ARun.nil ?_
        exact hQ.out
      apply E.reg
      · intro Q hQ
        refine AWp.region ?_
        refine ARun.step rfl (step_moveV rfl (hn rfl) rfl rfl) ?_
        refine ARun.step rfl (step_addI rfl (hn rfl) rfl rfl rfl (by first | omega | (simp only [List.length_cons, List.length_nil]; omega)) (by first | omega | (simp only [List.length_cons, List.length_nil]; omega))) ?_
        refine ARun.step rfl (step_assignV rfl (hn rfl) rfl rfl) ?_
        refine ARun.nil ?_
        exact hQ.out
      refine ih1 (x + 1) _ ?_ ?_ (Le.forgetR rfl ⟨rfl, rfl, rfl, rfl, rfl, rfl, trivial⟩ ⟨rfl, rfl, rfl, trivial⟩ ⟨(bts_add rfl), trivial⟩)
      · try dsimp only
        omega
      · try dsimp only
        omega
    · intro jh0
      apply E.reg
      · intro Q hQ
        refine AWp.seq (AWp.region ?_)
        refine ARun.step rfl (step_field_b rfl (hn rfl) rfl zeFo48_0 rfl (by exact List.cons_ne_nil _ _)) ?_
        refine ARun.step rfl (step_load_b rfl (hn rfl) rfl zeSc9 rfl rfl) ?_
        refine ARun.step rfl (step_moveV rfl (hn rfl) rfl rfl) ?_
        refine ARun.step rfl (step_seql rfl (hn rfl) rfl rfl rfl) ?_
        refine ARun.nil ?_
        exact hQ.out
      refine E.cond rfl (fun c2 => ?_) (fun c2 => ?_)
      · try simp only [nrm] at c2
        apply E.reg
        · intro Q hQ
          refine AWp.seq (AWp.region ?_)
          refine ARun.step rfl (step_build0 rfl (hn rfl) rfl zeSl22) ?_
          refine ARun.step rfl (step_assignV rfl (hn rfl) rfl rfl) ?_
          refine ARun.nil ?_
          exact hQ.out
        refine E.mono (fun Q h => AWp.seq h) ?_
        apply E.reg
        · intro Q hQ
          refine AWp.seq (AWp.region ?_)
          refine ARun.step rfl (step_assignV rfl (hn rfl) rfl rfl) ?_
          refine ARun.nil ?_
          exact hQ.out
        refine E.mono (fun Q h => AWp.block h) ?_
        refine E.loop (fun z : Nat => mkAS 76 [(1, ⟨true, .one (.v (.str s))⟩), (2, ⟨true, .one (.v (strs l))⟩), (3, ⟨true, .one (.bptr 3 0)⟩), (6, ⟨true, .one (.bptr 6 0)⟩), (7, ⟨true, .one (.bptr 7 0)⟩), (8, ⟨true, .one (.v (.int .i64 (x : Nat)))⟩), (9, ⟨true, .one (.bptr 9 0)⟩), (10, ⟨true, .one (.ref ⟨.arr 31 0, []⟩)⟩), (11, ⟨true, .one (.v (.int .i64 (z : Nat)))⟩)] [(3, [.v (strs p.things), .v (bts 48 p.bs)]), (6, [.any, .any]), (7, [.v (strs p.things), .ref ⟨.arr 73 0, []⟩]), (9, [.v (.str (nth p.bs x).name), .v (strs (nth p.bs x).has), .v (strs (nth p.bs x).needs)])] [(31, 0, strs (selGo (wthF (nth p.bs x) l) (nth p.bs x).needs z)), (73, 0, bts 48 (wthGo p s l x))]) (fun z => z ≤ (nth p.bs x).needs.length) (fun z => (nth p.bs x).needs.length - z) 0 ?_ (Le.forgetR rfl ⟨rfl, rfl, rfl, rfl, rfl, rfl, rfl, rfl, rfl, trivial⟩ ⟨rfl, rfl, rfl, rfl, trivial⟩ ⟨.refl _, .refl _, trivial⟩) ?_
        · try dsimp only
          omega
        rintro z hz ih2
        have hsl := selGo_len (wthF (nth p.bs x) l) (nth p.bs x).needs z
        refine E.mono (fun Q h => AWp.seq h) ?_
        apply E.reg
        · intro Q hQ
          refine AWp.seq (AWp.region ?_)
          refine ARun.step rfl (step_moveV rfl (hn rfl) rfl rfl) ?_
          refine ARun.step rfl (step_field_b rfl (hn rfl) rfl zeFo48_2 rfl (by exact List.cons_ne_nil _ _)) ?_
          refine ARun.step rfl (step_load_b rfl (hn rfl) rfl zeSc22 rfl rfl) ?_
          refine ARun.step rfl (step_len_f rfl (hn rfl) rfl zeSl22 rfl) ?_
          refine ARun.step rfl (step_lss rfl (hn rfl) rfl rfl rfl) ?_
          refine ARun.nil ?_
          exact hQ.out
        refine E.cond rfl (fun c3 => ?_) (fun c3 => ?_)
        · try simp only [nrm] at c3
          refine E.mono (fun Q h => AWp.skip h) ?_
          refine E.mono (fun Q h => AWp.seq h) ?_
          refine E.mono (fun Q h => AWp.block h) ?_
          rcases Bool.eq_false_or_eq_true (hasB (nth p.bs x).has (nth (nth p.bs x).needs z)) with hgs | hgs
          · apply E.reg
            · intro Q hQ
              refine AWp.seq (AWp.drawM [⟨⟨[.s 9, .b 9], [.s 39], false⟩, none, []⟩, ⟨⟨[.s 39, .b 9], [.s 40], false⟩, none, []⟩, ⟨⟨[.s 9, .b 9], [.s 41], false⟩, none, []⟩, ⟨⟨[.s 41, .b 9], [.s 42], false⟩, none, []⟩, ⟨⟨[.s 11], [.s 43], false⟩, none, []⟩, ⟨⟨[.s 42, .s 43], [.s 44], false⟩, none, []⟩, ⟨⟨[.s 44], [.s 45], false⟩, none, []⟩, ⟨⟨[], [], true⟩, none, []⟩, ⟨⟨[], [], true⟩, none, []⟩, ⟨⟨[.s 47], [.s 48], false⟩, none, []⟩, ⟨⟨[.s 47], [.s 49], false⟩, none, []⟩, ⟨⟨[.s 47], [.s 50], false⟩, none, []⟩, ⟨⟨[.s 47], [.s 51], false⟩, none, []⟩, ⟨⟨[.s 47], [.s 52], false⟩, none, []⟩, ⟨⟨[.s 47], [.s 53], false⟩, none, []⟩, ⟨⟨[.s 47], [.s 54], false⟩, none, []⟩, ⟨⟨[], [], true⟩, none, []⟩] zeMo rfl rfl (Le.forgetR (n := 76) (sl := [(1, _), (2, _), (3, _), (6, _), (7, _), (8, _), (9, _), (10, _), (11, _), (32, _), (33, _), (34, _), (35, _), (36, _)]) (bl := [(3, _), (6, _), (7, _), (9, _)]) (al := [(31, 0, _), (73, 0, _)]) rfl ⟨rfl, rfl, rfl, rfl, rfl, rfl, rfl, rfl, rfl, rfl, rfl, rfl, rfl, rfl, trivial⟩ ⟨rfl, rfl, rfl, rfl, trivial⟩ ⟨.refl _, .refl _, trivial⟩) rfl ?_)
              refine FRun.slot rfl (fun τ hN hr => step_field_b rfl (rdN hN (hn rfl)) rfl zeFo48_1 (by exact rdS hr rfl rfl) (by exact rdBne hr rfl (by exact List.cons_ne_nil _ _))) (by exact rfl) ?_
              refine FRun.slot rfl (fun τ hN hr => step_load_b rfl (rdN hN (hn rfl)) rfl zeSc22 (by exact rdS hr rfl rfl) (by exact rdBget hr rfl rfl)) (by exact rfl) ?_
              refine FRun.slot rfl (fun τ hN hr => step_field_b rfl (rdN hN (hn rfl)) rfl zeFo48_2 (by exact rdS hr rfl rfl) (by exact rdBne hr rfl (by exact List.cons_ne_nil _ _))) (by exact rfl) ?_
              refine FRun.slot rfl (fun τ hN hr => step_load_b rfl (rdN hN (hn rfl)) rfl zeSc22 (by exact rdS hr rfl rfl) (by exact rdBget hr rfl rfl)) (by exact rfl) ?_
              refine FRun.slot rfl (fun τ hN hr => step_moveV rfl (rdN hN (hn rfl)) rfl (by exact rdS hr rfl rfl)) (by exact rfl) ?_
              refine FRun.slot rfl (fun τ hN hr => step_index_fN rfl (rdN hN (hn rfl)) rfl zeSl22 (by exact rdS hr rfl rfl) (by exact rdS hr rfl rfl) (by first | omega | (simp only [List.length_cons, List.length_nil]; omega))) (by exact rfl) ?_
              refine FRun.slot rfl (fun τ hN hr => step_load_f rfl (rdN hN (hn rfl)) rfl zeSc9 (by exact rdS hr rfl rfl) (hn rfl) rfl) (by exact rfl) ?_
              refine FRun.whole rfl (call_step1 rfl (hn rfl) rfl zeCo28 (.cons rfl (.one (.v _)) (.cons rfl (.one (.v _)) (.nil))) (whHas _ _) rfl) (by exact rfl) ?_
              refine FRun.whole rfl (step_moveV rfl (hn rfl) rfl rfl) (by exact rfl) ?_
              refine FRun.off (.any) rfl rfl rfl rfl (by rw [hgs]; decide) rfl (hn rfl) (by exact rfl) ?_
              refine FRun.off (.any) rfl rfl rfl rfl (by rw [hgs]; decide) rfl (hn rfl) (by exact rfl) ?_
              refine FRun.off (.any) rfl rfl rfl rfl (by rw [hgs]; decide) rfl (hn rfl) (by exact rfl) ?_
              refine FRun.off (.any) rfl rfl rfl rfl (by rw [hgs]; decide) rfl (hn rfl) (by exact rfl) ?_
              refine FRun.off (.any) rfl rfl rfl rfl (by rw [hgs]; decide) rfl (hn rfl) (by exact rfl) ?_
              refine FRun.off (.any) rfl rfl rfl rfl (by rw [hgs]; decide) rfl (hn rfl) (by exact rfl) ?_
              refine FRun.off (.one (.v (.bool false))) rfl rfl rfl rfl (by rw [hgs]; decide) rfl (hn rfl) (by exact rfl) ?_
              refine FRun.whole rfl (step_or rfl (hn rfl) rfl rfl rfl (fun h => (by rw [hgs] at h; cases h))) (by exact rfl) ?_
              refine FRun.nil ?_
              exact hQ.out
            refine E.cond rfl (fun c4 => ?_) (fun c4 => ?_)
            · try simp only [nrm] at c4
              apply E.reg
              · intro Q hQ
                refine AWp.region ?_
                refine ARun.step rfl (step_moveV rfl (hn rfl) rfl rfl) ?_
                refine ARun.step rfl (step_field_b rfl (hn rfl) rfl zeFo48_2 rfl (by exact List.cons_ne_nil _ _)) ?_
                refine ARun.step rfl (step_load_b rfl (hn rfl) rfl zeSc22 rfl rfl) ?_
                refine ARun.step rfl (step_moveV rfl (hn rfl) rfl rfl) ?_
                refine ARun.step rfl (step_index_fN rfl (hn rfl) rfl zeSl22 rfl rfl (by first | omega | (simp only [List.length_cons, List.length_nil]; omega))) ?_
                refine ARun.step rfl (step_load_f rfl (hn rfl) rfl zeSc9 rfl (hn rfl) rfl) ?_
                refine ARun.step rfl (step_buildVT rfl (hn rfl) rfl zeSl22 (strs [_]) (.cons rfl rfl rfl rfl (.nil _)) rfl rfl rfl (rows1 rfl)) ?_
                refine ARun.step rfl (step_append_strs rfl (hn rfl) rfl zeSl22 rfl rfl rfl (.v _) (by first | omega | (simp only [List.length_cons, List.length_nil, List.length_append, List.length_take, List.length_drop]; omega)) (by first | omega | (simp only [List.length_cons, List.length_nil, List.length_append, List.length_take, List.length_drop]; omega))) ?_
                refine ARun.step rfl (step_assignV rfl (hn rfl) rfl rfl) ?_
                refine ARun.nil ?_
                exact hQ.out
              apply E.reg
              · intro Q hQ
                refine AWp.region ?_
                refine ARun.step rfl (step_moveV rfl (hn rfl) rfl rfl) ?_
                refine ARun.step rfl (step_addI rfl (hn rfl) rfl rfl rfl (by first | omega | (simp only [List.length_cons, List.length_nil]; omega)) (by first | omega | (simp only [List.length_cons, List.length_nil]; omega))) ?_
                refine ARun.step rfl (step_assignV rfl (hn rfl) rfl rfl) ?_
                refine ARun.nil ?_
                exact hQ.out
              refine ih2 (z + 1) _ ?_ ?_ (Le.forgetR rfl ⟨rfl, rfl, rfl, rfl, rfl, rfl, rfl, rfl, rfl, trivial⟩ ⟨rfl, rfl, rfl, rfl, trivial⟩ ⟨(by first | exact eqv_strs (selGo_yes (by rw [wthF]; grind)) | exact eqv_strs (selGo_no (by rw [wthF]; grind))), .refl _, trivial⟩)
              · try dsimp only
                omega
              · try dsimp only
                omega
            · try simp only [nrm] at c4
              refine E.mono (fun Q h => AWp.skip h) ?_
              apply E.reg
              · intro Q hQ
                refine AWp.region ?_
                refine ARun.step rfl (step_moveV rfl (hn rfl) rfl rfl) ?_
                refine ARun.step rfl (step_addI rfl (hn rfl) rfl rfl rfl (by first | omega | (simp only [List.length_cons, List.length_nil]; omega)) (by first | omega | (simp only [List.length_cons, List.length_nil]; omega))) ?_
                refine ARun.step rfl (step_assignV rfl (hn rfl) rfl rfl) ?_
                refine ARun.nil ?_
                exact hQ.out
              refine ih2 (z + 1) _ ?_ ?_ (Le.forgetR rfl ⟨rfl, rfl, rfl, rfl, rfl, rfl, rfl, rfl, rfl, trivial⟩ ⟨rfl, rfl, rfl, rfl, trivial⟩ ⟨(by first | exact eqv_strs (selGo_yes (by rw [wthF]; grind)) | exact eqv_strs (selGo_no (by rw [wthF]; grind))), .refl _, trivial⟩)
              · try dsimp only
                omega
              · try dsimp only
                omega
          · apply E.reg
            · intro Q hQ
              refine AWp.seq (AWp.drawM [⟨⟨[.s 9, .b 9], [.s 39], false⟩, none, []⟩, ⟨⟨[.s 39, .b 9], [.s 40], false⟩, none, []⟩, ⟨⟨[.s 9, .b 9], [.s 41], false⟩, none, []⟩, ⟨⟨[.s 41, .b 9], [.s 42], false⟩, none, []⟩, ⟨⟨[.s 11], [.s 43], false⟩, none, []⟩, ⟨⟨[.s 42, .s 43], [.s 44], false⟩, none, []⟩, ⟨⟨[.s 44], [.s 45], false⟩, none, []⟩, ⟨⟨[], [], true⟩, none, []⟩, ⟨⟨[], [], true⟩, none, []⟩, ⟨⟨[.s 47, .s 2], [.s 48], false⟩, none, []⟩, ⟨⟨[.s 47, .s 9, .b 9], [.s 49], false⟩, none, []⟩, ⟨⟨[.s 47, .s 49, .b 9], [.s 50], false⟩, none, []⟩, ⟨⟨[.s 47, .s 11], [.s 51], false⟩, none, []⟩, ⟨⟨[.s 47, .s 50, .s 51], [.s 52], false⟩, none, []⟩, ⟨⟨[.s 47, .s 52], [.s 53], false⟩, none, []⟩, ⟨⟨[], [], true⟩, none, []⟩, ⟨⟨[], [], true⟩, none, []⟩] zeMo rfl rfl (Le.forgetR (n := 76) (sl := [(1, _), (2, _), (3, _), (6, _), (7, _), (8, _), (9, _), (10, _), (11, _), (32, _), (33, _), (34, _), (35, _), (36, _)]) (bl := [(3, _), (6, _), (7, _), (9, _)]) (al := [(31, 0, _), (73, 0, _)]) rfl ⟨rfl, rfl, rfl, rfl, rfl, rfl, rfl, rfl, rfl, rfl, rfl, rfl, rfl, rfl, trivial⟩ ⟨rfl, rfl, rfl, rfl, trivial⟩ ⟨.refl _, .refl _, trivial⟩) rfl ?_)
              refine FRun.slot rfl (fun τ hN hr => step_field_b rfl (rdN hN (hn rfl)) rfl zeFo48_1 (by exact rdS hr rfl rfl) (by exact rdBne hr rfl (by exact List.cons_ne_nil _ _))) (by exact rfl) ?_
              refine FRun.slot rfl (fun τ hN hr => step_load_b rfl (rdN hN (hn rfl)) rfl zeSc22 (by exact rdS hr rfl rfl) (by exact rdBget hr rfl rfl)) (by exact rfl) ?_
              refine FRun.slot rfl (fun τ hN hr => step_field_b rfl (rdN hN (hn rfl)) rfl zeFo48_2 (by exact rdS hr rfl rfl) (by exact rdBne hr rfl (by exact List.cons_ne_nil _ _))) (by exact rfl) ?_
              refine FRun.slot rfl (fun τ hN hr => step_load_b rfl (rdN hN (hn rfl)) rfl zeSc22 (by exact rdS hr rfl rfl) (by exact rdBget hr rfl rfl)) (by exact rfl) ?_
              refine FRun.slot rfl (fun τ hN hr => step_moveV rfl (rdN hN (hn rfl)) rfl (by exact rdS hr rfl rfl)) (by exact rfl) ?_
              refine FRun.slot rfl (fun τ hN hr => step_index_fN rfl (rdN hN (hn rfl)) rfl zeSl22 (by exact rdS hr rfl rfl) (by exact rdS hr rfl rfl) (by first | omega | (simp only [List.length_cons, List.length_nil]; omega))) (by exact rfl) ?_
              refine FRun.slot rfl (fun τ hN hr => step_load_f rfl (rdN hN (hn rfl)) rfl zeSc9 (by exact rdS hr rfl rfl) (hn rfl) rfl) (by exact rfl) ?_
              refine FRun.whole rfl (call_step1 rfl (hn rfl) rfl zeCo28 (.cons rfl (.one (.v _)) (.cons rfl (.one (.v _)) (.nil))) (whHas _ _) rfl) (by exact rfl) ?_
              refine FRun.whole rfl (step_moveV rfl (hn rfl) rfl rfl) (by exact rfl) ?_
              refine FRun.on (t := 47) rfl rfl rfl rfl (by rw [hgs]) ?_
              refine FRun.slot rfl (fun τ hN hr => step_moveV rfl (rdN hN (hn rfl)) rfl (by exact rdS hr rfl rfl)) (by exact rfl) ?_
              refine FRun.on (t := 47) rfl rfl rfl rfl (by rw [hgs]) ?_
              refine FRun.slot rfl (fun τ hN hr => step_field_b rfl (rdN hN (hn rfl)) rfl zeFo48_2 (by exact rdS hr rfl rfl) (by exact rdBne hr rfl (by exact List.cons_ne_nil _ _))) (by exact rfl) ?_
              refine FRun.on (t := 47) rfl rfl rfl rfl (by rw [hgs]) ?_
              refine FRun.slot rfl (fun τ hN hr => step_load_b rfl (rdN hN (hn rfl)) rfl zeSc22 (by exact rdS hr rfl rfl) (by exact rdBget hr rfl rfl)) (by exact rfl) ?_
              refine FRun.on (t := 47) rfl rfl rfl rfl (by rw [hgs]) ?_
              refine FRun.slot rfl (fun τ hN hr => step_moveV rfl (rdN hN (hn rfl)) rfl (by exact rdS hr rfl rfl)) (by exact rfl) ?_
              refine FRun.on (t := 47) rfl rfl rfl rfl (by rw [hgs]) ?_
              refine FRun.slot rfl (fun τ hN hr => step_index_fN rfl (rdN hN (hn rfl)) rfl zeSl22 (by exact rdS hr rfl rfl) (by exact rdS hr rfl rfl) (by first | omega | (simp only [List.length_cons, List.length_nil]; omega))) (by exact rfl) ?_
              refine FRun.on (t := 47) rfl rfl rfl rfl (by rw [hgs]) ?_
              refine FRun.slot rfl (fun τ hN hr => step_load_f rfl (rdN hN (hn rfl)) rfl zeSc9 (by exact rdS hr rfl rfl) (hn rfl) rfl) (by exact rfl) ?_
              refine FRun.on (t := 47) rfl rfl rfl rfl (by rw [hgs]) ?_
              refine FRun.whole rfl (call_step1 rfl (hn rfl) rfl zeCo28 (.cons rfl (.one (.v _)) (.cons rfl (.one (.v _)) (.nil))) (whHas _ _) rfl) (by exact rfl) ?_
              refine FRun.whole rfl (step_or rfl (hn rfl) rfl rfl rfl (fun _ => rfl)) (by exact rfl) ?_
              refine FRun.nil ?_
              exact hQ.out
            refine E.cond rfl (fun c5 => ?_) (fun c5 => ?_)
            · try simp only [nrm] at c5
              apply E.reg
              · intro Q hQ
                refine AWp.region ?_
                refine ARun.step rfl (step_moveV rfl (hn rfl) rfl rfl) ?_
                refine ARun.step rfl (step_field_b rfl (hn rfl) rfl zeFo48_2 rfl (by exact List.cons_ne_nil _ _)) ?_
                refine ARun.step rfl (step_load_b rfl (hn rfl) rfl zeSc22 rfl rfl) ?_
                refine ARun.step rfl (step_moveV rfl (hn rfl) rfl rfl) ?_
                refine ARun.step rfl (step_index_fN rfl (hn rfl) rfl zeSl22 rfl rfl (by first | omega | (simp only [List.length_cons, List.length_nil]; omega))) ?_
                refine ARun.step rfl (step_load_f rfl (hn rfl) rfl zeSc9 rfl (hn rfl) rfl) ?_
                refine ARun.step rfl (step_buildVT rfl (hn rfl) rfl zeSl22 (strs [_]) (.cons rfl rfl rfl rfl (.nil _)) rfl rfl rfl (rows1 rfl)) ?_
                refine ARun.step rfl (step_append_strs rfl (hn rfl) rfl zeSl22 rfl rfl rfl (.v _) (by first | omega | (simp only [List.length_cons, List.length_nil, List.length_append, List.length_take, List.length_drop]; omega)) (by first | omega | (simp only [List.length_cons, List.length_nil, List.length_append, List.length_take, List.length_drop]; omega))) ?_
                refine ARun.step rfl (step_assignV rfl (hn rfl) rfl rfl) ?_
                refine ARun.nil ?_
                exact hQ.out
              apply E.reg
              · intro Q hQ
                refine AWp.region ?_
                refine ARun.step rfl (step_moveV rfl (hn rfl) rfl rfl) ?_
                refine ARun.step rfl (step_addI rfl (hn rfl) rfl rfl rfl (by first | omega | (simp only [List.length_cons, List.length_nil]; omega)) (by first | omega | (simp only [List.length_cons, List.length_nil]; omega))) ?_
                refine ARun.step rfl (step_assignV rfl (hn rfl) rfl rfl) ?_
                refine ARun.nil ?_
                exact hQ.out
              refine ih2 (z + 1) _ ?_ ?_ (Le.forgetR rfl ⟨rfl, rfl, rfl, rfl, rfl, rfl, rfl, rfl, rfl, trivial⟩ ⟨rfl, rfl, rfl, rfl, trivial⟩ ⟨(by first | exact eqv_strs (selGo_yes (by rw [wthF]; grind)) | exact eqv_strs (selGo_no (by rw [wthF]; grind))), .refl _, trivial⟩)
              · try dsimp only
                omega
              · try dsimp only
                omega
            · try simp only [nrm] at c5
              refine E.mono (fun Q h => AWp.skip h) ?_
              apply E.reg
              · intro Q hQ
                refine AWp.region ?_
                refine ARun.step rfl (step_moveV rfl (hn rfl) rfl rfl) ?_
                refine ARun.step rfl (step_addI rfl (hn rfl) rfl rfl rfl (by first | omega | (simp only [List.length_cons, List.length_nil]; omega)) (by first | omega | (simp only [List.length_cons, List.length_nil]; omega))) ?_
                refine ARun.step rfl (step_assignV rfl (hn rfl) rfl rfl) ?_
                refine ARun.nil ?_
                exact hQ.out
              refine ih2 (z + 1) _ ?_ ?_ (Le.forgetR rfl ⟨rfl, rfl, rfl, rfl, rfl, rfl, rfl, rfl, rfl, trivial⟩ ⟨rfl, rfl, rfl, rfl, trivial⟩ ⟨(by first | exact eqv_strs (selGo_yes (by rw [wthF]; grind)) | exact eqv_strs (selGo_no (by rw [wthF]; grind))), .refl _, trivial⟩)
              · try dsimp only
                omega
              · try dsimp only
                omega
        · try simp only [nrm] at c3
          refine E.mono (fun Q h => AWp.exit h) ?_
          refine E.mono (fun Q h => AWp.le (Le.letGo 31 0 (g := _) rfl (fun _ _ => rfl)) h) ?_
          apply E.reg
          · intro Q hQ
            refine AWp.region ?_
            refine ARun.step rfl (step_moveV rfl (hn rfl) rfl rfl) ?_
            refine ARun.step rfl (step_moveV rfl (hn rfl) rfl rfl) ?_
            refine ARun.step rfl (step_field_b rfl (hn rfl) rfl zeFo48_2 rfl (by exact List.cons_ne_nil _ _)) ?_
            refine ARun.step rfl (step_load_b rfl (hn rfl) rfl zeSc22 rfl rfl) ?_
            refine ARun.step rfl (step_build rfl (hn rfl) rfl zePl48 zeZc48 (.cons rfl rfl rfl rfl (.cons rfl rfl rfl rfl (.cons rfl rfl rfl rfl (.nil)))) rfl) ?_
            refine ARun.step rfl (step_store_p (bs := [_, _, _]) rfl rfl zeCs48 rfl rfl rfl rfl rfl rfl rfl) ?_
            refine ARun.nil ?_
            exact hQ.out
          refine jh0 (⟨s, (selGo (wthF (nth p.bs x) l) (nth p.bs x).needs z), (nth p.bs x).needs⟩) _ ?_ (Le.forgetR rfl ⟨rfl, rfl, rfl, rfl, rfl, rfl, rfl, trivial⟩ ⟨rfl, rfl, rfl, rfl, trivial⟩ ⟨.refl _, trivial⟩)
          try dsimp only
          rw [show z = (nth p.bs x).needs.length by omega, wthBt, if_pos (by grind)]
      · try simp only [nrm] at c2
        refine E.mono (fun Q h => AWp.skip h) ?_
        refine jh0 ((nth p.bs x)) _ ?_ (Le.forgetR rfl ⟨rfl, rfl, rfl, rfl, rfl, rfl, rfl, trivial⟩ ⟨rfl, rfl, rfl, rfl, trivial⟩ ⟨.refl _, trivial⟩)
        try dsimp only
        rw [wthBt, if_neg (by grind)]
  · try simp only [nrm] at c1
    refine E.mono (fun Q h => AWp.exit h) ?_
    apply E.reg
    · intro Q hQ
      refine AWp.seq (AWp.region ?_)
      refine ARun.step rfl (step_loadS_b rfl (hn rfl) rfl zeSt29 rfl rfl rfl (by decide)) ?_
      refine ARun.step rfl (step_store_r rfl rfl zeCs29 rfl rfl rfl rfl rfl rfl rfl) ?_
      refine ARun.nil ?_
      exact hQ.out
    refine E.mono (fun Q h => AWp.le (Le.letGo 73 0 (g := _) rfl (fun _ _ => rfl)) h) ?_
    refine E.mono (fun Q h => AWp.ret h) ?_
    apply E.ret (i := (⟨p.things, wthGo p s l x⟩, ()))
    · refine ⟨.inr rfl, 6, 2, _, _, _, zeSt29, by decide, rfl, rfl, rfl, rfl, (.cons rfl (.agg (.cons (.frz _ _ _ _ _) (.cons (.frz _ _ _ _ _) (.nil _)))) (.nil _)), rfl, ?_⟩
      refine congrArg PV.agg ?_
      rfl
    · try dsimp only
      all_goals (rw [show x = p.bs.length by omega]; rfl)

end Go.Proofs.Ytkmacjdigkaabaa
