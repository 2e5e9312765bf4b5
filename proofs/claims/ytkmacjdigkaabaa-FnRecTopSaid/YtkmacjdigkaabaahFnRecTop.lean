/- Contracts of functions of the program, each met by its body; conditions stand in each statement. No condition. -/
import Derived.Test.YtkmacjdigkaabaahRd43
import Derived.Test.YtkmacjdigkaabaaHo
import Derived.Test.YtkmacjdigkaabaaProg
import Derived.KernelRfl
set_option linter.unusedVariables false
set_option linter.unusedSimpArgs false
set_option linter.unnecessarySimpa false
set_option linter.unusedSimpArgs false
set_option maxRecDepth 100000
namespace Go.Proofs.Ytkmacjdigkaabaa
open Go Go.Mh

open Go in
theorem eqRec (a b : RSt) (w : World) : (Op.equalIn 10000 67 (.agg (a.cells.map T.val).toArray) (.agg (b.cells.map T.val).toArray)).run Try.prog w = .ok (eqRSt a b) w := by
  have hS : Try.prog.underlying 67 = some (.struct (Try.prog.fieldsOf 67)) := by kernel_rfl
  have hp : Try.prog.stoodInHeld 67 = false := by kernel_rfl
  rw [show (10000 : Nat) = 9999 + 1 from rfl, run_equalIn_agg w 9999 67 _ _ hS hp]
  have p1 : ∀ w, (part 9 (a.cells.map T.val).toArray 0).run Try.prog w = .ok (.string a.at_) w := fun w => by kernel_rfl
  have p2 : ∀ w, (part 9 (b.cells.map T.val).toArray 0).run Try.prog w = .ok (.string b.at_) w := fun w => by kernel_rfl
  have p3 : ∀ w, (part 3 (a.cells.map T.val).toArray 1).run Try.prog w = .ok (.int .i64 a.now) w := fun w => by kernel_rfl
  have p4 : ∀ w, (part 3 (b.cells.map T.val).toArray 1).run Try.prog w = .ok (.int .i64 b.now) w := fun w => by kernel_rfl
  have p5 : ∀ w, (part 3 (a.cells.map T.val).toArray 2).run Try.prog w = .ok (.int .i64 a.left) w := fun w => by kernel_rfl
  have p6 : ∀ w, (part 3 (b.cells.map T.val).toArray 2).run Try.prog w = .ok (.int .i64 b.left) w := fun w => by kernel_rfl
  have us : Try.prog.underlying 9 = some .string := by kernel_rfl
  have ui : Try.prog.underlying 3 = some (.int .i64) := by kernel_rfl
  have q1 : ∀ w, (Op.equalIn 9999 9 (.string a.at_) (.string b.at_)).run Try.prog w = .ok (strEq a.at_ b.at_) w := fun w => run_equalIn_string w 9998 9 _ _ us
  have q2 : ∀ w, (Op.equalIn 9999 3 (.int .i64 a.now) (.int .i64 b.now)).run Try.prog w = .ok (a.now == b.now) w := fun w => run_equalIn_int w 9998 3 _ _ _ _ ui
  have q3 : ∀ w, (Op.equalIn 9999 3 (.int .i64 a.left) (.int .i64 b.left)).run Try.prog w = .ok (a.left == b.left) w := fun w => run_equalIn_int w 9998 3 _ _ _ _ ui
  obtain ⟨f1, f2, f3, hf, n1, n2, n3, t1, t2, t3, o1, o2, o3⟩ : ∃ f1 f2 f3 : Field, (Try.prog.fieldsOf 67).toList = [f1, f2, f3] ∧ f1.name ≠ "_" ∧ f2.name ≠ "_" ∧ f3.name ≠ "_" ∧ f1.type = 9 ∧ f2.type = 3 ∧ f3.type = 3 ∧ f1.offset = 0 ∧ f2.offset = 1 ∧ f3.offset = 2 :=
    ⟨{ name := "At", type := 9, offset := 0, embedded := false, tag := "", pkgPath := "", byteOffset := 0 }, { name := "Now", type := 3, offset := 1, embedded := false, tag := "", pkgPath := "", byteOffset := 16 }, { name := "Left", type := 3, offset := 2, embedded := false, tag := "", pkgPath := "", byteOffset := 24 }, (by kernel_rfl), by decide, by decide, by decide, rfl, rfl, rfl, rfl, rfl, rfl⟩
  rw [hf]
  simp only [Op.eqFields, if_pos n1, if_pos n2, if_pos n3, t1, t2, t3, o1, o2, o3, Sem.run_bind, p1, p2, p3, p4, p5, p6, q1, q2, q3, Result.andThen_ok, Sem.run_pure, Sem.run_ite, eqRSt]
  cases strEq a.at_ b.at_ <;> cases (a.now == b.now) <;> cases (a.left == b.left) <;> rfl
theorem eqGuardRec : Try.prog.eqGuardType Try.prog.depth 67 = false := by kernel_rfl
theorem eqlRec {x y : Operand} (a b : RSt) : ∀ w, (do eqGuard .eql 67 x y (.agg (a.cells.map T.val).toArray) (.agg (b.cells.map T.val).toArray); binOp .eql 67 (.agg (a.cells.map T.val).toArray) (.agg (b.cells.map T.val).toArray) : Sem Value).run Try.prog w = .ok (T.val (.bool (eqRSt a b))) w := fun w => by
  simp only [Sem.run_bind, run_eqGuard_agg w .eql 67 x y _ _ eqGuardRec, Result.andThen_ok, run_eql_struct, eqRec]; rfl
theorem neqRec {x y : Operand} (a b : RSt) : ∀ w, (do eqGuard .neq 67 x y (.agg (a.cells.map T.val).toArray) (.agg (b.cells.map T.val).toArray); binOp .neq 67 (.agg (a.cells.map T.val).toArray) (.agg (b.cells.map T.val).toArray) : Sem Value).run Try.prog w = .ok (T.val (.bool (!eqRSt a b))) w := fun w => by
  simp only [Sem.run_bind, run_eqGuard_agg w .neq 67 x y _ _ eqGuardRec, Result.andThen_ok, run_neq_struct, eqRec]; rfl

def sayI (y : List Say) (i : Nat) : Say := if i < y.length then nth y i else noSay
def stI (l : List Ph) (y : List Say) : Nat → RSt
  | 0 => begSt l
  | i + 1 => goSt l (stI l y i) (sayI y i)
theorem say_head (y : List Say) (i : Nat) : (y.drop i).headD noSay = sayI y i ∧ (y.drop i).tail = y.drop (i + 1) := by
  unfold sayI
  split
  · rename_i h; exact head_drop h
  · rename_i h; exact head_end (by omega)
theorem run_path {l : List Ph} (hl : recOk l = true) (y : List Say) : ∀ (n i : Nat), rank l (stI l y i).at_ < n → stOk l (stI l y i) → (runG l n (stI l y i) (y.drop i)).1 = stI l y (i + (runG l n (stI l y i) (y.drop i)).2.length) ∧ atP l (runG l n (stI l y i) (y.drop i)).1.at_ < 0 ∧ stOk l (runG l n (stI l y i) (y.drop i)).1 ∧
    ∀ j, j < (runG l n (stI l y i) (y.drop i)).2.length → nth (runG l n (stI l y i) (y.drop i)).2 j = (stI l y (i + j)).at_ ∧ 0 ≤ atP l (stI l y (i + j)).at_ ∧ stOk l (stI l y (i + j))
  | 0, i, h, _ => absurd h (Nat.not_lt_zero _)
  | n + 1, i, h, hs => by
    by_cases h0 : 0 ≤ atP l (stI l y i).at_
    · have hg := go_ok hl hs h0 (sayI y i)
      have e : goSt l (stI l y i) (sayI y i) = stI l y (i + 1) := rfl
      rw [e] at hg
      rw [runG_step h0, (say_head y i).1, (say_head y i).2, e]
      obtain ⟨h1, h2, h3, h4⟩ := run_path hl y n (i + 1) (by omega) hg.1
      refine ⟨?_, h2, h3, fun j hj => ?_⟩
      · simp only [List.length_cons]
        rw [h1]; congr 1; omega
      · cases j with
        | zero => exact ⟨rfl, h0, hs⟩
        | succ j =>
          have := h4 j (by simpa using hj)
          rw [show i + 1 + j = i + (j + 1) by omega] at this
          exact this
    · rw [runG_end (by omega)]
      exact ⟨rfl, (show atP l (stI l y i).at_ < 0 by omega), hs, fun j hj => absurd hj (Nat.not_lt_zero _)⟩
theorem st_left {l : List Ph} (hl : recOk l = true) (y : List Say) : ∀ i, (stI l y i).left = bnd l (stI l y i).at_
  | 0 => by show (begSt l).left = bnd l (begSt l).at_; unfold begSt; rw [if_pos hl]
  | i + 1 => by
    show (goSt l _ _).left = bnd l (goSt l _ _).at_
    unfold goSt
    simp only
    repeat' split
    all_goals rfl
theorem bnd_end {l : List Ph} {s : Str} (h : atP l s < 0) : bnd l s = 0 := by
  unfold bnd; simp only [boundG]; rw [if_pos h]
theorem bnd_step {l : List Ph} (hl : recOk l = true) {s : Str} (h : 0 ≤ atP l s) : bnd l s = (nth l (atP l s).toNat).within + max (bnd l (nth l (atP l s).toNat).thn) (bnd l (nth l (atP l s).toNat).els) := by
  have hr := rank_thn hl (s := s) h
  have hle := rank_le l s
  conv => lhs; unfold bnd
  simp only [boundG]
  rw [if_neg (by omega), boundG_eq hl l.length (l.length + 1) _ (by omega) (rank_le _ _), boundG_eq hl l.length (l.length + 1) _ (by omega) (rank_le _ _)]
  rfl
theorem go_time {l : List Ph} (hl : recOk l = true) {st : RSt} (h : 0 ≤ atP l st.at_) (hleft : st.left = bnd l st.at_) (y : Say) : st.now ≤ (goSt l st y).now ∧ (goSt l st y).now + (goSt l st y).left ≤ st.now + st.left := by
  have hb := bnd_step hl h
  have ha := atP_lt l st.at_
  have hw := within_ok hl (i := (atP l st.at_).toNat) (by omega)
  have ht := goT_nn (nth l (atP l st.at_).toNat) y
  unfold goSt
  simp only
  repeat' split
  all_goals (simp only; omega)
theorem slotsG_eq {l : List Ph} (hl : recOk l = true) : ∀ (n m : Nat) (s : Str), rank l s < n → rank l s < m → slotsG l n s = slotsG l m s
  | 0, _, _, h, _ => absurd h (Nat.not_lt_zero _)
  | _, 0, _, _, h => absurd h (Nat.not_lt_zero _)
  | n + 1, m + 1, s, h1, h2 => by
    simp only [slotsG]
    split
    · rfl
    · have := rank_thn hl (s := s) (by omega)
      rw [slotsG_eq hl n m _ (by omega) (by omega), slotsG_eq hl n m _ (by omega) (by omega)]
theorem slotsPh_nodup (p : Ph) : (slotsPh p).Nodup := by
  unfold slotsPh
  split
  · exact (withB_spec List.nodup_nil _).1.nodup
  · simp
theorem slots_step {l : List Ph} (hl : recOk l = true) {s : Str} (h : 0 ≤ atP l s) {x : Str} (hx : x ∈ slotsB l (nth l (atP l s).toNat).thn ∨ x ∈ slotsB l (nth l (atP l s).toNat).els) : x ∈ slotsB l s := by
  have hr := rank_thn hl (s := s) h
  have hle := rank_le l s
  unfold slotsB at hx ⊢
  rw [if_pos hl] at hx ⊢
  rw [if_pos hl] at hx
  simp only [slotsG]
  rw [if_neg (by omega), slotsG_eq hl l.length (l.length + 1) (nth l (atP l s).toNat).thn (by omega) (rank_le _ _), slotsG_eq hl l.length (l.length + 1) (nth l (atP l s).toNat).els (by omega) (rank_le _ _)]
  have hA := withB_spec (slotsPh_nodup (nth l (atP l s).toNat)) (slotsG l (l.length + 1) (nth l (atP l s).toNat).thn)
  exact (withB_spec hA.1.nodup _).2 x |>.2 (hx.elim (fun h => .inl ((hA.2 x).2 (.inr h))) .inr)
theorem go_at (l : List Ph) (st : RSt) (y : Say) : (goSt l st y).at_ = (nth l (atP l st.at_).toNat).thn ∨ (goSt l st y).at_ = (nth l (atP l st.at_).toNat).els := by
  unfold goSt
  simp only
  repeat' split
  all_goals first | exact .inl rfl | exact .inr rfl
theorem can_path {l : List Ph} (hl : recOk l = true) (y : List Say) {m : Nat} (hend : atP l (stI l y m).at_ < 0) (hp : ∀ j, j < m → 0 ≤ atP l (stI l y j).at_) : ∀ (d i : Nat), i + d = m → ∀ n, rank l (stI l y i).at_ < n → canG l (recEnd (stI l y m).at_) n (stI l y i).at_ = true
  | 0, i, e, n + 1, _ => by
    obtain rfl : i = m := by omega
    simp only [canG]
    rw [if_pos hend]; simp
  | d + 1, i, e, n + 1, hr => by
    have h0 := hp i (by omega)
    have hrt := rank_thn hl h0
    simp only [canG]
    rw [if_neg (by omega)]
    have e1 : goSt l (stI l y i) (sayI y i) = stI l y (i + 1) := rfl
    have hat := go_at l (stI l y i) (sayI y i)
    rw [e1] at hat
    have ih := can_path hl y hend hp d (i + 1) (by omega) n
    rcases hat with hat | hat
    · rw [hat] at ih; rw [ih (by omega), Bool.true_or]
    · rw [hat] at ih; rw [ih (by omega), Bool.or_true]
  | 0, _, _, 0, hr => absurd hr (Nat.not_lt_zero _)
  | _ + 1, _, _, 0, hr => absurd hr (Nat.not_lt_zero _)

theorem runIZ (l : List Ph) (y : List Say) : ASpec Try.prog 57 [.one (phs 74 l), .one (says 78 y)] (.tup [.agg (recRun l y).1.cells, .one (.fz (strs (recRun l y).2))]) := (runI l y).letGo (.tup (.cons (.agg (.cons (.sc _ rfl) (.cons (.sc _ rfl) (.cons (.sc _ rfl) .nil)))) (.cons (.one (.fz (.refl _))) .nil)))
theorem runSZ (l : List Ph) (y : List Say) : ASpec Try.prog 58 [.one (phs 74 l), .one (says 78 y)] (.tup [.agg (recRun l y).1.cells, .one (.fz (strs (recRun l y).2))]) := (runS l y).letGo (.tup (.cons (.agg (.cons (.sc _ rfl) (.cons (.sc _ rfl) (.cons (.sc _ rfl) .nil)))) (.cons (.one (.fz (.refl _))) .nil)))
theorem runG_len {l : List Ph} : ∀ (n : Nat) (st : RSt) (y : List Say), (runG l n st y).2.length ≤ n
  | 0, _, _ => Nat.le_refl _
  | n + 1, st, y => by
    simp only [runG]
    split
    · exact Nat.zero_le _
    · have := runG_len (l := l) n (goSt l st (y.headD noSay)) y.tail
      simp only [List.length_cons]; omega
theorem rec_len {l : List Ph} {y : List Say} {r : RSt} {pa : List Str} (h : recRun l y = (r, pa)) (hl : recOk l = true) : pa.length ≤ 13 := by
  rw [recRun, if_pos hl] at h
  have := runG_len (l := l) (l.length + 1) (begSt l) y
  rw [h] at this
  have := recOk_len hl
  simp only at *
  omega
theorem rec_facts {l : List Ph} {y : List Say} {r : RSt} {pa : List Str} (h : recRun l y = (r, pa)) (hl : recOk l = true) : r = stI l y pa.length ∧ atP l r.at_ < 0 ∧ stOk l r ∧ (∀ j, j < pa.length → nth pa j = (stI l y j).at_ ∧ 0 ≤ atP l (stI l y j).at_ ∧ stOk l (stI l y j)) ∧ 0 < pa.length ∧ nth pa 0 = (nth l 0).name := by
  have hb := beg_ok hl
  have hp := run_path hl y (l.length + 1) 0 (rank_le _ _) hb
  have e : runG l (l.length + 1) (stI l y 0) (y.drop 0) = (r, pa) := by rw [← h, recRun, if_pos hl]; rfl
  rw [e] at hp
  obtain ⟨h1, h2, h3, h4⟩ := hp
  simp only [Nat.zero_add] at h1 h4
  have hlen := recOk_len hl
  have hat : atP l (begSt l).at_ = 0 := by
    have hk := okAt_of hl (i := 0) (by omega)
    simp only [okAt, Bool.and_eq_true] at hk
    have : begSt l = ⟨(nth l 0).name, 0, bnd l (nth l 0).name⟩ := by rw [begSt, if_pos hl]
    rw [this]
    simpa using hk.1.1.2
  have hpos : 0 < pa.length := by
    apply Classical.byContradiction
    intro hn
    have : pa.length = 0 := by omega
    rw [this] at h1
    rw [h1] at h2
    have : atP l (begSt l).at_ < 0 := h2
    omega
  refine ⟨h1, h2, h3, h4, hpos, ?_⟩
  rw [(h4 0 hpos).1]
  show (begSt l).at_ = _
  rw [begSt, if_pos hl]
theorem rec_bad {l : List Ph} {y : List Say} {r : RSt} {pa : List Str} (h : recRun l y = (r, pa)) (hl : recOk l = false) : r = ⟨⟨#[]⟩, 0, 0⟩ ∧ pa = [] := by
  rw [recRun, if_neg (by simp [hl]), begSt, if_neg (by simp [hl])] at h
  obtain ⟨h1, h2⟩ := Prod.mk.inj h
  exact ⟨h1.symm, h2.symm⟩
theorem now_bnd {l : List Ph} {y : List Say} (hl : recOk l = true) {i : Nat} (h : stOk l (stI l y i)) : 0 ≤ (stI l y i).now ∧ (stI l y i).now ≤ 12000 ∧ 0 ≤ (stI l y i).left ∧ (stI l y i).left ≤ 13000 := by
  have h1 := st_left hl y i
  have h2 := boundG_le hl (l.length + 1) (stI l y i).at_
  have h3 := rank_le l (stI l y i).at_
  have h4 := recOk_len hl
  have h5 := h.1
  rw [show boundG l (l.length + 1) (stI l y i).at_ = bnd l (stI l y i).at_ from rfl] at h2
  omega
theorem time_all {l : List Ph} {y : List Say} {m : Nat} (hl : recOk l = true) (hp : ∀ j, j < m → 0 ≤ atP l (stI l y j).at_) : ∀ i, i ≤ m → (stI l y i).now + (stI l y i).left ≤ bnd l (nth l 0).name
  | 0, _ => by show (begSt l).now + (begSt l).left ≤ _; rw [begSt, if_pos hl]; simp only; omega
  | i + 1, hi => by
    have h1 := time_all hl hp i (by omega)
    have h2 := (go_time hl (hp i (by omega)) (st_left hl y i) (sayI y i)).2
    have e1 : goSt l (stI l y i) (sayI y i) = stI l y (i + 1) := rfl
    rw [e1] at h2
    omega
theorem end_pos {s : Str} (h : recEnd s ≠ 0) : inB (recEnd s) 1 3 = true := by
  unfold recEnd at h ⊢
  repeat' split at h
  all_goals first | (exact absurd rfl h) | skip
  all_goals (repeat' split)
  all_goals first | rfl | (exfalso; simp_all)
theorem zjSl41 : sliceT Try.prog 41 = some ⟨5, 1, 1⟩ := by kernel_rfl
theorem zjCo56 : callOk Try.prog 56 = true := by kernel_rfl
theorem zjCo57 : callOk Try.prog 57 = true := by kernel_rfl
theorem zjZs67 : zeroSz Try.prog 67 = some 3 := by kernel_rfl
theorem zjCs67 : cellsSz Try.prog 67 = some (2 + 1) := by kernel_rfl
theorem zjCo58 : callOk Try.prog 58 = true := by kernel_rfl
theorem zjCo60 : callOk Try.prog 60 = true := by kernel_rfl
theorem zjSt67 : structSz Try.prog 67 = some 3 := by kernel_rfl
theorem zjPl67 : structPl Try.prog 67 = some [(0, 1), (1, 1), (2, 1)] := by kernel_rfl
theorem zjZc67 : zeroCs Try.prog 67 = some [.v (.str ⟨#[]⟩), .v (.int .i64 0), .v (.int .i64 0)] := by kernel_rfl
theorem zjSl22 : sliceT Try.prog 22 = some ⟨9, 1, 16⟩ := by kernel_rfl
theorem zjFo67_0 : fieldOff Try.prog 67 0 = some 0 := by kernel_rfl
theorem zjSc9 : scalarB Try.prog 9 = true := by kernel_rfl
theorem zjCo61 : callOk Try.prog 61 = true := by kernel_rfl
theorem zjCo64 : callOk Try.prog 64 = true := by kernel_rfl
theorem zjPl78 : structPl Try.prog 78 = some [(0, 1), (1, 1)] := by kernel_rfl
theorem zjZc78 : zeroCs Try.prog 78 = some [.v (.int .i64 0), .v (.bool false)] := by kernel_rfl
theorem zjZs78 : zeroSz Try.prog 78 = some 2 := by kernel_rfl
theorem zjCs78 : cellsSz Try.prog 78 = some (1 + 1) := by kernel_rfl
theorem zjSt78 : structSz Try.prog 78 = some 2 := by kernel_rfl
theorem zjCo65 : callOk Try.prog 65 = true := by kernel_rfl
theorem zjFo67_1 : fieldOff Try.prog 67 1 = some 1 := by kernel_rfl
theorem zjSc3 : scalarB Try.prog 3 = true := by kernel_rfl
theorem zjFo67_2 : fieldOff Try.prog 67 2 = some 2 := by kernel_rfl
theorem zjCo67 : callOk Try.prog 67 = true := by kernel_rfl
theorem zjCo66 : callOk Try.prog 66 = true := by kernel_rfl
theorem zjMo : Try.prog.follows .mixedOrders = true := by kernel_rfl
theorem zjSl63 : sliceT Try.prog 63 = some ⟨78, 2, 16⟩ := by kernel_rfl
theorem zjSl62 : sliceT Try.prog 62 = some ⟨74, 8, 104⟩ := by kernel_rfl
theorem zjFo74_0 : fieldOff Try.prog 74 0 = some 0 := by kernel_rfl
theorem zjCo62 : callOk Try.prog 62 = true := by kernel_rfl
theorem zjCo63 : callOk Try.prog 63 = true := by kernel_rfl
theorem zjCo59 : callOk Try.prog 59 = true := by kernel_rfl
set_option maxHeartbeats 1000000 in
theorem lawFnRecTop (b : List UInt8)  : ASpec Try.prog 10 [.one (bytesT 5 b)] (.one (.bool true)) := by
  refine ASpec.body Try.func10 rfl [2] rfl 172 rfl rfl rfl ?_
  refine AWp.seq (AWp.region ?_)
  refine ARun.step rfl (step_assignV rfl (hn rfl) rfl rfl) ?_
  refine ARun.nil ?_
  refine AWp.seq ?_
  refine AWp.seq (AWp.region ?_)
  refine ARun.step rfl (step_moveV rfl (hn rfl) rfl rfl) ?_
  refine ARun.step rfl (step_len_f rfl (hn rfl) rfl zjSl41 rfl) ?_
  refine ARun.step rfl (step_gtr rfl (hn rfl) rfl rfl rfl) ?_
  refine ARun.nil ?_
  refine AWp.cond rfl (fun c1 => ?_) (fun c1 => ?_)
  · try simp only [nrm] at c1
    refine AWp.seq (AWp.region ?_)
    refine ARun.step rfl (step_assignV rfl (hn rfl) rfl rfl) ?_
    refine ARun.nil ?_
    refine AWp.ret ?_
    refine RetIs.sc (.inr rfl) rfl rfl ?_
    refine congrArg T.bool ?_
    rfl
  · try simp only [nrm] at c1
    refine AWp.skip ?_
    obtain ⟨l, y, ⟨hl13, hy⟩, hd⟩ := drawRecRun b (by omega)
    refine AWp.seq (AWp.region ?_)
    refine ARun.step rfl (step_moveV rfl (hn rfl) rfl rfl) ?_
    refine ARun.step rfl (call_stepZ rfl (hn rfl) rfl zjCo56 (.cons rfl (.one (.v _)) (.nil)) hd rfl rfl) ?_
    refine ARun.step rfl (step_moveV rfl (hn rfl) rfl rfl) ?_
    refine ARun.step rfl (step_extract rfl (hn rfl) rfl rfl rfl (by intro l h; cases h)) ?_
    refine ARun.step rfl (step_extract rfl (hn rfl) rfl rfl rfl (by intro l h; cases h)) ?_
    refine ARun.step rfl (step_assignV rfl (hn rfl) rfl rfl) ?_
    refine ARun.step rfl (step_assignV rfl (hn rfl) rfl rfl) ?_
    refine ARun.nil ?_
    have hi1 := runIZ l y
    have hs1 := runSZ l y
    obtain ⟨r1, pa, hr1⟩ : ∃ X D, recRun l y = (X, D) := ⟨_, _, rfl⟩
    rw [hr1] at hi1 hs1
    dsimp only at hi1 hs1
    refine AWp.seq (AWp.region ?_)
    refine ARun.step rfl (step_moveV rfl (hn rfl) rfl rfl) ?_
    refine ARun.step rfl (step_moveV rfl (hn rfl) rfl rfl) ?_
    refine ARun.step rfl (call_stepZ rfl (hn rfl) rfl zjCo57 (.cons rfl (.one (.v _)) (.cons rfl (.one (.v _)) (.nil))) hi1 rfl rfl) ?_
    refine ARun.step rfl (step_moveV rfl (hn rfl) rfl rfl) ?_
    refine ARun.step rfl (step_extract rfl (hn rfl) rfl rfl rfl (by intro l h; cases h)) ?_
    refine ARun.step rfl (step_extract rfl (hn rfl) rfl rfl rfl (by intro l h; cases h)) ?_
    refine ARun.step rfl (step_alloc_p rfl (hn rfl) rfl zjZs67) ?_
    refine ARun.step rfl (step_store_p rfl rfl zjCs67 rfl rfl rfl rfl rfl rfl rfl) ?_
    refine ARun.step rfl (step_assignV rfl (hn rfl) rfl rfl) ?_
    refine ARun.nil ?_
    refine AWp.seq (AWp.region ?_)
    refine ARun.step rfl (step_moveV rfl (hn rfl) rfl rfl) ?_
    refine ARun.step rfl (step_moveV rfl (hn rfl) rfl rfl) ?_
    refine ARun.step rfl (call_stepZ rfl (hn rfl) rfl zjCo58 (.cons rfl (.one (.v _)) (.cons rfl (.one (.v _)) (.nil))) hs1 rfl rfl) ?_
    refine ARun.step rfl (step_moveV rfl (hn rfl) rfl rfl) ?_
    refine ARun.step rfl (step_extract rfl (hn rfl) rfl rfl rfl (by intro l h; cases h)) ?_
    refine ARun.step rfl (step_extract rfl (hn rfl) rfl rfl rfl (by intro l h; cases h)) ?_
    refine ARun.step rfl (step_alloc_p rfl (hn rfl) rfl zjZs67) ?_
    refine ARun.step rfl (step_store_p rfl rfl zjCs67 rfl rfl rfl rfl rfl rfl rfl) ?_
    refine ARun.step rfl (step_assignV rfl (hn rfl) rfl rfl) ?_
    refine ARun.nil ?_
    refine AWp.join (fun u : Unit => mkAS 172 [(3, ⟨true, .one (.v (phs 74 l))⟩), (4, ⟨true, .one (.v (says 78 y))⟩), (5, ⟨true, .one (.bptr 5 0)⟩), (6, ⟨true, .one (.v (strs pa))⟩)] [(5, [.v (.str r1.at_), .v (.int .i64 r1.now), .v (.int .i64 r1.left)])] []) (fun u => True) ?_ ?_
    · rintro u _
      refine AWp.seq ?_
      refine AWp.seq (AWp.region ?_)
      refine ARun.step rfl (step_moveV rfl (hn rfl) rfl rfl) ?_
      refine ARun.step rfl (call_step1 rfl (hn rfl) rfl zjCo60 (.cons rfl (.one (.v _)) (.nil)) (recOkS _) rfl) ?_
      refine ARun.step rfl (step_not rfl (hn rfl) rfl rfl) ?_
      refine ARun.nil ?_
      refine AWp.cond rfl (fun c2 => ?_) (fun c2 => ?_)
      · try simp only [nrm] at c2
        refine AWp.seq (AWp.region ?_)
        refine ARun.step rfl (step_loadS_b rfl (hn rfl) rfl zjSt67 rfl rfl rfl (by decide)) ?_
        refine ARun.step rfl (step_build rfl (hn rfl) rfl zjPl67 zjZc67 (.nil) rfl) ?_
        refine ARun.step rfl (step_binA (ts := r1.cells) (us := (⟨⟨#[]⟩, 0, 0⟩ : RSt).cells) rfl (hn rfl) rfl rfl rfl rfl rfl rfl rfl (by rfl) (by exact trivial) (eqlRec r1 ⟨⟨#[]⟩, 0, 0⟩)) ?_
        refine ARun.step rfl (step_moveV rfl (hn rfl) rfl rfl) ?_
        refine guardS rfl rfl rfl rfl (hn rfl) (fun g1 g2 => step_moveV rfl (hn rfl) rfl rfl) ?_
        refine guardS rfl rfl rfl rfl (hn rfl) (fun g1 g2 => step_len_f rfl (hn rfl) rfl zjSl22 (ev_true rfl (by exact flag2 g1 g2))) ?_
        refine guardS rfl rfl rfl rfl (hn rfl) (fun g1 g2 => step_eql rfl (hn rfl) rfl (ev_true rfl (by exact flag2 g1 g2)) rfl) ?_
        refine ARun.step rfl (step_and rfl (hn rfl) rfl rfl rfl (fun h => (by exact flag1 h))) ?_
        refine ARun.step rfl (step_assignV rfl (hn rfl) rfl rfl) ?_
        refine ARun.nil ?_
        refine AWp.ret ?_
        refine RetIs.sc (.inr rfl) rfl rfl ?_
        refine congrArg T.bool ?_
        obtain ⟨e1, e2⟩ := rec_bad hr1 c2
        rw [e1, e2, eqRSt_refl]
        rfl
      · try simp only [nrm] at c2
        refine AWp.skip ?_
        have hlen := recOk_len c2
        obtain ⟨f1, f2, f3, f4, f5, f6⟩ := rec_facts hr1 c2
        refine AWp.seq (AWp.region ?_)
        refine ARun.step rfl (step_field_b rfl (hn rfl) rfl zjFo67_0 rfl (by exact List.cons_ne_nil _ _)) ?_
        refine ARun.step rfl (step_load_b rfl (hn rfl) rfl zjSc9 rfl rfl) ?_
        refine ARun.step rfl (call_step1 rfl (hn rfl) rfl zjCo61 (.cons rfl (.one (.v _)) (.nil)) (RecEndI _) rfl) ?_
        refine ARun.step rfl (step_assignV rfl (hn rfl) rfl rfl) ?_
        refine ARun.nil ?_
        refine AWp.join (fun u : Unit => mkAS 172 [(3, ⟨true, .one (.v (phs 74 l))⟩), (4, ⟨true, .one (.v (says 78 y))⟩), (5, ⟨true, .one (.bptr 5 0)⟩), (6, ⟨true, .one (.v (strs pa))⟩)] [(5, [.v (.str r1.at_), .v (.int .i64 r1.now), .v (.int .i64 r1.left)])] []) (fun u => recOk l = true) ?_ ?_
        · rintro u hok
          have hlen := recOk_len hok
          have hpal := rec_len hr1 hok
          obtain ⟨f1, f2, f3, f4, f5, f6⟩ := rec_facts hr1 hok
          refine AWp.seq (AWp.region ?_)
          refine ARun.step rfl (step_moveV rfl (hn rfl) rfl rfl) ?_
          refine ARun.step rfl (call_step1 rfl (hn rfl) rfl zjCo64 (.cons rfl (.one (.v _)) (.nil)) (begI l) rfl) ?_
          refine ARun.step rfl (step_alloc_p rfl (hn rfl) rfl zjZs67) ?_
          refine ARun.step rfl (step_store_p rfl rfl zjCs67 rfl rfl rfl rfl rfl rfl rfl) ?_
          refine ARun.nil ?_
          refine AWp.seq ?_
          refine AWp.seq (AWp.region ?_)
          refine ARun.step rfl (step_assignV rfl (hn rfl) rfl rfl) ?_
          refine ARun.nil ?_
          refine AWp.block ?_
          refine AWp.loopM (fun i : Nat => mkAS 172 [(3, ⟨true, .one (.v (phs 74 l))⟩), (4, ⟨true, .one (.v (says 78 y))⟩), (5, ⟨true, .one (.bptr 5 0)⟩), (6, ⟨true, .one (.v (strs pa))⟩), (10, ⟨true, .one (.bptr 10 0)⟩), (11, ⟨true, .one (.v (.int .i64 (i : Nat)))⟩)] [(5, [.v (.str r1.at_), .v (.int .i64 r1.now), .v (.int .i64 r1.left)]), (10, [.v (.str (stI l y i).at_), .v (.int .i64 (stI l y i).now), .v (.int .i64 (stI l y i).left)])] []) (fun i => i ≤ pa.length) (fun i => pa.length - i) 0 ?_ (Le.forgetR rfl ⟨rfl, rfl, rfl, rfl, rfl, rfl, trivial⟩ ⟨rfl, rfl, trivial⟩ trivial) ?_
          · try dsimp only
            omega
          rintro i hi
          refine AWp.seq ?_
          refine AWp.seq (AWp.region ?_)
          refine ARun.step rfl (step_moveV rfl (hn rfl) rfl rfl) ?_
          refine ARun.step rfl (step_moveV rfl (hn rfl) rfl rfl) ?_
          refine ARun.step rfl (step_len_f rfl (hn rfl) rfl zjSl22 rfl) ?_
          refine ARun.step rfl (step_lss rfl (hn rfl) rfl rfl rfl) ?_
          refine ARun.nil ?_
          refine AWp.cond rfl (fun c3 => ?_) (fun c3 => ?_)
          · try simp only [nrm] at c3
            refine AWp.skip ?_
            refine AWp.seq ?_
            refine AWp.block ?_
            refine AWp.seq (AWp.region ?_)
            refine ARun.step rfl (step_build rfl (hn rfl) rfl zjPl78 zjZc78 (.cons rfl rfl rfl rfl (.nil)) rfl) ?_
            refine ARun.step rfl (step_alloc_p rfl (hn rfl) rfl zjZs78) ?_
            refine ARun.step rfl (step_store_p rfl rfl zjCs78 rfl rfl rfl rfl rfl rfl rfl) ?_
            refine ARun.nil ?_
            refine AWp.join (fun q : Say => mkAS 172 [(3, ⟨true, .one (.v (phs 74 l))⟩), (4, ⟨true, .one (.v (says 78 y))⟩), (5, ⟨true, .one (.bptr 5 0)⟩), (6, ⟨true, .one (.v (strs pa))⟩), (10, ⟨true, .one (.bptr 10 0)⟩), (11, ⟨true, .one (.v (.int .i64 (i : Nat)))⟩), (12, ⟨true, .one (.bptr 12 0)⟩)] [(5, [.v (.str r1.at_), .v (.int .i64 r1.now), .v (.int .i64 r1.left)]), (10, [.v (.str (stI l y i).at_), .v (.int .i64 (stI l y i).now), .v (.int .i64 (stI l y i).left)]), (12, [.v (.int .i64 q.ticks), .v (.bool q.well)])] []) (fun q => q = sayI y i) ?_ ?_
            · rintro q rfl
              obtain ⟨g1, h0, hst⟩ := f4 i (by omega)
              have hgo := goOk_of hok hst h0
              have hg0 := goI l (stI l y i) (sayI y i)
              rw [hgo, if_pos rfl] at hg0
              have hg1 : ASpec Try.prog 65 [.one (phs 74 l), .agg (stI l y i).cells, .agg (sayI y i).cells] (.tup [.agg (stI l y (i + 1)).cells, .one (.bool true)]) := hg0
              refine AWp.seq (AWp.region ?_)
              refine ARun.step rfl (step_moveV rfl (hn rfl) rfl rfl) ?_
              refine ARun.step rfl (step_loadS_b rfl (hn rfl) rfl zjSt67 rfl rfl rfl (by decide)) ?_
              refine ARun.step rfl (step_loadS_b rfl (hn rfl) rfl zjSt78 rfl rfl rfl (by decide)) ?_
              refine ARun.step rfl (call_stepZ rfl (hn rfl) rfl zjCo65 (.cons rfl (.one (.v _)) (.cons rfl (.agg (.cons (.v _) (.cons (.v _) (.cons (.v _) .nil)))) (.cons rfl (.agg (.cons (.v _) (.cons (.v _) .nil))) (.nil)))) hg1 rfl rfl) ?_
              refine ARun.step rfl (step_moveV rfl (hn rfl) rfl rfl) ?_
              refine ARun.step rfl (step_extract rfl (hn rfl) rfl rfl rfl (by intro l h; cases h)) ?_
              refine ARun.step rfl (step_extract rfl (hn rfl) rfl rfl rfl (by intro l h; cases h)) ?_
              refine ARun.step rfl (step_alloc_p rfl (hn rfl) rfl zjZs67) ?_
              refine ARun.step rfl (step_store_p rfl rfl zjCs67 rfl rfl rfl rfl rfl rfl rfl) ?_
              refine ARun.step rfl (step_assignV rfl (hn rfl) rfl rfl) ?_
              refine ARun.nil ?_
              refine AWp.seq ?_
              have hst2 := (go_ok hok hst h0 (sayI y i)).1
              have hn1 := now_bnd hok hst
              have hn2 := now_bnd (i := i + 1) hok hst2
              refine AWp.seq (AWp.draw [⟨[.s 14], [.s 125], false⟩, ⟨[.s 125], [.s 126], false⟩, ⟨[.s 126], [.s 127], false⟩, ⟨[.s 10, .b 10, .s 127], [.s 128], false⟩, ⟨[.s 128, .b 10, .s 127], [.s 129], false⟩, ⟨[.s 6, .s 127], [.s 130], false⟩, ⟨[.s 11, .s 127], [.s 131], false⟩, ⟨[.s 130, .s 131, .s 127], [.s 132], false⟩, ⟨[.s 132, .s 127], [.s 133], false⟩, ⟨[.s 129, .s 133, .s 127], [.s 134], false⟩, ⟨[.s 127, .s 134], [.s 135], false⟩, ⟨[.s 135], [.s 136], false⟩, ⟨[.s 13, .b 13, .s 136], [.s 137], false⟩, ⟨[.s 137, .b 13, .s 136], [.s 138], false⟩, ⟨[.s 10, .b 10, .s 136], [.s 139], false⟩, ⟨[.s 139, .b 10, .s 136], [.s 140], false⟩, ⟨[.s 138, .s 140, .s 136], [.s 141], false⟩, ⟨[.s 136, .s 141], [.s 142], false⟩, ⟨[.s 142], [.s 143], false⟩, ⟨[.s 13, .b 13, .s 143], [.s 144], false⟩, ⟨[.s 144, .b 13, .s 143], [.s 145], false⟩, ⟨[.s 13, .b 13, .s 143], [.s 146], false⟩, ⟨[.s 146, .b 13, .s 143], [.s 147], false⟩, ⟨[.s 145, .s 147, .s 143], [.s 148], false⟩, ⟨[.s 10, .b 10, .s 143], [.s 149], false⟩, ⟨[.s 149, .b 10, .s 143], [.s 150], false⟩, ⟨[.s 10, .b 10, .s 143], [.s 151], false⟩, ⟨[.s 151, .b 10, .s 143], [.s 152], false⟩, ⟨[.s 150, .s 152, .s 143], [.s 153], false⟩, ⟨[.s 148, .s 153, .s 143], [.s 154], false⟩, ⟨[.s 143, .s 154], [.s 155], false⟩, ⟨[.s 155], [.s 156], false⟩, ⟨[.s 3, .s 156], [.s 157], false⟩, ⟨[.s 13, .b 13, .s 156], [.s 158], false⟩, ⟨[.s 158, .b 13, .s 156], [.s 159], false⟩, ⟨[.s 159, .s 157, .s 156], [.s 160], false⟩, ⟨[.s 3, .s 156], [.s 161], false⟩, ⟨[.s 10, .b 10, .s 156], [.s 162], false⟩, ⟨[.s 162, .b 10, .s 156], [.s 163], false⟩, ⟨[.s 163, .s 161, .s 156], [.s 164], false⟩, ⟨[.s 164, .s 160, .s 156], [.s 165], false⟩, ⟨[.s 165, .s 156], [.s 166], false⟩, ⟨[.s 156, .s 166], [.s 167], false⟩] zjMo (by kernel_rfl) ?_)
              refine DRun.step rfl (fun τ hN hr => step_moveV rfl (rdN hN (hn rfl)) rfl (by exact rdS hr rfl rfl)) ?_
              refine DRun.step rfl (fun τ hN hr => step_not rfl (rdN hN (hn rfl)) rfl (by exact rdS hr rfl rfl)) ?_
              refine DRun.step rfl (fun τ hN hr => step_moveV rfl (rdN hN (hn rfl)) rfl (by exact rdS hr rfl rfl)) ?_
              refine guardD rfl rfl rfl rfl rfl (hn rfl) (fun τ hN hr g1 g2 => step_field_b rfl (rdN hN (hn rfl)) rfl zjFo67_0 (by exact rdS hr rfl rfl) (by exact rdBne hr rfl (by exact List.cons_ne_nil _ _))) ?_
              refine guardD rfl rfl rfl rfl rfl (hn rfl) (fun τ hN hr g1 g2 => step_load_b rfl (rdN hN (hn rfl)) rfl zjSc9 (ev_true (by exact rdS hr rfl rfl) (by exact flag2 g1 g2)) (by exact rdBget hr rfl rfl)) ?_
              refine guardD rfl rfl rfl rfl rfl (hn rfl) (fun τ hN hr g1 g2 => step_moveV rfl (rdN hN (hn rfl)) rfl (by exact rdS hr rfl rfl)) ?_
              refine guardD rfl rfl rfl rfl rfl (hn rfl) (fun τ hN hr g1 g2 => step_moveV rfl (rdN hN (hn rfl)) rfl (by exact rdS hr rfl rfl)) ?_
              refine guardD rfl rfl rfl rfl rfl (hn rfl) (fun τ hN hr g1 g2 => step_index_fN rfl (rdN hN (hn rfl)) rfl zjSl22 (ev_true (by exact rdS hr rfl rfl) (by exact flag2 g1 g2)) (ev_true (by exact rdS hr rfl rfl) (by exact flag2 g1 g2)) (by first | omega | (have := of_decide_eq_true g2; omega) | (have := of_decide_eq_false g2; omega) | (simp only [nrm] at g2; omega) | (simp only [nrm, Bool.true_and] at g1 g2; omega))) ?_
              refine guardD rfl rfl rfl rfl rfl (hn rfl) (fun τ hN hr g1 g2 => step_load_f rfl (rdN hN (hn rfl)) rfl zjSc9 (ev_true (by exact rdS hr rfl rfl) (by exact flag2 g1 g2)) (hn rfl) rfl) ?_
              refine guardD rfl rfl rfl rfl rfl (hn rfl) (fun τ hN hr g1 g2 => step_sneq rfl (rdN hN (hn rfl)) rfl (ev_true (by exact rdS hr rfl rfl) (by exact flag2 g1 g2)) (ev_true (by exact rdS hr rfl rfl) (by exact flag2 g1 g2))) ?_
              refine DRun.step rfl (fun τ hN hr => step_or rfl (rdN hN (hn rfl)) rfl (by exact rdS hr rfl rfl) (by exact rdS hr rfl rfl) (fun h => (by exact flag1 h))) ?_
              refine DRun.step rfl (fun τ hN hr => step_moveV rfl (rdN hN (hn rfl)) rfl (by exact rdS hr rfl rfl)) ?_
              refine guardD rfl rfl rfl rfl rfl (hn rfl) (fun τ hN hr g1 g2 => step_field_b rfl (rdN hN (hn rfl)) rfl zjFo67_1 (by exact rdS hr rfl rfl) (by exact rdBne hr rfl (by exact List.cons_ne_nil _ _))) ?_
              refine guardD rfl rfl rfl rfl rfl (hn rfl) (fun τ hN hr g1 g2 => step_load_b rfl (rdN hN (hn rfl)) rfl zjSc3 (ev_true (by exact rdS hr rfl rfl) (by exact flag2 g1 g2)) (by exact rdBget hr rfl rfl)) ?_
              refine guardD rfl rfl rfl rfl rfl (hn rfl) (fun τ hN hr g1 g2 => step_field_b rfl (rdN hN (hn rfl)) rfl zjFo67_1 (by exact rdS hr rfl rfl) (by exact rdBne hr rfl (by exact List.cons_ne_nil _ _))) ?_
              refine guardD rfl rfl rfl rfl rfl (hn rfl) (fun τ hN hr g1 g2 => step_load_b rfl (rdN hN (hn rfl)) rfl zjSc3 (ev_true (by exact rdS hr rfl rfl) (by exact flag2 g1 g2)) (by exact rdBget hr rfl rfl)) ?_
              refine guardD rfl rfl rfl rfl rfl (hn rfl) (fun τ hN hr g1 g2 => step_lss rfl (rdN hN (hn rfl)) rfl (ev_true (by exact rdS hr rfl rfl) (by exact flag2 g1 g2)) (ev_true (by exact rdS hr rfl rfl) (by exact flag2 g1 g2))) ?_
              refine DRun.step rfl (fun τ hN hr => step_or rfl (rdN hN (hn rfl)) rfl (by exact rdS hr rfl rfl) (by exact rdS hr rfl rfl) (fun h => (by exact flag1 h))) ?_
              refine DRun.step rfl (fun τ hN hr => step_moveV rfl (rdN hN (hn rfl)) rfl (by exact rdS hr rfl rfl)) ?_
              refine guardD rfl rfl rfl rfl rfl (hn rfl) (fun τ hN hr g1 g2 => step_field_b rfl (rdN hN (hn rfl)) rfl zjFo67_1 (by exact rdS hr rfl rfl) (by exact rdBne hr rfl (by exact List.cons_ne_nil _ _))) ?_
              refine guardD rfl rfl rfl rfl rfl (hn rfl) (fun τ hN hr g1 g2 => step_load_b rfl (rdN hN (hn rfl)) rfl zjSc3 (ev_true (by exact rdS hr rfl rfl) (by exact flag2 g1 g2)) (by exact rdBget hr rfl rfl)) ?_
              refine guardD rfl rfl rfl rfl rfl (hn rfl) (fun τ hN hr g1 g2 => step_field_b rfl (rdN hN (hn rfl)) rfl zjFo67_2 (by exact rdS hr rfl rfl) (by exact rdBne hr rfl (by exact List.cons_ne_nil _ _))) ?_
              refine guardD rfl rfl rfl rfl rfl (hn rfl) (fun τ hN hr g1 g2 => step_load_b rfl (rdN hN (hn rfl)) rfl zjSc3 (ev_true (by exact rdS hr rfl rfl) (by exact flag2 g1 g2)) (by exact rdBget hr rfl rfl)) ?_
              refine guardD rfl rfl rfl rfl rfl (hn rfl) (fun τ hN hr g1 g2 => step_addI rfl (rdN hN (hn rfl)) rfl (ev_true (by exact rdS hr rfl rfl) (by exact flag2 g1 g2)) (ev_true (by exact rdS hr rfl rfl) (by exact flag2 g1 g2)) (by first | omega | (have := of_decide_eq_true g2; omega) | (have := of_decide_eq_false g2; omega) | (simp only [nrm] at g2; omega) | (simp only [nrm, Bool.true_and] at g1 g2; omega)) (by first | omega | (have := of_decide_eq_true g2; omega) | (have := of_decide_eq_false g2; omega) | (simp only [nrm] at g2; omega) | (simp only [nrm, Bool.true_and] at g1 g2; omega))) ?_
              refine guardD rfl rfl rfl rfl rfl (hn rfl) (fun τ hN hr g1 g2 => step_field_b rfl (rdN hN (hn rfl)) rfl zjFo67_1 (by exact rdS hr rfl rfl) (by exact rdBne hr rfl (by exact List.cons_ne_nil _ _))) ?_
              refine guardD rfl rfl rfl rfl rfl (hn rfl) (fun τ hN hr g1 g2 => step_load_b rfl (rdN hN (hn rfl)) rfl zjSc3 (ev_true (by exact rdS hr rfl rfl) (by exact flag2 g1 g2)) (by exact rdBget hr rfl rfl)) ?_
              refine guardD rfl rfl rfl rfl rfl (hn rfl) (fun τ hN hr g1 g2 => step_field_b rfl (rdN hN (hn rfl)) rfl zjFo67_2 (by exact rdS hr rfl rfl) (by exact rdBne hr rfl (by exact List.cons_ne_nil _ _))) ?_
              refine guardD rfl rfl rfl rfl rfl (hn rfl) (fun τ hN hr g1 g2 => step_load_b rfl (rdN hN (hn rfl)) rfl zjSc3 (ev_true (by exact rdS hr rfl rfl) (by exact flag2 g1 g2)) (by exact rdBget hr rfl rfl)) ?_
              refine guardD rfl rfl rfl rfl rfl (hn rfl) (fun τ hN hr g1 g2 => step_addI rfl (rdN hN (hn rfl)) rfl (ev_true (by exact rdS hr rfl rfl) (by exact flag2 g1 g2)) (ev_true (by exact rdS hr rfl rfl) (by exact flag2 g1 g2)) (by first | omega | (have := of_decide_eq_true g2; omega) | (have := of_decide_eq_false g2; omega) | (simp only [nrm] at g2; omega) | (simp only [nrm, Bool.true_and] at g1 g2; omega)) (by first | omega | (have := of_decide_eq_true g2; omega) | (have := of_decide_eq_false g2; omega) | (simp only [nrm] at g2; omega) | (simp only [nrm, Bool.true_and] at g1 g2; omega))) ?_
              refine guardD rfl rfl rfl rfl rfl (hn rfl) (fun τ hN hr g1 g2 => step_gtr rfl (rdN hN (hn rfl)) rfl (ev_true (by exact rdS hr rfl rfl) (by exact flag2 g1 g2)) (ev_true (by exact rdS hr rfl rfl) (by exact flag2 g1 g2))) ?_
              refine DRun.step rfl (fun τ hN hr => step_or rfl (rdN hN (hn rfl)) rfl (by exact rdS hr rfl rfl) (by exact rdS hr rfl rfl) (fun h => (by exact flag1 h))) ?_
              refine DRun.step rfl (fun τ hN hr => step_moveV rfl (rdN hN (hn rfl)) rfl (by exact rdS hr rfl rfl)) ?_
              refine guardD rfl rfl rfl rfl rfl (hn rfl) (fun τ hN hr g1 g2 => step_moveV rfl (rdN hN (hn rfl)) rfl (by exact rdS hr rfl rfl)) ?_
              refine guardD rfl rfl rfl rfl rfl (hn rfl) (fun τ hN hr g1 g2 => step_field_b rfl (rdN hN (hn rfl)) rfl zjFo67_0 (by exact rdS hr rfl rfl) (by exact rdBne hr rfl (by exact List.cons_ne_nil _ _))) ?_
              refine guardD rfl rfl rfl rfl rfl (hn rfl) (fun τ hN hr g1 g2 => step_load_b rfl (rdN hN (hn rfl)) rfl zjSc9 (ev_true (by exact rdS hr rfl rfl) (by exact flag2 g1 g2)) (by exact rdBget hr rfl rfl)) ?_
              refine guardD rfl rfl rfl rfl rfl (hn rfl) (fun τ hN hr g1 g2 => call_stepZ rfl (rdN hN (hn rfl)) rfl zjCo67 (.cons (ev_true (by exact rdS hr rfl rfl) (by exact flag2 g1 g2)) (.one (.v _)) (.cons (ev_true (by exact rdS hr rfl rfl) (by exact flag2 g1 g2)) (.one (.v _)) (.nil))) (slotsI l (stI l y (i + 1)).at_) rfl (by exact rdNoRefs hr rfl rfl)) ?_
              refine guardD rfl rfl rfl rfl rfl (hn rfl) (fun τ hN hr g1 g2 => step_moveV rfl (rdN hN (hn rfl)) rfl (by exact rdS hr rfl rfl)) ?_
              refine guardD rfl rfl rfl rfl rfl (hn rfl) (fun τ hN hr g1 g2 => step_field_b rfl (rdN hN (hn rfl)) rfl zjFo67_0 (by exact rdS hr rfl rfl) (by exact rdBne hr rfl (by exact List.cons_ne_nil _ _))) ?_
              refine guardD rfl rfl rfl rfl rfl (hn rfl) (fun τ hN hr g1 g2 => step_load_b rfl (rdN hN (hn rfl)) rfl zjSc9 (ev_true (by exact rdS hr rfl rfl) (by exact flag2 g1 g2)) (by exact rdBget hr rfl rfl)) ?_
              refine guardD rfl rfl rfl rfl rfl (hn rfl) (fun τ hN hr g1 g2 => call_stepZ rfl (rdN hN (hn rfl)) rfl zjCo67 (.cons (ev_true (by exact rdS hr rfl rfl) (by exact flag2 g1 g2)) (.one (.v _)) (.cons (ev_true (by exact rdS hr rfl rfl) (by exact flag2 g1 g2)) (.one (.v _)) (.nil))) (slotsI l (stI l y i).at_) rfl (by exact rdNoRefs hr rfl rfl)) ?_
              refine guardD rfl rfl rfl rfl rfl (hn rfl) (fun τ hN hr g1 g2 => call_step1 rfl (rdN hN (hn rfl)) rfl zjCo66 (.cons (ev_true (by exact rdS hr rfl rfl) (by exact flag2 g1 g2)) (.one (.v _)) (.cons (ev_true (by exact rdS hr rfl rfl) (by exact flag2 g1 g2)) (.one (.v _)) (.nil))) (wrAll _ _) rfl) ?_
              refine guardD rfl rfl rfl rfl rfl (hn rfl) (fun τ hN hr g1 g2 => step_not rfl (rdN hN (hn rfl)) rfl (ev_true (by exact rdS hr rfl rfl) (by exact flag2 g1 g2))) ?_
              refine DRun.step rfl (fun τ hN hr => step_or rfl (rdN hN (hn rfl)) rfl (by exact rdS hr rfl rfl) (by exact rdS hr rfl rfl) (fun h => (by exact flag1 h))) ?_
              refine DRun.nil ?_
              refine AWp.cond rfl (fun c4 => ?_) (fun c4 => ?_)
              · try simp only [nrm] at c4
                refine AWp.seq (AWp.region ?_)
                refine ARun.step rfl (step_assignV rfl (hn rfl) rfl rfl) ?_
                refine ARun.nil ?_
                refine AWp.ret ?_
                refine RetIs.sc (.inr rfl) rfl rfl ?_
                refine congrArg T.bool ?_
                exfalso
                have hp : ∀ j, j < pa.length → 0 ≤ atP l (stI l y j).at_ := fun j hj => (f4 j hj).2.1
                have ht := go_time hok h0 (st_left hok y i) (sayI y i)
                have e1 : goSt l (stI l y i) (sayI y i) = stI l y (i + 1) := rfl
                rw [e1] at ht
                rcases c4 with ((c4 | c4) | c4) | c4
                · rcases c4 with c4 | c4
                  · cases c4
                  · rw [g1, strEq_refl] at c4; cases c4
                · omega
                · omega
                · have hw : withinB (slotsB l (stI l y (i + 1)).at_) (slotsB l (stI l y i).at_) = true := (within_iff _ _).2 fun x hx => slots_step hok h0 (by have hat := go_at l (stI l y i) (sayI y i); rw [e1] at hat; rcases hat with hat | hat; (rw [hat] at hx; exact .inl hx); (rw [hat] at hx; exact .inr hx))
                  rw [hw] at c4; cases c4
              · try simp only [nrm] at c4
                refine AWp.skip ?_
                refine AWp.region ?_
                refine ARun.step rfl (step_loadS_b rfl (hn rfl) rfl zjSt67 rfl rfl rfl (by decide)) ?_
                refine ARun.step rfl (step_store_p rfl rfl zjCs67 rfl rfl rfl rfl rfl rfl rfl) ?_
                refine ARun.nil ?_
                refine AWp.region ?_
                refine ARun.step rfl (step_moveV rfl (hn rfl) rfl rfl) ?_
                refine ARun.step rfl (step_addI rfl (hn rfl) rfl rfl rfl (by omega) (by omega)) ?_
                refine ARun.step rfl (step_assignV rfl (hn rfl) rfl rfl) ?_
                refine ARun.nil ?_
                refine ⟨i + 1, ?_, ?_, Le.forgetR rfl ⟨rfl, rfl, rfl, rfl, rfl, rfl, trivial⟩ ⟨rfl, rfl, trivial⟩ trivial⟩
                · try dsimp only
                  omega
                · try dsimp only
                  omega
            · refine AWp.seq (AWp.region ?_)
              refine ARun.step rfl (step_moveV rfl (hn rfl) rfl rfl) ?_
              refine ARun.step rfl (step_moveV rfl (hn rfl) rfl rfl) ?_
              refine ARun.step rfl (step_len_f rfl (hn rfl) rfl zjSl63 rfl) ?_
              refine ARun.step rfl (step_lss rfl (hn rfl) rfl rfl rfl) ?_
              refine ARun.nil ?_
              refine AWp.cond rfl (fun c5 => ?_) (fun c5 => ?_)
              · try simp only [nrm] at c5
                refine AWp.region ?_
                refine ARun.step rfl (step_moveV rfl (hn rfl) rfl rfl) ?_
                refine ARun.step rfl (step_moveV rfl (hn rfl) rfl rfl) ?_
                refine ARun.step rfl (step_index_fN rfl (hn rfl) rfl zjSl63 rfl rfl (by omega)) ?_
                refine ARun.step rfl (step_loadS_f rfl (hn rfl) rfl zjSt78 rfl (hn rfl) rfl rfl) ?_
                refine ARun.step rfl (step_store_p rfl rfl zjCs78 rfl rfl rfl rfl rfl rfl rfl) ?_
                refine ARun.nil ?_
                refine ⟨((nth y i)), ?_, Le.forgetR rfl ⟨rfl, rfl, rfl, rfl, rfl, rfl, rfl, trivial⟩ ⟨rfl, rfl, rfl, trivial⟩ trivial⟩
                try dsimp only
                rw [sayI, if_pos (by omega)]
              · try simp only [nrm] at c5
                refine AWp.skip ?_
                refine ⟨(noSay), ?_, Le.forgetR rfl ⟨rfl, rfl, rfl, rfl, rfl, rfl, rfl, trivial⟩ ⟨rfl, rfl, rfl, trivial⟩ trivial⟩
                try dsimp only
                rw [sayI, if_neg (by omega)]
          · try simp only [nrm] at c3
            refine AWp.exit ?_
            refine AWp.seq (AWp.region ?_)
            refine ARun.step rfl (step_loadS_b rfl (hn rfl) rfl zjSt67 rfl rfl rfl (by decide)) ?_
            refine ARun.step rfl (step_loadS_b rfl (hn rfl) rfl zjSt67 rfl rfl rfl (by decide)) ?_
            refine ARun.step rfl (step_binA (ts := (stI l y i).cells) (us := r1.cells) rfl (hn rfl) rfl rfl rfl rfl rfl rfl rfl (by rfl) (by exact trivial) (eqlRec (stI l y i) r1)) ?_
            refine ARun.step rfl (step_assignV rfl (hn rfl) rfl rfl) ?_
            refine ARun.nil ?_
            refine AWp.ret ?_
            refine RetIs.sc (.inr rfl) rfl rfl ?_
            refine congrArg T.bool ?_
            rw [f1, show i = pa.length by omega, eqRSt_refl]
        · refine AWp.seq (AWp.draw [⟨[.s 9], [.s 58], false⟩, ⟨[.s 58], [.s 59], false⟩, ⟨[.s 59], [.s 60], false⟩, ⟨[.s 3, .s 60], [.s 61], false⟩, ⟨[.s 3, .s 60], [.s 62], false⟩, ⟨[.s 62, .s 60], [.s 63], false⟩, ⟨[.s 63, .s 60], [.s 64], false⟩, ⟨[.s 64, .s 60], [.s 65], false⟩, ⟨[.s 9, .s 60], [.s 66], false⟩, ⟨[.s 66, .s 65, .s 61, .s 60], [.s 67], false⟩, ⟨[.s 67, .s 60], [.s 68], false⟩, ⟨[.s 60, .s 68], [.s 69], false⟩, ⟨[.s 69], [.s 70], false⟩, ⟨[.s 5, .b 5, .s 70], [.s 71], false⟩, ⟨[.s 71, .b 5, .s 70], [.s 72], false⟩, ⟨[.s 3, .s 70], [.s 73], false⟩, ⟨[.s 3, .s 70], [.s 74], false⟩, ⟨[.s 74, .s 70], [.s 75], false⟩, ⟨[.s 75, .s 70], [.s 76], false⟩, ⟨[.s 76, .s 70], [.s 77], false⟩, ⟨[.s 77, .s 73, .s 70], [.s 78], false⟩, ⟨[.s 72, .s 78, .s 70], [.s 79], false⟩, ⟨[.s 70, .s 79], [.s 80], false⟩, ⟨[.s 80], [.s 81], false⟩, ⟨[.s 5, .b 5, .s 81], [.s 82], false⟩, ⟨[.s 82, .b 5, .s 81], [.s 83], false⟩, ⟨[.s 83, .s 81], [.s 84], false⟩, ⟨[.s 81, .s 84], [.s 85], false⟩, ⟨[.s 85], [.s 86], false⟩, ⟨[.s 6, .s 86], [.s 87], false⟩, ⟨[.s 87, .s 86], [.s 88], false⟩, ⟨[.s 88, .s 86], [.s 89], false⟩, ⟨[.s 86, .s 89], [.s 90], false⟩, ⟨[.s 90], [.s 91], false⟩, ⟨[.s 6, .s 91], [.s 92], false⟩, ⟨[.s 92, .s 91], [.s 93], false⟩, ⟨[.s 93, .s 91], [.s 94], false⟩, ⟨[.s 3, .s 91], [.s 95], false⟩, ⟨[.s 95, .s 91], [.s 96], false⟩, ⟨[.s 96, .s 91], [.s 97], false⟩, ⟨[.s 97, .s 91], [.s 98], false⟩, ⟨[.s 94, .s 98, .s 91], [.s 99], false⟩, ⟨[.s 91, .s 99], [.s 100], false⟩] zjMo (by kernel_rfl) ?_)
          refine DRun.step rfl (fun τ hN hr => step_moveV rfl (rdN hN (hn rfl)) rfl (by exact rdS hr rfl rfl)) ?_
          refine DRun.step rfl (fun τ hN hr => step_eql rfl (rdN hN (hn rfl)) rfl (by exact rdS hr rfl rfl) rfl) ?_
          refine DRun.step rfl (fun τ hN hr => step_moveV rfl (rdN hN (hn rfl)) rfl (by exact rdS hr rfl rfl)) ?_
          refine guardD rfl rfl rfl rfl rfl (hn rfl) (fun τ hN hr g1 g2 => step_moveV rfl (rdN hN (hn rfl)) rfl (by exact rdS hr rfl rfl)) ?_
          refine guardD rfl rfl rfl rfl rfl (hn rfl) (fun τ hN hr g1 g2 => step_moveV rfl (rdN hN (hn rfl)) rfl (by exact rdS hr rfl rfl)) ?_
          refine guardD rfl rfl rfl rfl rfl (hn rfl) (fun τ hN hr g1 g2 => step_index_f rfl (rdN hN (hn rfl)) rfl zjSl62 (ev_true (by exact rdS hr rfl rfl) (by exact flag2 g1 g2)) rfl (by first | omega | (have := of_decide_eq_true g2; omega) | (have := of_decide_eq_false g2; omega) | (simp only [nrm] at g2; omega) | (simp only [nrm, Bool.true_and] at g1 g2; omega)) (by first | omega | (have := of_decide_eq_true g2; omega) | (have := of_decide_eq_false g2; omega) | (simp only [nrm] at g2; omega) | (simp only [nrm, Bool.true_and] at g1 g2; omega))) ?_
          refine guardD rfl rfl rfl rfl rfl (hn rfl) (fun τ hN hr g1 g2 => step_field_f rfl (rdN hN (hn rfl)) rfl zjFo74_0 (ev_true (by exact rdS hr rfl rfl) (by exact flag2 g1 g2))) ?_
          refine guardD rfl rfl rfl rfl rfl (hn rfl) (fun τ hN hr g1 g2 => step_load_f rfl (rdN hN (hn rfl)) rfl zjSc9 (ev_true (by exact rdS hr rfl rfl) (by exact flag2 g1 g2)) (hn rfl) rfl) ?_
          refine guardD rfl rfl rfl rfl rfl (hn rfl) (fun τ hN hr g1 g2 => step_moveV rfl (rdN hN (hn rfl)) rfl (by exact rdS hr rfl rfl)) ?_
          refine guardD rfl rfl rfl rfl rfl (hn rfl) (fun τ hN hr g1 g2 => call_step1 rfl (rdN hN (hn rfl)) rfl zjCo62 (.cons (ev_true (by exact rdS hr rfl rfl) (by exact flag2 g1 g2)) (.one (.v _)) (.cons (ev_true (by exact rdS hr rfl rfl) (by exact flag2 g1 g2)) (.one (.v _)) (.cons (ev_true (by exact rdS hr rfl rfl) (by exact flag2 g1 g2)) (.one (.v _)) (.nil)))) (recCanI l (nth l 0).name (recEnd r1.at_)) rfl) ?_
          refine guardD rfl rfl rfl rfl rfl (hn rfl) (fun τ hN hr g1 g2 => step_not rfl (rdN hN (hn rfl)) rfl (ev_true (by exact rdS hr rfl rfl) (by exact flag2 g1 g2))) ?_
          refine DRun.step rfl (fun τ hN hr => step_or rfl (rdN hN (hn rfl)) rfl (by exact rdS hr rfl rfl) (by exact rdS hr rfl rfl) (fun h => (by exact flag1 h))) ?_
          refine DRun.step rfl (fun τ hN hr => step_moveV rfl (rdN hN (hn rfl)) rfl (by exact rdS hr rfl rfl)) ?_
          refine guardD rfl rfl rfl rfl rfl (hn rfl) (fun τ hN hr g1 g2 => step_field_b rfl (rdN hN (hn rfl)) rfl zjFo67_1 (by exact rdS hr rfl rfl) (by exact rdBne hr rfl (by exact List.cons_ne_nil _ _))) ?_
          refine guardD rfl rfl rfl rfl rfl (hn rfl) (fun τ hN hr g1 g2 => step_load_b rfl (rdN hN (hn rfl)) rfl zjSc3 (ev_true (by exact rdS hr rfl rfl) (by exact flag2 g1 g2)) (by exact rdBget hr rfl rfl)) ?_
          refine guardD rfl rfl rfl rfl rfl (hn rfl) (fun τ hN hr g1 g2 => step_moveV rfl (rdN hN (hn rfl)) rfl (by exact rdS hr rfl rfl)) ?_
          refine guardD rfl rfl rfl rfl rfl (hn rfl) (fun τ hN hr g1 g2 => step_moveV rfl (rdN hN (hn rfl)) rfl (by exact rdS hr rfl rfl)) ?_
          refine guardD rfl rfl rfl rfl rfl (hn rfl) (fun τ hN hr g1 g2 => step_index_f rfl (rdN hN (hn rfl)) rfl zjSl62 (ev_true (by exact rdS hr rfl rfl) (by exact flag2 g1 g2)) rfl (by first | omega | (have := of_decide_eq_true g2; omega) | (have := of_decide_eq_false g2; omega) | (simp only [nrm] at g2; omega) | (simp only [nrm, Bool.true_and] at g1 g2; omega)) (by first | omega | (have := of_decide_eq_true g2; omega) | (have := of_decide_eq_false g2; omega) | (simp only [nrm] at g2; omega) | (simp only [nrm, Bool.true_and] at g1 g2; omega))) ?_
          refine guardD rfl rfl rfl rfl rfl (hn rfl) (fun τ hN hr g1 g2 => step_field_f rfl (rdN hN (hn rfl)) rfl zjFo74_0 (ev_true (by exact rdS hr rfl rfl) (by exact flag2 g1 g2))) ?_
          refine guardD rfl rfl rfl rfl rfl (hn rfl) (fun τ hN hr g1 g2 => step_load_f rfl (rdN hN (hn rfl)) rfl zjSc9 (ev_true (by exact rdS hr rfl rfl) (by exact flag2 g1 g2)) (hn rfl) rfl) ?_
          refine guardD rfl rfl rfl rfl rfl (hn rfl) (fun τ hN hr g1 g2 => call_step1 rfl (rdN hN (hn rfl)) rfl zjCo63 (.cons (ev_true (by exact rdS hr rfl rfl) (by exact flag2 g1 g2)) (.one (.v _)) (.cons (ev_true (by exact rdS hr rfl rfl) (by exact flag2 g1 g2)) (.one (.v _)) (.nil))) (recBoundI l (nth l 0).name) rfl) ?_
          refine guardD rfl rfl rfl rfl rfl (hn rfl) (fun τ hN hr g1 g2 => step_gtr rfl (rdN hN (hn rfl)) rfl (ev_true (by exact rdS hr rfl rfl) (by exact flag2 g1 g2)) (ev_true (by exact rdS hr rfl rfl) (by exact flag2 g1 g2))) ?_
          refine DRun.step rfl (fun τ hN hr => step_or rfl (rdN hN (hn rfl)) rfl (by exact rdS hr rfl rfl) (by exact rdS hr rfl rfl) (fun h => (by exact flag1 h))) ?_
          refine DRun.step rfl (fun τ hN hr => step_moveV rfl (rdN hN (hn rfl)) rfl (by exact rdS hr rfl rfl)) ?_
          refine guardD rfl rfl rfl rfl rfl (hn rfl) (fun τ hN hr g1 g2 => step_field_b rfl (rdN hN (hn rfl)) rfl zjFo67_2 (by exact rdS hr rfl rfl) (by exact rdBne hr rfl (by exact List.cons_ne_nil _ _))) ?_
          refine guardD rfl rfl rfl rfl rfl (hn rfl) (fun τ hN hr g1 g2 => step_load_b rfl (rdN hN (hn rfl)) rfl zjSc3 (ev_true (by exact rdS hr rfl rfl) (by exact flag2 g1 g2)) (by exact rdBget hr rfl rfl)) ?_
          refine guardD rfl rfl rfl rfl rfl (hn rfl) (fun τ hN hr g1 g2 => step_neq rfl (rdN hN (hn rfl)) rfl (ev_true (by exact rdS hr rfl rfl) (by exact flag2 g1 g2)) rfl) ?_
          refine DRun.step rfl (fun τ hN hr => step_or rfl (rdN hN (hn rfl)) rfl (by exact rdS hr rfl rfl) (by exact rdS hr rfl rfl) (fun h => (by exact flag1 h))) ?_
          refine DRun.step rfl (fun τ hN hr => step_moveV rfl (rdN hN (hn rfl)) rfl (by exact rdS hr rfl rfl)) ?_
          refine guardD rfl rfl rfl rfl rfl (hn rfl) (fun τ hN hr g1 g2 => step_moveV rfl (rdN hN (hn rfl)) rfl (by exact rdS hr rfl rfl)) ?_
          refine guardD rfl rfl rfl rfl rfl (hn rfl) (fun τ hN hr g1 g2 => step_len_f rfl (rdN hN (hn rfl)) rfl zjSl22 (ev_true (by exact rdS hr rfl rfl) (by exact flag2 g1 g2))) ?_
          refine guardD rfl rfl rfl rfl rfl (hn rfl) (fun τ hN hr g1 g2 => step_eql rfl (rdN hN (hn rfl)) rfl (ev_true (by exact rdS hr rfl rfl) (by exact flag2 g1 g2)) rfl) ?_
          refine DRun.step rfl (fun τ hN hr => step_or rfl (rdN hN (hn rfl)) rfl (by exact rdS hr rfl rfl) (by exact rdS hr rfl rfl) (fun h => (by exact flag1 h))) ?_
          refine DRun.step rfl (fun τ hN hr => step_moveV rfl (rdN hN (hn rfl)) rfl (by exact rdS hr rfl rfl)) ?_
          refine guardD rfl rfl rfl rfl rfl (hn rfl) (fun τ hN hr g1 g2 => step_moveV rfl (rdN hN (hn rfl)) rfl (by exact rdS hr rfl rfl)) ?_
          refine guardD rfl rfl rfl rfl rfl (hn rfl) (fun τ hN hr g1 g2 => step_index_f rfl (rdN hN (hn rfl)) rfl zjSl22 (ev_true (by exact rdS hr rfl rfl) (by exact flag2 g1 g2)) rfl (by first | omega | (have := of_decide_eq_true g2; omega) | (have := of_decide_eq_false g2; omega) | (simp only [nrm] at g2; omega) | (simp only [nrm, Bool.true_and] at g1 g2; omega)) (by first | omega | (have := of_decide_eq_true g2; omega) | (have := of_decide_eq_false g2; omega) | (simp only [nrm] at g2; omega) | (simp only [nrm, Bool.true_and] at g1 g2; omega))) ?_
          refine guardD rfl rfl rfl rfl rfl (hn rfl) (fun τ hN hr g1 g2 => step_load_f rfl (rdN hN (hn rfl)) rfl zjSc9 (ev_true (by exact rdS hr rfl rfl) (by exact flag2 g1 g2)) (hn rfl) rfl) ?_
          refine guardD rfl rfl rfl rfl rfl (hn rfl) (fun τ hN hr g1 g2 => step_moveV rfl (rdN hN (hn rfl)) rfl (by exact rdS hr rfl rfl)) ?_
          refine guardD rfl rfl rfl rfl rfl (hn rfl) (fun τ hN hr g1 g2 => step_index_f rfl (rdN hN (hn rfl)) rfl zjSl62 (ev_true (by exact rdS hr rfl rfl) (by exact flag2 g1 g2)) rfl (by first | omega | (have := of_decide_eq_true g2; omega) | (have := of_decide_eq_false g2; omega) | (simp only [nrm] at g2; omega) | (simp only [nrm, Bool.true_and] at g1 g2; omega)) (by first | omega | (have := of_decide_eq_true g2; omega) | (have := of_decide_eq_false g2; omega) | (simp only [nrm] at g2; omega) | (simp only [nrm, Bool.true_and] at g1 g2; omega))) ?_
          refine guardD rfl rfl rfl rfl rfl (hn rfl) (fun τ hN hr g1 g2 => step_field_f rfl (rdN hN (hn rfl)) rfl zjFo74_0 (ev_true (by exact rdS hr rfl rfl) (by exact flag2 g1 g2))) ?_
          refine guardD rfl rfl rfl rfl rfl (hn rfl) (fun τ hN hr g1 g2 => step_load_f rfl (rdN hN (hn rfl)) rfl zjSc9 (ev_true (by exact rdS hr rfl rfl) (by exact flag2 g1 g2)) (hn rfl) rfl) ?_
          refine guardD rfl rfl rfl rfl rfl (hn rfl) (fun τ hN hr g1 g2 => step_sneq rfl (rdN hN (hn rfl)) rfl (ev_true (by exact rdS hr rfl rfl) (by exact flag2 g1 g2)) (ev_true (by exact rdS hr rfl rfl) (by exact flag2 g1 g2))) ?_
          refine DRun.step rfl (fun τ hN hr => step_or rfl (rdN hN (hn rfl)) rfl (by exact rdS hr rfl rfl) (by exact rdS hr rfl rfl) (fun h => (by exact flag1 h))) ?_
          refine DRun.nil ?_
          refine AWp.cond rfl (fun c6 => ?_) (fun c6 => ?_)
          · try simp only [nrm] at c6
            refine AWp.seq (AWp.region ?_)
            refine ARun.step rfl (step_assignV rfl (hn rfl) rfl rfl) ?_
            refine ARun.nil ?_
            refine AWp.ret ?_
            refine RetIs.sc (.inr rfl) rfl rfl ?_
            refine congrArg T.bool ?_
            exfalso
            have hp : ∀ j, j < pa.length → 0 ≤ atP l (stI l y j).at_ := fun j hj => (f4 j hj).2.1
            have he : recEnd r1.at_ ≠ 0 := fun e => by have := f3.2.1 e; omega
            have hb0 : (begSt l).at_ = (nth l 0).name := by rw [begSt, if_pos c2]
            have hcan : recCan l (nth l 0).name (recEnd r1.at_) = true := by
              have h := can_path c2 y (m := pa.length) (by rw [← f1]; exact f2) hp pa.length 0 (by omega) (l.length + 1) (rank_le _ _)
              rw [← f1] at h
              rw [recCan, c2, end_pos he, Bool.true_and, Bool.true_and, ← hb0]
              exact h
            have htm := time_all c2 hp pa.length (Nat.le_refl _)
            have hlf := st_left c2 y pa.length
            rw [← f1] at htm hlf
            rw [bnd_end f2] at hlf
            rw [hcan, if_pos c2] at c6
            rcases c6 with ((((c6 | c6) | c6) | c6) | c6) | c6
            · exact he c6
            · cases c6
            · omega
            · omega
            · omega
            · rw [show Int.toNat 0 = 0 from rfl, f6, strEq_refl] at c6; cases c6
          · try simp only [nrm] at c6
            refine AWp.skip ?_
            refine ⟨(()), ?_, Le.forgetR rfl ⟨rfl, rfl, rfl, rfl, trivial⟩ ⟨rfl, trivial⟩ trivial⟩
            try dsimp only
            assumption
    · refine AWp.seq (AWp.region ?_)
      refine ARun.step rfl (step_loadS_b rfl (hn rfl) rfl zjSt67 rfl rfl rfl (by decide)) ?_
      refine ARun.step rfl (step_loadS_b rfl (hn rfl) rfl zjSt67 rfl rfl rfl (by decide)) ?_
      refine ARun.step rfl (step_binA (ts := r1.cells) (us := r1.cells) rfl (hn rfl) rfl rfl rfl rfl rfl rfl rfl (by rfl) (by exact trivial) (neqRec r1 r1)) ?_
      refine ARun.step rfl (step_moveV rfl (hn rfl) rfl rfl) ?_
      refine guardS rfl rfl rfl rfl (hn rfl) (fun g1 g2 => step_moveV rfl (hn rfl) rfl rfl) ?_
      refine guardS rfl rfl rfl rfl (hn rfl) (fun g1 g2 => step_moveV rfl (hn rfl) rfl rfl) ?_
      refine guardS rfl rfl rfl rfl (hn rfl) (fun g1 g2 => call_step1 rfl (hn rfl) rfl zjCo59 (.cons (ev_true rfl (by exact flag2 g1 g2)) (.one (.v _)) (.cons (ev_true rfl (by exact flag2 g1 g2)) (.one (.v _)) (.nil))) (wrTexts _ _) rfl) ?_
      refine guardS rfl rfl rfl rfl (hn rfl) (fun g1 g2 => step_not rfl (hn rfl) rfl (ev_true rfl (by exact flag2 g1 g2))) ?_
      refine ARun.step rfl (step_or rfl (hn rfl) rfl rfl rfl (fun h => (by exact flag1 h))) ?_
      refine ARun.nil ?_
      refine AWp.cond rfl (fun c7 => ?_) (fun c7 => ?_)
      · try simp only [nrm] at c7
        refine AWp.seq (AWp.region ?_)
        refine ARun.step rfl (step_assignV rfl (hn rfl) rfl rfl) ?_
        refine ARun.nil ?_
        refine AWp.ret ?_
        refine RetIs.sc (.inr rfl) rfl rfl ?_
        refine congrArg T.bool ?_
        exfalso
        rcases c7 with c7 | c7
        · rw [eqRSt_refl] at c7; cases c7
        · rw [eqL_refl strEq_refl] at c7; cases c7
      · try simp only [nrm] at c7
        refine AWp.skip ?_
        refine ⟨(()), ?_, Le.forgetR rfl ⟨rfl, rfl, rfl, rfl, trivial⟩ ⟨rfl, trivial⟩ trivial⟩
        try dsimp only
        all_goals trivial

end Go.Proofs.Ytkmacjdigkaabaa
