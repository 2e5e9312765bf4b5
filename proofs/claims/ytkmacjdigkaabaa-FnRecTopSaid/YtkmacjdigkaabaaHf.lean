/- Contracts of functions of the program, each met by its body; conditions stand in each statement. No condition. -/
import Derived.Test.YtkmacjdigkaabaaHe
set_option linter.unusedVariables false
set_option linter.unusedSimpArgs false
set_option linter.unnecessarySimpa false
namespace Go.Mh
open Go

/-! ### calls that lend a reader -/
theorem Inv.lentL {w0 own0 σ a w own} (h : Inv w0 own0 σ a w own) {d1 k1 e : Nat} {r r' : List T} (hr : σ.arr d1 k1 = ptT e r) (hns' : r'.all noSl = true) (hlen : r'.length = r.length) {b0 cap : Nat} {c c' : Array Value}
    (hb0 : own b0 = some ⟨.arr d1 k1, []⟩) (hh : w.heap[b0]? = some (.cells c e (0, 0))) (hc : Room c.size cap r.length 1) (h1 : 1 ≤ cap) (h2 : cap ≤ maxLen) {w' : World} (hh' : w'.heap[b0]? = some (.cells c' e (0, 0))) (hcs : c'.size = c.size)
    (hw : SameW w w') (hoth : ∀ b, b < w.heap.size → b ≠ b0 → w'.heap[b]? = w.heap[b]?) (hcells : ∀ j, j < r'.length → Ok w' own none (c'.getD j undef) (r'.getD j .dead)) : Inv w0 own0 (σ.setArr d1 k1 (ptT e r')) a w' own := by
  have hne : ∀ {b p}, own b = some p → p ≠ ⟨.arr d1 k1, []⟩ → b ≠ b0 := fun hb hp e => by
    rw [e, hb0] at hb; cases hb; exact hp rfl
  have hdF : d1 ≠ FF := fun e1 => by
    have := h.noff k1
    rw [← e1, hr] at this
    simp [ptT] at this
  have hf : Froz w w' own own := ⟨fun b hb hlt => ⟨hb, hoth b hlt (fun e => by rw [e, hb0] at hb; cases hb)⟩⟩
  have hin : ∀ b p, own b = some p → ∀ cc e', w.heap[b]? = some (.cells cc e' (0, 0)) → ∃ c'' : Array Value, w'.heap[b]? = some (.cells c'' e' (0, 0)) ∧ c''.size = cc.size := fun b p hb cc e' hcc => by
    by_cases e1 : b = b0
    · subst e1
      rw [hh] at hcc
      cases hcc
      exact ⟨c', hh', hcs⟩
    · exact ⟨cc, by rw [hoth b (heap_lt hcc) e1]; exact hcc, rfl⟩
  have hk : ∀ p, KeepP w w' own own σ (σ.setArr d1 k1 (ptT e r')) p := fun p => by
    refine ⟨fun e' sz n f hq => ?_, fun d _ hd => hd, fun _ b hb => ⟨hb, hin b p hb⟩⟩
    by_cases hp : p.r = .arr d1 k1
    · obtain ⟨rt, ps⟩ := p
      simp only at hp
      subst hp
      have e1 : (σ.setArr d1 k1 (ptT e r')).arr d1 k1 = ptT e r' := by rw [setArr_arr, if_pos ⟨rfl, rfl⟩]
      simp only [AS.node, e1, hr] at hq ⊢
      cases ps with
      | nil =>
        simp only [follow, ptT, T.sl.injEq] at hq ⊢
        obtain ⟨rfl, rfl, rfl, _⟩ := hq
        exact ⟨_, rfl, hlen.symm, rfl, rfl⟩
      | cons x ps =>
        obtain ⟨i, j⟩ := x
        exfalso
        simp only [follow, ptT] at hq
        split at hq
        · by_cases hj : j < r'.length
          · refine follow_noSl ?_ ps hq
            rw [List.getD_eq_getElem?_getD, List.getElem?_eq_getElem hj, Option.getD_some]
            exact List.all_eq_true.1 hns' _ (List.getElem_mem hj)
          · rw [List.getD_eq_getElem?_getD, List.getElem?_eq_none (by omega), Option.getD_none, follow_dead] at hq
            cases hq
        · cases hq
    · exact ⟨f, by rw [← setArr_node _ _ _ _ _ hp]; exact hq⟩
  have hroot : ∀ p : Place, p.r ≠ .arr d1 k1 → Moved w w' own own p p := fun p hp b s hb => ⟨hb, hoth b (h.rng b _ hb).1 (hne hb (fun e => by
    rw [Place.mk.injEq] at e; exact hp e.1))⟩
  refine h.trans hw (fun b hb hlt => (hf.h b hb hlt).2) (fun b hb => ⟨hb, hoth b (h.rng b _ hb).1 (hne hb (fun e => by simp only [FP, Place.mk.injEq, Root.arr.injEq] at e; exact hdF e.1.1.symm))⟩) (fun l => by rw [setArr_arr, if_neg (fun e => hdF e.1.symm)]; exact h.noff l) h.inj
    (fun b p hp => ⟨Nat.lt_of_lt_of_le (h.rng b p hp).1 hw.size, .inl (by rw [hp]; simp)⟩) rfl (fun t ht => OkS.turn hf hk ht) (fun d hd => ?_) (fun d k e' sz n f hq => ?_) (fun b k hb => ⟨hb, hin b _ hb⟩)
  · obtain ⟨b, cc, e', g1, g2, g3, g4⟩ := h.boxes d hd
    refine ⟨b, cc, e', g1, by rw [hoth b (heap_lt g2) (hne g1 (by simp))]; exact g2, g3, fun j x hx => ?_⟩
    have := g4 j x hx
    cases x with
    | own t => exact Ok.moved (t := t) this hf (hroot _ (by simp))
    | _ => exact OkCell.of_C (OkC.change hf (fun p _ => hk p) this)
  · rw [setArr_arr] at hq
    by_cases hd : d = d1 ∧ k = k1
    · obtain ⟨rfl, rfl⟩ := hd
      rw [if_pos ⟨rfl, rfl⟩] at hq
      rw [← hq]
      refine ⟨.slice (some ⟨b0, 0, none⟩) 1 cap, .osl hb0 hh' (by rw [hcs, hlen]; exact hc) h1 h2 (fun _ _ => rfl) (fun i j hi hj => ?_)⟩
      have hi0 : i = 0 := by omega
      subst hi0
      refine Ok.place (by simpa using hcells j hj) ?_ _
      rw [List.getD_eq_getElem?_getD, List.getElem?_eq_getElem hj, Option.getD_some]
      exact List.all_eq_true.1 hns' _ (List.getElem_mem hj)
    · rw [if_neg hd] at hq
      obtain ⟨v, hv⟩ := h.arrs d k e' sz n f hq
      exact ⟨v, hv.moved hf (hroot _ (fun e => hd (by simpa using e)))⟩

/-- what a place's row holds, before a call -/
theorem Inv.lendL {w0 own0 σ a w own} (h : Inv w0 own0 σ a w own) {d1 k1 e : Nat} {r : List T} (hr : σ.arr d1 k1 = ptT e r) (hns : r.all noSl = true) :
    ∃ b0 cap c, own b0 = some ⟨.arr d1 k1, []⟩ ∧ w.heap[b0]? = some (.cells c e (0, 0)) ∧ Room c.size cap r.length 1 ∧ 1 ≤ cap ∧ cap ≤ maxLen ∧ ∀ j, j < r.length → Ok w own none (c.getD j undef) (r.getD j .dead) := by
  obtain ⟨v, hv⟩ := h.arrs d1 k1 _ _ _ _ hr
  cases hv with
  | @osl _ b _ cap _ _ _ c ho hh hs hn hcap hl hrr =>
    refine ⟨b, cap, c, ho, hh, hs, hn, hcap, fun j hj => ?_⟩
    have h1 := hrr 0 j (by omega) hj
    simp only [Nat.zero_mul, Nat.zero_add] at h1
    refine h1.unplace ?_
    rw [List.getD_eq_getElem?_getD, List.getElem?_eq_getElem hj, Option.getD_some]
    exact List.all_eq_true.1 hns _ (List.getElem_mem hj)

theorem setBlk_same (w : World) (b : Nat) (o : Obj) : SameW w (setBlk w b o) := ⟨rfl, rfl, rfl, by rw [setBlk_size]; exact Nat.le_refl _⟩
def deadR (r : List T) : List T := r.map fun _ => .dead
theorem deadR_noSl : ∀ (r : List T), (deadR r).all noSl = true
  | [] => rfl
  | _ :: r => by simp [deadR, noSl]
theorem deadR_get (r : List T) (j : Nat) : (deadR r).getD j .dead = .dead := by
  simp only [deadR, List.getD_eq_getElem?_getD, List.getElem?_map]
  cases r[j]? <;> rfl

section
variable {P : Program} {o : Oper} {σ : AS} {d : Nat}
/-- a call with the reader ahead: what is common -/
theorem call_lend {w0 own0 a w own} (hI : Inv w0 own0 σ a w own) {f : FuncId} {x0 : Operand} {xs : List Operand} {ats : Array TypeId}
    {d1 k1 e : Nat} {r r' : List T} (hx0 : σ.ev x0 = ⟨true, .one (.eptr ⟨.arr d1 k1, []⟩ 0 0)⟩) (hr : σ.arr d1 k1 = ptT e r) (hns : r.all noSl = true) (hns' : r'.all noSl = true)
    {args : List PV} {res : PV} (ha : ArgVs σ xs args) (hs : LSpec P f e r r' args res) (hh : noRefsB σ xs = true) :
    Calls P f (((x0 :: xs).map a.eval).toArray) w fun ex w' => ∃ (v : Value) (w1 : World) (b0 cap : Nat) (c c' : Array Value) (own' : Own), ex = .returned v ∧ own b0 = some ⟨.arr d1 k1, []⟩ ∧ w'.heap[b0]? = some (.cells c' e (0, 0)) ∧ c'.size = c.size ∧ Room c.size cap r.length 1 ∧ 1 ≤ cap ∧ cap ≤ maxLen ∧ r'.length = r.length ∧
      w1.heap[b0]? = some (.cells c' e (0, 0)) ∧ w1.heap.size = w.heap.size ∧ Inv w0 own0 (σ.setArr d1 k1 (ptT e (deadR r'))) a w1 own ∧ Ret w1 w' own' ∧ (∀ j, j < r'.length → Ok w' (mergeF w (fun b => (own b).isSome) own') none (c'.getD j undef) (r'.getD j .dead)) ∧ OkR w' (mergeF w (fun b => (own b).isSome) own') v res := by
  obtain ⟨ha1, ha2⟩ := ha.ok hI (F := fun b => (own b).isSome) (.inr ⟨fun b hb => by simp [hb], noRefsB_spec hh⟩)
  obtain ⟨b0, cap, c, g1, g2, g3, g4, g5, g6⟩ := hI.lendL hr hns
  have hv0 : a.eval x0 = .pointer (some ⟨b0, 0, none⟩) := by
    have := hI.evC hx0
    obtain ⟨b, q1, q2⟩ := this e r.length 1 (fun _ => r) (by simp only [AS.node, follow, hr, ptT])
    have := hI.inj _ _ _ q2 g1
    subst this
    simpa using q1
  have hf : Froz w w own (ownF w (fun b => (own b).isSome)) := ⟨fun b hb _ => ⟨by simp [ownF, hb], rfl⟩⟩
  refine (hs w (fun b => (own b).isSome) b0 cap c ((x0 :: xs).map a.eval).toArray (by simp [ha1]) (by simp [hv0]) (by simp [g1]) g2 g3 g4 g5 (fun j hj => (g6 j hj).frozen hf) (fun i u hu => ?_)).mono ?_
  · have hlt : i < xs.length := by rw [ha1]; exact (List.getElem?_eq_some_iff.1 hu).1
    have := ha2 i u _ hu (List.getElem?_eq_getElem hlt)
    have e : (((x0 :: xs).map a.eval).toArray).getD (i + 1) undef = a.eval xs[i] := by
      simp only [Array.getD_eq_getD_getElem?, List.getElem?_toArray, List.getElem?_map, List.getElem?_cons_succ, List.getElem?_eq_getElem hlt, Option.map_some, Option.getD_some]
    rw [e]
    exact this
  · rintro ex w' ⟨v, c', own', rfl, q1, q2, q3, q4, q5, q6⟩
    have hlt := heap_lt g2
    refine ⟨v, setBlk w b0 (.cells c' e (0, 0)), b0, cap, c, c', own', rfl, g1, q1, q2, g3, g4, g5, q4, setBlk_self hlt, setBlk_size _ _ _, ?_, q3, q5, q6⟩
    exact hI.lentL hr (deadR_noSl _) (by simp [deadR, q4]) g1 g2 g3 g4 g5 (setBlk_self hlt) q2 (setBlk_same _ _ _) (fun b _ hne => setBlk_other hne) (fun j _ => by rw [deadR_get]; exact .dead _)

theorem call_run {P : Program} {o : Oper} {a : Act} {w : World} {f : FuncId} {xs : List Operand} {ats : Array TypeId} (ho : o.op = .call { callee := .value (.func f), args := xs.toArray, argTypes := ats }) (hc : callOk P f = true) : (execOp a.eval o).run P w = .ok (.enter f (xs.map a.eval).toArray) w := by
  simp only [execOp, ho, resolve, Act.eval, Deferred.ofValue, Sem.run_bind, Sem.run_pure, Result.andThen_ok, invoke, List.map_toArray, Array.empty_append]
  simp only [Array.append_empty, run_callFunc hc]

theorem call_stepLZ (hd : o.dst = some d) (hn : d < σ.n) {f : FuncId} {x0 : Operand} {xs : List Operand} {ats : Array TypeId} (ho : o.op = .call { callee := .value (.func f), args := (x0 :: xs).toArray, argTypes := ats }) (hc : callOk P f = true)
    {d1 k1 e : Nat} {r r' : List T} (hx0 : σ.ev x0 = ⟨true, .one (.eptr ⟨.arr d1 k1, []⟩ 0 0)⟩) (hr : σ.arr d1 k1 = ptT e r) (hns : r.all noSl = true) (hns' : r'.all noSl = true)
    {args : List PV} {res : PV} (ha : ArgVs σ xs args) (hs : LSpec P f e r r' args res) (hfl : zR res = true) (hh : noRefsB σ xs = true) :
    Step P o σ ((σ.setArr d1 k1 (ptT e r')).setS d ⟨true, zVV res⟩) := by
  intro w0 own0 a w own hI K Q hK
  unfold Oper.wp
  rw [call_run ho hc]
  simp only [Oper.upon]
  refine (call_lend (ats := ats) hI hx0 hr hns hns' ha hs hh).mono ?_
  rintro ex w' ⟨v, w1, b0, cap, c, c', own', rfl, g1, q1, q2, g3, g4, g5, q4, p1, p2, hI1, q3, q5, q6⟩
  simp only [hd]
  have hf : Froz w' w' (mergeF w (fun b => (own b).isSome) own') own := ⟨fun b hb hlt => ⟨by
    cases ho : own b with
    | none => rfl
    | some p =>
      have hl := (hI.rng b p ho).1
      simp [mergeF, ownF, hl, ho] at hb, rfl⟩⟩
  have hI2 := (hI1.grow q3.same q3.old).lentL (r := deadR r') (r' := r') (by rw [setArr_arr, if_pos ⟨rfl, rfl⟩]) hns' (by simp [deadR]) g1 q1 (by simp [deadR, q2, g3, q4]) g4 g5 q1 rfl ⟨rfl, rfl, rfl, Nat.le_refl _⟩ (fun _ _ _ => rfl) (fun j hj => (q5 j hj).frozen hf)
  rw [setArr_setArr] at hI2
  refine hK _ _ _ (hI2.put (v := v) hn ?_)
  show OkV w' own _ v (zVV res)
  cases res with
  | one t => exact zP_ok (u := .one t) hf q6 hfl
  | agg ts => exact zP_ok (u := .agg ts) hf q6 hfl
  | tup vs =>
    obtain ⟨xs, h1, h2, h3⟩ := q6
    refine ⟨xs, h1, by simpa using h2, fun j c hc => ?_⟩
    simp only [List.getElem?_map, Option.map_eq_some_iff] at hc
    obtain ⟨u, hu, rfl⟩ := hc
    exact zP_ok hf (h3 j u hu) (List.all_eq_true.1 hfl u (List.mem_of_getElem? hu))

end

end Go.Mh
