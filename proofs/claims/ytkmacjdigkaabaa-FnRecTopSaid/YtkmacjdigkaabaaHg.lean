/- Contracts of functions of the program, each met by its body; conditions stand in each statement. No condition. -/
import Derived.Test.YtkmacjdigkaabaaHf
set_option linter.unusedVariables false
set_option linter.unusedSimpArgs false
set_option linter.unnecessarySimpa false
namespace Go.Mh
open Go

/-! ### functions lent a reader whose first result is a variable of its own -/
def RetIsLC (P : Program) (t0 ty : Nat) (ts : List Nat) (res : PV) (e : Nat) (r' : List T) : Exit → AS → Prop := fun ex σ' => (ex = .normal ∨ ex = .ret) ∧ (∃ d m cs rs l, structSz P ty = some m ∧ 0 < m ∧ Nat.ble (t0 + 1) σ'.n = true ∧ σ'.s t0 = ⟨true, .one (.bptr d 0)⟩ ∧ (σ'.box d).take m = cs ∧ cs.length = m ∧
  RetVs ((σ'.goneArr (isRoot RR 0)).setS t0 ⟨true, .agg (lookL d 0 cs)⟩) (t0 :: ts) rs l 0 ∧ disjL l = true ∧ oneOrTup rs = res) ∧ Eqv (σ'.arr RR 0) (ptT e r')

theorem goneArr_s (σ : AS) (g : Nat → Nat → Bool) : (σ.goneArr g).s = σ.s := rfl
theorem goneArr_box (σ : AS) (g : Nat → Nat → Bool) : (σ.goneArr g).box = σ.box := rfl
theorem LSpec.bodyC {P : Program} {f : FuncId} {fn : Func} {c : Code} {e : Nat} {r r' : List T} {args : List PV} {res : PV} (hf : P.funcs[f]? = some fn) (hb : fn.body = some c) (t0 ty : Nat) (ts : List Nat) (hres : fn.results = (ResultVar.cell t0 ty :: ts.map ResultVar.tmp).toArray) (ht0 : ts.all (fun t => !Nat.beq t t0) = true)
    (n : Nat) (hnn : fn.ntmps = n) (hn : Nat.ble (args.length + 1) n = true) (hnf : Nat.ble n RR = true)
    (hns : r.all noSl = true) (hns' : r'.all noSl = true) (hlen : r'.length = r.length) (h : AWp P c (RetIsLC P t0 ty ts res e r') (initL n e r args)) : LSpec P f e r r' args res := by
  subst hnn
  intro w F b0 cap cc vals hs hv0 hF hh hc h1 h2 hr hv
  refine calls_of_wp hf hb (wp_mono (h w _ _ w _ (initL_ok hs (Nat.le_of_ble_eq_true hn) (Nat.le_of_ble_eq_true hnf) hF hv0 hh hc h1 h2 hr hns hv)) ?_)
  rintro ex a' w' ⟨σ', own', ⟨he, ⟨d, m, cs, rs, l, k1, k0, kn, k2, k3, k4, k5, k6, k7⟩, k8⟩, hI⟩
  have hpost : a'.defers = [] ∧ ∃ v, (results fn a'.tmps).run P w' = .ok v w' ∧ ∃ v' c' own', Ending.returned v = .returned v' ∧ w'.heap[b0]? = some (.cells c' e (0, 0)) ∧ c'.size = cc.size ∧ Ret (setBlk w b0 (.cells c' e (0, 0))) w' own' ∧
      r'.length = r.length ∧ (∀ j, j < r'.length → Ok w' (mergeF w F own') none (c'.getD j undef) (r'.getD j .dead)) ∧ OkR w' (mergeF w F own') v' res := by
    refine ⟨hI.dfr, ?_⟩
    obtain ⟨ad, v, q1, q2, q3⟩ := load_box (P := P) hI k1 k2 k3 k4 k0
    have hne : ∀ t ∈ ts, t ≠ t0 := fun t ht e => by
      have := List.all_eq_true.1 ht0 t ht
      subst e
      rw [Nat.beq_refl] at this; cases this
    have hlt := Nat.le_of_ble_eq_true kn
    obtain ⟨c', own2, g⟩ := LSpec.fin (Q := fun _ => True) (v := retVal (v :: ts.map fun t => a'.tmps.getD t undef)) hI hF hh k8 hns' hlen (fun w1 own1 hsz hI1 => by
      obtain ⟨ad2, v2, p1, p2, p3⟩ := load_box (P := P) hI1 k1 (t := t0) (d := d) (by rw [goneArr_s]; exact k2) (by rw [goneArr_box]; exact k3) k4 k0
      have e1 : ad2 = ad := by rw [q1] at p1; cases p1; rfl
      subst e1
      have e2 : v2 = v := by rw [q2] at p2; cases p2; rfl
      subst e2
      have hI2 := hI1.put (d := t0) (v := v2) (x := ⟨true, .agg (lookL d 0 cs)⟩) hlt p3
      obtain ⟨own2, r0, r1, r2⟩ := post_of2 hI2 k5 k6 k7
      have hget : ∀ t, (a'.put (some t0) v2).tmps.getD t undef = if t = t0 then v2 else a'.tmps.getD t undef := fun t => put_getD a' t0 t v2 (by rw [hI.tsz]; exact hlt)
      have hl : ((t0 :: ts).map fun t => (a'.put (some t0) v2).tmps.getD t undef) = v2 :: ts.map fun t => a'.tmps.getD t undef := by
        rw [List.map_cons, hget, if_pos rfl]
        congr 1
        exact List.map_congr_left fun t ht => by rw [hget, if_neg (hne t ht)]
      rw [hl] at r2
      exact ⟨own2, r0, r1, r2⟩)
    refine ⟨_, ?_, _, c', own2, rfl, g⟩
    simp only [results, hres, List.mapM_toArray, Sem.run_bind, Sem.run_map, List.mapM_cons, q1, asAddr, Sem.run_pure, Result.andThen_ok, q2]
    rw [run_mapM a'.tmps _ (fun t => rfl) ts]
    rfl
  rcases he with rfl | rfl
  · exact hpost
  · exact hpost

/-! ### a function that makes a reader: a pointer to a new row -/
def OSpec (P : Program) (f : FuncId) (args : List PV) (e : Nat) (r : List T) : Prop :=
  ∀ (w : World) (F : Nat → Bool) (vals : Array Value), vals.size = args.length → (∀ i u, args[i]? = some u → OkP w (ownF w F) (fun _ => none) (vals.getD i undef) u) →
    Calls P f vals w fun ex w' => ∃ b cap own', ex = .returned (.pointer (some ⟨b, 0, none⟩)) ∧ Ret w w' own' ∧ OkR w' (mergeF w F own') (.slice (some ⟨b, 0, none⟩) 1 cap) (.one (ptT e r))

def RetIsO (t e : Nat) (r : List T) : Exit → AS → Prop := fun ex σ' => (ex = .normal ∨ ex = .ret) ∧ ∃ d, Nat.ble (t + 1) σ'.n = true ∧ σ'.s t = ⟨true, .one (.eptr ⟨.arr d 0, []⟩ 0 0)⟩ ∧ σ'.arr d 0 = ptT e r

theorem OSpec.body {P : Program} {f : FuncId} {fn : Func} {c : Code} {args : List PV} {e : Nat} {r : List T} (hf : P.funcs[f]? = some fn) (hb : fn.body = some c) (t : Nat) (hres : fn.results = ([t].map ResultVar.tmp).toArray) (n : Nat) (hnn : fn.ntmps = n) (hn : Nat.ble args.length n = true) (hnf : Nat.ble n RR = true)
    (h : AWp P c (RetIsO t e r) (initAS n args)) : OSpec P f args e r := by
  subst hnn
  intro w F vals hs hv
  refine calls_of_wp hf hb (wp_mono (h w _ _ w _ (init_ok (P := P) hs (Nat.le_of_ble_eq_true hn) (Nat.le_of_ble_eq_true hnf) hv)) ?_)
  rintro ex a' w' ⟨σ', own', ⟨he, d, k1, k2, k3⟩, hI⟩
  have hlt := Nat.le_of_ble_eq_true k1
  have hpost : a'.defers = [] ∧ ∃ v, (results fn a'.tmps).run P w' = .ok v w' ∧ ∃ b cap own', Ending.returned v = .returned (.pointer (some ⟨b, 0, none⟩)) ∧ Ret w w' own' ∧ OkR w' (mergeF w F own') (.slice (some ⟨b, 0, none⟩) 1 cap) (.one (ptT e r)) := by
    refine ⟨hI.dfr, retVal ([t].map fun t => a'.tmps.getD t undef), run_results a'.tmps [t] hres, ?_⟩
    have hnd : σ'.node ⟨.arr d 0, []⟩ = .sl e r.length 1 (fun _ => r) := by simp only [AS.node, follow, k3, ptT]
    obtain ⟨b, q1, q2⟩ := (hI.evC (x := .tmp t) k2) _ _ _ _ hnd
    obtain ⟨v0, hv0⟩ := hI.arrs d 0 _ _ _ _ k3
    cases hv0 with
    | @osl _ b' _ cap _ _ _ c ho hh hs hn hcap hl hr =>
      have := hI.inj _ _ _ ho q2
      subst this
      have hI2 := hI.put (d := t) (v := .slice (some ⟨b', 0, none⟩) 1 cap) (x := ⟨true, .one (.ref ⟨.arr d 0, []⟩)⟩) hlt (by
        show OkC w' own' σ' _ (.ref ⟨.arr d 0, []⟩)
        intro e' sz' n' f' hq
        rw [hnd] at hq
        cases hq
        exact .inr ⟨b', cap, c, rfl, ho, hh, hs, hn, hcap⟩)
      have hrv : RetVs (σ'.setS t ⟨true, .one (.ref ⟨.arr d 0, []⟩)⟩) [t] [.one (ptT e r)] [(⟨.arr d 0, []⟩, 100 * 0)] 0 :=
        .cons (ls := []) (by simp [AS.setS]) (.one (.ref ⟨.arr d 0, []⟩ _ (by exact hnd))) (.nil _)
      obtain ⟨own2, r1, r2⟩ := post_of hI2 hrv rfl (res := .one (ptT e r)) rfl
      have hg : (a'.put (some t) (.slice (some ⟨b', 0, none⟩) 1 cap)).tmps.getD t undef = .slice (some ⟨b', 0, none⟩) 1 cap := by
        rw [put_getD a' t t _ (by rw [hI.tsz]; exact hlt), if_pos rfl]
      refine ⟨b', cap, own2, ?_, r1, ?_⟩
      · have q1' : a'.tmps.getD t undef = .pointer (some ⟨b', 0, none⟩) := by
          have : a'.tmps.getD t undef = .pointer (some ⟨b', 0 * r.length + 0, none⟩) := q1
          simpa only [Nat.zero_mul, Nat.zero_add] using this
        simp only [retVal, List.map_cons, List.map_nil, q1']
        rfl
      · simp only [retVal, List.map_cons, List.map_nil, hg] at r2
        exact r2
  rcases he with rfl | rfl
  · exact hpost
  · exact hpost

theorem call_open {P : Program} {o : Oper} {σ : AS} {d : Nat} (hd : o.dst = some d) (hn : d < σ.n) {f : FuncId} {xs : List Operand} {ats : Array TypeId} (ho : o.op = .call { callee := .value (.func f), args := xs.toArray, argTypes := ats }) (hc : callOk P f = true)
    {args : List PV} {e : Nat} {r : List T} (ha : ArgVs σ xs args) (hs : OSpec P f args e r) (hh : noRefsB σ xs = true) :
    Step P o σ (((σ.kill d).setArr d 0 (ptT e r)).setS d ⟨true, .one (.eptr ⟨.arr d 0, []⟩ 0 0)⟩) := by
  intro w0 own0 a w own hI K Q hK
  have hdf : d < RR := by have := hI.nf; omega
  obtain ⟨ha1, ha2⟩ := ha.ok hI (F := fun b => (own b).isSome) (.inr ⟨fun b hb => by simp [hb], noRefsB_spec hh⟩)
  unfold Oper.wp
  rw [call_run ho hc]
  simp only [Oper.upon]
  refine (hs w (fun b => (own b).isSome) (xs.map a.eval).toArray (by simpa using ha1) (fun i u hu => ?_)).mono ?_
  · have hlt : i < xs.length := by rw [ha1]; exact (List.getElem?_eq_some_iff.1 hu).1
    have := ha2 i u _ hu (List.getElem?_eq_getElem hlt)
    have e : ((xs.map a.eval).toArray).getD i undef = a.eval xs[i] := by
      simp only [Array.getD_eq_getD_getElem?, List.getElem?_toArray, List.getElem?_map, List.getElem?_eq_getElem hlt, Option.map_some, Option.getD_some]
    rw [e]
    exact this
  · rintro ex w' ⟨b, cap, own', rfl, hret, hres⟩
    simp only [hd]
    have hmv : ∀ k, Moved w' w' (mergeF w (fun b => (own b).isSome) own') (backOwn w own own' d) ⟨.arr RR k, []⟩ ⟨.arr d k, []⟩ := by
      intro k b s hb
      refine ⟨?_, rfl⟩
      simp only [List.nil_append] at hb ⊢
      unfold mergeF at hb
      split at hb
      · have := (ownF_some hb).2.2
        simp [FP, RR, FF] at this
      · rename_i hlt
        simp only [backOwn, if_neg hlt, hb]
    have hfz : Froz w' w' (mergeF w (fun b => (own b).isSome) own') (backOwn w own own' d) := ⟨fun b hb hlt => ⟨by
      unfold mergeF at hb
      unfold backOwn
      split at hb
      · rename_i hl
        rw [if_pos hl]
        unfold killOwn
        cases ho : own b with
        | none => rfl
        | some p => simp [ownF, hl, ho] at hb
      · rename_i hl
        rw [if_neg hl, hb], rfl⟩⟩
    obtain ⟨k1, k2⟩ := parts_ok (σ := σ.kill d) (d := d) hres rfl (fun k v t _ hok => hok.moved hfz (hmv k))
    have hI2 := hI.back hdf hret (res := .one (ptT e r)) (v := .slice (some ⟨b, 0, none⟩) 1 cap) k1
    have e1 : (σ.kill d).setRoots d (.one (ptT e r)) = (σ.kill d).setArr d 0 (ptT e r) := by
      refine AS.ext_at rfl fun l => ?_
      cases l with
      | s t => rfl
      | b t => rfl
      | a x y =>
        simp only [AS.at, AS.setRoots, setArr_arr, AS.kill]
        by_cases hx : x = d
        · subst hx
          cases y with
          | zero => simp [rootAt, rootIn, ptT, rootT]
          | succ y => simp [rootAt, rootIn]
        · rw [beq_false hx]; simp [hx]
    rw [e1] at hI2 k2
    have hnd : ((σ.kill d).setArr d 0 (ptT e r)).node ⟨.arr d 0, []⟩ = .sl e r.length 1 (fun _ => r) := by simp [AS.node, follow, setArr_arr, ptT]
    refine hK _ _ _ (hI2.put (v := .pointer (some ⟨b, 0, none⟩)) hn ?_)
    show OkC w' (backOwn w own own' d) _ _ (.eptr ⟨.arr d 0, []⟩ 0 0)
    intro e' sz' n' f' hq
    rw [hnd] at hq
    have h2 : OkC w' (backOwn w own own' d) ((σ.kill d).setArr d 0 (ptT e r)) (.slice (some ⟨b, 0, none⟩) 1 cap) (.ref ⟨.arr d 0, []⟩) := k2
    rcases h2 _ _ _ _ hnd with h | ⟨b2, cap2, c2, h1, h2, h3⟩
    · exact absurd h.2 (by simp)
    · cases h1
      exact ⟨_, by simp, h2⟩

theorem zC_fz {w own v t} {σ : AS} (h : OkC w own σ v (zC t)) : Ok w own none v t := by
  cases t with
  | fz t => exact .fz h
  | _ => exact h
theorem zC_clr (g : Place → Bool) (t : T) : (zC t).clr g = zC t := by cases t <;> rfl
/-- &T{..}: a new row, and a pointer to it -/
theorem step_boxE {P : Program} {o : Oper} {σ : AS} {d : Nat} (hd : o.dst = some d) (hn : d < σ.n) {t : TypeId} {y : Nat} (ho : o.op = .box t (.tmp y)) {r : List T} (hy : σ.s y = ⟨true, .agg (r.map zC)⟩) (hns : r.all noSl = true) :
    Step P o σ (((σ.kill d).setArr d 0 (ptT t r)).setS d ⟨true, .one (.eptr ⟨.arr d 0, []⟩ 0 0)⟩) :=
  Step.make hd hn fun w0 own0 a w own hI => by
    obtain ⟨xs, h1, h2, h3⟩ := hI.evV (x := .tmp y) hy
    rw [List.length_map] at h2
    have hcells : (a.eval (.tmp y)).cells = xs := by rw [h1]; rfl
    have hdd : (deadR r).length = r.length := by simp [deadR]
    obtain ⟨own', hI', hnew⟩ := hI.newArr d 0 (by have := hI.nf; omega) (.cells xs t (0, 0)) (.slice (some ⟨w.heap.size, 0, none⟩) 1 1) (ptT t (deadR r)) (fun own' hnew =>
      .osl hnew (heap_alloc_new w _) (.inl (by rw [h2, hdd, Nat.one_mul])) (Nat.le_refl _) (by simp [maxLen]) (fun _ _ => rfl) (fun i j _ _ => by rw [deadR_get]; exact .dead _))
    have hev : ((σ.kill d).setArr d 0 (ptT t (deadR r))).s y = ⟨true, .agg (r.map zC)⟩ := by
      show (σ.s y).clr (onRoot d) = _
      rw [hy]
      simp only [SV.clr, V.clr, V.clr1, List.map_map]
      congr 2
      exact List.map_congr_left fun x _ => zC_clr _ x
    obtain ⟨xs2, g1, g2, g3⟩ := hI'.evV (x := .tmp y) hev
    have hxx : xs2 = xs := by rw [h1] at g1; cases g1; rfl
    subst hxx
    have hI2 := hI'.lentL (r := deadR r) (r' := r) (e := t) (by rw [setArr_arr, if_pos ⟨rfl, rfl⟩]) hns (by rw [hdd]) hnew (heap_alloc_new w _) (cap := 1) (.inl (by rw [h2, hdd, Nat.one_mul])) (Nat.le_refl _) (by simp [maxLen]) (heap_alloc_new w _) rfl ⟨rfl, rfl, rfl, Nat.le_refl _⟩ (fun _ _ _ => rfl) (fun j hj => by
      have := g3 j (zC (r.getD j .dead)) (by rw [List.getElem?_map, List.getElem?_eq_getElem hj, List.getD_eq_getElem?_getD, List.getElem?_eq_getElem hj]; rfl)
      exact zC_fz this)
    rw [setArr_setArr] at hI2
    refine ⟨.pointer (some ⟨w.heap.size, 0, none⟩), _, own', by simp [execOp, ho, Instr.box, newVar, newRow, newObj, Sem.run, hcells], hI2, fun e' sz' n' f' hq => ⟨_, ?_, hnew⟩⟩
    simp

/-! ### such calls in regions that draw -/
theorem DStep.lent {P : Program} {ops : Array Oper} {o : Oper} {σ : AS} {R : List Loc} {t d1 k1 : Nat} {y : T} {x : SV} (h : ∀ τ, τ.n = σ.n → (∀ l, l ∈ R → τ.at σ l) → GStep P ops o τ ((τ.setArr d1 k1 y).setS t x)) :
    DStep P ops o σ ⟨R, [.s t, .a d1 k1], false⟩ ((σ.setArr d1 k1 y).setS t x) where
  n := rfl
  out := fun l hl => by
    have hm : l ∉ [Loc.s t, Loc.a d1 k1] := DOp.mem_of_false hl
    cases l with
    | s u =>
      simp only [AS.at, setS_s]
      rw [if_neg (fun e => hm (by rw [e]; simp))]
      rfl
    | b u => rfl
    | a u k =>
      show (σ.setArr d1 k1 y).arr u k = σ.arr u k
      rw [setArr_arr, if_neg (fun e => hm (by rw [e.1, e.2]; simp))]
  go := fun τ hτ hr => by
    have e : AS.patch τ ((σ.setArr d1 k1 y).setS t x) (DOp.wr ⟨R, [.s t, .a d1 k1], false⟩) = ((τ.setArr d1 k1 y).setS t x) := by
      refine AS.ext_at rfl fun l => ?_
      cases hl : DOp.wr ⟨R, [.s t, .a d1 k1], false⟩ l with
      | true =>
        refine AS.at_trans (AS.patch_in hl) ?_
        have hm : l ∈ [Loc.s t, Loc.a d1 k1] := Loc.mem_iff.1 hl
        simp only [List.mem_cons, List.not_mem_nil, or_false] at hm
        rcases hm with rfl | rfl
        · simp only [AS.at, setS_s, if_true]
        · show (σ.setArr d1 k1 y).arr d1 k1 = (τ.setArr d1 k1 y).arr d1 k1
          rw [setArr_arr, setArr_arr, if_pos ⟨rfl, rfl⟩, if_pos ⟨rfl, rfl⟩]
      | false =>
        refine AS.at_trans (AS.patch_out hl) ?_
        have hm : l ∉ [Loc.s t, Loc.a d1 k1] := DOp.mem_of_false hl
        cases l with
        | s u =>
          simp only [AS.at, setS_s]
          rw [if_neg (fun e => hm (by rw [e]; simp))]
          rfl
        | b u => rfl
        | a u k =>
          show τ.arr u k = (τ.setArr d1 k1 y).arr u k
          rw [setArr_arr, if_neg (fun e => hm (by rw [e.1, e.2]; simp))]
    rw [e]
    exact h τ hτ fun l hl => hr l (Loc.mem_iff.2 hl)

theorem DRun.lent {P : Program} {ops : Array Oper} {o : Oper} {rest : List Oper} {R : List Loc} {t d1 k1 : Nat} {ds : List DOp} {σ : AS} {y : T} {x : SV} {K : AS → Prop} (hg : o.guard = none)
    (h : ∀ τ, τ.n = σ.n → (∀ l, l ∈ R → τ.at σ l) → Step P o τ ((τ.setArr d1 k1 y).setS t x)) (hr : DRun P ops rest ds ((σ.setArr d1 k1 y).setS t x) K) : DRun P ops (o :: rest) (⟨R, [.s t, .a d1 k1], false⟩ :: ds) σ K :=
  DRun.cons (DStep.lent fun τ h1 h2 => .plain hg (h τ h1 h2)) hr
theorem FRun.lent {P : Program} {ops : Array Oper} {o : Oper} {rest : List Oper} {R : List Loc} {t d1 k1 : Nat} {A : List Nat} {ds : List DRow} {σ : AS} {y : T} {x : SV} {K : AS → Prop} (hg : o.guard = none)
    (h : ∀ τ, τ.n = σ.n → (∀ l, l ∈ R → τ.at σ l) → Step P o τ ((τ.setArr d1 k1 y).setS t x)) (hA : A.all (fun d => x.v.free d && !Nat.beq d1 d) = true) (hr : FRun P ops rest ds ((σ.setArr d1 k1 y).setS t x) K) :
    FRun P ops (o :: rest) (⟨⟨R, [.s t, .a d1 k1], false⟩, none, A⟩ :: ds) σ K := by
  have h1 : DStep P ops o σ ⟨R, [.s t, .a d1 k1], false⟩ ((σ.setArr d1 k1 y).setS t x) := DStep.lent fun τ h1 h2 => .plain hg (h τ h1 h2)
  refine FRun.cons ⟨h1.n, h1.out, fun τ k1 k2 _ => h1.go τ k1 k2, fun d hd l hl => ?_⟩ hr
  have hm : l ∈ [Loc.s t, Loc.a d1 k1] := Loc.mem_iff.1 hl
  have h2 := List.all_eq_true.1 hA d hd
  simp only [Bool.and_eq_true, Bool.not_eq_true'] at h2
  simp only [List.mem_cons, List.not_mem_nil, or_false] at hm
  rcases hm with rfl | rfl
  · simp only [freeAt, setS_s, if_true]
    exact h2.1
  · intro e
    rw [e] at h2
    simp at h2

end Go.Mh
