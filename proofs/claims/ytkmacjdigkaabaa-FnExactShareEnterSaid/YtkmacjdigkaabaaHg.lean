/- Contracts of functions of the program, each met by its body; conditions stand in each statement. No condition. -/
import Derived.Test.YtkmacjdigkaabaaHf
set_option linter.unusedVariables false
set_option linter.unusedSimpArgs false
set_option linter.unnecessarySimpa false
namespace Go.Mh
open Go

/-! ### functions lent a reader whose first result is a variable of its own -/
def RetIsLC (P : Program) (t0 ty : Nat) (ts : List Nat) (res : PV) (e : Nat) (r' : List T) : Exit → AS → Prop := fun ex σ' => (ex = .normal ∨ ex = .ret) ∧ (∃ d m cs rs l, structSz P ty = some m ∧ 0 < m ∧ Nat.ble (t0 + 1) σ'.n = true ∧ σ'.s t0 = ⟨true, .one (.bptr d 0)⟩ ∧ (σ'.box d).take m = cs ∧ cs.length = m ∧
  RetVs ((σ'.goneArr (isRoot RR 0)).setS t0 ⟨true, .agg (lookL d 0 cs)⟩) (t0 :: ts) rs l 0 ∧ disjL l = true ∧ oneOrTup rs = res) ∧ Eqv (σ'.arr RR 0) (ptT e r')

theorem goneArr_s (σ : AS) (g : Nat → Nat → Bool) : (σ.goneArr g).s = σ.s := rfl
theorem goneArr_box (σ : AS) (g : Nat → Nat → Bool) : (σ.goneArr g).box = σ.box := rfl
theorem LSpec.bodyC {P : Program} {f : FuncId} {fn : Func} {c : Code} {e : Nat} {r r' : List T} {args : List PV} {res : PV} (hf : P.funcs[f]? = some fn) (hb : fn.body = some c) (t0 ty : Nat) (ts : List Nat) (hres : fn.results = (ResultVar.cell t0 ty :: ts.map ResultVar.tmp).toArray) (ht0 : ts.all (fun t => !Nat.beq t t0) = true)
    (n : Nat) (hnn : fn.ntmps = n) (hn : Nat.ble (args.length + 1) n = true) (hnf : Nat.ble n RR = true)
    (hns : r.all noSl = true) (hns' : r'.all noSl = true) (hlen : r'.length = r.length) (h : AWp P c (RetIsLC P t0 ty ts res e r') (initL n e r args)) : LSpec P f e r r' args res := by
  subst hnn
  intro w F b0 cap cc vals hs hv0 hF hh hc h1 h2 hr hv
  refine calls_of_wp hf hb (wp_mono (h w _ _ w _ (initL_ok hs (Nat.le_of_ble_eq_true hn) (Nat.le_of_ble_eq_true hnf) hF hv0 hh hc h1 h2 hr hns hv)) ?_)
  rintro ex a' w' ⟨σ', own', ⟨he, ⟨d, m, cs, rs, l, k1, k0, kn, k2, k3, k4, k5, k6, k7⟩, k8⟩, hI⟩
  have hpost : a'.defers = [] ∧ ∃ v, (results fn a'.tmps).run P w' = .ok v w' ∧ ∃ v' c' own', Ending.returned v = .returned v' ∧ w'.heap[b0]? = some (.cells c' e (0, 0)) ∧ c'.size = cc.size ∧ Ret (setBlk w b0 (.cells c' e (0, 0))) w' own' ∧
      r'.length = r.length ∧ (∀ j, j < r'.length → Ok w' (mergeF w F own') none (c'.getD j undef) (r'.getD j .dead)) ∧ OkR w' (mergeF w F own') v' res := by
    refine ⟨hI.dfr, ?_⟩
    obtain ⟨ad, v, q1, q2, q3⟩ := load_box (P := P) hI k1 k2 k3 k4 k0
    have hne : ∀ t ∈ ts, t ≠ t0 := fun t ht e => by
      have := List.all_eq_true.1 ht0 t ht
      subst e
      rw [Nat.beq_refl] at this; cases this
    have hlt := Nat.le_of_ble_eq_true kn
    obtain ⟨c', own2, g⟩ := LSpec.fin (Q := fun _ => True) (v := retVal (v :: ts.map fun t => a'.tmps.getD t undef)) hI hF hh k8 hns' hlen (fun w1 own1 hsz hI1 => by
      obtain ⟨ad2, v2, p1, p2, p3⟩ := load_box (P := P) hI1 k1 (t := t0) (d := d) (by rw [goneArr_s]; exact k2) (by rw [goneArr_box]; exact k3) k4 k0
      have e1 : ad2 = ad := by rw [q1] at p1; cases p1; rfl
      subst e1
      have e2 : v2 = v := by rw [q2] at p2; cases p2; rfl
      subst e2
      have hI2 := hI1.put (d := t0) (v := v2) (x := ⟨true, .agg (lookL d 0 cs)⟩) hlt p3
      obtain ⟨own2, r0, r1, r2⟩ := post_of2 hI2 k5 k6 k7
      have hget : ∀ t, (a'.put (some t0) v2).tmps.getD t undef = if t = t0 then v2 else a'.tmps.getD t undef := fun t => put_getD a' t0 t v2 (by rw [hI.tsz]; exact hlt)
      have hl : ((t0 :: ts).map fun t => (a'.put (some t0) v2).tmps.getD t undef) = v2 :: ts.map fun t => a'.tmps.getD t undef := by
        rw [List.map_cons, hget, if_pos rfl]
        congr 1
        exact List.map_congr_left fun t ht => by rw [hget, if_neg (hne t ht)]
      rw [hl] at r2
      exact ⟨own2, r0, r1, r2⟩)
    refine ⟨_, ?_, _, c', own2, rfl, g⟩
    simp only [results, hres, List.mapM_toArray, Sem.run_bind, Sem.run_map, List.mapM_cons, q1, asAddr, Sem.run_pure, Result.andThen_ok, q2]
    rw [run_mapM a'.tmps _ (fun t => rfl) ts]
    rfl
  rcases he with rfl | rfl
  · exact hpost
  · exact hpost

/-! ### a function that makes a reader: a pointer to a new row -/
def OSpec (P : Program) (f : FuncId) (args : List PV) (e : Nat) (r : List T) : Prop :=
  ∀ (w : World) (F : Nat → Bool) (vals : Array Value), vals.size = args.length → (∀ i u, args[i]? = some u → OkP w (ownF w F) (fun _ => none) (vals.getD i undef) u) →
    Calls P f vals w fun ex w' => ∃ b cap own', ex = .returned (.pointer (some ⟨b, 0, none⟩)) ∧ Ret w w' own' ∧ OkR w' (mergeF w F own') (.slice (some ⟨b, 0, none⟩) 1 cap) (.one (ptT e r))

def RetIsO (t e : Nat) (r : List T) : Exit → AS → Prop := fun ex σ' => (ex = .normal ∨ ex = .ret) ∧ ∃ d, Nat.ble (t + 1) σ'.n = true ∧ σ'.s t = ⟨true, .one (.eptr ⟨.arr d 0, []⟩ 0 0)⟩ ∧ σ'.arr d 0 = ptT e r

theorem OSpec.body {P : Program} {f : FuncId} {fn : Func} {c : Code} {args : List PV} {e : Nat} {r : List T} (hf : P.funcs[f]? = some fn) (hb : fn.body = some c) (t : Nat) (hres : fn.results = ([t].map ResultVar.tmp).toArray) (n : Nat) (hnn : fn.ntmps = n) (hn : Nat.ble args.length n = true) (hnf : Nat.ble n RR = true)
    (h : AWp P c (RetIsO t e r) (initAS n args)) : OSpec P f args e r := by
  subst hnn
  intro w F vals hs hv
  refine calls_of_wp hf hb (wp_mono (h w _ _ w _ (init_ok (P := P) hs (Nat.le_of_ble_eq_true hn) (Nat.le_of_ble_eq_true hnf) hv)) ?_)
  rintro ex a' w' ⟨σ', own', ⟨he, d, k1, k2, k3⟩, hI⟩
  have hlt := Nat.le_of_ble_eq_true k1
  have hpost : a'.defers = [] ∧ ∃ v, (results fn a'.tmps).run P w' = .ok v w' ∧ ∃ b cap own', Ending.returned v = .returned (.pointer (some ⟨b, 0, none⟩)) ∧ Ret w w' own' ∧ OkR w' (mergeF w F own') (.slice (some ⟨b, 0, none⟩) 1 cap) (.one (ptT e r)) := by
    refine ⟨hI.dfr, retVal ([t].map fun t => a'.tmps.getD t undef), run_results a'.tmps [t] hres, ?_⟩
    have hnd : σ'.node ⟨.arr d 0, []⟩ = .sl e r.length 1 (fun _ => r) := by simp only [AS.node, follow, k3, ptT]
    obtain ⟨b, q1, q2⟩ := (hI.evC (x := .tmp t) k2) _ _ _ _ hnd
    obtain ⟨v0, hv0⟩ := hI.arrs d 0 _ _ _ _ k3
    cases hv0 with
    | @osl _ b' _ cap _ _ _ c ho hh hs hn hcap hl hr =>
      have := hI.inj _ _ _ ho q2
      subst this
      have hI2 := hI.put (d := t) (v := .slice (some ⟨b', 0, none⟩) 1 cap) (x := ⟨true, .one (.ref ⟨.arr d 0, []⟩)⟩) hlt (by
        show OkC w' own' σ' _ (.ref ⟨.arr d 0, []⟩)
        intro e' sz' n' f' hq
        rw [hnd] at hq
        cases hq
        exact .inr ⟨b', cap, c, rfl, ho, hh, hs, hn, hcap⟩)
      have hrv : RetVs (σ'.setS t ⟨true, .one (.ref ⟨.arr d 0, []⟩)⟩) [t] [.one (ptT e r)] [(⟨.arr d 0, []⟩, 100 * 0)] 0 :=
        .cons (ls := []) (by simp [AS.setS]) (.one (.ref ⟨.arr d 0, []⟩ _ (by exact hnd))) (.nil _)
      obtain ⟨own2, r1, r2⟩ := post_of hI2 hrv rfl (res := .one (ptT e r)) rfl
      have hg : (a'.put (some t) (.slice (some ⟨b', 0, none⟩) 1 cap)).tmps.getD t undef = .slice (some ⟨b', 0, none⟩) 1 cap := by
        rw [put_getD a' t t _ (by rw [hI.tsz]; exact hlt), if_pos rfl]
      refine ⟨b', cap, own2, ?_, r1, ?_⟩
      · have q1' : a'.tmps.getD t undef = .pointer (some ⟨b', 0, none⟩) := by
          have : a'.tmps.getD t undef = .pointer (some ⟨b', 0 * r.length + 0, none⟩) := q1
          simpa only [Nat.zero_mul, Nat.zero_add] using this
        simp only [retVal, List.map_cons, List.map_nil, q1']
        rfl
      · simp only [retVal, List.map_cons, List.map_nil, hg] at r2
        exact r2
  rcases he with rfl | rfl
  · exact hpost
  · exact hpost

/-! ### such calls in regions that draw -/
end Go.Mh
