/- Results that are variables of their own. No condition. -/
import Derived.Test.YtkmacjdigkaabaaFr
set_option linter.unusedVariables false
set_option linter.unusedSimpArgs false
set_option linter.unnecessarySimpa false
namespace Go.Mh
open Go

def oneOrTup : List PV → PV
  | [r] => r
  | rs => .tup rs
def retVal (l : List Value) : Value := if h : l.toArray.size = 1 then l.toArray[0] else .tuple l.toArray
/-- what a frame hands back, by the slots ts -/
theorem post_of {w : World} {F : Nat → Bool} {σ' : AS} {a' : Act} {w' : World} {own' : Own} (hI : Inv w (ownF w F) σ' a' w' own') {ts : List Nat} {rs : List PV} {l : List (Place × Nat)} {res : PV} (h1 : RetVs σ' ts rs l 0) (h2 : disjL l = true) (h3 : oneOrTup rs = res) :
    ∃ own', Ret w w' own' ∧ OkR w' (mergeF w F own') (retVal (ts.map fun t => a'.tmps.getD t undef)) res := by
  unfold retVal
  obtain ⟨k1, k2⟩ := h1.ok hI h2 (fun x hx => hx)
  have hexp : ∀ q k, (q, k) ∈ l → ∀ b, q.r ≠ .arr FF b := fun q k hq b => h1.exported hI q k hq b
  have hret : Ret w w' (collect l own') := by
    refine ⟨⟨hI.os, hI.tape, hI.output, hI.size⟩, (fun b hb => ?_), fun b p hp => ?_, fun b b' p hp hp' => ?_⟩
    · cases ho : ownF w F b with
      | none => exact hI.frm b hb ho
      | some p => have h1 := (ownF_some ho).2.2; rw [h1] at ho; exact (hI.fore b ho).2
    · obtain ⟨q, k, s, g1, g2, g3⟩ := collect_some l hp
      obtain ⟨r1, r2⟩ := hI.rng b _ g2
      refine ⟨?_, r1, k, s, g3⟩
      rcases r2 with r2 | r2
      · exact r2
      · cases ho : ownF w F b with
        | none => exact absurd ho r2
        | some p =>
          have h1 := (ownF_some ho).2.2
          rw [h1] at ho
          have h3 := (hI.fore b ho).1
          rw [g2] at h3
          simp only [FP, Option.some.injEq, Place.mk.injEq] at h3
          exact absurd h3.1 (hexp q k g1 b)
    · obtain ⟨q, k, s, g1, g2, rfl⟩ := collect_some l hp
      obtain ⟨q', k', s', g1', g2', g3'⟩ := collect_some l hp'
      simp only [Place.mk.injEq, Root.arr.injEq, true_and] at g3'
      obtain ⟨rfl, rfl⟩ := g3'
      have := collect_k l h2 _ _ _ g1 g1'
      subst this
      exact hI.inj _ _ _ g2 g2'
  refine ⟨collect l own', hret, ?_⟩
  subst h3
  match rs, ts, h1, k1, k2 with
  | [r], [t], h1, k1, k2 =>
    simp only [List.map_cons, List.map_nil, List.size_toArray, List.length_cons, List.length_nil, Nat.zero_add, dif_pos]
    have := k2 0 r t rfl rfl
    cases h1 with
    | cons hs hv hr =>
      cases hv with
      | one h => exact this
      | agg h => exact this
  | [], [], h1, k1, k2 => exact ⟨#[], rfl, rfl, fun i u hu => by simp at hu⟩
  | r :: r2 :: rs, t :: t2 :: ts, h1, k1, k2 =>
    rw [dif_neg (by simp)]
    refine ⟨_, rfl, by simpa using k1, fun i u hu => ?_⟩
    have hlt : i < (t :: t2 :: ts).length := by rw [k1]; exact (List.getElem?_eq_some_iff.1 hu).1
    have := k2 i u _ hu (List.getElem?_eq_getElem hlt)
    rw [Nat.zero_add] at this
    have e : ((t :: t2 :: ts).map fun t => a'.tmps.getD t undef).toArray.getD i undef = a'.tmps.getD ((t :: t2 :: ts)[i]) undef := by
      simp only [Array.getD_eq_getD_getElem?, List.getElem?_toArray, List.getElem?_map, List.getElem?_eq_getElem hlt, Option.map_some, Option.getD_some]
    rw [e]
    exact this

/-- a struct read out of a box -/
theorem load_box {P : Program} {w0 own0 σ a w own} (hI : Inv w0 own0 σ a w own) {t ty m d : Nat} {cs : List C} (ht : structSz P ty = some m) (hx : σ.s t = ⟨true, .one (.bptr d 0)⟩) (hc : (σ.box d).take m = cs) (hm : cs.length = m) (h0 : 0 < m) :
    ∃ ad v, a.tmps.getD t undef = .pointer (some ad) ∧ (loadVar ty ad).run P w = .ok v w ∧ OkV w own σ v (.agg (lookL d 0 cs)) := by
  have hget : ∀ (i : Nat) (c : C), cs[i]? = some c → (σ.box d)[i]? = some c := by
    intro i c hi
    rw [← hc, List.getElem?_take] at hi
    split at hi
    · exact hi
    · cases hi
  have hne : σ.box d ≠ [] := fun e => by rw [e] at hc; simp at hc; subst hc; simp at hm; omega
  obtain ⟨bb, hv, hown⟩ := hI.evC (x := .tmp t) hx hne
  obtain ⟨b', cc, e', h1, h2, h3, h4⟩ := hI.boxes d hne
  have := hI.inj _ _ _ hown h1
  subst this
  have hlen : ∀ i, i < m → i < cc.size := fun i hi => by
    rw [h3]
    have : i < cs.length := by omega
    exact (List.getElem?_eq_some_iff.1 (hget i _ (List.getElem?_eq_getElem this))).1
  refine ⟨_, .agg ((List.range m).map fun i => cc.getD i undef).toArray, hv, ?_, ?_⟩
  · refine run_load_struct ((List.range m).map fun i => cc.getD i undef) ht (by simp) (fun i hi => ?_)
    have := hlen i hi
    simp [World.cell?, h2, List.getD_eq_getElem?_getD, hi, this]
  · refine ⟨_, rfl, by simp [lookL_len, hm], fun i c hi => ?_⟩
    rw [lookL_get, Option.map_eq_some_iff] at hi
    obtain ⟨c0, hc0, rfl⟩ := hi
    have him : i < m := by rw [← hm]; exact (List.getElem?_eq_some_iff.1 hc0).1
    have e1 : (((List.range m).map fun i => cc.getD i undef).toArray).getD i undef = cc.getD i undef := by simp [him]
    rw [e1]
    have := look_ok (hget i c0 hc0) (h4 _ _ (hget i c0 hc0))
    simpa using this

/-- the end of a function whose first result is a variable of its own -/
def RetIsC (P : Program) (t0 ty : Nat) (ts : List Nat) (res : PV) : Exit → AS → Prop := fun e σ' => (e = .normal ∨ e = .ret) ∧ ∃ d m cs rs l, structSz P ty = some m ∧ 0 < m ∧ Nat.ble (t0 + 1) σ'.n = true ∧ σ'.s t0 = ⟨true, .one (.bptr d 0)⟩ ∧ (σ'.box d).take m = cs ∧ cs.length = m ∧
  RetVs (σ'.setS t0 ⟨true, .agg (lookL d 0 cs)⟩) (t0 :: ts) rs l 0 ∧ disjL l = true ∧ oneOrTup rs = res

theorem ASpec.bodyC {P : Program} {f : FuncId} {fn : Func} {c : Code} {args : List PV} {res : PV} (hf : P.funcs[f]? = some fn) (hb : fn.body = some c) (t0 ty : Nat) (ts : List Nat) (hres : fn.results = (ResultVar.cell t0 ty :: ts.map ResultVar.tmp).toArray) (ht0 : ts.all (fun t => !Nat.beq t t0) = true)
    (n : Nat) (hnn : fn.ntmps = n) (hn : Nat.ble args.length n = true) (hnf : Nat.ble n RR = true) (h : AWp P c (RetIsC P t0 ty ts res) (initAS n args)) : ASpec P f args res := by
  subst hnn
  intro w F vals hs hv
  refine calls_of_wp hf hb (wp_mono (h w _ _ w _ (init_ok (P := P) hs (Nat.le_of_ble_eq_true hn) (Nat.le_of_ble_eq_true hnf) hv)) ?_)
  rintro e a' w' ⟨σ', own', ⟨he, d, m, cs, rs, l, k1, k0, kn, k2, k3, k4, k5, k6, k7⟩, hI⟩
  have hpost : a'.defers = [] ∧ ∃ v, (results fn a'.tmps).run P w' = .ok v w' ∧ ∃ v' own', Ending.returned v = .returned v' ∧ Ret w w' own' ∧ OkR w' (mergeF w F own') v' res := by
    refine ⟨hI.dfr, ?_⟩
    obtain ⟨ad, v, q1, q2, q3⟩ := load_box (P := P) hI k1 k2 k3 k4 k0
    have hne : ∀ t ∈ ts, t ≠ t0 := fun t ht e => by
      have := List.all_eq_true.1 ht0 t ht
      subst e
      rw [Nat.beq_refl] at this; cases this
    have hlt := Nat.le_of_ble_eq_true kn
    have hI2 := hI.put (d := t0) (v := v) (x := ⟨true, .agg (lookL d 0 cs)⟩) hlt q3
    obtain ⟨own2, r1, r2⟩ := post_of hI2 k5 k6 k7
    have hget : ∀ t, (a'.put (some t0) v).tmps.getD t undef = if t = t0 then v else a'.tmps.getD t undef := fun t => put_getD a' t0 t v (by rw [hI.tsz]; exact hlt)
    have hl : ((t0 :: ts).map fun t => (a'.put (some t0) v).tmps.getD t undef) = v :: ts.map fun t => a'.tmps.getD t undef := by
      rw [List.map_cons, hget, if_pos rfl]
      congr 1
      exact List.map_congr_left fun t ht => by rw [hget, if_neg (hne t ht)]
    rw [hl] at r2
    refine ⟨_, ?_, _, own2, rfl, r1, r2⟩
    simp only [results, hres, List.mapM_toArray, Sem.run_bind, Sem.run_map, List.mapM_cons, q1, asAddr, Sem.run_pure, Result.andThen_ok, q2]
    rw [run_mapM a'.tmps _ (fun t => rfl) ts]
    rfl
  rcases he with rfl | rfl
  · exact hpost
  · exact hpost

end Go.Mh
