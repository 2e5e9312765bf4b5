/- The contract of a function that is lent arrays. No condition. -/
import Derived.Test.YtkmacjdigkaabaaFz
set_option linter.unusedVariables false
set_option linter.unusedSimpArgs false
set_option linter.unnecessarySimpa false
namespace Go.Mh
open Go

/-! ### functions that write into arrays that they are lent -/
inductive MC where
  | ro (t : T)
  | rw (t t' : T)
inductive MV where
  | one (c : MC)
  | agg (cs : List MC)
def MC.pre : MC → T
  | .ro t => t
  | .rw t _ => t
def MC.post : MC → T
  | .ro t => t
  | .rw _ t' => t'
def MC.pl (k : Nat) : MC → Option Place
  | .ro _ => none
  | .rw _ _ => some ⟨.arr RR k, []⟩
def MC.c (k : Nat) : MC → C
  | .ro t => .v t
  | .rw _ _ => .ref ⟨.arr RR k, []⟩
def mcs : MV → List MC
  | .one c => [c]
  | .agg cs => cs
def OkM (g : MC → T) (w : World) (own : Own) (k : Nat) (v : Value) : MV → Prop
  | .one c => Ok w own (c.pl k) v (g c)
  | .agg cs => ∃ xs : Array Value, v = .agg xs ∧ xs.size = cs.length ∧ ∀ j c, cs[j]? = some c → Ok w own (c.pl (k + j)) (xs.getD j undef) (g c)

structure MRet (w w' : World) (own own' : Own) : Prop where
  same : SameW w w'
  old : ∀ b, own b = none → b < w.heap.size → own' b = none ∧ w'.heap[b]? = w.heap[b]?
  fp : ∀ b, own b = some (FP b) → own' b = some (FP b) ∧ w'.heap[b]? = w.heap[b]?
  kept : Kept w w' own own'
  inj : ∀ b b' p, own' b = some p → own' b' = some p → b = b'
  rng : ∀ b p, own' b = some p → b < w'.heap.size ∧ (own b ≠ none ∨ w.heap.size ≤ b) ∧ ((p = FP b ∧ own b = some (FP b)) ∨ ∃ k s, p = ⟨.arr RR k, s⟩)

def MSpec (P : Program) (f : FuncId) (args : List MV) (res : T) : Prop :=
  ∀ (w : World) (own : Own) (vals : Array Value), vals.size = args.length → (∀ b b' p, own b = some p → own b' = some p → b = b') →
    (∀ b p, own b = some p → b < w.heap.size ∧ (p = FP b ∨ ∃ k s, p = ⟨.arr RR k, s⟩)) → (∀ i u, args[i]? = some u → OkM MC.pre w own (100 * i) (vals.getD i undef) u) →
    Calls P f vals w fun e w' => ∃ v own', e = .returned v ∧ MRet w w' own own' ∧ Ok w' own' none v res ∧ ∀ i u, args[i]? = some u → OkM MC.post w' own' (100 * i) (vals.getD i undef) u

def mArgL : Nat → List MC → List C
  | _, [] => []
  | k, c :: l => c.c k :: mArgL (k + 1) l
def mArg (k : Nat) : MV → V
  | .one c => .one (c.c k)
  | .agg cs => .agg (mArgL k cs)
def mTree : Option MC → T
  | some (.rw t _) => t
  | _ => .dead
def mArr (args : List MV) (k : Nat) : T := match args[k / 100]? with
  | some u => mTree (mcs u)[k % 100]?
  | none => .dead
def initM (n : Nat) (args : List MV) : AS where
  n := n
  s := fun t => match args[t]? with | some u => ⟨true, mArg (100 * t) u⟩ | none => ⟨true, .any⟩
  box := fun _ => []
  arr := fun d k => match Nat.beq d RR with | true => mArr args k | false => .dead

theorem mArgL_get : ∀ (cs : List MC) (k j : Nat), (mArgL k cs)[j]? = (cs[j]?).map (MC.c (k + j))
  | [], _, _ => by simp [mArgL]
  | c :: cs, k, 0 => by simp [mArgL]
  | c :: cs, k, j + 1 => by simp only [mArgL, List.getElem?_cons_succ, mArgL_get cs (k + 1) j]; congr 2; omega
theorem mArgL_len : ∀ (cs : List MC) (k : Nat), (mArgL k cs).length = cs.length
  | [], _ => rfl
  | c :: cs, k => by simp [mArgL, mArgL_len cs]

def mSmall (args : List MV) : Bool := args.all (fun u => Nat.blt (mcs u).length 100)

theorem mArr_at {args : List MV} (hs : mSmall args = true) {i j : Nat} {u : MV} (hu : args[i]? = some u) {c : MC} (hc : (mcs u)[j]? = some c) : mArr args (100 * i + j) = mTree (some c) := by
  have h1 := List.all_eq_true.1 hs u (List.mem_of_getElem? hu)
  have hj : j < (mcs u).length := (List.getElem?_eq_some_iff.1 hc).1
  simp only [Nat.blt_eq] at h1
  unfold mArr
  rw [Nat.mul_add_div (by omega), Nat.div_eq_of_lt (by omega), Nat.add_zero, hu, Nat.mul_add_mod, Nat.mod_eq_of_lt (by omega)]
  simp only [hc]

theorem initM_ok {w : World} {own : Own} {vals : Array Value} {args : List MV} {n : Nat} (hs : vals.size = args.length) (hn : args.length ≤ n) (hnf : n ≤ RR) (hsm : mSmall args = true)
    (hinj : ∀ b b' p, own b = some p → own b' = some p → b = b') (hrng : ∀ b p, own b = some p → b < w.heap.size ∧ (p = FP b ∨ ∃ k s, p = ⟨.arr RR k, s⟩))
    (h : ∀ i u, args[i]? = some u → OkM MC.pre w own (100 * i) (vals.getD i undef) u) :
    Inv w own (initM n args) { tmps := vals ++ Array.replicate (n - vals.size) undef, defers := [] } w own := by
  have hnode : ∀ (i : Nat) (u : MV) (j : Nat) (c : MC), args[i]? = some u → (mcs u)[j]? = some c → (initM n args).node ⟨.arr RR (100 * i + j), []⟩ = mTree (some c) := fun i u j c hu hc => by
    simp only [AS.node, initM, Nat.beq_refl, follow]
    exact mArr_at hsm hu hc
  have hcell : ∀ (i : Nat) (u : MV) (j : Nat) (c : MC) (v : Value), args[i]? = some u → (mcs u)[j]? = some c → Ok w own (c.pl (100 * i + j)) v c.pre → OkC w own (initM n args) v (c.c (100 * i + j)) := fun i u j c v hu hc hv => by
    cases c with
    | ro t => exact hv
    | rw t t' =>
      intro e sz m f hq
      rw [hnode i u j _ hu hc] at hq
      have hq' : t = .sl e sz m f := hq
      subst hq'
      have hv' : Ok w own (some ⟨.arr RR (100 * i + j), []⟩) v (.sl e sz m f) := hv
      exact hv'.hdr
  exact {
    inj := hinj
    rng := fun b p hb => ⟨(hrng b p hb).1, .inr (by rw [hb]; simp)⟩
    fore := fun b hb => ⟨hb, rfl⟩
    keep := fun b k hb => ⟨hb, fun c e hc => ⟨c, hc, rfl⟩⟩
    noff := fun k => by
      have : Nat.beq FF RR = false := by decide
      simp only [initM, this]
    nf := hnf
    os := rfl
    tape := rfl
    output := rfl
    size := Nat.le_refl _
    frm := fun _ _ _ => rfl
    tsz := by simp [initM]; omega
    dfr := rfl
    slots := fun t => by
      simp only [initM]
      cases ht : args[t]? with
      | none => trivial
      | some u =>
        have hlt : t < args.length := (List.getElem?_eq_some_iff.1 ht).1
        have e : (vals ++ Array.replicate (n - vals.size) undef).getD t undef = vals.getD t undef := by
          simp [Array.getD_eq_getD_getElem?, Array.getElem?_append, show t < vals.size by omega]
        simp only [OkS, if_true, e]
        have := h t u ht
        cases u with
        | one c => exact hcell t (.one c) 0 c _ ht rfl this
        | agg cs =>
          obtain ⟨xs, h1, h2, h3⟩ := this
          refine ⟨xs, h1, by simpa [mArgL_len] using h2, fun j c hc => ?_⟩
          rw [mArgL_get, Option.map_eq_some_iff] at hc
          obtain ⟨c0, hc0, rfl⟩ := hc
          exact hcell t (.agg cs) j c0 _ ht hc0 (h3 j c0 hc0)
    boxes := fun d hd => absurd rfl hd
    arrs := fun d k e sz m f hq => by
      simp only [initM] at hq
      cases hb : Nat.beq d RR with
      | false => rw [hb] at hq; cases hq
      | true =>
        rw [hb] at hq
        have hd := Nat.eq_of_beq_eq_true hb
        subst hd
        unfold mArr at hq
        simp only at hq
        cases hu : args[k / 100]? with
        | none => rw [hu] at hq; cases hq
        | some u =>
          rw [hu] at hq
          simp only at hq
          cases hc : (mcs u)[k % 100]? with
          | none => rw [hc] at hq; cases hq
          | some c =>
            rw [hc] at hq
            cases c with
            | ro t => cases hq
            | rw t t' =>
              have hq' : t = .sl e sz m f := hq
              subst hq'
              have hk : 100 * (k / 100) + k % 100 = k := Nat.div_add_mod k 100
              have := h _ u hu
              cases u with
              | one c1 =>
                simp only [mcs] at hc
                have hk0 : k % 100 = 0 := by
                  have := (List.getElem?_eq_some_iff.1 hc).1
                  simpa using this
                rw [hk0] at hc hk
                cases hc
                rw [Nat.add_zero] at hk
                rw [hk] at this
                exact ⟨_, this⟩
              | agg cs =>
                obtain ⟨xs, h1, h2, h3⟩ := this
                have := h3 _ _ hc
                rw [hk] at this
                exact ⟨_, this⟩ }

def MPostL (σ : AS) : Nat → List MC → Prop
  | _, [] => True
  | k, .ro _ :: l => MPostL σ (k + 1) l
  | k, .rw t t' :: l => (∃ e sz n f g, t = .sl e sz n f ∧ t' = .sl e sz n g ∧ Eqv (σ.arr RR k) t') ∧ MPostL σ (k + 1) l
def MPost (σ : AS) : Nat → List MV → Prop
  | _, [] => True
  | i, u :: us => MPostL σ (100 * i) (mcs u) ∧ MPost σ (i + 1) us

theorem MPostL.get {σ : AS} : ∀ {l : List MC} {k j : Nat} {t t' : T}, MPostL σ k l → l[j]? = some (.rw t t') → ∃ e sz n f g, t = .sl e sz n f ∧ t' = .sl e sz n g ∧ Eqv (σ.arr RR (k + j)) t'
  | [], _, _, _, _, _, h => by simp at h
  | .ro _ :: l, k, 0, _, _, _, h => by simp at h
  | .ro _ :: l, k, j + 1, t, t', hp, h => by
    have := MPostL.get (l := l) (k := k + 1) (j := j) hp (by simpa using h)
    rwa [show k + 1 + j = k + (j + 1) by omega] at this
  | .rw a b :: l, k, 0, t, t', hp, h => by simp at h; obtain ⟨rfl, rfl⟩ := h; exact hp.1
  | .rw a b :: l, k, j + 1, t, t', hp, h => by
    have := MPostL.get (l := l) (k := k + 1) (j := j) hp.2 (by simpa using h)
    rwa [show k + 1 + j = k + (j + 1) by omega] at this
theorem MPost.get {σ : AS} : ∀ {us : List MV} {i m : Nat} {u : MV}, MPost σ i us → us[m]? = some u → MPostL σ (100 * (i + m)) (mcs u)
  | [], _, _, _, _, h => by simp at h
  | u :: us, i, 0, v, hp, h => by simp at h; subst h; exact hp.1
  | u :: us, i, m + 1, v, hp, h => by
    have := MPost.get (us := us) (i := i + 1) (m := m) hp.2 (by simpa using h)
    rwa [show i + 1 + m = i + (m + 1) by omega] at this

/-- the header of a lent array stands for what stands there in the end -/
theorem lent_ok {w w' : World} {own own' : Own} {p : Place} {v v' : Value} {e sz n : Nat} {f g : Nat → List T} (hk : ∀ b, own b = some p → own' b = some p ∧ ∀ c e, w.heap[b]? = some (.cells c e (0, 0)) → ∃ c' : Array Value, w'.heap[b]? = some (.cells c' e (0, 0)) ∧ c'.size = c.size)
    (hinj : ∀ b b' p, own' b = some p → own' b' = some p → b = b') (h : Ok w own (some p) v (.sl e sz n f)) (h' : Ok w' own' (some p) v' (.sl e sz n g)) : Ok w' own' (some p) v (.sl e sz n g) := by
  cases h with
  | nil => exact .nil _ _ _
  | @osl p b n cap e sz f c ho hh hs hn hcap hl hr =>
    obtain ⟨k1, k2⟩ := hk b ho
    obtain ⟨c', g1, g2⟩ := k2 c e hh
    cases h' with
    | nil => exact .osl k1 g1 (g2 ▸ hs) hn hcap (fun i hi => by omega) (fun i j hi => by omega)
    | osl ho' hh' hs' hn' hcap' hl' hr' =>
      have := hinj _ _ _ ho' k1
      subst this
      rw [g1] at hh'
      cases hh'
      exact .osl k1 g1 (g2 ▸ hs) hn hcap hl' hr'

/-- only lent blocks, and those of others, are told of behind the return -/
theorem MSpec.body {P : Program} {f : FuncId} {fn : Func} {c : Code} {args : List MV} {res : T} (hf : P.funcs[f]? = some fn) (hb : fn.body = some c) (t : Nat) (hres : fn.results = ([t].map ResultVar.tmp).toArray) (n : Nat) (hnn : fn.ntmps = n) (hn : Nat.ble args.length n = true) (hnf : Nat.ble n RR = true) (hsm : mSmall args = true)
    (h : AWp P c (fun e σ' => (e = .normal ∨ e = .ret) ∧ (∃ x, σ'.s t = ⟨true, .one (.v x)⟩ ∧ x.sc = true ∧ x = res) ∧ MPost σ' 0 args) (initM n args)) : MSpec P f args res := by
  subst hnn
  intro w own vals hs hinj hrng hv
  refine calls_of_wp hf hb (wp_mono (h w _ _ w _ (initM_ok hs (Nat.le_of_ble_eq_true hn) (Nat.le_of_ble_eq_true hnf) hsm hinj hrng hv)) ?_)
  rintro e a' w' ⟨σ', own', ⟨he, ⟨x, hx1, hx2, hx3⟩, hpost⟩, hI⟩
  have hgoal : a'.defers = [] ∧ ∃ v, (results fn a'.tmps).run P w' = .ok v w' ∧ ∃ v' own'', Ending.returned v = .returned v' ∧ MRet w w' own own'' ∧ Ok w' own'' none v' res ∧ ∀ i u, args[i]? = some u → OkM MC.post w' own'' (100 * i) (vals.getD i undef) u := by
    refine ⟨hI.dfr, a'.tmps.getD t undef, ?_, ?_⟩
    · rw [run_results a'.tmps [t] hres]; rfl
    classical
    let own'' : Own := fun b => if own b = some (FP b) then some (FP b) else match own' b with
      | some p => match onRoot RR p with | true => (match p.r with | .arr _ _ => some p | .box _ => none) | false => none
      | none => none
    have hRF : RR ≠ FF := by decide
    have hk : ∀ b k s, own' b = some ⟨.arr RR k, s⟩ → own'' b = some ⟨.arr RR k, s⟩ := fun b k s hb => by
      have hne : own b ≠ some (FP b) := fun e => by
        have := (hI.fore b e).1
        rw [hb] at this
        simp only [FP, Option.some.injEq, Place.mk.injEq, Root.arr.injEq] at this
        exact hRF this.1.1
      simp only [own'', if_neg hne, hb, onRoot, Root.num, Nat.beq_refl]
    have hback : ∀ b p, own'' b = some p → (p = FP b ∧ own b = some (FP b)) ∨ (own' b = some p ∧ ∃ k s, p = ⟨.arr RR k, s⟩) := fun b p hb => by
      simp only [own''] at hb
      split at hb
      · cases hb; exact .inl ⟨rfl, by assumption⟩
      · cases ho : own' b with
        | none => rw [ho] at hb; cases hb
        | some q =>
          rw [ho] at hb
          simp only at hb
          cases hq : onRoot RR q with
          | false => rw [hq] at hb; cases hb
          | true =>
            rw [hq] at hb
            obtain ⟨r, s⟩ := q
            cases r with
            | box d => cases hb
            | arr d k =>
              simp only [Option.some.injEq] at hb
              have hd : d = RR := Nat.eq_of_beq_eq_true hq
              subst hd
              exact .inr ⟨by rw [hb], k, s, hb.symm⟩
    have hnone : ∀ b, own' b = none → own'' b = none := fun b hb => by
      have hne : own b ≠ some (FP b) := fun e => by
        have := (hI.fore b e).1
        rw [hb] at this; cases this
      simp only [own'', if_neg hne, hb]
    have hfz : Froz w' w' own' own'' := ⟨fun b hb _ => ⟨hnone b hb, rfl⟩⟩
    have hmv : ∀ k, Moved w' w' own' own'' ⟨.arr RR k, []⟩ ⟨.arr RR k, []⟩ := fun k b s hb => ⟨hk b k _ hb, rfl⟩
    have hinj'' : ∀ b b' p, own'' b = some p → own'' b' = some p → b = b' := fun b b' p hb hb' => by
      rcases hback b p hb with ⟨h1, h1'⟩ | ⟨h1, k, s, h2⟩ <;> rcases hback b' p hb' with ⟨g1, g1'⟩ | ⟨g1, k', s', g2⟩
      · rw [h1] at g1
        simp only [FP, Place.mk.injEq, Root.arr.injEq, and_true, true_and] at g1
        exact g1
      · rw [h1] at g2
        simp only [FP, Place.mk.injEq, Root.arr.injEq] at g2
        exact absurd g2.1.1.symm hRF
      · rw [g1] at h2
        simp only [FP, Place.mk.injEq, Root.arr.injEq] at h2
        exact absurd h2.1.1.symm hRF
      · exact hI.inj b b' p h1 g1
    refine ⟨_, own'', rfl, ⟨⟨hI.os, hI.tape, hI.output, hI.size⟩, fun b hb hlt => ⟨?_, hI.frm b hlt hb⟩, fun b hb => ⟨by simp only [own'', if_pos hb], (hI.fore b hb).2⟩, fun b k hb => ⟨hk b k _ (hI.keep b k hb).1, (hI.keep b k hb).2⟩, hinj'', fun b p hb => ?_⟩, ?_, fun i u hu => ?_⟩
    · apply hnone
      cases ho : own' b with
      | none => rfl
      | some q => rcases (hI.rng b q ho).2 with h1 | h1 <;> first | omega | exact absurd hb h1
    · rcases hback b p hb with ⟨h1, h1'⟩ | ⟨h1, k, s, h2⟩
      · have := (hI.fore b h1').1
        exact ⟨(hI.rng b _ this).1, .inl (by rw [h1']; simp), .inl ⟨h1, h1'⟩⟩
      · exact ⟨(hI.rng b p h1).1, (hI.rng b p h1).2.symm, .inr ⟨k, s, h2⟩⟩
    · have hv' : OkC w' own' σ' (a'.tmps.getD t undef) (.v x) := hI.evC (x := .tmp t) hx1
      rw [hx3] at hv'
      exact Ok.anyw hv' (by rw [← hx3]; exact hx2)
    · -- each lent array, by its header
      have hpl := hpost.get hu
      rw [Nat.zero_add] at hpl
      have one : ∀ (j : Nat) (c : MC) (v : Value), (mcs u)[j]? = some c → Ok w own (c.pl (100 * i + j)) v c.pre → Ok w' own'' (c.pl (100 * i + j)) v c.post := fun j c v hc hv => by
        cases c with
        | ro t0 =>
          have hv1 : Ok w own none v t0 := hv
          show Ok w' own'' none v t0
          refine hv1.frozen ⟨fun b hb hlt => ⟨?_, hI.frm b hlt hb⟩⟩
          apply hnone
          cases ho : own' b with
          | none => rfl
          | some q => rcases (hI.rng b q ho).2 with h1 | h1 <;> first | omega | exact absurd hb h1
        | rw t0 t1 =>
          obtain ⟨e1, sz, m, f1, g1, rfl, rfl, hq⟩ := hpl.get hc
          obtain ⟨f2, hf2, hrows⟩ := hq.of_sl
          obtain ⟨v2, hv2⟩ := hI.arrs _ _ _ _ _ _ hf2
          have hv3 : Ok w' own' (some ⟨.arr RR (100 * i + j), []⟩) v2 (.sl e1 sz m g1) := Eqv.ok (.rows hrows) hv2
          have hv4 := hv3.moved hfz (hmv _)
          exact lent_ok (w := w) (own := own) (fun b hb => ⟨hk b _ _ (hI.keep b _ hb).1, (hI.keep b _ hb).2⟩) hinj'' hv hv4
      have h0 := hv i u hu
      cases u with
      | one c => exact one 0 c _ rfl h0
      | agg cs =>
        obtain ⟨xs, q1, q2, q3⟩ := h0
        exact ⟨xs, q1, q2, fun j c hc => one j c _ hc (q3 j c hc)⟩
  rcases he with rfl | rfl
  · exact hgoal
  · exact hgoal

end Go.Mh
