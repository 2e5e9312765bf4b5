/- Bytes as a text, and variables that begin with references. No condition. -/
import Derived.Test.YtkmacjdigkaabaaGd
import Derived.Laws.BytesString
import Derived.Laws.Cells
set_option linter.unusedVariables false
set_option linter.unusedSimpArgs false
set_option linter.unnecessarySimpa false
namespace Go.Mh
open Go

/-! ### bytes as a text -/
def bytesOf (ns : List Int) : ByteArray := ns.foldl (fun r n => r.push (UInt8.ofNat n.toNat)) ByteArray.empty
theorem bytesOf_size (ns : List Int) : (bytesOf ns).size = ns.length := by
  have key : ∀ (ns : List Int) (s : ByteArray), (ns.foldl (fun r n => r.push (UInt8.ofNat n.toNat)) s).size = s.size + ns.length := by
    intro ns
    induction ns with
    | nil => intro s; rfl
    | cons n ns ih => intro s; simp only [List.foldl_cons, ih, ByteArray.size_push, List.length_cons]; omega
  have := key ns ByteArray.empty
  unfold bytesOf
  rw [this]; simp
theorem step_convBytes {P : Program} {o : Oper} {σ : AS} {d : Nat} (hd : o.dst = some d) (hn : d < σ.n) {s t e e1 : TypeId} {x : Operand} (ho : o.op = .convert s t x) (hs : P.underlying s = some (.slice e)) (he : P.underlying e = some (.int .u8)) (ht : P.underlying t = some .string)
    (ns : List Int) {n : Nat} {g : Nat → List T} (hx : σ.ev x = ⟨true, .one (.v (.sl e1 1 n g))⟩) (hl : n = ns.length) (h0 : 0 < n) (hg : ∀ i, i < n → g i = [.int .u8 (ns.getD i 0)]) :
    Step P o σ (σ.setS d ⟨true, .one (.v (.str (bytesOf ns)))⟩) :=
  Step.value hd hn fun w0 own0 a w own hI => by
    have hv := hI.evC hx
    generalize hgx : a.eval x = vx at hv
    cases hv with
    | nil => omega
    | emp => omega
    | @fsl b off n cap _ _ f xx h1 hcap h3 h4 h5 h6 =>
      refine ⟨.string (bytesOf ns), ?_, Ok.of_sc (t := .str (bytesOf ns)) rfl (by simp only [T.fits, bytesOf_size]; omega)⟩
      have hadd : ∀ (b off q : Nat), (⟨b, off, none⟩ : Addr).add q = ⟨b, off + q, none⟩ := fun b off q => by unfold Addr.add; split <;> simp_all
      have hcell : ∀ j, j < n → w.cell? ((⟨b, off, none⟩ : Addr).add j) = some (.int .u8 (ns.getD j 0)) := fun j hj => by
        rw [hadd]
        have k1 := h5 j 0 hj (by omega)
        have k2 := h6 j 0 hj (by omega)
        rw [hg j hj] at k2
        have k3 := Ok.sc (t := .int .u8 (ns.getD j 0)) k2 rfl
        rw [Nat.mul_one, Nat.add_zero, k3] at k1
        exact k1
      have hload := run_loadCells (P := P) w ⟨b, off, none⟩ n (fun j => .int .u8 (ns.getD j 0)) hcell
      have e0 : ((List.range n).map fun j => Value.int .u8 (ns.getD j 0)).toArray = (ns.map (Value.int .u8)).toArray := by
        congr 1
        apply List.ext_getElem?
        intro i
        by_cases hi : i < n
        · have hi' : i < ns.length := by omega
          simp [List.getD_eq_getElem?_getD, hi, hi']
        · have hi' : ¬ i < ns.length := by omega
          simp [hi, hi']
      rw [e0] at hload
      have hr := run_bytesToString (P := P) w ⟨b, off, none⟩ n cap ns hload
      have hc := run_convert_bytes_string (P := P) w s t e (some ⟨b, off, none⟩) n cap hs he ht
      simp only [execOp, ho, hgx, Sem.run_bind, hc, hr, Result.andThen_ok, Sem.run_pure]
      rfl

/-! ### trees that bear no frozen part -/
theorem Clean.sc {t : T} (h : t.sc = true) : Clean t := by
  cases t <;> first | exact .int _ _ | exact .bool _ | exact .str _ | exact .nl | cases h
inductive CleanL : List T → Prop where
  | nil : CleanL []
  | cons {t : T} {l : List T} (h : Clean t) (hs : CleanL l) : CleanL (t :: l)
theorem CleanL.all {l : List T} (h : CleanL l) : ∀ t ∈ l, Clean t := by
  induction h with
  | nil => intro t ht; cases ht
  | cons h hs ih =>
    intro t ht
    rw [List.mem_cons] at ht
    rcases ht with rfl | ht
    · exact h
    · exact ih t ht

/-- rows after three cells were written -/
theorem setRow3 {f : Nat → List T} {i : Nat} {a b c : T} (h : (f i).length = 3) : setRow (setRow (setRow f i 0 a) i 1 b) i 2 c = putRow f i [a, b, c] := by
  funext k
  by_cases hk : k = i
  · subst hk
    simp only [setRow_self, putRow_self]
    match f k, h with
    | [x, y, z], _ => rfl
  · simp only [setRow_other _ _ _ _ hk, putRow_other _ _ _ hk]
theorem RetIs.mk {t : Nat} {x res : T} {e : Exit} {σ : AS} {us : List MV} (he : e = .normal ∨ e = .ret) (hs : σ.s t = ⟨true, .one (.v x)⟩) (hx : x.sc = true) (hr : x = res) (hp : MPost σ 0 us) : (e = .normal ∨ e = .ret) ∧ (∃ x, σ.s t = ⟨true, .one (.v x)⟩ ∧ x.sc = true ∧ x = res) ∧ MPost σ 0 us := ⟨he, ⟨x, hs, hx, hr⟩, hp⟩

/-! ### a variable that begins with references to owned arrays -/
theorem boxC_same {σ σ' : AS} {c : C} (ha : ∀ d k, σ'.arr d k = σ.arr d k) (h : boxC σ c = true) : boxC σ' c = true := by
  unfold boxC at h ⊢
  split <;> rename_i hx
  · rw [ha]; exact h
  · split at h
    · exact absurd rfl (hx _ _ _)
    · exact h
theorem Inv.adoptNR {w0 own0} {a : Act} {w : World} {own : Own} {d b : Nat} {cc : Array Value} {e : Nat} (hb : own b = some ⟨.box d, []⟩) (hh : w.heap[b]? = some (.cells cc e (0, 0))) :
    ∀ (cs : List C) (j : Nat) (σ : AS), Inv w0 own0 σ a w own → (∀ i, i < cs.length → (σ.box d)[j + i]? = some .any) → (∀ (k : Nat) c, cs[k]? = some c → boxC σ c = true ∧ OkC w own σ (cc.getD (j + k) undef) c) →
    Inv w0 own0 (σ.setBox d (setN (σ.box d) j cs)) a w own
  | [], j, σ, h, _, _ => by simp only [setN, setBox_self]; exact h
  | c :: cs, j, σ, h, hany, hcs => by
    obtain ⟨hp, hc⟩ := hcs 0 c rfl
    have h1 := h.adoptB (c := c) hb hh (by simpa using hany 0 (by simp)) (by simpa using hc)
    have hf : Froz w w own own := ⟨fun _ hb _ => ⟨hb, rfl⟩⟩
    have h2 := Inv.adoptNR hb hh cs (j + 1) _ h1 (fun i hi => by
      rw [setBox_box, if_pos rfl, List.getElem?_set, if_neg (by omega)]
      have := hany (i + 1) (by simp; omega)
      rwa [show j + (i + 1) = j + 1 + i by omega] at this) (fun k c' hk => by
      obtain ⟨q1, q2⟩ := hcs (k + 1) c' (by simpa using hk)
      exact ⟨boxC_same (fun _ _ => rfl) q1, boxC_ok (σ := σ) hf (fun _ _ => rfl) (fun _ _ _ _ _ => ⟨rfl, rfl⟩) q1 (by rwa [show j + (k + 1) = j + 1 + k by omega] at q2)⟩)
    rw [setBox_setBox, setBox_box, if_pos rfl] at h2
    exact h2
def boxCd (σ : AS) (d : Nat) : C → Bool
  | .ref ⟨.arr d' k, ps⟩ => match Nat.beq d' d with | true => false | false => isSl (follow (σ.arr d' k) ps)
  | c => plainC c
theorem boxCd_clr {σ : AS} {d : Nat} {c : C} (h : boxCd σ d c = true) : c.clr (onRoot d) = c := by
  unfold boxCd at h
  split at h
  · rename_i d' k ps
    cases hb : Nat.beq d' d with
    | true => rw [hb] at h; cases h
    | false => simp only [C.clr, onRoot, Root.num, hb]
  · exact plainC_clr h
theorem boxCd_kill {σ : AS} {d : Nat} {x : List C} {c : C} (h : boxCd σ d c = true) : boxC ((σ.kill d).setBox d x) c = true := by
  unfold boxCd at h
  unfold boxC
  split at h
  · rename_i d' k ps
    cases hb : Nat.beq d' d with
    | true => rw [hb] at h; cases h
    | false =>
      rw [hb] at h
      simp only [AS.setBox, AS.kill, hb]
      exact h
  · split
    · cases h
    · exact h
theorem step_box_r {P : Program} {o : Oper} {σ : AS} {d : Nat} (hd : o.dst = some d) (hn : d < σ.n) {t : TypeId} {y : Operand} {m : Nat} (ho : o.op = .box t y) {u : V} {cs : List C} (hy : σ.ev y = ⟨true, u⟩) (hcs : u.cells = cs)
    (hp : cs.all (boxCd σ d) = true) (hl : cs.length = m + 1) : Step P o σ (((σ.kill d).setBox d cs).setS d ⟨true, .one (.bptr d 0)⟩) := by
  refine Step.make hd hn fun w0 own0 a w own hI => ?_
  have hpb : ∀ c ∈ cs, boxCd σ d c = true := fun c hc => List.all_eq_true.1 hp c hc
  have hsol : ∀ (τ : AS), (∀ c ∈ cs, boxC τ c = true) → cs.all (solidC τ) = true := fun τ h => List.all_eq_true.2 fun c hc => boxC_solid (h c hc)
  have hb0 : ∀ c ∈ cs, boxC σ c = true := fun c hc => by
    have := hpb c hc
    unfold boxCd at this
    unfold boxC
    split at this
    · rename_i d' k ps
      cases hb : Nat.beq d' d with
      | true => rw [hb] at this; cases this
      | false => rw [hb] at this; exact this
    · split
      · cases this
      · exact this
  obtain ⟨hxs, _⟩ := evSolid hI hy hcs (hsol σ hb0) (by rw [hl]; rfl)
  obtain ⟨own', hI', hnew⟩ := hI.newBox d (by have := hI.nf; omega) (a.eval y).cells t (List.replicate (m + 1) .any) (by rw [List.length_replicate, ← hl, ← hxs])
    (fun j x hx => by rw [List.getElem?_replicate] at hx; split at hx <;> cases hx; exact .any _)
  have hcl : cs.map (C.clr (onRoot d)) = cs := by
    conv => rhs; rw [← List.map_id cs]
    exact List.map_congr_left fun c hc => boxCd_clr (hpb c hc)
  obtain ⟨u', hy', hcs'⟩ : ∃ u', ((σ.kill d).setBox d (List.replicate (m + 1) .any)).ev y = ⟨true, u'⟩ ∧ u'.cells = cs := by
    rcases kill_ev σ d (List.replicate (m + 1) .any) y with h | h
    · exact ⟨u, h.trans hy, hcs⟩
    · refine ⟨u.clr (onRoot d), by rw [h, hy]; rfl, by rw [clr_cells, hcs, hcl]⟩
  have hbk : ∀ c ∈ cs, boxC ((σ.kill d).setBox d (List.replicate (m + 1) .any)) c = true := fun c hc => boxCd_kill (hpb c hc)
  obtain ⟨_, hcc⟩ := evSolid hI' hy' hcs' (hsol _ hbk) (by rw [hl]; rfl)
  have h2 := Inv.adoptNR hnew (heap_alloc_new w (.cells (a.eval y).cells t)) cs 0 _ hI' (fun i hi => by
      rw [setBox_box, if_pos rfl, List.getElem?_replicate, if_pos (by omega)]) (fun k c hk => by
      refine ⟨hbk c (List.mem_of_getElem? hk), ?_⟩
      rw [Nat.zero_add]
      exact hcc k c hk)
  rw [setBox_setBox, setBox_box, if_pos rfl] at h2
  have e2 : setN (List.replicate (m + 1) C.any) 0 cs = cs := setN_all cs [] (List.replicate (m + 1) C.any) (by rw [hl]; simp)
  rw [e2] at h2
  refine ⟨.pointer (some ⟨w.heap.size, 0, none⟩), _, own', ?_, h2, fun _ => ⟨_, rfl, hnew⟩⟩
  simp [execOp, ho, Instr.box, newVar, newRow, newObj, Sem.run]

/-- the cell of a row in which another cell was written -/
theorem setRow_at {f : Nat → List T} {i j l : Nat} {t : T} {r : List T} (h : f i = r) (hne : (Nat.beq l j) = false) : (setRow f i j t i).getD l .dead = r.getD l .dead := by
  rw [setRow_self, h]
  have : l ≠ j := fun e => by subst e; simp at hne
  simp only [List.getD_eq_getElem?_getD, List.getElem?_set, if_neg (Ne.symm this)]

/-- a number told in other words -/
theorem Le.slotInt {σ : AS} (t : Nat) {k : IntKind} {a b : Int} (hs : σ.s t = ⟨true, .one (.v (.int k a))⟩) (h : a = b) : Le σ (σ.setS t ⟨true, .one (.v (.int k b))⟩) := by
  intro w0 own0 x w own hI
  refine ⟨own, hI.retell ?_⟩
  have hv := hI.evC (x := .tmp t) hs
  rw [h] at hv
  exact hv

end Go.Mh
