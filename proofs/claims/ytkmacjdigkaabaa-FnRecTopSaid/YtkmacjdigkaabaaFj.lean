/- New arrays as steps. No condition. -/
import Derived.Test.YtkmacjdigkaabaaFi
set_option linter.unusedVariables false
set_option linter.unusedSimpArgs false
set_option linter.unnecessarySimpa false
namespace Go.Mh
open Go

/-! ### a new array -/
theorem C.clr_clr (bad : Place → Bool) (c : C) : (c.clr bad).clr bad = c.clr bad := by
  cases c with
  | ref p => simp only [C.clr]; cases hp : bad p <;> simp [hp]
  | eptr p i j => simp only [C.clr]; cases hp : bad p <;> simp [hp]
  | sub p lo n full => simp only [C.clr]; cases hp : bad p <;> simp [hp]
  | ifc ty p => simp only [C.clr]; cases hp : bad p <;> simp [hp]
  | bptr x y => simp only [C.clr]; cases hp : bad ⟨.box x, []⟩ <;> simp [hp]
  | fn f ds => simp only [C.clr]; cases hp : ds.any (fun d_1 => bad ⟨.box d_1, []⟩) <;> simp [hp]
  | _ => rfl
theorem V.clr1_clr1 (bad : Place → Bool) (u : V) : (u.clr1 bad).clr1 bad = u.clr1 bad := by
  cases u with
  | one c => simp only [V.clr1, C.clr_clr]
  | agg cs => simp only [V.clr1, List.map_map]; congr 1; exact List.map_congr_left fun c _ => C.clr_clr bad c
  | _ => rfl
theorem SV.clr_clr (bad : Place → Bool) (x : SV) : (x.clr bad).clr bad = x.clr bad := by
  obtain ⟨c, u⟩ := x
  simp only [SV.clr, SV.mk.injEq, true_and]
  cases u with
  | tup vs => simp only [V.clr, List.map_map]; congr 1; exact List.map_congr_left fun c _ => V.clr1_clr1 bad c
  | one c => exact V.clr1_clr1 bad (.one c)
  | agg c => exact V.clr1_clr1 bad (.agg c)
  | any => rfl

/-- from the state in which root d is forgotten to one in which a tree stands at (arr d k) -/
theorem Inv.newArr {w0 own0 σ a w own} (h : Inv w0 own0 σ a w own) (d k : Nat) (hdlt : d < RR) (o : Obj) (v : Value) (t : T)
    (hok : ∀ own', own' w.heap.size = some ⟨.arr d k, []⟩ → Ok (w.alloc o) own' (some ⟨.arr d k, []⟩) v t) :
    ∃ own', Inv w0 own0 ((σ.kill d).setArr d k t) a (w.alloc o) own' ∧ own' w.heap.size = some ⟨.arr d k, []⟩ := by
  have hdf : d ≠ FF := by have := RR_lt_FF; omega
  have h1 := h.kill d hdlt
  let o1 := killOwn own d
  have hold : ∀ b, b < w.heap.size → (w.alloc o).heap[b]? = w.heap[b]? := fun b hb => heap_alloc_old w _ b hb
  let own' : Own := fun b => match Nat.beq b w.heap.size with | true => some ⟨.arr d k, []⟩ | false => o1 b
  have hnew : own' w.heap.size = some ⟨.arr d k, []⟩ := by simp [own']
  have hsame : ∀ b, b ≠ w.heap.size → own' b = o1 b := fun b hb => by simp only [own', beq_false hb]
  have hf : Froz w (w.alloc o) o1 own' := ⟨fun b hb hlt => ⟨by rw [hsame b (by omega)]; exact hb, hold b hlt⟩⟩
  have hroot : ∀ b p, o1 b = some p → p.r.num ≠ d := fun b p hb => (killOwn_some hb).2
  have hkeep : ∀ b p, o1 b = some p → own' b = some p := fun b p hb => by
    rw [hsame b (fun e => by have := (h1.rng b p hb).1; omega)]; exact hb
  have hnode : ∀ p : Place, p.r.num ≠ d → ((σ.kill d).setArr d k t).node p = (σ.kill d).node p := fun p hp => setArr_node _ _ _ _ _ (fun e => hp (by rw [e]; rfl))
  have hk : ∀ p : Place, onRoot d p = false → KeepP w (w.alloc o) o1 own' (σ.kill d) ((σ.kill d).setArr d k t) p := by
    intro p hp
    have hpd : p.r.num ≠ d := fun e => by simp [onRoot, e] at hp
    exact ⟨fun e sz n f hn => ⟨f, by rw [← hnode p hpd]; exact hn⟩, fun t ht hb => hb, fun _ b hb => ⟨hkeep b p hb, fun cc e' hc => ⟨cc, by rw [hold b (heap_lt hc)]; exact hc, rfl⟩⟩⟩
  refine ⟨own', ?_, hnew⟩
  refine h1.trans (w' := w.alloc o) ⟨rfl, rfl, rfl, by simp⟩ (fun b _ hlt => hold b hlt) (fun b hb => ⟨hkeep b _ hb, hold b (h1.rng b _ hb).1⟩) (fun l => by rw [setArr_arr, if_neg (fun e => hdf e.1.symm)]; exact h1.noff l) ?_ ?_ rfl (fun t ht => ?_) ?_ ?_ (Kept.of fun b k hb => ⟨hkeep b _ hb, hold b (h1.rng b _ hb).1⟩)
  · intro b b' p hb hb'
    by_cases e1 : b = w.heap.size <;> by_cases e2 : b' = w.heap.size
    · rw [e1, e2]
    · subst e1
      rw [hnew] at hb
      rw [hsame b' e2] at hb'
      cases hb
      exact absurd rfl (hroot b' _ hb')
    · subst e2
      rw [hnew] at hb'
      rw [hsame b e1] at hb
      cases hb'
      exact absurd rfl (hroot b _ hb)
    · rw [hsame b e1] at hb; rw [hsame b' e2] at hb'
      exact h1.inj b b' p hb hb'
  · intro b p hb
    by_cases e1 : b = w.heap.size
    · subst e1; exact ⟨by simp, .inr (Nat.le_refl _)⟩
    · rw [hsame b e1] at hb
      exact ⟨by have := (h1.rng b p hb).1; simp; omega, .inl (by show o1 b ≠ none; rw [hb]; simp)⟩
  · have := OkS.clr hf _ hk ht
    have e1 : ((σ.kill d).s t).clr (onRoot d) = (σ.s t).clr (onRoot d) := SV.clr_clr _ _
    rw [e1] at this
    exact this
  · intro t' ht
    obtain ⟨b, cc, e', k1, k2, k3, k4⟩ := h1.boxes t' ht
    have htd : t' ≠ d := fun e => by subst e; simp [AS.setArr, AS.kill] at ht
    refine ⟨b, cc, e', hkeep b _ k1, by rw [hold b (heap_lt k2)]; exact k2, k3, fun j x hx => ?_⟩
    have := (k4 j x hx).clr hf _ hk (fun b s hb => ⟨hkeep b _ hb, hold b ((h1.rng b _ hb).1)⟩)
    have e0 : (σ.kill d).box t' = (σ.box t').map (C.clr (onRoot d)) := by simp only [AS.kill, beq_false htd]
    have hx' : ((σ.kill d).box t')[j]? = some x := hx
    rw [e0, List.getElem?_map, Option.map_eq_some_iff] at hx'
    obtain ⟨x0, _, rfl⟩ := hx'
    rwa [C.clr_clr] at this
  · intro t' k' e' sz n f ht
    rw [setArr_arr] at ht
    split at ht
    · rename_i e1
      obtain ⟨rfl, rfl⟩ := e1
      subst ht
      exact ⟨v, hok own' hnew⟩
    · obtain ⟨v, hv⟩ := h1.arrs t' k' e' sz n f ht
      exact ⟨v, hv.moved hf (fun b s hb => ⟨hkeep b _ hb, hold b ((h1.rng b _ hb).1)⟩)⟩

/-! ### make -/
inductive FreshT : Value → T → Prop where
  | dead (v : Value) : FreshT v .dead
  | sc (t : T) (h : t.sc = true) (hf : t.fits) : FreshT t.val t
  | nil (e sz : Nat) (f : Nat → List T) : FreshT (.slice none 0 0) (.sl e sz 0 f)
theorem FreshT.ok {w own p v t} (h : FreshT v t) : Ok w own (some p) v t := by
  cases h with
  | dead => exact .dead _
  | sc t ht hf => exact Ok.of_sc ht hf
  | nil e sz f => exact .nil e sz f

/-! ### slice literals -/
theorem foldl_set_get (off : Nat) : ∀ (l : List Value) (k : Nat) (cs : Array Value) (x : Nat),
    ((l.zipIdx k).foldl (fun cs (p : Value × Nat) => cs.setIfInBounds (off + p.2) p.1) cs).size = cs.size ∧
    ((off + k ≤ x ∧ x < off + k + l.length ∧ x < cs.size) → ((l.zipIdx k).foldl (fun cs (p : Value × Nat) => cs.setIfInBounds (off + p.2) p.1) cs).getD x undef = l.getD (x - off - k) undef) ∧
    ((x < off + k ∨ off + k + l.length ≤ x) → ((l.zipIdx k).foldl (fun cs (p : Value × Nat) => cs.setIfInBounds (off + p.2) p.1) cs).getD x undef = cs.getD x undef)
  | [], k, cs, x => by
    refine ⟨rfl, fun h => ?_, fun _ => rfl⟩
    simp at h; omega
  | v :: l, k, cs, x => by
    simp only [List.zipIdx_cons, List.foldl_cons, List.length_cons]
    obtain ⟨h1, h2, h3⟩ := foldl_set_get off l (k + 1) (cs.setIfInBounds (off + k) v) x
    refine ⟨by rw [h1]; simp, fun h => ?_, fun h => ?_⟩
    · by_cases hx : x = off + k
      · subst hx
        rw [h3 (by omega)]
        have hlt : off + k < cs.size := h.2.2
        have : off + k - off - k = 0 := by omega
        rw [this]
        simp [Array.getD, hlt]
      · rw [h2 ⟨by omega, by omega, by simpa using h.2.2⟩]
        rw [show x - off - k = (x - off - (k + 1)) + 1 from by omega]
        rfl
    · rw [h3 (by omega)]
      simp only [Array.getD_eq_getD_getElem?, Array.getElem?_setIfInBounds]
      rw [if_neg (by omega)]

theorem fill_row (size : Nat) : ∀ (parts : List (Nat × Value)) (cells : Array Value), (∀ p ∈ parts, p.2.cells.size = size ∧ (p.1 + 1) * size ≤ cells.size) →
    ∃ r, Instr.fill (fun i => some (i * size, size)) cells parts = some r ∧ r.size = cells.size ∧
      (∀ x, (∀ p ∈ parts, ¬ (p.1 * size ≤ x ∧ x < (p.1 + 1) * size)) → r.getD x undef = cells.getD x undef) ∧
      (parts.Pairwise (fun a b => a.1 ≠ b.1) → ∀ p ∈ parts, ∀ j, j < size → r.getD (p.1 * size + j) undef = p.2.cells.getD j undef)
  | [], cells, _ => ⟨cells, rfl, rfl, fun _ _ => rfl, fun _ p hp => by cases hp⟩
  | (i, v) :: parts, cells, h => by
    obtain ⟨h1, h2⟩ := h (i, v) (by simp)
    simp only at h1 h2
    have hmul : (i + 1) * size = i * size + size := by rw [Nat.add_mul, Nat.one_mul]
    have hfold := fun x => foldl_set_get (i * size) v.cells.toList 0 cells x
    have hsz : (v.cells.toList.zipIdx 0).foldl (fun cs (p : Value × Nat) => cs.setIfInBounds (i * size + p.2) p.1) cells = v.cells.zipIdx.foldl (fun cs (p : Value × Nat) => cs.setIfInBounds (i * size + p.2) p.1) cells := by
      rw [← Array.foldl_toList, Array.toList_zipIdx]
    have hs1 := (hfold 0).1
    rw [hsz] at hs1
    obtain ⟨r, k1, k2, k3, k4⟩ := fill_row size parts (v.cells.zipIdx.foldl (fun cs (p : Value × Nat) => cs.setIfInBounds (i * size + p.2) p.1) cells) (fun p hp => by
      obtain ⟨a, b⟩ := h p (by simp [hp])
      exact ⟨a, by rw [hs1]; exact b⟩)
    refine ⟨r, ?_, by rw [k2, hs1], fun x hx => ?_, fun hpw p hp j hj => ?_⟩
    · simp only [Instr.fill]
      have hc1 : ¬ (v.cells.size ≠ size) := by simp [h1]
      have hc2 : ¬ (i * size + v.cells.size > cells.size) := by omega
      simp only [hc1, hc2, decide_false, Bool.or_self, Bool.false_eq_true, if_false]
      exact k1
    · rw [k3 x (fun p hp => hx p (by simp [hp]))]
      have := (hfold x).2.2
      rw [hsz] at this
      apply this
      have := hx (i, v) (by simp)
      simp only at this
      have hl : v.cells.toList.length = size := by simpa using h1
      omega
    · rw [List.pairwise_cons] at hpw
      rw [List.mem_cons] at hp
      rcases hp with rfl | hp
      · rw [k3 _ (fun p hp => ?_)]
        · have := (hfold (i * size + j)).2.1
          rw [hsz] at this
          have hl : v.cells.toList.length = size := by simpa using h1
          rw [this ⟨by omega, by omega, by omega⟩]
          simp only [show i * size + j - i * size - 0 = j from by omega]
          have hjv : j < v.cells.size := by omega
          simp [List.getD_eq_getElem?_getD, Array.getD, hjv]
        · have hne := hpw.1 p hp
          simp only at hne ⊢
          rcases Nat.lt_or_gt_of_ne hne with hlt | hlt
          · have := Nat.mul_le_mul_right size (show i + 1 ≤ p.1 from hlt)
            omega
          · have := Nat.mul_le_mul_right size (show p.1 + 1 ≤ i from hlt)
            omega
      · exact k4 hpw.2 p hp j hj

/-- the parts of a literal are told, row by row -/
def buildN (d sz : Nat) : List (Nat × Operand) → AS → AS
  | [], σ => σ
  | (i, y) :: ps, σ => buildN d sz ps (storeNA ⟨.arr d 0, []⟩ i 0 y sz 0 σ)
def buildOkN (d sz : Nat) : List (Nat × Operand) → AS → Bool
  | [], _ => true
  | (i, y) :: ps, σ => (σ.ev y).c && Nat.beq (σ.ev y).v.cells.length sz && storeOkNA ⟨.arr d 0, []⟩ i 0 y sz 0 σ && buildOkN d sz ps (storeNA ⟨.arr d 0, []⟩ i 0 y sz 0 σ)

theorem Inv.tellNA {w0 own0 a w} {p : Place} {b i j : Nat} {y : Operand} {e sz n : Nat} (hi : i < n) : ∀ (m l : Nat) (σ : AS) (own : Own) (f : Nat → List T), Inv w0 own0 σ a w own →
    own b = some p → σ.node p = .sl e sz n f → j + l + m ≤ sz → (σ.ev y).c = true → storeOkNA p i j y m l σ = true →
    (∀ l', l' < l + m → w.cell? ⟨b, i * sz + (j + l'), none⟩ = some ((a.eval y).cells.getD l' undef)) →
    ∃ own', Inv w0 own0 (Mh.storeNA p i j y m l σ) a w own' ∧ own' b = some p ∧ ∃ g, (Mh.storeNA p i j y m l σ).node p = .sl e sz n g := by
  intro m
  induction m with
  | zero => intro l σ own f h hb hn _ _ _ _; exact ⟨own, h, hb, f, hn⟩
  | succ m ih =>
    intro l σ own f h hb hn hlen hc hok hcell
    simp only [storeOkNA] at hok
    simp only [Mh.storeNA]
    cases hcc : (σ.ev y).v.cells[l]? with
    | none => rw [hcc] at hok; cases hok
    | some c =>
      rw [hcc] at hok
      simp only [Bool.and_eq_true] at hok
      have hv : OkV w own σ (a.eval y) (σ.ev y).v := by
        have := h.ev y
        unfold OkS at this
        rwa [if_pos hc] at this
      have hcl := hv.cell_solid hcc (storeOkA_solid hok.1)
      obtain ⟨own', hI', hb', g, hn'⟩ := h.tellA (i := i) (j := j + l) hn hb hi (by omega) hcl hok.1
      rw [setCell_same w b (i * sz + (j + l)) _ (hcell l (by omega))] at hI'
      exact ih (l + 1) _ own' g hI' hb' hn' (by omega) (by rw [storeA1_ev]; exact hc) hok.2 (fun l' hl' => hcell l' (by omega))

theorem buildN_n (d sz : Nat) : ∀ (ps : List (Nat × Operand)) (σ : AS), (buildN d sz ps σ).n = σ.n
  | [], _ => rfl
  | (i, y) :: ps, σ => by simp only [buildN]; rw [buildN_n d sz ps, storeNA_n]

theorem Inv.buildN {w0 own0 a w} {d b e sz n : Nat} : ∀ (ps : List (Nat × Operand)) (σ : AS) (own : Own) (f : Nat → List T), Inv w0 own0 σ a w own → own b = some ⟨.arr d 0, []⟩ → σ.node ⟨.arr d 0, []⟩ = .sl e sz n f →
    (∀ q ∈ ps, q.1 < n ∧ ∀ l, l < sz → w.cell? ⟨b, q.1 * sz + l, none⟩ = some ((a.eval q.2).cells.getD l undef)) → buildOkN d sz ps σ = true →
    ∃ own', Inv w0 own0 (Mh.buildN d sz ps σ) a w own' ∧ own' b = some ⟨.arr d 0, []⟩ ∧ ∃ g, (Mh.buildN d sz ps σ).node ⟨.arr d 0, []⟩ = .sl e sz n g
  | [], σ, own, f, h, hb, hn, _, _ => ⟨own, h, hb, f, hn⟩
  | (i, y) :: ps, σ, own, f, h, hb, hn, hps, hok => by
    simp only [buildOkN, Bool.and_eq_true] at hok
    obtain ⟨hi, hcell⟩ := hps (i, y) (by simp)
    simp only at hi hcell
    obtain ⟨own', hI', hb', g, hn'⟩ := Inv.tellNA (j := 0) hi sz 0 σ own f h hb hn (by omega) hok.1.1.1 hok.1.2 (fun l' hl' => by rw [Nat.zero_add]; exact hcell l' (by omega))
    exact Inv.buildN ps _ own' g hI' hb' hn' (fun q hq => hps q (by simp [hq])) hok.2

theorem step_buildSlice {P : Program} {o : Oper} {σ : AS} {d : Nat} (hd : o.dst = some d) (hn : d < σ.n) {t len e sz by' : Nat} {ps : List (Nat × Operand)} (ho : o.op = .buildSlice t len ps.toArray) (ht : sliceT P t = some ⟨e, sz, by'⟩)
    (hsmall : Nat.ble (len * sz) 1024 = true) (hlt : ps.all (fun q => Nat.blt q.1 len) = true) (hpw : ps.Pairwise (fun a b => a.1 ≠ b.1))
    (hps : ∀ q ∈ ps, (σ.ev q.2).c = true ∧ (σ.ev q.2).v.cells.length = sz ∧ ∀ c, (σ.ev q.2).v = .one c → solidC σ c = true)
    (hok : buildOkN d sz ps ((σ.kill d).setArr d 0 (.sl e sz len (fun _ => List.replicate sz .dead))) = true) :
    Step P o σ ((buildN d sz ps ((σ.kill d).setArr d 0 (.sl e sz len (fun _ => List.replicate sz .dead)))).setS d ⟨true, .one (.ref ⟨.arr d 0, []⟩)⟩) := by
  refine Step.make hd (by rw [buildN_n]; exact hn) fun w0 own0 a w own hI => ?_
  obtain ⟨hu, i, z, hi, hz, hs, hby, hzs, hsz⟩ := sliceT_spec ht
  have hsm := Nat.le_of_ble_eq_true hsmall
  let zero : Array Value := if len * sz = 0 then #[] else z.cells
  let cells0 : Array Value := (Array.range (len * sz)).map (zero[· % zero.size]!)
  have hc0 : cells0.size = len * sz := by simp [cells0]
  have hev : ∀ q ∈ ps, (a.eval q.2).cells.size = sz := fun q hq => by
    obtain ⟨h1, h2, h3⟩ := hps q hq
    have := evCells_len hI h1 h2 hsz h3
    simpa using this
  have hlt' : ∀ q ∈ ps, q.1 < len := fun q hq => by
    have := List.all_eq_true.1 hlt q hq
    simpa [Nat.blt_eq] using this
  obtain ⟨r, k1, k2, k3, k4⟩ := fill_row sz (ps.map fun q => (q.1, a.eval q.2)) cells0 (fun p hp => by
    obtain ⟨q, hq, rfl⟩ := List.mem_map.1 hp
    exact ⟨hev q hq, by rw [hc0]; exact Nat.mul_le_mul_right sz (hlt' q hq)⟩)
  have hrun : (Instr.buildSlice t len (ps.map fun q => (q.1, a.eval q.2)).toArray).run P w = .ok (.slice (some ⟨w.heap.size, 0, none⟩) len len) (w.alloc (.cells r e)) := by
    have hbig : ¬ (len * sz > 2 ^ 24) := by omega
    simp only [Instr.buildSlice, Sem.run_bind, run_underlying hu, Result.andThen_ok, sizeOf, run_info hi, Sem.run_pure, hs, hbig, if_false]
    by_cases h0 : len * sz = 0
    · have e0 : zero = #[] := by simp [zero, h0]
      simp only [cells0, e0] at k1
      simp only [h0, if_true, Sem.run_bind, Sem.run_pure, Result.andThen_ok]
      rw [h0] at k1
      rw [k1]
      rfl
    · have e0 : zero = z.cells := by simp [zero, h0]
      simp only [cells0, e0] at k1
      simp only [h0, if_false, Sem.run_bind, zeroValue, run_info hi, Result.andThen_ok, hz, Sem.run_pure]
      rw [k1]
      rfl
  obtain ⟨own', hI', hnew⟩ := hI.newArr d 0 (by have := hI.nf; omega) (.cells r e) (.slice (some ⟨w.heap.size, 0, none⟩) len len) (.sl e sz len (fun _ => List.replicate sz .dead)) (fun own' hnew =>
    .osl hnew (heap_alloc_new w _) (.inl (by rw [k2, hc0])) (Nat.le_refl _) (by
      have : len ≤ len * sz := Nat.le_mul_of_pos_right len hsz
      simp only [maxLen]; omega) (fun _ _ => by simp) (fun k l hk hl => by
      have : (List.replicate sz T.dead).getD l .dead = .dead := by simp [List.getD_eq_getElem?_getD, hl]
      rw [this]; exact .dead _))
  obtain ⟨own2, hI2, hb2, g, hn2⟩ := Inv.buildN (e := e) (sz := sz) (n := len) ps _ own' (fun _ => List.replicate sz .dead) hI' hnew (by simp [AS.node, setArr_arr, follow]) (fun q hq => ⟨hlt' q hq, fun l hl => by
    have hlt2 : q.1 * sz + l < r.size := by rw [k2, hc0]; exact mul_add_lt (hlt' q hq) hl
    have := k4 (by
      rw [List.pairwise_map]
      exact hpw) (q.1, a.eval q.2) (List.mem_map.2 ⟨q, hq, rfl⟩) l hl
    simp only at this
    have hnewh : (w.alloc (.cells r e)).heap[w.heap.size]? = some (.cells r e (0, 0)) := heap_alloc_new w _
    simp only [World.cell?, hnewh, Option.isSome_none, Bool.false_eq_true, if_false]
    rw [← this]
    simp [Array.getD, hlt2]⟩) hok
  refine ⟨.slice (some ⟨w.heap.size, 0, none⟩) len len, _, own2, ?_, hI2, ?_⟩
  · have e1 : (ps.toArray.map fun x => (x.1, a.eval x.2)) = (ps.map fun q => (q.1, a.eval q.2)).toArray := by simp
    simp only [execOp, ho, Sem.run_bind]
    rw [e1, hrun]
    rfl
  · intro e' sz' n' f' hq
    rw [hn2] at hq
    cases hq
    obtain ⟨v', hv'⟩ := hI2.at hn2
    cases hv' with
    | nil =>
      exact .inr ⟨w.heap.size, 0, r, rfl, hb2, heap_alloc_new w _, .inl (by rw [k2, hc0]), Nat.le_refl _, by simp [maxLen]⟩
    | osl ho' hh hs' hn' hcap hl hr =>
      exact .inr ⟨w.heap.size, _, r, rfl, hb2, heap_alloc_new w _, .inl (by rw [k2, hc0]), Nat.le_refl _, by
        have : len ≤ len * sz := Nat.le_mul_of_pos_right len hsz
        simp only [maxLen]; omega⟩

end Go.Mh
