/- Appends, arrays let go, and literals that nobody writes. No condition. -/
import Derived.Test.YtkmacjdigkaabaaFx
import Derived.Laws.OwnMore
set_option linter.unusedVariables false
set_option linter.unusedSimpArgs false
set_option linter.unnecessarySimpa false
namespace Go.Mh
open Go

/-! ### a root array is replaced as a whole -/
def onArr (d k : Nat) (p : Place) : Bool := p.r.beq (.arr d k)
theorem onArr_false {d k : Nat} {p : Place} (h : onArr d k p = false) : p.r ≠ .arr d k := fun e => by simp [onArr, e, Root.beq_refl] at h

theorem Inv.turnArr {w0 own0 σ a w own} (h : Inv w0 own0 σ a w own) (d k : Nat) (hdf : d ≠ FF) (hdr : d ≠ RR) (t : T) {w' : World} {own' : Own} (hw : SameW w w') (hf : Froz w w' own own')
    (hout : ∀ b q, own b = some q → q.r ≠ .arr d k → own' b = some q ∧ w'.heap[b]? = w.heap[b]?)
    (inj : ∀ b b' q, own' b = some q → own' b' = some q → b = b') (rng : ∀ b q, own' b = some q → b < w'.heap.size ∧ (own b ≠ none ∨ w.heap.size ≤ b))
    (hok : ∃ v, Ok w' own' (some ⟨.arr d k, []⟩) v t) :
    Inv w0 own0 ((σ.mapC (onArr d k)).setArr d k t) a w' own' := by
  have hnode : ∀ q : Place, q.r ≠ .arr d k → ((σ.mapC (onArr d k)).setArr d k t).node q = σ.node q := fun q hq => by rw [setArr_node _ _ _ _ _ hq, mapC_node]
  have hk : ∀ q, onArr d k q = false → KeepP w w' own own' σ ((σ.mapC (onArr d k)).setArr d k t) q := by
    intro q hq
    have hr := onArr_false hq
    refine ⟨fun e sz n f hn => ⟨f, by rw [← hnode q hr]; exact hn⟩, fun t _ hb h0 => hb (by simp [AS.setArr, AS.mapC, h0]), fun _ b hb => ?_⟩
    obtain ⟨h1, h2⟩ := hout b q hb hr
    exact ⟨h1, fun c e hc => ⟨c, h2.trans hc, rfl⟩⟩
  have hmv : ∀ q : Place, q.r ≠ .arr d k → Moved w w' own own' q q := fun q hq b s hb => hout b _ hb hq
  refine h.trans hw (fun b hb hlt => (hf.h b hb hlt).2) (fun b hb => hout b _ hb (fun e => hdf (by simp only [FP, Root.arr.injEq] at e; exact e.1.symm))) (fun l => by rw [setArr_arr, if_neg (fun e => hdf e.1.symm)]; exact h.noff l) inj rng rfl (fun t ht => ht.clr hf _ hk) ?_ ?_ (Kept.of fun b k' hb => hout b _ hb (fun e => hdr (by simp only [Root.arr.injEq] at e; exact e.1.symm)))
  · intro t' ht
    have hne : σ.box t' ≠ [] := fun h0 => ht (by simp [AS.setArr, AS.mapC, h0])
    obtain ⟨b, c, e', h1, h2, h3, h4⟩ := h.boxes t' hne
    obtain ⟨g1, g2⟩ := hout b _ h1 (by simp)
    refine ⟨b, c, e', g1, g2.trans h2, by simpa [AS.setArr, AS.mapC] using h3, fun i x hx => ?_⟩
    simp only [AS.setArr, AS.mapC, List.getElem?_map, Option.map_eq_some_iff] at hx
    obtain ⟨x0, hx0, rfl⟩ := hx
    exact (h4 i x0 hx0).clr hf _ hk (hmv _ (by simp))
  · intro t' k' e sz n f ht
    rw [setArr_arr] at ht
    split at ht
    · rename_i e1
      obtain ⟨rfl, rfl⟩ := e1
      subst ht
      exact hok
    · rename_i e1
      obtain ⟨v, hv⟩ := h.arrs t' k' e sz n f ht
      exact ⟨v, hv.moved hf (hmv _ (fun e => e1 (by simpa using e)))⟩

/-! ### append -/
/-- one of Go's own values, nothing of which is owned -/
def flatT : T → Bool
  | .sl .. => false
  | .dead => false
  | t => t.solid
theorem Ok.flat {w w' own own' pl pl' v t} (h : Ok w own pl v t) (hf : Froz w w' own own') (ht : flatT t = true) : Ok w' own' pl' v t := by
  cases h with
  | int k n => exact .int k n
  | bool b => exact .bool b
  | str s hs => exact .str s hs
  | nl => exact .nl
  | fz h => exact .fz (h.frozen hf)
  | _ => cases ht
theorem flatT_solid {t : T} (h : flatT t = true) : t.solid = true := by
  cases t <;> first | exact h | cases h
def flatRows (m : Nat) (g : Nat → List T) : Prop := ∀ i, i < m → (g i).all flatT = true
def catF (n : Nat) (f g : Nat → List T) : Nat → List T := fun i => if i < n then f i else g (i - n)

/-- what is read of a slice's rows -/
theorem Ok.rows {w own pl u e sz m g} (h : Ok w own pl u (.sl e sz m g)) : (u = .slice none 0 0 ∧ m = 0) ∨
    ∃ ad c, ∃ X : Nat → Value, u = .slice (some ad) m c ∧ (∀ q, q < m * sz → w.cell? (ad.add q) = some (X q)) ∧ (∀ i, i < m → (g i).length = sz) ∧ ∀ i j, i < m → j < sz → ∃ pl', Ok w own pl' (X (i * sz + j)) ((g i).getD j .dead) := by
  have hadd : ∀ (b off q : Nat), (⟨b, off, none⟩ : Addr).add q = ⟨b, off + q, none⟩ := fun b off q => by unfold Addr.add; split <;> simp_all
  cases h with
  | nil => exact .inl ⟨rfl, rfl⟩
  | emp a => exact .inr ⟨a, _, fun _ => undef, rfl, fun q hq => by omega, fun i hi => by omega, fun i j hi => by omega⟩
  | @fsl b off n cap e sz f x hn hcap hl hb hc hr =>
    refine .inr ⟨_, _, fun q => x (q / sz) (q % sz), rfl, fun q hq => ?_, hl, fun i j hi hj => ?_⟩
    · have hsz : 0 < sz := by rcases Nat.eq_zero_or_pos sz with h0 | h0; (subst h0; simp at hq); exact h0
      rw [hadd]
      have h1 := hc (q / sz) (q % sz) (Nat.div_lt_of_lt_mul (by rw [Nat.mul_comm]; exact hq)) (Nat.mod_lt _ hsz)
      rw [Nat.add_assoc, show q / sz * sz + q % sz = q by rw [Nat.mul_comm]; exact Nat.div_add_mod q sz] at h1
      exact h1
    · refine ⟨none, ?_⟩
      have hsz : 0 < sz := by omega
      have e1 : (i * sz + j) / sz = i := by rw [Nat.mul_comm, Nat.mul_add_div hsz, Nat.div_eq_of_lt hj, Nat.add_zero]
      have e2 : (i * sz + j) % sz = j := by rw [Nat.mul_comm, Nat.mul_add_mod, Nat.mod_eq_of_lt hj]
      simp only [e1, e2]
      exact hr i j hi hj
  | @osl p b n cap e sz f c ho hh hs hn hcap hl hr =>
    refine .inr ⟨_, _, fun q => c.getD q undef, rfl, fun q hq => ?_, hl, fun i j hi hj => ⟨_, hr i j hi hj⟩⟩
    have hlt : q < c.size := hs.lt hn hq
    rw [hadd, Nat.zero_add]
    simp [World.cell?, hh, Array.getD, hlt]

theorem append_core {P : Program} {w : World} {own : Own} {p : Place} {v u : Value} {t ty e sz by' n m : Nat} {e1 : Nat} {f g : Nat → List T} {pl : Option Place} (ht : sliceT P t = some ⟨e, sz, by'⟩)
    (hinj : ∀ b b' q, own b = some q → own b' = some q → b = b') (hrng : ∀ b q, own b = some q → b < w.heap.size)
    (hx : Ok w own (some p) v (.sl e sz n f)) (hy : Ok w own pl u (.sl e1 sz m g)) (hfl : flatRows m g) (hb : (n + m) * by' ≤ 140737488355328) (hm : n + m ≤ 140737488355328) :
    ∃ v' w' own', (Builtin.append_ #[t, t] ty #[v, u]).run P w = .ok v' w' ∧ SameW w w' ∧ Froz w w' own own' ∧ (∀ b q, own b = some q → (∀ s, q ≠ ⟨p.r, p.p ++ s⟩) → own' b = some q ∧ w'.heap[b]? = w.heap[b]?) ∧
      (∀ b b' q, own' b = some q → own' b' = some q → b = b') ∧ (∀ b q, own' b = some q → b < w'.heap.size ∧ (own b ≠ none ∨ w.heap.size ≤ b)) ∧ Ok w' own' (some p) v' (.sl e sz (n + m) (catF n f g)) := by
  obtain ⟨hu, I, z, hi, hz, hs, hby, hzs, hsz⟩ := sliceT_spec ht
  have hself : ∀ b, own b = some p → ∀ q, own b = some q → ¬ (∀ s, q ≠ ⟨p.r, p.p ++ s⟩) := fun b hb q hq h => by
    rw [hb] at hq; cases hq
    exact h [] (by simp)
  have hcat1 : ∀ i, i < n → catF n f g i = f i := fun i hi => by simp [catF, hi]
  have hcat2 : ∀ i, ¬ i < n → catF n f g i = g (i - n) := fun i hi => by simp [catF, hi]
  -- what is appended
  rcases hy.rows with ⟨rfl, rfl⟩ | ⟨ad, c0, X, rfl, hX, hgl, hXok⟩
  · -- nothing
    refine ⟨v, w, own, ?_, ⟨rfl, rfl, rfl, Nat.le_refl _⟩, ⟨fun b hb _ => ⟨hb, rfl⟩⟩, fun b q hb _ => ⟨hb, rfl⟩, hinj, fun b q hb => ⟨hrng b q hb, .inl (by rw [hb]; simp)⟩, ?_⟩
    · cases hx with
      | nil => exact run_append_owned_none w 0 t ty e I sz hu hi (.slice none 0 0) 0 [] (World.ownsRow_nil w 0 e sz)
      | @osl p b n cap e sz f c ho hh hcs hn hcap hl hr =>
        simp [Builtin.append_, run_underlying hu, sizeOf, typeInfo, hi, Builtin.lenOf, Builtin.firstCells, hn, storeCells]
    · exact Eqv.ok (.rows (fun i hi => (hcat1 i hi).symm)) hx
  · let news := (List.range (m * sz)).map X
    have hnl : news.length = m * sz := by simp [news]
    have hng : ∀ q, q < m * sz → news[q]? = some (X q) := fun q hq => by simp [news, hq]
    have hnews : ∀ j u, news[j]? = some u → w.cell? (ad.add j) = some u := fun j u hj => by
      have hlt : j < m * sz := by rw [← hnl]; exact (List.getElem?_eq_some_iff.1 hj).1
      rw [hng j hlt] at hj; cases hj
      exact hX j hlt
    have hflat : ∀ i j, i < m → j < sz → flatT ((g i).getD j .dead) = true := fun i j hi hj => by
      have h1 := List.all_eq_true.1 (hfl i hi)
      have hlt : j < (g i).length := by rw [hgl i hi]; exact hj
      rw [List.getD_eq_getElem?_getD, List.getElem?_eq_getElem hlt]
      exact h1 _ (List.getElem_mem hlt)
    have h1 : ∀ u ∈ news, u.oneCell' = true := fun u hu' => by
      obtain ⟨q, hq, rfl⟩ := List.mem_map.1 hu'
      have hq := List.mem_range.1 hq
      have h0 : q / sz < m := Nat.div_lt_of_lt_mul (by rw [Nat.mul_comm]; exact hq)
      obtain ⟨pl', hok⟩ := hXok (q / sz) (q % sz) h0 (Nat.mod_lt _ hsz)
      rw [show q / sz * sz + q % sz = q by rw [Nat.mul_comm]; exact Nat.div_add_mod q sz] at hok
      exact hok.solid (flatT_solid (hflat _ _ h0 (Nat.mod_lt _ hsz)))
    have h63 : n + m ≤ maxLen := by simp only [maxLen]; omega
    -- the rows of a new value, from its cells
    have tell : ∀ (w' : World) (own' : Own) (b cap : Nat) (cur : Array Value) (xs : List Value), Froz w w' own own' → own' b = some p → w'.heap[b]? = some (.cells cur e (0, 0)) → cur.size = cap * sz → n + m ≤ cap → cap ≤ maxLen → xs.length = n * sz → cur.toList.take ((n + m) * sz) = xs ++ news →
        (∀ i, i < n → (f i).length = sz) → (∀ i j, i < n → j < sz → ∃ y, xs[i * sz + j]? = some y ∧ Ok w' own' (some (p.push i j)) y ((f i).getD j .dead)) → Ok w' own' (some p) (.slice (some ⟨b, 0, none⟩) (n + m) cap) (.sl e sz (n + m) (catF n f g)) := by
      intro w' own' b cap cur xs hf hb' hh' hcs hcap hcm hxl htake hfl' hold
      have hcell : ∀ q, q < (n + m) * sz → cur.getD q undef = ((xs ++ news)[q]?).getD undef := fun q hq => by
        have hlt : q < cur.size := by rw [hcs]; exact Nat.lt_of_lt_of_le hq (Nat.mul_le_mul_right sz hcap)
        rw [← htake, List.getElem?_take, if_pos hq, Array.getD_eq_getD_getElem?, Array.getElem?_toList]
      refine .osl hb' hh' (.inl hcs) hcap hcm (fun i hi => ?_) (fun i j hi hj => ?_)
      · by_cases h : i < n
        · rw [hcat1 i h]; exact hfl' i h
        · rw [hcat2 i h]; exact hgl _ (by omega)
      · rw [hcell _ (mul_add_lt hi hj)]
        by_cases h : i < n
        · obtain ⟨y, hy1, hy2⟩ := hold i j h hj
          have hlt : i * sz + j < xs.length := by rw [hxl]; exact mul_add_lt h hj
          rw [hcat1 i h, List.getElem?_append_left hlt, hy1]
          exact hy2
        · obtain ⟨l, rfl⟩ : ∃ l, i = n + l := ⟨i - n, by omega⟩
          have hlm : l < m := by omega
          have hge : xs.length ≤ (n + l) * sz + j := by rw [hxl, Nat.add_mul]; omega
          rw [hcat2 _ h, List.getElem?_append_right hge, hxl, show (n + l) * sz + j - n * sz = l * sz + j by rw [Nat.add_mul]; omega, hng _ (mul_add_lt hlm hj), show n + l - n = l by omega]
          obtain ⟨pl', hok⟩ := hXok l j hlm hj
          exact hok.flat hf (hflat l j hlm hj)
    generalize hv0 : v = v0 at hx
    cases hx with
    | nil =>
      subst hv0
      by_cases hm0 : m = 0
      · subst hm0
        refine ⟨.slice none 0 0, w, own, ?_, ⟨rfl, rfl, rfl, Nat.le_refl _⟩, ⟨fun b hb _ => ⟨hb, rfl⟩⟩, fun b q hb _ => ⟨hb, rfl⟩, hinj, fun b q hb => ⟨hrng b q hb, .inl (by rw [hb]; simp)⟩, .nil _ _ _⟩
        simp [Builtin.append_, run_underlying hu, sizeOf, typeInfo, hi, Builtin.lenOf, Builtin.firstCells, loadCells, loadCellsFrom]
      · have hr := run_append_nil (P := P) w t ty e I z hu hi hz ad m c0 news (by rw [hs]; exact hnl) hnews (by omega) (by omega) (by rw [hby]; rw [Nat.zero_add] at hb; omega)
        classical
        let own' : Own := fun x => if x = w.heap.size then some p else if own x = some p then none else own x
        have hnew : own' w.heap.size = some p := by simp [own']
        have hsame : ∀ b q, own b = some q → q ≠ p → own' b = some q := fun b q hb hq => by
          have hlt := hrng b q hb
          simp only [own', if_neg (show ¬ b = w.heap.size by omega), hb]
          rw [if_neg (by intro e; cases e; exact hq rfl)]
        have hback : ∀ b q, own' b = some q → (b = w.heap.size ∧ q = p) ∨ (b < w.heap.size ∧ own b = some q ∧ q ≠ p) := fun b q hb => by
          simp only [own'] at hb
          split at hb
          · cases hb; exact .inl ⟨by assumption, rfl⟩
          · split at hb
            · cases hb
            · rename_i h1 h2
              exact .inr ⟨hrng b q hb, hb, fun e => by subst e; exact h2 hb⟩
        have hf : Froz w (w.drew.alloc (.cells (news.toArray ++ Builtin.zeroCells z.cells (grownCap w m 0 e - m)) e)) own own' := ⟨fun b hb hlt => ⟨by simp only [own', if_neg (show ¬ b = w.heap.size by omega), hb]; simp, heap_alloc_old w.drew _ b hlt⟩⟩
        refine ⟨_, _, own', hr, ⟨rfl, rfl, rfl, by simp⟩, hf, fun b q hb hq => ⟨hsame b q hb (fun e => hq [] (by rw [e]; simp)), heap_alloc_old w.drew _ b (hrng b q hb)⟩, fun b b' q hb hb' => ?_, fun b q hb => ?_, ?_⟩
        · rcases hback b q hb with ⟨h1, h2⟩ | ⟨h1, h2, h3⟩ <;> rcases hback b' q hb' with ⟨k1, k2⟩ | ⟨k1, k2, k3⟩
          · rw [h1, k1]
          · exact absurd h2 k3
          · exact absurd k2 h3
          · exact hinj b b' q h2 k2
        · rcases hback b q hb with ⟨h1, h2⟩ | ⟨h1, h2, h3⟩
          · subst h1; exact ⟨by simp, .inr (Nat.le_refl _)⟩
          · exact ⟨by simp; omega, .inl (by rw [h2]; simp)⟩
        · have := tell (w.drew.alloc (.cells (news.toArray ++ Builtin.zeroCells z.cells (grownCap w m 0 e - m)) e)) own' w.heap.size (grownCap w m 0 e) _ [] hf hnew (heap_alloc_new w.drew _)
            (by
              simp only [Array.size_append, List.size_toArray, size_zeroCells, hzs, hnl]
              rw [← Nat.add_mul]
              have := grownCap_ge w m 0 e
              congr 1; omega) (by rw [Nat.zero_add]; exact grownCap_ge w m 0 e) (grownCap_le_maxLen w m 0 e (by omega)) (by simp) (by simp only [Array.toList_append, List.nil_append, Nat.zero_add]; rw [← hnl]; exact List.take_left) (fun i hi => by omega) (fun i j hi => by omega)
          rwa [Nat.zero_add] at this ⊢
    | @osl p b n cap e sz f c ho hh hcs hn hcap hl hr =>
      subst hv0
      by_cases hm0 : m = 0
      · subst hm0
        refine ⟨.slice (some ⟨b, 0, none⟩) n cap, w, own, ?_, ⟨rfl, rfl, rfl, Nat.le_refl _⟩, ⟨fun b hb _ => ⟨hb, rfl⟩⟩, fun b q hb _ => ⟨hb, rfl⟩, hinj, fun b q hb => ⟨hrng b q hb, .inl (by rw [hb]; simp)⟩, Eqv.ok (.rows (fun i hi => (hcat1 i hi).symm)) (.osl ho hh hcs hn hcap hl hr)⟩
        simp [Builtin.append_, run_underlying hu, sizeOf, typeInfo, hi, Builtin.lenOf, Builtin.firstCells, loadCells, loadCellsFrom, hn, storeCells]
      have hx1 : (c.toList.take (n * sz)).length = n * sz := by rw [List.length_take, Array.length_toList]; exact Nat.min_eq_left (Nat.le_trans (Nat.mul_le_mul_right sz hn) hcs.le)
      have hx2 : ∀ j u, (c.toList.take (n * sz))[j]? = some u → w.cell? ((⟨b, 0, none⟩ : Addr).add j) = some u := fun j u hu2 => by
        have hadd : (⟨b, 0, none⟩ : Addr).add j = ⟨b, j, none⟩ := by unfold Addr.add; split <;> simp_all
        rw [hadd, cell_of_row w b j c e (0, 0) hh]
        rw [List.getElem?_take] at hu2
        split at hu2
        · simpa using hu2
        · cases hu2
      have hxg : ∀ i j, i < n → j < sz → (c.toList.take (n * sz))[i * sz + j]? = some (c.getD (i * sz + j) undef) := fun i j hi hj => by
        have hlt : i * sz + j < n * sz := mul_add_lt hi hj
        have hlt2 : i * sz + j < c.size := hcs.lt hn hlt
        rw [List.getElem?_take, if_pos hlt, Array.getElem?_toList, Array.getD_eq_getD_getElem?, Array.getElem?_eq_getElem hlt2, Option.getD_some]
      by_cases hroom : n + m ≤ cap
      · have hcs := hcs.resolve_right (fun h => by omega)
        have hown : w.ownsRow 0 e sz (.slice (some ⟨b, 0, none⟩) n cap) n (c.toList.take (n * sz)) := ⟨hx1, .inr ⟨b, cap, c, rfl, Nat.zero_le _, hh, hn, hcap, hcs, rfl⟩⟩
        obtain ⟨w', hr', hown', hgr⟩ := run_append_fits (P := P) w 0 t ty e I sz hu hi hs b n cap _ hown ad m c0 news hnl hnews h1 hroom
        have hf : Froz w w' own own := ⟨fun x hx hlt => ⟨hx, hgr.block x hlt (fun e => by cases e; rw [ho] at hx; cases hx)⟩⟩
        have hother : ∀ x q, own x = some q → q ≠ p → w'.heap[x]? = w.heap[x]? := fun x q hx hq => hgr.block x (hrng x q hx) (fun e => by cases e; rw [ho] at hx; cases hx; exact hq rfl)
        refine ⟨_, w', own, hr', ⟨hgr.os, hgr.tape, hgr.output, hgr.size⟩, hf, fun x q hx hq => ⟨hx, hother x q hx (fun e => hq [] (by rw [e]; simp))⟩, hinj, fun x q hx => ⟨Nat.lt_of_lt_of_le (hrng x q hx) hgr.size, .inl (by rw [hx]; simp)⟩, ?_⟩
        rcases hown'.2 with ⟨h', _⟩ | ⟨g', cap', cur, h', _, hg, _, _, hcs', htake⟩
        · simp at h'
        · simp only [Value.slice.injEq, Option.some.injEq, Addr.mk.injEq, and_true, true_and] at h'
          obtain ⟨rfl, rfl⟩ := h'
          refine tell w' own b cap cur (c.toList.take (n * sz)) hf ho hg hcs' hroom hcap hown.1 htake hl (fun i j hi hj => ⟨_, hxg i j hi hj, ?_⟩)
          exact (hr i j hi hj).moved hf (fun x s hx => ⟨hx, hother x _ hx (fun e => by
            have := congrArg (fun p => p.p.length) e
            simp [Place.push] at this)⟩)
      · have hr' := run_append_grow (P := P) w t ty e I z hu hi hz ⟨b, 0, none⟩ n cap (c.toList.take (n * sz)) (by rw [hs]; exact hx1) hx2 ad m c0 news (by rw [hs]; exact hnl) hnews (by omega) (by omega) (growslice_fits (by omega) (by rw [hby]; exact hb))
        classical
        let own' : Own := fun x => if x = w.heap.size then some p else if own x = some p then none else own x
        have hnew : own' w.heap.size = some p := by simp [own']
        have hsame : ∀ b q, own b = some q → q ≠ p → own' b = some q := fun b q hb hq => by
          have hlt := hrng b q hb
          simp only [own', if_neg (show ¬ b = w.heap.size by omega), hb]
          rw [if_neg (by intro e; cases e; exact hq rfl)]
        have hback : ∀ b q, own' b = some q → (b = w.heap.size ∧ q = p) ∨ (b < w.heap.size ∧ own b = some q ∧ q ≠ p) := fun b q hb => by
          simp only [own'] at hb
          split at hb
          · cases hb; exact .inl ⟨by assumption, rfl⟩
          · split at hb
            · cases hb
            · rename_i h1 h2
              exact .inr ⟨hrng b q hb, hb, fun e => by subst e; exact h2 hb⟩
        have hf : Froz w (w.drew.alloc (.cells ((c.toList.take (n * sz)).toArray ++ news.toArray ++ Builtin.zeroCells z.cells (grownCap w (n + m) cap e - (n + m))) e)) own own' := ⟨fun b hb hlt => ⟨by simp only [own', if_neg (show ¬ b = w.heap.size by omega), hb]; simp, heap_alloc_old w.drew _ b hlt⟩⟩
        refine ⟨_, _, own', hr', ⟨rfl, rfl, rfl, by simp⟩, hf, fun b q hb hq => ⟨hsame b q hb (fun e => hq [] (by rw [e]; simp)), heap_alloc_old w.drew _ b (hrng b q hb)⟩, fun b b' q hb hb' => ?_, fun b q hb => ?_, ?_⟩
        · rcases hback b q hb with ⟨h1, h2⟩ | ⟨h1, h2, h3⟩ <;> rcases hback b' q hb' with ⟨k1, k2⟩ | ⟨k1, k2, k3⟩
          · rw [h1, k1]
          · exact absurd h2 k3
          · exact absurd k2 h3
          · exact hinj b b' q h2 k2
        · rcases hback b q hb with ⟨h1, h2⟩ | ⟨h1, h2, h3⟩
          · subst h1; exact ⟨by simp, .inr (Nat.le_refl _)⟩
          · exact ⟨by simp; omega, .inl (by rw [h2]; simp)⟩
        · refine tell _ own' w.heap.size (grownCap w (n + m) cap e) _ (c.toList.take (n * sz)) hf hnew (heap_alloc_new w.drew _) (by
              simp only [Array.size_append, List.size_toArray, size_zeroCells, hzs, hnl, hx1]
              rw [← Nat.add_mul, ← Nat.add_mul]
              have := grownCap_ge w (n + m) cap e
              congr 1; omega) (grownCap_ge w (n + m) cap e) (grownCap_le_maxLen w (n + m) cap e h63) hx1 (by
                have hl2 : ((c.toList.take (n * sz)) ++ news).length = (n + m) * sz := by rw [List.length_append, hx1, hnl, Nat.add_mul]
                simp only [Array.toList_append]
                rw [← hl2]; exact List.take_left) hl (fun i j hi hj => ⟨_, hxg i j hi hj, ?_⟩)
          exact (hr i j hi hj).moved hf (fun x s hx => ⟨hsame x _ hx (fun e => by
            have := congrArg (fun p => p.p.length) e
            simp [Place.push] at this), heap_alloc_old w.drew _ x (hrng x _ hx)⟩)

theorem ArgC.okp {w0 own0 σ a w own} (hI : Inv w0 own0 σ a w own) {c : C} {t : T} (h : ArgC σ c t) {v : Value} (hv : OkC w own σ v c) : ∃ pl, Ok w own pl v t := by
  cases h with
  | v t => exact ⟨none, hv⟩
  | ref p hn => exact ⟨some p, hI.ref hv hn⟩
  | nil e sz f => have : v = .slice none 0 0 := hv; rw [this]; exact ⟨none, .nil e sz f⟩

section
variable {P : Program} {o : Oper} {σ : AS} {dst : Nat} (hd : o.dst = some dst) (hn : dst < σ.n)
include hd hn
/-- append to an owned array -/
theorem step_append {t e sz by' n m : Nat} {x y : Operand} (ho : o.op = .call { callee := .builtin .append, args := #[x, y], argTypes := #[t, t] }) (ht : sliceT P t = some ⟨e, sz, by'⟩) {d k : Nat} {f g : Nat → List T} {e1 : Nat} {c : C}
    (hx : σ.ev x = ⟨true, .one (.ref ⟨.arr d k, []⟩)⟩) (hp : σ.arr d k = .sl e sz n f) (hy : σ.ev y = ⟨true, .one c⟩) (hc : ArgC σ c (.sl e1 sz m g)) (hfl : flatRows m g) (hb : (n + m) * by' ≤ 140737488355328) (hm : n + m ≤ 140737488355328) (hdr : Nat.beq d RR = false := by rfl) :
    Step P o σ (((σ.mapC (onArr d k)).setArr d k (.sl e sz (n + m) (catF n f g))).setS dst ⟨true, .one (.ref ⟨.arr d k, []⟩)⟩) :=
  Step.make hd hn fun w0 own0 a w own hI => by
    have hdf : d ≠ FF := fun e => by subst e; rw [hI.noff] at hp; cases hp
    have hv := hI.ref (p := ⟨.arr d k, []⟩) (hI.evC hx) hp
    obtain ⟨pl, hu⟩ := hc.okp hI (hI.evC hy)
    obtain ⟨v', w', own', hr, h1, h2, h3, h4, h5, h6⟩ := append_core (P := P) (ty := o.type) ht hI.inj (fun b q hb => (hI.rng b q hb).1) hv hu hfl hb hm
    have hI' := hI.turnArr d k hdf (fun e => by subst e; simp at hdr) (.sl e sz (n + m) (catF n f g)) h1 h2 (fun b q hb hq => h3 b q hb (fun s e => hq (by rw [e]))) h4 h5 ⟨v', h6⟩
    refine ⟨v', w', own', ?_, hI', ?_⟩
    · simp only [execOp, ho, resolve, invoke, builtin, Sem.run_bind, Sem.run_pure, Result.andThen_ok, List.map_toArray, List.map_cons, List.map_nil, hr]
    · intro e' sz' n' f' hq
      simp only [AS.node, setArr_arr, and_self, if_true, follow, T.sl.injEq] at hq
      obtain ⟨rfl, rfl, rfl, rfl⟩ := hq
      exact h6.hdr
/-- append to nil -/
theorem step_appendNil {t e sz by' m : Nat} {x y : Operand} (ho : o.op = .call { callee := .builtin .append, args := #[x, y], argTypes := #[t, t] }) (ht : sliceT P t = some ⟨e, sz, by'⟩) {g : Nat → List T} {e1 : Nat} {c : C}
    (hx : σ.ev x = ⟨true, .one .nil⟩) (hy : σ.ev y = ⟨true, .one c⟩) (hc : ArgC σ c (.sl e1 sz m g)) (hfl : flatRows m g) (hb : m * by' ≤ 140737488355328) (hm : m ≤ 140737488355328) :
    Step P o σ ((((σ.kill dst).mapC (onArr dst 0)).setArr dst 0 (.sl e sz m g)).setS dst ⟨true, .one (.ref ⟨.arr dst 0, []⟩)⟩) :=
  Step.make hd hn fun w0 own0 a w own hI => by
    have hdlt : dst < RR := by have := hI.nf; omega
    have hdf : dst ≠ FF := by have := RR_lt_FF; omega
    have hv0 : a.eval x = .slice none 0 0 := hI.evC hx
    obtain ⟨pl, hu⟩ := hc.okp hI (hI.evC hy)
    -- what was told of the root is forgotten first; the rows are flat, so they are read as well afterwards
    have hI1 := hI.kill dst hdlt
    have hf1 : Froz w w own (killOwn own dst) := ⟨fun b hb _ => ⟨by simp [killOwn, hb], rfl⟩⟩
    have hu1 : ∃ pl', Ok w (fun _ => none) pl' (a.eval y) (.sl e1 sz m g) := ⟨none, by
      cases pl with
      | none => exact hu.frozen ⟨fun _ _ _ => ⟨rfl, rfl⟩⟩
      | some q => exact hu.freeze ⟨fun _ _ _ => ⟨rfl, rfl⟩⟩ (fun _ _ _ => ⟨rfl, rfl⟩)⟩
    have hv : Ok w (killOwn own dst) (some ⟨.arr dst 0, []⟩) (a.eval x) (.sl e sz 0 g) := by rw [hv0]; exact .nil _ _ _
    -- the run itself asks nothing of owners
    obtain ⟨hu', I, z, hi, hz, hs, hby, hzs, hsz⟩ := sliceT_spec ht
    obtain ⟨v', w', own', hr, h1, h2, h3, h4, h5, h6⟩ : ∃ v' w' own', (Builtin.append_ #[t, t] o.type #[a.eval x, a.eval y]).run P w = .ok v' w' ∧ SameW w w' ∧ Froz w w' (killOwn own dst) own' ∧ (∀ b q, killOwn own dst b = some q → (∀ s, q ≠ ⟨.arr dst 0, s⟩) → own' b = some q ∧ w'.heap[b]? = w.heap[b]?) ∧
      (∀ b b' q, own' b = some q → own' b' = some q → b = b') ∧ (∀ b q, own' b = some q → b < w'.heap.size ∧ (killOwn own dst b ≠ none ∨ w.heap.size ≤ b)) ∧ Ok w' own' (some ⟨.arr dst 0, []⟩) v' (.sl e sz (0 + m) (catF 0 g g)) := by
      -- the source as seen with the source's own owners
      have hu2 : Ok w own pl (a.eval y) (.sl e1 sz m g) := hu
      have hrows := hu2.rows
      have hu3 : ∃ pl', Ok w (killOwn own dst) pl' (a.eval y) (.sl e1 sz m g) := by
        cases pl with
        | none => exact ⟨none, hu2.frozen hf1⟩
        | some q =>
          by_cases hq : q.r.num = dst
          · refine ⟨none, hu2.freeze hf1 (fun b s hb => ⟨?_, rfl⟩)⟩
            unfold killOwn
            rw [hb]
            simp [onRoot, hq]
          · exact ⟨some q, hu2.moved hf1 (fun b s hb => ⟨killOwn_keep hb hq, rfl⟩)⟩
      obtain ⟨pl', hu4⟩ := hu3
      obtain ⟨v', w', own', k1, k2, k3, k4, k5, k6, k7⟩ := append_core (P := P) (ty := o.type) ht hI1.inj (fun b q hb => (hI1.rng b q hb).1) hv hu4 hfl (by rw [Nat.zero_add]; exact hb) (by rw [Nat.zero_add]; exact hm)
      exact ⟨v', w', own', k1, k2, k3, fun b q hb hq => k4 b q hb (fun s => by simpa using hq s), k5, k6, k7⟩
    have h6' : Ok w' own' (some ⟨.arr dst 0, []⟩) v' (.sl e sz m g) := by
      rw [Nat.zero_add] at h6
      exact Eqv.ok (.rows (fun i hi => by simp [catF])) h6
    have hI' := hI1.turnArr dst 0 hdf (by omega) (.sl e sz m g) h1 h2 (fun b q hb hq => h3 b q hb (fun s e => hq (by rw [e]))) h4 h5 ⟨v', h6'⟩
    refine ⟨v', w', own', ?_, hI', ?_⟩
    · simp only [execOp, ho, resolve, invoke, builtin, Sem.run_bind, Sem.run_pure, Result.andThen_ok, List.map_toArray, List.map_cons, List.map_nil, hr]
    · intro e' sz' n' f' hq
      simp only [AS.node, setArr_arr, and_self, if_true, follow, T.sl.injEq] at hq
      obtain ⟨rfl, rfl, rfl, rfl⟩ := hq
      exact h6'.hdr
end

/-! ### a slot told anew -/
theorem Inv.retell {w0 own0 σ a w own} (h : Inv w0 own0 σ a w own) {t : Nat} {x : SV} (hv : OkS w own σ (a.tmps.getD t undef) x) : Inv w0 own0 (σ.setS t x) a w own := by
  have hs : SameRoots σ (σ.setS t x) := ⟨rfl, rfl⟩
  refine { h with noff := h.noff, nf := h.nf, tsz := h.tsz, dfr := h.dfr, slots := ?_, boxes := ?_, arrs := h.arrs }
  · intro u
    rw [setS_s]
    by_cases hu : u = t
    · subst hu; rw [if_pos rfl]; exact hv.same hs
    · rw [if_neg hu]; exact (h.slots u).same hs
  · intro b hb
    exact (h.boxes b hb).same hs

/-- a nil slice is an owned array without rows -/
theorem Le.nilRef {σ : AS} (t D e sz : Nat) (f : Nat → List T) (hD : Nat.blt D σ.n = true) (hs : σ.s t = ⟨true, .one .nil⟩) : Le σ ((((σ.kill D).mapC (onArr D 0)).setArr D 0 (.sl e sz 0 f)).setS t ⟨true, .one (.ref ⟨.arr D 0, []⟩)⟩) := by
  intro w0 own0 a w own h
  have hlt : D < σ.n := by simpa [Nat.blt_eq] using hD
  have hdlt : D < RR := by have := h.nf; omega
  have hdf : D ≠ FF := by have := RR_lt_FF; omega
  have h1 := h.kill D hdlt
  have h2 := h1.turnArr D 0 hdf (by omega) (.sl e sz 0 f) (w' := w) (own' := killOwn own D) ⟨rfl, rfl, rfl, Nat.le_refl _⟩ ⟨fun b hb _ => ⟨hb, rfl⟩⟩ (fun b q hb _ => ⟨hb, rfl⟩) h1.inj (fun b q hb => ⟨(h1.rng b q hb).1, .inl (by rw [hb]; simp)⟩) ⟨.slice none 0 0, .nil _ _ _⟩
  refine ⟨_, h2.retell (t := t) ?_⟩
  have hv : a.tmps.getD t undef = .slice none 0 0 := h.evC (x := .tmp t) hs
  rw [hv]
  intro e' sz' n' f' hq
  simp only [AS.node, setArr_arr, and_self, if_true, follow, T.sl.injEq] at hq
  exact .inl ⟨rfl, hq.2.2.1.symm⟩

/-- a nil slice is a slice without rows that nobody writes -/
theorem Le.nilV {σ : AS} (t e sz : Nat) (f : Nat → List T) (hs : σ.s t = ⟨true, .one .nil⟩) : Le σ (σ.setS t ⟨true, .one (.v (.sl e sz 0 f))⟩) := by
  intro w0 own0 a w own h
  refine ⟨own, h.retell (t := t) ?_⟩
  have hv : a.tmps.getD t undef = .slice none 0 0 := h.evC (x := .tmp t) hs
  rw [hv]
  exact Ok.nil (pl := none) e sz f

/-! ### an owned array is let go -/
def C.let1 (d k : Nat) (t : T) : C → C
  | .ref p => match p.p, onArr d k p with
    | [], true => .v t
    | _ :: _, true => .any
    | _, false => .ref p
  | c => c.clr (onArr d k)
def V.let1 (d k : Nat) (t : T) : V → V
  | .one c => .one (c.let1 d k t)
  | .agg cs => .agg (cs.map (C.let1 d k t))
  | v => v.clr (onArr d k)
def AS.letGo (σ : AS) (d k : Nat) (t : T) : AS where
  n := σ.n
  s := fun u => ⟨(σ.s u).c, (σ.s u).v.let1 d k t⟩
  box := fun b => (σ.box b).map (C.let1 d k t)
  arr := fun d' k' => match Nat.beq d' d, Nat.beq k' k with | true, true => .dead | _, _ => σ.arr d' k'

theorem cellTree_let1 (d k : Nat) (t : T) (o : Option C) : cellTree (o.map (C.let1 d k t)) = cellTree o := by
  cases o with
  | none => rfl
  | some c =>
    have := cellTree_clr (onArr d k) (some c)
    cases c with
    | ref p => simp only [Option.map_some, C.let1]; split <;> rfl
    | _ => exact this

theorem letGo_arr (σ : AS) (d k : Nat) (t : T) (d' k' : Nat) : (σ.letGo d k t).arr d' k' = if d' = d ∧ k' = k then .dead else σ.arr d' k' := by
  simp only [AS.letGo]
  by_cases h1 : d' = d
  · subst h1
    by_cases h2 : k' = k
    · subst h2; simp
    · simp [beq_false h2, h2]
  · simp [beq_false h1, h1]

theorem letGo_node (σ : AS) (d k : Nat) (t : T) (p : Place) (h : p.r ≠ .arr d k) : (σ.letGo d k t).node p = σ.node p := by
  obtain ⟨r, ps⟩ := p
  cases r with
  | arr d' k' =>
    simp only [AS.node, letGo_arr]
    rw [if_neg (fun e => h (by rw [e.1, e.2]))]
  | box b =>
    cases ps with
    | nil => rfl
    | cons x ps => obtain ⟨i, j⟩ := x; cases i <;> simp only [AS.node, AS.letGo, List.getElem?_map, cellTree_let1]

theorem beq_comm' (a b : Nat) : Nat.beq a b = Nat.beq b a := by
  by_cases h : a = b
  · subst h; rfl
  · rw [beq_false h, beq_false (Ne.symm h)]
theorem under_arr {d k : Nat} {p : Place} : under ⟨.arr d k, []⟩ p = onArr d k p := by
  simp only [under, onArr, isPre, Bool.and_true]
  obtain ⟨r, ps⟩ := p
  cases r with
  | box b => rfl
  | arr a b =>
    simp only [Root.beq]
    rw [beq_comm' d a, beq_comm' k b]

theorem Le.letGo {σ : AS} (d k : Nat) {e sz n : Nat} {f g : Nat → List T} (hp : σ.arr d k = .sl e sz n f) (hfg : ∀ i, i < n → f i = g i) (hdr : Nat.beq d RR = false := by rfl) : Le σ (σ.letGo d k (.sl e sz n g)) := by
  intro w0 own0 a w own h
  have hdf : d ≠ FF := fun e => by subst e; rw [h.noff] at hp; cases hp
  let q : Place := ⟨.arr d k, []⟩
  have hf := dropOwn_froz w own q
  have hu : ∀ p : Place, p.r ≠ .arr d k → under q p = false := fun p hp => by
    cases hh : under q p with
    | false => rfl
    | true =>
      simp only [under, Bool.and_eq_true] at hh
      exact absurd (Root.beq_eq hh.1).symm hp
  have hk : ∀ p, onArr d k p = false → KeepP w w own (dropOwn own q) σ (σ.letGo d k (.sl e sz n g)) p := by
    intro p hp
    have hr := onArr_false hp
    refine ⟨fun e' sz' n' f' hn => ⟨f', by rw [← letGo_node σ d k _ p hr]; exact hn⟩, fun t _ hb h0 => hb (by simp [AS.letGo, h0]), fun _ b hb => ⟨dropOwn_keep hb (hu p hr), fun c e hc => ⟨c, hc, rfl⟩⟩⟩
  have hmv : ∀ p : Place, p.r ≠ .arr d k → Moved w w own (dropOwn own q) p p := fun p hp b s hb => ⟨dropOwn_keep hb (hu _ hp), rfl⟩
  have hC : ∀ {v : Value} {c : C}, OkC w own σ v c → OkC w (dropOwn own q) (σ.letGo d k (.sl e sz n g)) v (c.let1 d k (.sl e sz n g)) := by
    intro v c hc
    have hclr := OkC.clr hf (onArr d k) hk hc
    cases c with
    | ref p =>
      simp only [C.let1]
      split
      · rename_i h1 h2
        have hpq : p = q := by
          obtain ⟨r, ps⟩ := p
          simp only at h1
          subst h1
          have := Root.beq_eq h2
          simp only at this
          rw [this]
        subst hpq
        have h3 := (h.ref hc hp).freeze hf (fun b s hb => ⟨by simp only [dropOwn, hb]; rw [under_self q s], rfl⟩)
        show Ok w (dropOwn own q) none v (.sl e sz n g)
        cases h3 with
        | nil => exact .nil _ _ _
        | emp a e sz f hcap => exact .emp a _ _ _ hcap
        | fsl x h1 h2 h3 h4 h5 h6 => exact .fsl x h1 h2 (fun i hi => by rw [← hfg i hi]; exact h3 i hi) h4 h5 (fun i j hi hj => by rw [← hfg i hi]; exact h6 i j hi hj)
      · trivial
      · rename_i h1
        simp only [C.clr, h1] at hclr
        exact hclr
    | _ => exact hclr
  have hF : ∀ {v : Value} {u : V}, OkFlat w own σ v u → OkFlat w (dropOwn own q) (σ.letGo d k (.sl e sz n g)) v (u.let1 d k (.sl e sz n g)) := by
    intro v u hu
    cases u with
    | one c => exact hC (c := c) hu
    | agg cs =>
      obtain ⟨xs, h1, h2, h3⟩ := hu
      refine ⟨xs, h1, by simpa using h2, fun j c hc => ?_⟩
      simp only [List.getElem?_map, Option.map_eq_some_iff] at hc
      obtain ⟨c0, hc0, rfl⟩ := hc
      exact hC (h3 j c0 hc0)
    | tup vs => exact hu.elim
    | any => trivial
  refine ⟨dropOwn own q, h.trans ⟨rfl, rfl, rfl, Nat.le_refl _⟩ (fun _ _ _ => rfl) (fun b hb => ⟨dropOwn_keep hb (hu _ (fun e => hdf (by simp only [FP, Root.arr.injEq] at e; exact e.1.symm))), rfl⟩) (fun l => by rw [letGo_arr, if_neg (fun e => hdf e.1.symm)]; exact h.noff l)
    (fun b b' p hb hb' => h.inj b b' p (dropOwn_some hb).1 (dropOwn_some hb').1) (fun b p hb => ⟨(h.rng b p (dropOwn_some hb).1).1, .inl (by rw [(dropOwn_some hb).1]; simp)⟩) rfl (fun t ht => ?_) ?_ ?_ (Kept.of fun b k' hb => ⟨dropOwn_keep hb (hu _ (fun e => by simp only [Root.arr.injEq] at e; rw [← e.1] at hdr; simp at hdr)), rfl⟩)⟩
  · unfold OkS at ht ⊢
    by_cases hc : (σ.s t).c = true
    · rw [if_pos hc] at ht
      rw [if_pos (show ((σ.letGo d k (.sl e sz n g)).s t).c = true from hc)]
      show OkV w (dropOwn own q) _ _ ((σ.s t).v.let1 d k (.sl e sz n g))
      cases hv : (σ.s t).v with
      | tup vs => rw [hv] at ht; exact OkV.clr hf _ hk ht
      | one c => rw [hv] at ht; exact hF (u := .one c) ht
      | agg c => rw [hv] at ht; exact hF (u := .agg c) ht
      | any => trivial
    · rw [if_neg hc] at ht
      rw [if_neg (show ¬ ((σ.letGo d k (.sl e sz n g)).s t).c = true from hc)]
      exact ht
  · intro t' ht
    have hne : σ.box t' ≠ [] := fun h0 => ht (by simp [AS.letGo, h0])
    obtain ⟨b, c, e', h1, h2, h3, h4⟩ := h.boxes t' hne
    refine ⟨b, c, e', dropOwn_keep h1 (hu _ (by simp)), h2, by simpa [AS.letGo] using h3, fun i x hx => ?_⟩
    simp only [AS.letGo, List.getElem?_map, Option.map_eq_some_iff] at hx
    obtain ⟨x0, hx0, rfl⟩ := hx
    have hc := h4 i x0 hx0
    cases x0 with
    | own t => exact Ok.moved hc hf (hmv _ (by simp))
    | _ => exact OkCell.of_C (hC hc)
  · intro t' k' e' sz' n' f' ht
    rw [letGo_arr] at ht
    split at ht
    · cases ht
    · rename_i e1
      obtain ⟨v, hv⟩ := h.arrs t' k' e' sz' n' f' ht
      exact ⟨v, hv.moved hf (hmv _ (fun e => e1 (by simpa using e)))⟩

theorem flatRows_one {m : Nat} {r : List T} (h : (m == 1 && r.all flatT) = true) : flatRows m (fun i => [r].getD i []) := by
  intro i hi
  simp only [Bool.and_eq_true, beq_iff_eq] at h
  obtain ⟨rfl, h⟩ := h
  obtain rfl : i = 0 := by omega
  exact h
/-! ### slice literals that nobody writes -/
inductive BRows (σ : AS) (sz : Nat) : Nat → List (Nat × Operand) → List (List T) → Prop where
  | nil (i : Nat) : BRows σ sz i [] []
  | cons {i : Nat} {y : Operand} {u : V} {cs : List C} {ps : List (Nat × Operand)} {rs : List (List T)} (hy : σ.ev y = ⟨true, u⟩) (hc : u.cells = cs) (hp : cs.all plainC = true) (hl : cs.length = sz) (hs : BRows σ sz (i + 1) ps rs) : BRows σ sz i ((i, y) :: ps) (cs.map toT :: rs)
def rowsL (rs : List (List T)) : Nat → List T := fun i => rs.getD i []

theorem BRows.spec {σ : AS} {sz : Nat} {w0 own0 a w own} (hI : Inv w0 own0 σ a w own) (hsz : 0 < sz) {i : Nat} {ps : List (Nat × Operand)} {rs : List (List T)} (h : BRows σ sz i ps rs) :
    (∀ q ∈ ps, i ≤ q.1 ∧ (a.eval q.2).cells.size = sz) ∧ ps.Pairwise (fun a b => a.1 ≠ b.1) ∧ ps.length = rs.length ∧ (∀ q ∈ ps, q.1 < i + rs.length) ∧
    ∀ (l : Nat) r, rs[l]? = some r → r.length = sz ∧ ∃ y, (i + l, y) ∈ ps ∧ ∀ j, j < sz → Ok w own none ((a.eval y).cells.getD j undef) (r.getD j .dead) := by
  induction h with
  | nil i => exact ⟨fun q hq => (by cases hq), .nil, rfl, fun q hq => (by cases hq), fun l r hl => (by simp at hl)⟩
  | @cons i y u cs ps rs hy hc hp hl hs ih =>
    obtain ⟨h1, h2, h3, h4, h5⟩ := ih
    obtain ⟨m, hm⟩ : ∃ m, sz = m + 1 := ⟨sz - 1, by omega⟩
    have hev := evPlain hI hy hc hp (m := m) (by omega)
    have hsz1 : (a.eval y).cells.size = sz := by have := hev.1; simp at this; omega
    refine ⟨fun q hq => ?_, List.pairwise_cons.2 ⟨fun q hq => ?_, h2⟩, by simp [h3], fun q hq => ?_, fun l r hl' => ?_⟩
    · rw [List.mem_cons] at hq
      rcases hq with rfl | hq
      · exact ⟨Nat.le_refl _, hsz1⟩
      · exact ⟨by have := (h1 q hq).1; omega, (h1 q hq).2⟩
    · have := (h1 q hq).1
      show i ≠ q.1
      omega
    · rw [List.mem_cons] at hq
      rcases hq with rfl | hq
      · simp
      · have := h4 q hq; simp; omega
    · cases l with
      | zero =>
        simp only [List.getElem?_cons_zero, Option.some.injEq] at hl'
        subst hl'
        refine ⟨by simpa using hl, y, by simp, fun j hj => ?_⟩
        have hjl : j < cs.length := by omega
        have := (hev.2 j cs[j] (List.getElem?_eq_getElem hjl)).2
        have e : (a.eval y).cells.toList.getD j undef = (a.eval y).cells.getD j undef := by
          simp only [List.getD_eq_getElem?_getD, Array.getElem?_toList, Array.getD_eq_getD_getElem?]
        rw [e] at this
        have e2 : (cs.map toT).getD j .dead = toT cs[j] := by simp [List.getD_eq_getElem?_getD, hjl]
        rw [e2]
        exact toT_ok this
      | succ l =>
        obtain ⟨k1, y', k2, k3⟩ := h5 l r (by simpa using hl')
        exact ⟨k1, y', by rw [show i + (l + 1) = i + 1 + l by omega]; exact List.mem_cons_of_mem _ k2, k3⟩

theorem step_buildV {P : Program} {o : Oper} {σ : AS} {d : Nat} (hd : o.dst = some d) (hn : d < σ.n) {t len e sz by' : Nat} {ps : List (Nat × Operand)} {rs : List (List T)} (ho : o.op = .buildSlice t len ps.toArray) (ht : sliceT P t = some ⟨e, sz, by'⟩)
    (hps : BRows σ sz 0 ps rs) (hlen : rs.length = len) (hsmall : Nat.ble (len * sz) 1024 = true) :
    Step P o σ (σ.setS d ⟨true, .one (.v (.sl e sz len (rowsL rs)))⟩) := by
  intro w0 own0 a w own hI K Q hK
  obtain ⟨hu, i, z, hi, hz, hs, hby, hzs, hsz⟩ := sliceT_spec ht
  obtain ⟨g1, g2, g3, g4, g5⟩ := hps.spec hI hsz
  subst hlen
  have hsm := Nat.le_of_ble_eq_true hsmall
  let zero : Array Value := if rs.length * sz = 0 then #[] else z.cells
  let cells0 : Array Value := (Array.range (rs.length * sz)).map (zero[· % zero.size]!)
  have hc0 : cells0.size = rs.length * sz := by simp [cells0]
  obtain ⟨r, k1, k2, k3, k4⟩ := fill_row sz (ps.map fun q => (q.1, a.eval q.2)) cells0 (fun p hp => by
    obtain ⟨q, hq, rfl⟩ := List.mem_map.1 hp
    exact ⟨(g1 q hq).2, by rw [hc0]; exact Nat.mul_le_mul_right sz (by have := g4 q hq; omega)⟩)
  have hrun : (Instr.buildSlice t rs.length (ps.map fun q => (q.1, a.eval q.2)).toArray).run P w = .ok (.slice (some ⟨w.heap.size, 0, none⟩) rs.length rs.length) (w.alloc (.cells r e)) := by
    have hbig : ¬ (rs.length * sz > 2 ^ 24) := by omega
    simp only [Instr.buildSlice, Sem.run_bind, run_underlying hu, Result.andThen_ok, sizeOf, run_info hi, Sem.run_pure, hs, hbig, if_false]
    by_cases h0 : rs.length * sz = 0
    · have e0 : zero = #[] := by simp [zero, h0]
      simp only [cells0, e0] at k1
      simp only [h0, if_true, Sem.run_bind, Sem.run_pure, Result.andThen_ok]
      rw [h0] at k1
      rw [k1]
      rfl
    · have e0 : zero = z.cells := by simp [zero, h0]
      simp only [cells0, e0] at k1
      simp only [h0, if_false, Sem.run_bind, zeroValue, run_info hi, Result.andThen_ok, hz, Sem.run_pure]
      rw [k1]
      rfl
  have hexec : (execOp a.eval o).run P w = .ok (.value (.slice (some ⟨w.heap.size, 0, none⟩) rs.length rs.length)) (w.alloc (.cells r e)) := by
    have e1 : (ps.toArray.map fun x => (x.1, a.eval x.2)) = (ps.map fun q => (q.1, a.eval q.2)).toArray := by simp
    simp only [execOp, ho, Sem.run_bind]
    rw [e1, hrun]
    rfl
  unfold Oper.wp
  rw [hexec]
  simp only [Oper.upon, hd]
  have hI' : Inv w0 own0 σ a (w.alloc (.cells r e)) own := hI.grow ⟨rfl, rfl, rfl, by simp⟩ (fun b hb => heap_alloc_old w _ b hb)
  refine hK _ _ _ (hI'.put (v := .slice (some ⟨w.heap.size, 0, none⟩) rs.length rs.length) hn ?_)
  have hnone : own w.heap.size = none := by
    cases ho : own w.heap.size with
    | none => rfl
    | some p => have := (hI.rng _ p ho).1; omega
  have hf : Froz w (w.alloc (.cells r e)) own own := ⟨fun b hb hlt => ⟨hb, heap_alloc_old w _ b hlt⟩⟩
  have hget : ∀ l, l < rs.length → rs[l]? = some (rowsL rs l) := fun l hl => by simp [rowsL, List.getD_eq_getElem?_getD, hl]
  show Ok (w.alloc (.cells r e)) own none _ (.sl e sz rs.length (rowsL rs))
  refine .fsl (off := 0) (fun i j => r.getD (i * sz + j) undef) (Nat.le_refl _) (by
      have : rs.length ≤ rs.length * sz := Nat.le_mul_of_pos_right _ hsz
      simp only [maxLen]; omega) (fun l hl => (g5 l _ (hget l hl)).1) (fun _ _ => hnone) (fun l j hl hj => ?_) (fun l j hl hj => ?_)
  · have hlt : l * sz + j < r.size := by rw [k2, hc0]; exact mul_add_lt hl hj
    have hnewh : (w.alloc (.cells r e)).heap[w.heap.size]? = some (.cells r e (0, 0)) := heap_alloc_new w _
    simp only [World.cell?, Nat.zero_add, hnewh, Option.isSome_none, Bool.false_eq_true, if_false]
    simp [Array.getD, hlt]
  · obtain ⟨q1, y, q2, q3⟩ := g5 l _ (hget l hl)
    have hk := k4 (by rw [List.pairwise_map]; exact g2) (l, a.eval y) (List.mem_map.2 ⟨(l, y), by simpa using q2, rfl⟩) j hj
    simp only at hk
    rw [hk]
    exact (q3 j hj).frozen hf

end Go.Mh
