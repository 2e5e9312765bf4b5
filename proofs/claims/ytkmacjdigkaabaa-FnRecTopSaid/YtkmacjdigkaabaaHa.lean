/- Contracts of functions of the program, each met by its body; conditions stand in each statement. No condition. -/
import Derived.Test.YtkmacjdigkaabaaGh
import Derived.Sort.Grow
import Derived.Sort.EncStr
set_option linter.unusedVariables false
set_option linter.unusedSimpArgs false
set_option linter.unnecessarySimpa false
namespace Go.Mh
open Go Go.Sort Go.Proofs

/-! ### a list of texts is sorted in its array -/
def bl (s : ByteArray) : List UInt8 := s.data.toList
def unbl (l : List UInt8) : ByteArray := ⟨l.toArray⟩
theorem unbl_bl (s : ByteArray) : unbl (bl s) = s := by cases s; rfl
theorem bl_unbl (l : List UInt8) : bl (unbl l) = l := rfl
def sortB (l : List ByteArray) : List ByteArray := ((l.map bl).mergeSort fun x y => decide (x ≤ y)).map unbl
def strT (e : Nat) (l : List ByteArray) : T := .sl e 1 l.length (fun i => [.str (l.getD i default)])
theorem sortB_len (l : List ByteArray) : (sortB l).length = l.length := by simp [sortB, List.length_mergeSort]
theorem sortB_perm (l : List ByteArray) : (sortB l).Perm l := by
  have h := (List.mergeSort_perm (l.map bl) (fun x y => decide (x ≤ y))).map unbl
  have e : (l.map bl).map unbl = l := by
    rw [List.map_map]; conv => rhs; rw [← List.map_id l]
    exact List.map_congr_left fun s _ => unbl_bl s
  rw [e] at h
  exact h

def SortsStr (P : Program) (f : FuncId) : Prop :=
  (∀ (blk off cap : Nat) (ss : List (List UInt8)) (w : World), Holds encStr w blk off ss.toArray → blk < w.heap.size → ss.length < 4611686018427387904 →
    Calls P f #[.slice (some ⟨blk, off, none⟩) ss.length cap] w fun e w' => e = .returned (.tuple #[]) ∧ ∃ n os, w' = grow (Go.Sort.putRow encStr (Sort.ahead w n) blk off (ss.mergeSort fun x y => decide (x ≤ y)).toArray) os) ∧
  ∀ (p : Option Addr) (cap : Nat) (w : World), Calls P f #[.slice p 0 cap] w fun e w' => e = .returned (.tuple #[]) ∧ w' = w

theorem heap_putRow {w : World} {b : Nat} {c : Array Value} {e : TypeId} {fr : Nat × Nat} (hh : w.heap[b]? = some (.cells c e fr)) (d : Array (List UInt8)) (n : Nat) (os : Array Obj) :
    (grow (Go.Sort.putRow encStr (Sort.ahead w n) b 0 d) os).heap[b]? = some (.cells (putCells encStr 0 d c) e fr) := by
  have hlt := heap_lt hh
  simp only [grow, Go.Sort.putRow, mapBlock, Sort.ahead]
  rw [Array.getElem?_append_left (by simpa using hlt), Array.getElem?_modify, if_pos rfl, hh]
  rfl
theorem heap_putRow_other {w : World} {b b' : Nat} (d : Array (List UInt8)) (n : Nat) (os : Array Obj) (hne : b' ≠ b) (hlt : b' < w.heap.size) :
    (grow (Go.Sort.putRow encStr (Sort.ahead w n) b 0 d) os).heap[b']? = w.heap[b']? := by
  simp only [grow, Go.Sort.putRow, mapBlock, Sort.ahead]
  rw [Array.getElem?_append_left (by simpa using hlt), Array.getElem?_modify, if_neg (fun e => hne e.symm)]

theorem sortM {P : Program} {f : FuncId} (hS : SortsStr P f) (e : Nat) (l : List ByteArray) (hl : l.length < 4611686018427387904) : MSpec P f [.one (.rw (strT e l) (strT e (sortB l)))] .dead := by
  intro w own vals hs hinj hrng hv
  have hsz : vals.size = 1 := hs
  obtain ⟨v, rfl⟩ : ∃ v, vals = #[v] := by
    obtain ⟨l1⟩ := vals
    match l1, hsz with
    | [x], _ => exact ⟨x, rfl⟩
  have h0 : Ok w own (some ⟨.arr RR 0, []⟩) v (strT e l) := hv 0 _ rfl
  have hpost : ∀ (w' : World), Ok w' own (some ⟨.arr RR 0, []⟩) v (strT e (sortB l)) → ∀ i u, [MV.one (.rw (strT e l) (strT e (sortB l)))][i]? = some u → OkM MC.post w' own (100 * i) (#[v].getD i undef) u := fun w' h i u hu => by
    cases i with
    | zero => simp at hu; subst hu; exact h
    | succ i => simp at hu
  have hkeep : ∀ (w' : World), w'.os = w.os → w'.tape = w.tape → w'.output = w.output → w.heap.size ≤ w'.heap.size → (∀ b, b < w.heap.size → own b ≠ some ⟨.arr RR 0, []⟩ → w'.heap[b]? = w.heap[b]?) →
      (∀ b c e, own b = some ⟨.arr RR 0, []⟩ → w.heap[b]? = some (.cells c e (0, 0)) → ∃ c' : Array Value, w'.heap[b]? = some (.cells c' e (0, 0)) ∧ c'.size = c.size) → MRet w w' own own := fun w' h1 h2 h3 h4 h5 h6 => by
    have hff : ∀ b, own b = some (FP b) → own b ≠ some ⟨.arr RR 0, []⟩ := fun b hb e => by
      rw [hb] at e
      simp only [FP, Option.some.injEq, Place.mk.injEq, Root.arr.injEq] at e
      exact absurd e.1.1 (by decide)
    refine ⟨⟨h1, h2, h3, h4⟩, fun b hb hlt => ⟨hb, h5 b hlt (by rw [hb]; simp)⟩, fun b hb => ⟨hb, h5 b (hrng b _ hb).1 (hff b hb)⟩, fun b k hb => ⟨hb, fun c e hc => ?_⟩, hinj, fun b p hb => ?_⟩
    · by_cases hk : k = 0
      · subst hk; exact h6 b c e hb hc
      · exact ⟨c, by rw [h5 b (heap_lt hc) (by rw [hb]; simp [hk])]; exact hc, rfl⟩
    · obtain ⟨g1, g2⟩ := hrng b p hb
      refine ⟨Nat.lt_of_lt_of_le g1 h4, .inl (by rw [hb]; simp), ?_⟩
      rcases g2 with g2 | g2
      · exact .inl ⟨g2, by rw [hb, g2]⟩
      · exact .inr g2
  generalize hn : l.length = n at *
  generalize hf : (fun i => [T.str (l.getD i default)]) = g at *
  have h0' : Ok w own (some ⟨.arr RR 0, []⟩) v (.sl e 1 n g) := by rw [← hn, ← hf]; exact h0
  cases h0' with
  | nil =>
    have hl0 : l = [] := List.eq_nil_of_length_eq_zero hn
    refine (hS.2 none 0 w).mono ?_
    rintro e' w' ⟨rfl, rfl⟩
    refine ⟨_, own, rfl, hkeep w' rfl rfl rfl (Nat.le_refl _) (fun _ _ _ => rfl) (fun b c e _ hc => ⟨c, hc, rfl⟩), .dead _, hpost w' (by rw [hl0, show sortB [] = [] by simp [sortB]]; exact .nil _ _ _)⟩
  | @osl p b n cap e sz f0 c ho hh hs' hn' hcap hl' hr =>
    have hrow : ∀ i, i < n → c.getD i undef = encStr (bl (l.getD i default)) ∧ (l.getD i default).size ≤ maxLen := fun i hi => by
      have h1 := hr i 0 hi (by omega)
      rw [← hf] at h1
      simp only [Nat.mul_one, Nat.add_zero, List.getD_cons_zero] at h1
      exact ⟨by rw [h1.sc rfl]; simp [encStr, bl, T.val], h1.fits⟩
    have hlen : (l.map bl).length = n := by simp [hn]
    have hcs : cap ≤ c.size := by have := hs'.le; omega
    have hH : Holds encStr w b 0 (l.map bl).toArray := by
      intro j hj
      have hj' : j < n := by simpa [hn] using hj
      refine ⟨?_, by simp [World.frozen?, hh]⟩
      have := (hrow j hj').1
      simp only [World.cell?, hh, Nat.zero_add, Option.isSome_none, Bool.false_eq_true, if_false]
      rw [Array.getElem?_eq_getElem (by omega)]
      have e1 : c.getD j undef = c[j] := by simp [Array.getD, show j < c.size by omega]
      rw [← e1, this]
      have hjl : j < l.length := by omega
      rw [getElem!_pos _ j (by simpa using hj)]
      simp [List.getD_eq_getElem?_getD, hjl]
    have hcall := hS.1 b 0 cap (l.map bl) w hH (heap_lt hh) (by rw [hlen]; omega)
    rw [hlen] at hcall
    refine hcall.mono ?_
    rintro e' w' ⟨rfl, m, os, rfl⟩
    have hb' := heap_putRow hh ((l.map bl).mergeSort fun x y => decide (x ≤ y)).toArray m os
    refine ⟨_, own, rfl, hkeep _ rfl rfl rfl (by simp [grow, Go.Sort.putRow, mapBlock, Sort.ahead]) (fun b' hlt hne => heap_putRow_other _ m os (fun e => hne (by rw [e]; exact ho)) hlt) (fun b' c' e2 hb2 hc2 => ?_), .dead _, hpost _ ?_⟩
    · have := hinj _ _ _ hb2 ho
      subst this
      rw [hh] at hc2
      cases hc2
      exact ⟨_, hb', by simp [putCells]⟩
    · unfold strT
      rw [sortB_len, hn]
      refine .osl ho hb' (by simpa [putCells] using hs') hn' hcap (fun _ _ => rfl) (fun i j hi hj => ?_)
      have hj0 : j = 0 := by omega
      subst hj0
      simp only [Nat.mul_one, Nat.add_zero, List.getD_cons_zero]
      have hlm : ((l.map bl).mergeSort fun x y => decide (x ≤ y)).length = n := by rw [List.length_mergeSort]; exact hlen
      have e1 : (putCells encStr 0 ((l.map bl).mergeSort fun x y => decide (x ≤ y)).toArray c).getD i undef = .string ((sortB l).getD i default) := by
        have hi2 : i < c.size := by omega
        have hi3 : i < ((l.map bl).mergeSort fun x y => decide (x ≤ y)).length := by omega
        simp only [putCells, Array.getD_eq_getD_getElem?, Array.getElem?_mapIdx, Array.getElem?_eq_getElem hi2, Option.map_some, Option.getD_some, Nat.zero_le, Nat.zero_add, true_and, List.size_toArray, if_pos hi3, Nat.sub_zero]
        rw [getElem!_pos _ i (by simpa using hi3)]
        simp only [sortB, List.getD_eq_getElem?_getD, List.getElem?_map, List.getElem?_eq_getElem hi3, Option.map_some, Option.getD_some, unbl, encStr, List.getElem_toArray]
      rw [e1]
      refine .str _ ?_
      have hmem : (sortB l).getD i default ∈ l := by
        have hi4 : i < (sortB l).length := by rw [sortB_len]; omega
        rw [List.getD_eq_getElem?_getD, List.getElem?_eq_getElem hi4]
        exact (sortB_perm l).mem_iff.1 (List.getElem_mem hi4)
      obtain ⟨q, hq, hq2⟩ := List.mem_iff_getElem.1 hmem
      have := (hrow q (by omega)).2
      rw [List.getD_eq_getElem?_getD, List.getElem?_eq_getElem hq] at this
      rw [← hq2]
      exact this

end Go.Mh
