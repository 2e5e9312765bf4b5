/- Contracts of functions of the program, each met by its body; conditions stand in each statement. No condition. -/
import Derived.Test.YtkmacjdigkaabaaHj
import Derived.Test.YtkmacjdigkaabaaHb
import Derived.Shelf.SlSortFuncK.WholeK
import Derived.Shelf.GgSortFunc.Tiny
set_option linter.unusedVariables false
set_option linter.unusedSimpArgs false
set_option linter.unnecessarySimpa false
namespace Go.Mh
open Go Go.Sort Go.Shelf Go.Lib Go.Proofs

/-! ### the library's sort.Slice, for rows that bear a text -/
theorem bytesLtK : ∀ (x y : List UInt8), Op.bytesLess x y = decide (x < y)
  | [], [] => by simp [Op.bytesLess]
  | _ :: _, [] => by simp [Op.bytesLess]
  | [], _ :: _ => by simp [Op.bytesLess]
  | a :: x, b :: y => by
    rw [Op.bytesLess, bytesLtK x y]
    simp only [List.cons_lt_cons_iff, Bool.decide_or, Bool.decide_and]
    congr 1
theorem strLtK_iff (x y : ByteArray) : strLt x y = true ↔ bl x < bl y := by
  unfold strLt bl; rw [bytesLtK, ByteArray.toList_eq, ByteArray.toList_eq]; simp
theorem strLtK_not (x y : ByteArray) : strLt x y = false ↔ bl y ≤ bl x := by
  rw [← Bool.not_eq_true, strLtK_iff, List.not_lt]

def RowV (k jn : Nat) : Type := {l : List Value // l.length = k ∧ (∀ v ∈ l, v.oneCell' = true) ∧ (jn < k → ∃ s, l[jn]? = some (.string s))}
instance (k jn : Nat) : Inhabited (RowV k jn) := ⟨⟨List.replicate k (.string ⟨#[]⟩), by simp, by intro v hv; rw [List.eq_of_mem_replicate hv]; rfl, fun h => ⟨⟨#[]⟩, by simp [h]⟩⟩⟩
def encV {k jn : Nat} (x : RowV k jn) : List Value := x.1
def nmV {k jn : Nat} (x : RowV k jn) : ByteArray := match x.1[jn]? with
  | some (.string s) => s
  | _ => ⟨#[]⟩
theorem nmV_get {k jn : Nat} (hj : jn < k) (x : RowV k jn) : x.1[jn]? = some (.string (nmV x)) := by
  obtain ⟨s, hs⟩ := x.2.2.2 hj
  simp only [nmV, hs]
def ltV {k jn : Nat} (x y : RowV k jn) : Bool := strLt (nmV x) (nmV y)
theorem swo_ltV {k jn : Nat} : SWO (ltV (k := k) (jn := jn)) where
  irrefl x := (strLtK_not _ _).2 (List.le_refl _)
  trans x y z h1 h2 := (strLtK_iff _ _).2 (List.lt_trans ((strLtK_iff _ _).1 h1) ((strLtK_iff _ _).1 h2))
  ntrans x y z h1 h2 := (strLtK_not _ _).2 (List.le_trans ((strLtK_not _ _).1 h2) ((strLtK_not _ _).1 h1))

def LessStr (P : Program) (g jb k jn : Nat) : Prop :=
  ∀ (Bs blk c n : Nat) (W : World) (G : Nat → ByteArray), W.cell? ⟨Bs, jb, none⟩ = some (.slice (some ⟨blk, 0, none⟩) n c) → (∀ q, q < n → W.cell? ⟨blk, q * k + jn, none⟩ = some (.string (G q))) → ∀ i j : Nat, i < n → j < n → n < 4611686018427387904 →
    Calls P g #[.int .i64 i, .int .i64 j, .pointer (some ⟨Bs, 0, none⟩)] W fun e w' => e = .returned (.bool (strLt (G i) (G j))) ∧ ∃ q, w' = W.drewN q

theorem heap_putRowG {w : World} {b : Nat} {c : Array Value} {e : TypeId} {fr : Nat × Nat} (hh : w.heap[b]? = some (.cells c e fr)) (d : Array Value) (n : Nat) (os : Array Obj) :
    (grow (Go.Sort.putRow id (Sort.ahead w n) b 0 d) os).heap[b]? = some (.cells (putCells id 0 d c) e fr) := by
  have hlt := heap_lt hh
  simp only [grow, Go.Sort.putRow, mapBlock, Sort.ahead]
  rw [Array.getElem?_append_left (by simpa using hlt), Array.getElem?_modify, if_pos rfl, hh]
  rfl
theorem heap_putRowG_other {w : World} {b b' : Nat} (d : Array Value) (n : Nat) (os : Array Obj) (hne : b' ≠ b) (hlt : b' < w.heap.size) :
    (grow (Go.Sort.putRow id (Sort.ahead w n) b 0 d) os).heap[b']? = w.heap[b']? := by
  simp only [grow, Go.Sort.putRow, mapBlock, Sort.ahead]
  rw [Array.getElem?_append_left (by simpa using hlt), Array.getElem?_modify, if_neg (fun e => hne e.symm)]

theorem sortsRow_of {P : Program} {ρ : Ren} (L : LaysGg.n6 P ρ) (ty e : TypeId) (i ie : TypeInfo) (hi : P.info? ty = some i) (hd : i.desc = .slice e) (hpk : P.packed ty = false) (hie : P.info? e = some ie) (ke : Nat) (hke : ∀ w, (Extern.Rtype.kind e).run P w = .ok ke w)
    (k jn jb : Nat) (hs1 : ie.size = k) (hagg : ∀ w, (isAgg e).run P w = .ok true w) (g : Nat) (eg : ∀ args w, (callFunc g args).run P w = .ok (.enter g args) w) (f f1 : Nat)
    (hf : ∀ n, 2 ≤ n → P.funcs.findIdx? (·.name == "internal/reflectlite" ++ ".Swapper$" ++ toString (swapperK n ie ke)) = some f) (hf1 : P.funcs.findIdx? (·.name == "internal/reflectlite" ++ ".Swapper$" ++ toString (swapperK 1 ie ke)) = some f1)
    (gS : Bool) (hx : ∀ args W, (callFunc f args).run P W = ((Extern.ReflectliteSwapper.swap gS args).run P W).andThen fun v w' => .ok (.value v) w') (hjn : jn < k) (hL : LessStr P g jb k jn) : SortsRow P (ρ.f 6) g ty k jn jb := by
  intro w Bs blk cap cap2 n c ec G hh hsz h0 hn2 hone hG hB hne hBs
  by_cases h1 : n = 1
  · subst h1
    refine (Any.sort_Slice_tiny L ty e i ie hi hd hpk hie ke hke (some ⟨blk, 0, none⟩) 1 cap (Nat.le_refl _) f1 hf1 (.func g) #[] #[.pointer (some ⟨Bs, 0, none⟩)] w).mono ?_
    rintro ex w' ⟨rfl, os, rfl⟩
    have hold : ∀ q, q < w.heap.size → (grow w os).heap[q]? = w.heap[q]? := fun q hq => by simp only [grow]; rw [Array.getElem?_append_left hq]
    exact ⟨rfl, id, id, c, fun i hi => ⟨hi, hi, rfl, rfl⟩, fun i j hij hj => by omega, ⟨rfl, rfl, rfl, by simp [grow]⟩, (hold blk (heap_lt hh)).trans hh, rfl, fun q hq _ => hold q hq, fun _ _ _ _ => rfl⟩
  · have h2 : 2 ≤ n := by omega
    have hk0 : 0 < k := by omega
    let rowL : Nat → List Value := fun i => (List.range k).map fun j => c.getD (i * k + j) undef
    have hrl : ∀ i, (rowL i).length = k := fun i => by simp [rowL]
    have hrg : ∀ i j, j < k → (rowL i)[j]? = some (c.getD (i * k + j) undef) := fun i j hj => by simp [rowL, hj]
    have hrok : ∀ i, i < n → (rowL i).length = k ∧ (∀ v ∈ rowL i, v.oneCell' = true) ∧ (jn < k → ∃ s, (rowL i)[jn]? = some (.string s)) := fun i hi =>
      ⟨hrl i, fun v hv => by
        obtain ⟨j, hj, rfl⟩ := List.mem_map.1 hv
        exact hone i j hi (List.mem_range.1 hj), fun _ => ⟨G i, by rw [hrg i jn hjn, hG i hi]⟩⟩
    classical
    let row : Nat → RowV k jn := fun i => if h : i < n then ⟨rowL i, hrok i h⟩ else default
    have hrow : ∀ i, i < n → (row i).1 = rowL i := fun i hi => by
      have : row i = ⟨rowL i, hrok i hi⟩ := dif_pos hi
      rw [this]
    let d : Array (RowV k jn) := (Array.range n).map row
    have hds : d.size = n := by simp [d]
    have hdg : ∀ i, i < n → d[i]! = row i := fun i hi => by rw [getElem!_pos d i (by rw [hds]; exact hi)]; simp [d]
    have hdg2 : ∀ i, i < n → d[i]? = some (row i) := fun i hi => by simp [d, hi]
    have hH : HoldsK encV k w blk 0 d := by
      intro t ht
      have ht' : t < n * k := by simpa [hds] using ht
      have hq : t / k < n := Nat.div_lt_of_lt_mul (by rw [Nat.mul_comm]; exact ht')
      have hm : t % k < k := Nat.mod_lt _ hk0
      refine ⟨?_, by simp [World.frozen?, hh]⟩
      have e1 : (encV (row (t / k)))[t % k]! = c.getD t undef := by
        have h3 : (encV (row (t / k))) = rowL (t / k) := hrow _ hq
        rw [h3, List.getElem!_eq_getElem?_getD, hrg _ _ hm, Option.getD_some]
        rw [show t / k * k + t % k = t by rw [Nat.mul_comm]; exact Nat.div_add_mod t k]
      rw [get_flatK _ _ _ t (by rw [hds]; exact ht'), hdg _ hq, id, e1]
      simp only [World.cell?, hh, Nat.zero_add, Option.isSome_none, Bool.false_eq_true, if_false]
      rw [Array.getElem?_eq_getElem (by omega)]
      simp [Array.getD, show t < c.size by omega]
    have hblk := heap_lt hh
    have hless : LessReadsK (α := RowV k jn) P g #[.pointer (some ⟨Bs, 0, none⟩)] encV k ltV blk 0 d.size w := by
      intro m os dk hs i j hi hj
      have ew : sortWorldK encV k w blk 0 m dk os = putRowK encV k (grow (Sort.ahead w m) os) blk 0 dk := by
        unfold sortWorldK; rw [putRowK_grow _ _ (Sort.ahead w m) _ blk 0 _ hblk]
      have hHg : HoldsK encV k (grow (Sort.ahead w m) os) blk 0 d := holdsK_grow _ _ _ _ blk 0 d hblk (holdsK_ahead _ _ _ _ _ _ _ hH)
      rw [hds] at hi hj hs
      refine hL Bs blk cap2 n _ (fun t => nmV dk[t]!) ?_ (fun t ht => ?_) i j hi hj hn2
      · rw [ew, cell?_putRowK_other _ _ _ blk 0 dk _ (by exact hne), cell?_grow _ _ _ (by exact hBs)]; exact hB
      · rw [ew]
        have := ((holdsK_putRowK _ _ _ blk 0 d dk hHg (by rw [hs, hds])).cell (i := t) (c := jn) (by omega) hjn).1
        rw [Nat.zero_add] at this
        rw [this]
        have h3 : (encV dk[t]!)[jn]? = some (.string (nmV dk[t]!)) := nmV_get hjn _
        rw [List.getElem!_eq_getElem?_getD, h3]; rfl
    have hmain := Any.sort_Slice_cells_sorted L ty e i ie hi hd hpk hie ke hke encV k (fun x => x.2.1) hs1 hagg (fun x v hv => x.2.2.1 v hv) ltV swo_ltV g #[.pointer (some ⟨Bs, 0, none⟩)] eg blk 0 cap d (by omega) (by omega) f (by rw [hds]; exact hf n h2) gS hx w hless hH hblk
    rw [hds] at hmain
    refine hmain.mono ?_
    rintro ex w' ⟨rfl, d', m, os, hperm, hsorted, rfl⟩
    obtain ⟨p1, p2, p3⟩ := hperm
    rw [hds] at p1
    have e1 : (d'.extract 0 n).toList = d'.toList := by rw [← p1]; simp
    have e2 : (d.extract 0 n).toList = d.toList := by rw [← hds]; simp
    rw [e1, e2] at p3
    obtain ⟨π, τ, q1, q2⟩ := perm_idx p3
    rw [Array.length_toList, p1] at q1 q2
    have hd' : ∀ i, i < n → d'[i]! = row (π i) := fun i hi => by
      have h3 := q2 i hi
      rw [Array.getElem?_toList, Array.getElem?_toList, hdg2 _ (q1 i hi).1] at h3
      rw [Array.getElem!_eq_getD, Array.getD_eq_getD_getElem?, h3]; rfl
    have hnm : ∀ q, q < n → nmV (row q) = G q := fun q hq => by
      have h3 := nmV_get hjn (row q)
      rw [hrow q hq, hrg q jn hjn, hG q hq] at h3
      simpa using h3.symm
    refine ⟨rfl, π, τ, putCells id 0 (flatK encV k d') c, q1, fun i j hij hj => ?_, ⟨rfl, rfl, rfl, by simp [grow, putRowK, Go.Sort.putRow, mapBlock, Sort.ahead]⟩, heap_putRowG hh _ m os, by simp [putCells], fun q hq hqn => heap_putRowG_other _ m os hqn hq, fun i j hi hj => ?_⟩
    · have := hsorted i j (Nat.zero_le _) hij hj
      rw [hd' i (by omega), hd' j hj] at this
      unfold ltV at this
      rwa [hnm _ (q1 j hj).1, hnm _ (q1 i (by omega)).1] at this
    · have hlt : i * k + j < n * k := mul_add_lt hi hj
      have hlc : i * k + j < c.size := by omega
      have hfs : (flatK encV k d').size = n * k := by simp [p1]
      have ed : (i * k + j) / k = i := by rw [Nat.mul_comm, Nat.mul_add_div hk0, Nat.div_eq_of_lt hj, Nat.add_zero]
      have em : (i * k + j) % k = j := by rw [Nat.mul_comm, Nat.mul_add_mod, Nat.mod_eq_of_lt hj]
      have h3 : (encV (row (π i))) = rowL (π i) := hrow _ (q1 i hi).1
      simp only [putCells, Array.getD_eq_getD_getElem?, Array.getElem?_mapIdx, Array.getElem?_eq_getElem hlc, Option.map_some, Option.getD_some, Nat.zero_le, Nat.zero_add, true_and, hfs, if_pos hlt, Nat.sub_zero, id]
      rw [get_flatK _ _ _ _ (by rw [p1]; exact hlt), ed, em, hd' i hi, h3, List.getElem!_eq_getElem?_getD, hrg _ _ hj, Option.getD_some, Array.getD_eq_getD_getElem?]

end Go.Mh
