/- Contracts of functions of the program, each met by its body; conditions stand in each statement. No condition. -/
import Derived.Test.YtkmacjdigkaabaaGreatHj
import Derived.Test.YtkmacjdigkaabaaGreatHa
import Derived.Shelf.SlSortFuncK.WholeK
import Derived.Shelf.GgSortFunc.Tiny
set_option linter.unusedVariables false
set_option linter.unusedSimpArgs false
set_option linter.unnecessarySimpa false
namespace Go.Mh
open Go Go.Sort Go.Shelf Go.Lib Go.Proofs

/-! ### the library's sort.Slice, for rows that bear a text -/
theorem bytesLtK : ∀ (x y : List UInt8), Op.bytesLess x y = decide (x < y)
  | [], [] => by simp [Op.bytesLess]
  | _ :: _, [] => by simp [Op.bytesLess]
  | [], _ :: _ => by simp [Op.bytesLess]
  | a :: x, b :: y => by
    rw [Op.bytesLess, bytesLtK x y]
    simp only [List.cons_lt_cons_iff, Bool.decide_or, Bool.decide_and]
    congr 1
theorem strLtK_iff (x y : ByteArray) : strLt x y = true ↔ bl x < bl y := by
  unfold strLt bl; rw [bytesLtK, ByteArray.toList_eq, ByteArray.toList_eq]; simp
theorem strLtK_not (x y : ByteArray) : strLt x y = false ↔ bl y ≤ bl x := by
  rw [← Bool.not_eq_true, strLtK_iff, List.not_lt]

def RowV (k jn : Nat) : Type := {l : List Value // l.length = k ∧ (∀ v ∈ l, v.oneCell' = true) ∧ (jn < k → ∃ s, l[jn]? = some (.string s))}
instance (k jn : Nat) : Inhabited (RowV k jn) := ⟨⟨List.replicate k (.string ⟨#[]⟩), by simp, by intro v hv; rw [List.eq_of_mem_replicate hv]; rfl, fun h => ⟨⟨#[]⟩, by simp [h]⟩⟩⟩
def encV {k jn : Nat} (x : RowV k jn) : List Value := x.1
def nmV {k jn : Nat} (x : RowV k jn) : ByteArray := match x.1[jn]? with
  | some (.string s) => s
  | _ => ⟨#[]⟩
theorem nmV_get {k jn : Nat} (hj : jn < k) (x : RowV k jn) : x.1[jn]? = some (.string (nmV x)) := by
  obtain ⟨s, hs⟩ := x.2.2.2 hj
  simp only [nmV, hs]
def ltV {k jn : Nat} (x y : RowV k jn) : Bool := strLt (nmV x) (nmV y)
theorem swo_ltV {k jn : Nat} : SWO (ltV (k := k) (jn := jn)) where
  irrefl x := (strLtK_not _ _).2 (List.le_refl _)
  trans x y z h1 h2 := (strLtK_iff _ _).2 (List.lt_trans ((strLtK_iff _ _).1 h1) ((strLtK_iff _ _).1 h2))
  ntrans x y z h1 h2 := (strLtK_not _ _).2 (List.le_trans ((strLtK_not _ _).1 h2) ((strLtK_not _ _).1 h1))

def LessStr (P : Program) (g jb k jn : Nat) : Prop :=
  ∀ (Bs blk c n : Nat) (W : World) (G : Nat → ByteArray), W.cell? ⟨Bs, jb, none⟩ = some (.slice (some ⟨blk, 0, none⟩) n c) → (∀ q, q < n → W.cell? ⟨blk, q * k + jn, none⟩ = some (.string (G q))) → ∀ i j : Nat, i < n → j < n → n < 4611686018427387904 →
    Calls P g #[.int .i64 i, .int .i64 j, .pointer (some ⟨Bs, 0, none⟩)] W fun e w' => e = .returned (.bool (strLt (G i) (G j))) ∧ ∃ q, w' = W.drewN q

theorem heap_putRowG {w : World} {b : Nat} {c : Array Value} {e : TypeId} {fr : Nat × Nat} (hh : w.heap[b]? = some (.cells c e fr)) (d : Array Value) (n : Nat) (os : Array Obj) :
    (grow (Go.Sort.putRow id (Sort.ahead w n) b 0 d) os).heap[b]? = some (.cells (putCells id 0 d c) e fr) := by
  have hlt := heap_lt hh
  simp only [grow, Go.Sort.putRow, mapBlock, Sort.ahead]
  rw [Array.getElem?_append_left (by simpa using hlt), Array.getElem?_modify, if_pos rfl, hh]
  rfl
theorem heap_putRowG_other {w : World} {b b' : Nat} (d : Array Value) (n : Nat) (os : Array Obj) (hne : b' ≠ b) (hlt : b' < w.heap.size) :
    (grow (Go.Sort.putRow id (Sort.ahead w n) b 0 d) os).heap[b']? = w.heap[b']? := by
  simp only [grow, Go.Sort.putRow, mapBlock, Sort.ahead]
  rw [Array.getElem?_append_left (by simpa using hlt), Array.getElem?_modify, if_neg (fun e => hne e.symm)]

theorem sortsRow_of {P : Program} {ρ : Ren} (L : LaysGg.n6 P ρ) (ty e : TypeId) (i ie : TypeInfo) (hi : P.info? ty = some i) (hd : i.desc = .slice e) (hpk : P.packed ty = false) (hie : P.info? e = some ie) (ke : Nat) (hke : ∀ w, (Extern.Rtype.kind e).run P w = .ok ke w)
    (k jn jb : Nat) (hs1 : ie.size = k) (hagg : ∀ w, (isAgg e).run P w = .ok true w) (g : Nat) (eg : ∀ args w, (callFunc g args).run P w = .ok (.enter g args) w) (f f1 : Nat)
    (hf : ∀ n, 2 ≤ n → P.funcs.findIdx? (·.name == "internal/reflectlite" ++ ".Swapper$" ++ toString (swapperK n ie ke)) = some f) (hf1 : P.funcs.findIdx? (·.name == "internal/reflectlite" ++ ".Swapper$" ++ toString (swapperK 1 ie ke)) = some f1)
    (gS : Bool) (hx : ∀ args W, (callFunc f args).run P W = ((Extern.ReflectliteSwapper.swap gS args).run P W).andThen fun v w' => .ok (.value v) w') (hjn : jn < k) (hL : LessStr P g jb k jn) : SortsRow P (ρ.f 6) g ty k jn jb := by
  intro w Bs blk cap cap2 n c ec G hh hsz h0 hn2 hone hG hB hne hBs
  by_cases h1 : n = 1
  · subst h1
    refine (Any.sort_Slice_tiny L ty e i ie hi hd hpk hie ke hke (some ⟨blk, 0, none⟩) 1 cap (Nat.le_refl _) f1 hf1 (.func g) #[] #[.pointer (some ⟨Bs, 0, none⟩)] w).mono ?_
    rintro ex w' ⟨rfl, os, rfl⟩
    have hold : ∀ q, q < w.heap.size → (grow w os).heap[q]? = w.heap[q]? := fun q hq => by simp only [grow]; rw [Array.getElem?_append_left hq]
    exact ⟨rfl, id, id, c, fun i hi => ⟨hi, hi, rfl, rfl⟩, fun i j hij hj => by omega, ⟨rfl, rfl, rfl, by simp [grow]⟩, (hold blk (heap_lt hh)).trans hh, rfl, fun q hq _ => hold q hq, fun _ _ _ _ => rfl⟩
  · have h2 : 2 ≤ n := by omega
    have hk0 : 0 < k := by omega
    let rowL : Nat → List Value := fun i => (List.range k).map fun j => c.getD (i * k + j) undef
    have hrl : ∀ i, (rowL i).length = k := fun i => by simp [rowL]
    have hrg : ∀ i j, j < k → (rowL i)[j]? = some (c.getD (i * k + j) undef) := fun i j hj => by simp [rowL, hj]
    have hrok : ∀ i, i < n → (rowL i).length = k ∧ (∀ v ∈ rowL i, v.oneCell' = true) ∧ (jn < k → ∃ s, (rowL i)[jn]? = some (.string s)) := fun i hi =>
      ⟨hrl i, fun v hv => by
        obtain ⟨j, hj, rfl⟩ := List.mem_map.1 hv
        exact hone i j hi (List.mem_range.1 hj), fun _ => ⟨G i, by rw [hrg i jn hjn, hG i hi]⟩⟩
    classical
    let row : Nat → RowV k jn := fun i => if h : i < n then ⟨rowL i, hrok i h⟩ else default
    have hrow : ∀ i, i < n → (row i).1 = rowL i := fun i hi => by
      have : row i = ⟨rowL i, hrok i hi⟩ := dif_pos hi
      rw [this]
    let d : Array (RowV k jn) := (Array.range n).map row
    have hds : d.size = n := by simp [d]
    have hdg : ∀ i, i < n → d[i]! = row i := fun i hi => by rw [getElem!_pos d i (by rw [hds]; exact hi)]; simp [d]
    have hdg2 : ∀ i, i < n → d[i]? = some (row i) := fun i hi => by simp [d, hi]
    have hH : HoldsK encV k w blk 0 d := by
      intro t ht
      have ht' : t < n * k := by simpa [hds] using ht
      have hq : t / k < n := Nat.div_lt_of_lt_mul (by rw [Nat.mul_comm]; exact ht')
      have hm : t % k < k := Nat.mod_lt _ hk0
      refine ⟨?_, by simp [World.frozen?, hh]⟩
      have e1 : (encV (row (t / k)))[t % k]! = c.getD t undef := by
        have h3 : (encV (row (t / k))) = rowL (t / k) := hrow _ hq
        rw [h3, List.getElem!_eq_getElem?_getD, hrg _ _ hm, Option.getD_some]
        rw [show t / k * k + t % k = t by rw [Nat.mul_comm]; exact Nat.div_add_mod t k]
      rw [get_flatK _ _ _ t (by rw [hds]; exact ht'), hdg _ hq, id, e1]
      simp only [World.cell?, hh, Nat.zero_add, Option.isSome_none, Bool.false_eq_true, if_false]
      rw [Array.getElem?_eq_getElem (by omega)]
      simp [Array.getD, show t < c.size by omega]
    have hblk := heap_lt hh
    have hless : LessReadsK (α := RowV k jn) P g #[.pointer (some ⟨Bs, 0, none⟩)] encV k ltV blk 0 d.size w := by
      intro m os dk hs i j hi hj
      have ew : sortWorldK encV k w blk 0 m dk os = putRowK encV k (grow (Sort.ahead w m) os) blk 0 dk := by
        unfold sortWorldK; rw [putRowK_grow _ _ (Sort.ahead w m) _ blk 0 _ hblk]
      have hHg : HoldsK encV k (grow (Sort.ahead w m) os) blk 0 d := holdsK_grow _ _ _ _ blk 0 d hblk (holdsK_ahead _ _ _ _ _ _ _ hH)
      rw [hds] at hi hj hs
      refine hL Bs blk cap2 n _ (fun t => nmV dk[t]!) ?_ (fun t ht => ?_) i j hi hj hn2
      · rw [ew, cell?_putRowK_other _ _ _ blk 0 dk _ (by exact hne), cell?_grow _ _ _ (by exact hBs)]; exact hB
      · rw [ew]
        have := ((holdsK_putRowK _ _ _ blk 0 d dk hHg (by rw [hs, hds])).cell (i := t) (c := jn) (by omega) hjn).1
        rw [Nat.zero_add] at this
        rw [this]
        have h3 : (encV dk[t]!)[jn]? = some (.string (nmV dk[t]!)) := nmV_get hjn _
        rw [List.getElem!_eq_getElem?_getD, h3]; rfl
    have hmain := Any.sort_Slice_cells_sorted L ty e i ie hi hd hpk hie ke hke encV k (fun x => x.2.1) hs1 hagg (fun x v hv => x.2.2.1 v hv) ltV swo_ltV g #[.pointer (some ⟨Bs, 0, none⟩)] eg blk 0 cap d (by omega) (by omega) f (by rw [hds]; exact hf n h2) gS hx w hless hH hblk
    rw [hds] at hmain
    refine hmain.mono ?_
    rintro ex w' ⟨rfl, d', m, os, hperm, hsorted, rfl⟩
    obtain ⟨p1, p2, p3⟩ := hperm
    rw [hds] at p1
    have e1 : (d'.extract 0 n).toList = d'.toList := by rw [← p1]; simp
    have e2 : (d.extract 0 n).toList = d.toList := by rw [← hds]; simp
    rw [e1, e2] at p3
    obtain ⟨π, τ, q1, q2⟩ := perm_idx p3
    rw [Array.length_toList, p1] at q1 q2
    have hd' : ∀ i, i < n → d'[i]! = row (π i) := fun i hi => by
      have h3 := q2 i hi
      rw [Array.getElem?_toList, Array.getElem?_toList, hdg2 _ (q1 i hi).1] at h3
      rw [Array.getElem!_eq_getD, Array.getD_eq_getD_getElem?, h3]; rfl
    have hnm : ∀ q, q < n → nmV (row q) = G q := fun q hq => by
      have h3 := nmV_get hjn (row q)
      rw [hrow q hq, hrg q jn hjn, hG q hq] at h3
      simpa using h3.symm
    refine ⟨rfl, π, τ, putCells id 0 (flatK encV k d') c, q1, fun i j hij hj => ?_, ⟨rfl, rfl, rfl, by simp [grow, putRowK, Go.Sort.putRow, mapBlock, Sort.ahead]⟩, heap_putRowG hh _ m os, by simp [putCells], fun q hq hqn => heap_putRowG_other _ m os hqn hq, fun i j hi hj => ?_⟩
    · have := hsorted i j (Nat.zero_le _) hij hj
      rw [hd' i (by omega), hd' j hj] at this
      unfold ltV at this
      rwa [hnm _ (q1 j hj).1, hnm _ (q1 i (by omega)).1] at this
    · have hlt : i * k + j < n * k := mul_add_lt hi hj
      have hlc : i * k + j < c.size := by omega
      have hfs : (flatK encV k d').size = n * k := by simp [p1]
      have ed : (i * k + j) / k = i := by rw [Nat.mul_comm, Nat.mul_add_div hk0, Nat.div_eq_of_lt hj, Nat.add_zero]
      have em : (i * k + j) % k = j := by rw [Nat.mul_comm, Nat.mul_add_mod, Nat.mod_eq_of_lt hj]
      have h3 : (encV (row (π i))) = rowL (π i) := hrow _ (q1 i hi).1
      simp only [putCells, Array.getD_eq_getD_getElem?, Array.getElem?_mapIdx, Array.getElem?_eq_getElem hlc, Option.map_some, Option.getD_some, Nat.zero_le, Nat.zero_add, true_and, hfs, if_pos hlt, Nat.sub_zero, id]
      rw [get_flatK _ _ _ _ (by rw [p1]; exact hlt), ed, em, hd' i hi, h3, List.getElem!_eq_getElem?_getD, hrg _ _ hj, Option.getD_some, Array.getD_eq_getD_getElem?]

end Go.Mh

set_option linter.unusedVariables false
namespace Go.Mh
open Go

/-! ### an append to a slice in a row; the result goes on at a root of its own -/
end Go.Mh

set_option linter.unusedVariables false
namespace Go.Mh
open Go

theorem LSpec.letGo {P : Program} {f : FuncId} {e : Nat} {r r' : List T} {args : List PV} {res res' : PV} (h : LSpec P f e r r' args res) (hz : FzR res res') : LSpec P f e r r' args res' := by
  intro w F b0 cap c vals hs hv0 hF hh hc h1 h2 hr hv
  refine (h w F b0 cap c vals hs hv0 hF hh hc h1 h2 hr hv).mono ?_
  rintro ex w' ⟨v, c', own', rfl, q1, q2, hret, q3, q4, hres⟩
  have hRF : RR ≠ FF := by decide
  have hf : Froz w' w' (mergeF w F own') (mergeF w F noOwn) := ⟨fun b hb _ => ⟨by unfold mergeF at *; split <;> rename_i hl; (rw [if_pos hl] at hb; exact hb); rfl, rfl⟩⟩
  refine ⟨v, c', noOwn, rfl, q1, q2, ⟨hret.same, hret.old, fun b p hb => (by cases hb), fun b b' p hb => (by cases hb)⟩, q3, fun j hj => (q4 j hj).frozen hf, ?_⟩
  have hg : ∀ k, Gone w' w' (mergeF w F own') (mergeF w F noOwn) ⟨.arr RR k, []⟩ := fun k b s hb => ⟨by
    unfold mergeF at *
    split <;> rename_i hl
    · rw [if_pos hl] at hb
      have := (ownF_some hb).2.2
      simp only [FP, Place.mk.injEq, Root.arr.injEq] at this
      exact absurd this.1.1 hRF
    · rfl, rfl⟩
  have one : ∀ {k : Nat} {v : Value} {t t' : T} {pl : Option Place}, FzT t t' → Ok w' (mergeF w F own') (some ⟨.arr RR k, []⟩) v t → Ok w' (mergeF w F noOwn) pl v t' := by
    intro k v t t' pl hz hv
    cases hz with
    | sc h0 => exact Ok.anyw hv h0
    | fz hz => exact .fz ((hv.freeze hf (hg k)).asFz hz)
  have oneP : ∀ {i : Nat} {v : Value} {u u' : PV}, FzP u u' → OkP w' (mergeF w F own') (resPl i) v u → OkP w' (mergeF w F noOwn) (resPl i) v u' := by
    intro i v u u' hz hv
    cases hz with
    | one h => exact one h hv
    | agg h =>
      obtain ⟨xs, h1, h2, h3⟩ := hv
      refine ⟨xs, h1, by rw [h2, h.get.1], fun j t' hj => ?_⟩
      obtain ⟨t, k1, k2⟩ := h.get.2 j t' hj
      exact one k2 (h3 j t k1)
  cases hz with
  | p hp =>
    cases hp with
    | one h0 => exact oneP (i := 0) (.one h0) hres
    | agg h0 => exact oneP (i := 0) (.agg h0) hres
  | tup h0 =>
    obtain ⟨xs, h1, h2, h3⟩ := hres
    refine ⟨xs, h1, by rw [h2, h0.get.1], fun i u' hu => ?_⟩
    obtain ⟨u, k1, k2⟩ := h0.get.2 i u' hu
    exact oneP k2 (h3 i u k1)

/-! ### a new variable, in a region that draws -/
theorem FRun.boxN {P : Program} {ops : Array Oper} {o : Oper} {rest : List Oper} {R : List Loc} {d : Nat} {A : List Nat} {ds : List DRow} {σ : AS} {x : List C} {K : AS → Prop} (hg : o.guard = none)
    (h : ∀ τ, τ.n = σ.n → (∀ l, l ∈ R → τ.at σ l) → Free d τ → Step P o τ ((τ.setBox d x).setS d ⟨true, .one (.bptr d 0)⟩)) (hA : A.all (fun r => x.all (C.free r) && !Nat.beq d r) = true) (hr : FRun P ops rest ds ((σ.setBox d x).setS d ⟨true, .one (.bptr d 0)⟩) K) : FRun P ops (o :: rest) (⟨⟨R, [.s d, .b d], false⟩, some d, A⟩ :: ds) σ K := by
  refine FRun.cons (σ' := (σ.setBox d x).setS d ⟨true, .one (.bptr d 0)⟩) ⟨rfl, fun l hl => ?_, fun τ k1 k2 k3 => ?_, fun r hx l hl => ?_⟩ hr
  · have hm := DOp.mem_of_false hl
    simp only [List.mem_cons, List.not_mem_nil, or_false, not_or] at hm
    cases l with
    | s u =>
      simp only [AS.at, setS_s]
      rw [if_neg (fun e => hm.1 (by rw [e]))]
      rfl
    | b u =>
      show (σ.setBox d x).box u = σ.box u
      rw [setBox_box, if_neg (fun e => hm.2 (by rw [e]))]
    | a u k => rfl
  · have h1 := h τ k1 (fun l hl => k2 l (Loc.mem_iff.2 hl)) (k3 d rfl)
    have e : AS.patch τ ((σ.setBox d x).setS d ⟨true, .one (.bptr d 0)⟩) (DOp.wr ⟨R, [.s d, .b d], false⟩) = (τ.setBox d x).setS d ⟨true, .one (.bptr d 0)⟩ := by
      refine AS.ext_at rfl fun l => ?_
      cases hl : DOp.wr ⟨R, [.s d, .b d], false⟩ l with
      | true =>
        refine AS.at_trans (AS.patch_in hl) ?_
        have hm := Loc.mem_iff.1 hl
        simp only [List.mem_cons, List.not_mem_nil, or_false] at hm
        rcases hm with rfl | rfl
        · simp only [AS.at, setS_s, if_true]
        · show (σ.setBox d x).box d = (τ.setBox d x).box d
          rw [setBox_box, setBox_box, if_pos rfl, if_pos rfl]
      | false =>
        refine AS.at_trans (AS.patch_out hl) ?_
        have hm := DOp.mem_of_false hl
        simp only [List.mem_cons, List.not_mem_nil, or_false, not_or] at hm
        cases l with
        | s u =>
          simp only [AS.at, setS_s]
          rw [if_neg (fun e => hm.1 (by rw [e]))]
          rfl
        | b u =>
          show τ.box u = (τ.setBox d x).box u
          rw [setBox_box, if_neg (fun e => hm.2 (by rw [e]))]
        | a u k => rfl
    rw [e]
    exact .plain hg h1
  · have hAx := List.all_eq_true.1 hA r hx
    simp only [Bool.and_eq_true, Bool.not_eq_true'] at hAx
    have hdx : d ≠ r := fun e => by rw [e] at hAx; simp at hAx
    have hm := Loc.mem_iff.1 hl
    simp only [List.mem_cons, List.not_mem_nil, or_false] at hm
    rcases hm with rfl | rfl
    · simp only [freeAt, setS_s, if_true]
      simp only [V.free, V.free1, C.free, C.places, List.all_cons, List.all_nil, Bool.and_true, Root.num, beq_false hdx, Bool.not_false]
    · refine ⟨?_, fun e => absurd e hdx⟩
      show ((σ.setBox d x).box d).all (C.free r) = true
      rw [setBox_box, if_pos rfl]; exact hAx.1
theorem step_allocN {P : Program} {o : Oper} {σ : AS} {d : Nat} (hd : o.dst = some d) (hn : d < σ.n) {t : TypeId} (ho : o.op = .alloc t) {m : Nat} (hz : zeroSz P t = some m) (hfr : Free d σ) : Step P o σ ((σ.setBox d (List.replicate m .any)).setS d ⟨true, .one (.bptr d 0)⟩) := by
  have h := step_alloc_p hd hn ho hz
  rw [hfr.kill] at h
  exact h

end Go.Mh

set_option linter.unusedVariables false
namespace Go.Mh
open Go

/-- an operation under a guard that is known to be met -/
theorem FRun.on {P : Program} {ops : Array Oper} {o : Oper} {rest : List Oper} {r : DRow} {rs : List DRow} {σ : AS} {K : AS → Prop} {j t : Nat} {want b : Bool} (hg : o.guard = some (j, want)) (hj : (ops[j]?).bind (·.dst) = some t)
    (hR : r.d.rd (.s t) = true) (ht : σ.s t = ⟨true, .one (.v (.bool b))⟩) (hb : b = want) (hr : FRun P ops ({ o with guard := none } :: rest) (r :: rs) σ K) : FRun P ops (o :: rest) (r :: rs) σ K := by
  obtain ⟨σ', h1, h2⟩ := hr
  subst hb
  refine ⟨σ', ⟨h1.n, h1.out, fun τ k1 k2 k3 => ?_, h1.av⟩, h2⟩
  intro w0 own0 a w own hI K Q hK
  have h := h1.go τ k1 k2 k3 w0 own0 a w own hI K Q hK
  simp only [Region.wanted, if_true] at h
  have hτ : τ.s t = ⟨true, .one (.v (.bool b))⟩ := (k2 (.s t) hR).trans ht
  have hs := hI.slots t
  rw [hτ] at hs
  have hv : a.tmps.getD t undef = .bool b := by
    have : Ok w own none (a.tmps.getD t undef) (.bool b) := hs
    exact Ok.sc this rfl
  have hlt : a.tmps[t]? = some (.bool b) := by
    rw [Array.getD_eq_getD_getElem?] at hv
    cases hx : a.tmps[t]? with
    | none => rw [hx] at hv; simp [undef] at hv
    | some x => rw [hx] at hv; simp at hv; rw [hv]
  have hy : yielded ops a.tmps j = some b := by simp only [yielded, hj, Option.bind_some, hlt]
  have hw : Region.wanted o (yielded ops a.tmps) = true := by simp [Region.wanted, hg, hy]
  rw [if_pos hw]
  exact h
/-- an operation under a guard that is known not to be met -/
theorem FRun.off {P : Program} {ops : Array Oper} {o : Oper} {rest : List Oper} {R : List Loc} {A : List Nat} {ds : List DRow} {σ : AS} {K : AS → Prop} {j t d : Nat} {want b : Bool} (u : V) (hg : o.guard = some (j, want)) (hj : (ops[j]?).bind (·.dst) = some t)
    (hm : (Loc.s t).mem R = true) (ht : σ.s t = ⟨true, .one (.v (.bool b))⟩) (hb : b ≠ want) (hd : o.dst = some d) (hn : d < σ.n) (hA : A.all (fun d => u.free d) = true)
    (hr : FRun P ops rest ds (σ.setS d ⟨false, u⟩) K) : FRun P ops (o :: rest) (⟨⟨R, [.s d], false⟩, none, A⟩ :: ds) σ K := by
  have h1 : DStep P ops o σ ⟨R, [.s d], false⟩ (σ.setS d ⟨false, u⟩) := DStep.slot fun τ k1 k2 => by
    have h := GStep.guard (P := P) (u := u) hg hj (rdS k2 hm ht) hd (rdN k1 hn) (fun _ e => absurd e hb)
    rwa [show (true && (b == want)) = false by simp [hb]] at h
  refine FRun.cons ⟨h1.n, h1.out, fun τ k1 k2 _ => h1.go τ k1 k2, fun x hx l hl => ?_⟩ hr
  have : l ∈ [Loc.s d] := Loc.mem_iff.1 hl
  simp only [List.mem_cons, List.not_mem_nil, or_false] at this
  subst this
  simp only [freeAt, setS_s, if_true]
  exact List.all_eq_true.1 hA x hx
end Go.Mh
