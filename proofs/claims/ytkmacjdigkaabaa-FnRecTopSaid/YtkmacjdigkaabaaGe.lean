/- Bytes as a text, and variables that begin with references. No condition. -/
import Derived.Test.YtkmacjdigkaabaaGd
import Derived.Laws.BytesString
import Derived.Laws.Cells
set_option linter.unusedVariables false
set_option linter.unusedSimpArgs false
set_option linter.unnecessarySimpa false
namespace Go.Mh
open Go

/-! ### bytes as a text -/
def bytesOf (ns : List Int) : ByteArray := ns.foldl (fun r n => r.push (UInt8.ofNat n.toNat)) ByteArray.empty
theorem bytesOf_size (ns : List Int) : (bytesOf ns).size = ns.length := by
  have key : ∀ (ns : List Int) (s : ByteArray), (ns.foldl (fun r n => r.push (UInt8.ofNat n.toNat)) s).size = s.size + ns.length := by
    intro ns
    induction ns with
    | nil => intro s; rfl
    | cons n ns ih => intro s; simp only [List.foldl_cons, ih, ByteArray.size_push, List.length_cons]; omega
  have := key ns ByteArray.empty
  unfold bytesOf
  rw [this]; simp
theorem step_convBytes {P : Program} {o : Oper} {σ : AS} {d : Nat} (hd : o.dst = some d) (hn : d < σ.n) {s t e e1 : TypeId} {x : Operand} (ho : o.op = .convert s t x) (hs : P.underlying s = some (.slice e)) (he : P.underlying e = some (.int .u8)) (ht : P.underlying t = some .string)
    (ns : List Int) {n : Nat} {g : Nat → List T} (hx : σ.ev x = ⟨true, .one (.v (.sl e1 1 n g))⟩) (hl : n = ns.length) (h0 : 0 < n) (hg : ∀ i, i < n → g i = [.int .u8 (ns.getD i 0)]) :
    Step P o σ (σ.setS d ⟨true, .one (.v (.str (bytesOf ns)))⟩) :=
  Step.value hd hn fun w0 own0 a w own hI => by
    have hv := hI.evC hx
    generalize hgx : a.eval x = vx at hv
    cases hv with
    | nil => omega
    | emp => omega
    | @fsl b off n cap _ _ f xx h1 hcap h3 h4 h5 h6 =>
      refine ⟨.string (bytesOf ns), ?_, Ok.of_sc (t := .str (bytesOf ns)) rfl (by simp only [T.fits, bytesOf_size]; omega)⟩
      have hadd : ∀ (b off q : Nat), (⟨b, off, none⟩ : Addr).add q = ⟨b, off + q, none⟩ := fun b off q => by unfold Addr.add; split <;> simp_all
      have hcell : ∀ j, j < n → w.cell? ((⟨b, off, none⟩ : Addr).add j) = some (.int .u8 (ns.getD j 0)) := fun j hj => by
        rw [hadd]
        have k1 := h5 j 0 hj (by omega)
        have k2 := h6 j 0 hj (by omega)
        rw [hg j hj] at k2
        have k3 := Ok.sc (t := .int .u8 (ns.getD j 0)) k2 rfl
        rw [Nat.mul_one, Nat.add_zero, k3] at k1
        exact k1
      have hload := run_loadCells (P := P) w ⟨b, off, none⟩ n (fun j => .int .u8 (ns.getD j 0)) hcell
      have e0 : ((List.range n).map fun j => Value.int .u8 (ns.getD j 0)).toArray = (ns.map (Value.int .u8)).toArray := by
        congr 1
        apply List.ext_getElem?
        intro i
        by_cases hi : i < n
        · have hi' : i < ns.length := by omega
          simp [List.getD_eq_getElem?_getD, hi, hi']
        · have hi' : ¬ i < ns.length := by omega
          simp [hi, hi']
      rw [e0] at hload
      have hr := run_bytesToString (P := P) w ⟨b, off, none⟩ n cap ns hload
      have hc := run_convert_bytes_string (P := P) w s t e (some ⟨b, off, none⟩) n cap hs he ht
      simp only [execOp, ho, hgx, Sem.run_bind, hc, hr, Result.andThen_ok, Sem.run_pure]
      rfl

/-! ### trees that bear no frozen part -/
theorem Clean.sc {t : T} (h : t.sc = true) : Clean t := by
  cases t <;> first | exact .int _ _ | exact .bool _ | exact .str _ | exact .nl | cases h
inductive CleanL : List T → Prop where
  | nil : CleanL []
  | cons {t : T} {l : List T} (h : Clean t) (hs : CleanL l) : CleanL (t :: l)
theorem CleanL.all {l : List T} (h : CleanL l) : ∀ t ∈ l, Clean t := by
  induction h with
  | nil => intro t ht; cases ht
  | cons h hs ih =>
    intro t ht
    rw [List.mem_cons] at ht
    rcases ht with rfl | ht
    · exact h
    · exact ih t ht

theorem RetIs.mk {t : Nat} {x res : T} {e : Exit} {σ : AS} {us : List MV} (he : e = .normal ∨ e = .ret) (hs : σ.s t = ⟨true, .one (.v x)⟩) (hx : x.sc = true) (hr : x = res) (hp : MPost σ 0 us) : (e = .normal ∨ e = .ret) ∧ (∃ x, σ.s t = ⟨true, .one (.v x)⟩ ∧ x.sc = true ∧ x = res) ∧ MPost σ 0 us := ⟨he, ⟨x, hs, hx, hr⟩, hp⟩

/-! ### a variable that begins with references to owned arrays -/
/-- a number told in other words -/
theorem Le.slotInt {σ : AS} (t : Nat) {k : IntKind} {a b : Int} (hs : σ.s t = ⟨true, .one (.v (.int k a))⟩) (h : a = b) : Le σ (σ.setS t ⟨true, .one (.v (.int k b))⟩) := by
  intro w0 own0 x w own hI
  refine ⟨own, hI.retell ?_⟩
  have hv := hI.evC (x := .tmp t) hs
  rw [h] at hv
  exact hv

end Go.Mh
