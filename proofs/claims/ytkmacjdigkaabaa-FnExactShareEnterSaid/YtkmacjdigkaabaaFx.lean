/- Slices of slices that nobody writes. No condition. -/
import Derived.Test.YtkmacjdigkaabaaFw
set_option linter.unusedVariables false
set_option linter.unusedSimpArgs false
set_option linter.unnecessarySimpa false
namespace Go.Mh
open Go

section
variable {P : Program} {o : Oper} {σ : AS} {d : Nat} (hd : o.dst = some d) (hn : d < σ.n)
include hd hn
/-- i - 1 of a counter that is not 0 -/
theorem step_decN {t ty : TypeId} {x y : Operand} (ho : o.op = .binOp .sub t x y ty) {i : Nat}
    (hx : σ.ev x = ⟨true, .one (.v (.int .i64 (i : Int)))⟩) (hy : σ.ev y = ⟨true, .one (.v (.int .i64 1))⟩) (h0 : 0 < i) (h1 : i ≤ 9223372036854775807) : Step P o σ (σ.setS d ⟨true, .one (.v (.int .i64 ((i - 1 : Nat) : Int)))⟩) := by
  have := step_sub (P := P) hd hn ho hx hy
  rw [wrap_in (by omega) (by omega)] at this
  rw [show ((i - 1 : Nat) : Int) = (i : Int) - 1 by omega]
  exact this

/-- the first j rows of a slice that nobody writes -/
theorem step_slice_hf {t e' sz by' : Nat} {x y : Operand} (ho : o.op = .slice t x none (some y) none) (ht : sliceT P t = some ⟨e', sz, by'⟩) {e n : Nat} {g : Nat → List T} {k : IntKind} {j : Nat}
    (hx : σ.ev x = ⟨true, .one (.v (.sl e sz n g))⟩) (hy : σ.ev y = ⟨true, .one (.v (.int k (j : Int)))⟩) (h1 : j ≤ n) :
    Step P o σ (σ.setS d ⟨true, .one (.v (.sl e sz j g))⟩) :=
  Step.value hd hn fun w0 own0 a w own hI => by
    have hv := hI.evC hx
    have hy' := hI.evS hy rfl
    obtain ⟨hu, I, z, hi, hz, hs, hb, hzs, hsz⟩ := sliceT_spec ht
    have run : ∀ (a : Option Addr) (len cap : Nat), len ≤ cap → j ≤ len → (Instr.sliceAt t (.slice a len cap) none (some (.int k (j : Int))) none).run P w = .ok (.slice (if cap = 0 then a else a.map (·.add (0 * sz))) (j - 0) (cap - 0)) w := by
      intro a len cap hlc hjl
      have hb1 := run_sliceBound (P := P) w k (j : Int) cap .sliceAcap (by omega) (by omega)
      simp [Instr.sliceAt, run_underlying hu, Instr.slice, Instr.sliceBounds, run_sliceBound, sizeOf, run_info hi, show j ≤ cap by omega]
    generalize hg : a.eval x = vx at hv
    cases hv with
    | nil =>
      have hj : j = 0 := by omega
      subst hj
      have r := run none 0 0 (by omega) (by omega)
      simp at r
      exact ⟨.slice none 0 0, by simp [execOp, ho, hg, hy', T.val, r], .nil _ _ _⟩
    | @emp a cap _ _ _ hcap =>
      have hj : j = 0 := by omega
      subst hj
      have r := run (some a) 0 cap (by omega) (by omega)
      have ha : a.add (0 * sz) = a := by simp [Addr.add]
      have e : (if cap = 0 then some a else (some a).map (·.add (0 * sz))) = some a := by
        split
        · rfl
        · simp only [Option.map_some, ha]
      rw [e] at r
      simp at r
      exact ⟨.slice (some a) 0 cap, by simp [execOp, ho, hg, hy', T.val, r], .emp a _ _ _ hcap⟩
    | @fsl b off n cap e sz f xx h1' hcap h3 h4 h5 h6 =>
      have r := run (some ⟨b, off, none⟩) n cap h1' h1
      have ha : (⟨b, off, none⟩ : Addr).add (0 * sz) = ⟨b, off, none⟩ := by simp [Addr.add]
      have e : (if cap = 0 then some (⟨b, off, none⟩ : Addr) else (some (⟨b, off, none⟩ : Addr)).map (·.add (0 * sz))) = some ⟨b, off, none⟩ := by
        split
        · rfl
        · simp only [Option.map_some, ha]
      rw [e] at r
      simp at r
      refine ⟨.slice (some ⟨b, off, none⟩) j cap, by simp [execOp, ho, hg, hy', T.val, r], .fsl xx (by omega) hcap (fun i hi => h3 i (by omega)) (fun q q' => h4 (by omega) q') (fun i l hi hl => h5 i l (by omega) hl) (fun i l hi hl => h6 i l (by omega) hl)⟩
end

theorem rdBne {τ σ : AS} {R : List Loc} (hr : ∀ l, l ∈ R → τ.at σ l) {t : Nat} (hm : (Loc.b t).mem R = true) (h : σ.box t ≠ []) : τ.box t ≠ [] := by
  have : τ.box t = σ.box t := hr (.b t) (Loc.mem_iff.1 hm)
  rw [this]; exact h
theorem rdBget {τ σ : AS} {R : List Loc} (hr : ∀ l, l ∈ R → τ.at σ l) {t j : Nat} {c : C} (hm : (Loc.b t).mem R = true) (h : (σ.box t)[j]? = some c) : (τ.box t)[j]? = some c := by
  have : τ.box t = σ.box t := hr (.b t) (Loc.mem_iff.1 hm)
  rw [this]; exact h
theorem rdBtake {τ σ : AS} {R : List Loc} (hr : ∀ l, l ∈ R → τ.at σ l) {t j m : Nat} {cs : List C} (hm : (Loc.b t).mem R = true) (h : ((σ.box t).drop j).take m = cs) : ((τ.box t).drop j).take m = cs := by
  have : τ.box t = σ.box t := hr (.b t) (Loc.mem_iff.1 hm)
  rw [this]; exact h

def slotsIn (R : List Loc) : List Operand → Bool
  | [] => true
  | .tmp t :: l => match (Loc.s t).mem R with | true => slotsIn R l | false => false
  | _ :: l => slotsIn R l
theorem rdNoRefs {τ σ : AS} {R : List Loc} (hr : ∀ l, l ∈ R → τ.at σ l) : ∀ {xs : List Operand}, slotsIn R xs = true → noRefsB σ xs = true → noRefsB τ xs = true
  | [], _, _ => rfl
  | x :: l, hm, h => by
    have he : τ.ev x = σ.ev x ∧ slotsIn R l = true := by
      cases x with
      | tmp t =>
        simp only [slotsIn] at hm
        cases ht : (Loc.s t).mem R with
        | false => rw [ht] at hm; cases hm
        | true => rw [ht] at hm; exact ⟨hr (.s t) (Loc.mem_iff.1 ht), hm⟩
      | _ => exact ⟨rfl, hm⟩
    simp only [noRefsB] at h ⊢
    rw [he.1]
    cases hx : noRefB (σ.ev x).v.cells with
    | false => rw [hx] at h; cases h
    | true => rw [hx] at h; exact rdNoRefs hr he.2 h

end Go.Mh
