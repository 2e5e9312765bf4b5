/- The law FnRecTop of the program returns true whatever its arguments, and each argument reads afterwards as it read before. No condition. -/
import Derived.Test.YtkmacjdigkaabaaFv
import Derived.Test.YtkmacjdigkaabaahFnRecTop
import Derived.Test.YtkmacjdigkaabaaChecked
import Derived.Test.YtkmacjdigkaabaaRows
set_option linter.unusedVariables false
set_option linter.unusedSimpArgs false
set_option linter.unnecessarySimpa false
set_option maxRecDepth 100000
namespace Go.Proofs.Ytkmacjdigkaabaa
open Go Go.Mh Go.ChangeShapes Go.WideShapes Go.ChangeAt Go.RowKit

theorem Rd.fz {t : TypeId} {α : Type} {tr : α → T} (h : Rd Try.prog t α (fun l => [tr l])) : Rd Try.prog t α (fun l => [.fz (tr l)]) where
  len := h.len
  rd := fun hh => by
    obtain ⟨v, h1, h2⟩ := h.rd hh
    refine ⟨v, h1, fun j t' hj => ?_⟩
    cases j with
    | zero => cases hj; exact .fz (h2 0 _ rfl)
    | succ j => simp at hj
theorem ownK : ownKnob Try.prog.godebug = none := by kernel_rfl
theorem laidK : laidOutB Try.prog = true := by kernel_rfl
theorem Rd.byte {P : Program} {t : TypeId} (ht : P.underlying t = some (.int .u8)) (hc : P.cellsOf t = 1) : Rd P t UInt8 (fun x => [.int .u8 (x.toNat : Nat)]) where
  len := fun _ => hc.symm
  rd := fun h => by
    obtain ⟨n, rfl, h1, h2⟩ := DataW.trod_int ht h
    refine ⟨UInt8.ofNat n.toNat, rfl, fun j t' hj => ?_⟩
    cases j with
    | zero =>
      cases hj
      have e : (((UInt8.ofNat n.toNat).toNat : Nat) : Int) = n := by
        rw [UInt8.toNat_ofNat']
        simp only [Lit.wf, Bool.and_eq_true, decide_eq_true_eq] at h2
        have g1 : (0 : Int) ≤ n := h2.1
        have g2 : n ≤ 255 := h2.2
        omega
      rw [e]
      exact .int _ _
    | succ j => simp at hj
theorem rd5 : Rd Try.prog 5 UInt8 (fun n => [.int .u8 (n.toNat : Nat)]) := Rd.byte Try.underlying5 (by kernel_rfl)
theorem rd41 : Rd Try.prog 41 (List UInt8) (fun l => [bytesT 5 l]) := Rd.slice rd5 Try.underlying41 (by kernel_rfl) (by kernel_rfl) (by decide)
theorem arg41 : Arg Try.prog 41 (List UInt8) (fun l => .one (bytesT 5 l)) := Arg.one rd41 (noAgg_sl Try.underlying41)

theorem recTop_lifted (os : Os) (started : os.Started) (H : Type) (enc : TypeId × Value → H) :
    ReturnsInHanded {} Try.checked os 10 .any (Rows.fnRecTopSpec.pre6 enc Try.prog Try.f10 Rows.fnRecTopRow.domain false) (Rows.fnRecTopSpec.post enc Try.prog Try.f10 false true false false) := by
  refine returnsInHanded_of_change (C := Try.checked) ownK started (by kernel_rfl) Try.func10
    (ChangeSpec.witness6 (enc := enc) (C := Try.checked) false ⟨#[], #[.slice none 0 0], []⟩ 8 (by kernel_rfl) (by kernel_rfl) (by kernel_rfl) (by kernel_rfl)) ?_
  intro W base args ds gs before hval0 hW hcnd _
  have hval : ∀ (j : Nat) t v, Try.f10.params[j]? = some t → args[j]? = some v → Value.okWide Try.prog W .any base t v := hval0
  have hW0 : DataW.Whole enc Try.prog Try.f10.params.toList Rows.fnRecTopSpec.vars false W args.toList ds gs before := hW
  obtain ⟨p, q, hA, hV, hpq, hfz, hnd⟩ := hW
  obtain ⟨rfl, rfl⟩ := trodVars_none hV
  have hA' : DataW.TrodAll enc Try.prog W 0 (fun _ => true) true Try.f10.params.toList args.toList ds p := hA
  rw [Try.params10] at hA' hval
  obtain ⟨v0, d0, rfl, rfl, h0⟩ := trodAll_one hA'
  obtain ⟨x0, hx0⟩ := arg41.get (hval 0 41 v0 rfl rfl) h0
  refine law_post laidK (by rw [Try.params10]; kernel_rfl) rfl Try.underlying4 rfl rfl rfl rfl hW0 (pvs := [.one (bytesT 5 x0)]) rfl (fun i u hu => ?_) (lawFnRecTop x0)
  match i, hu with
  | 0, hu => cases hu; exact hx0

theorem recTop_holds : Rows.FnRecTopSaid :=
  OpenClaim.holds_of_wide 10 Try.f10 rfl rfl rfl rfl rfl rfl rfl ⟨rfl, rfl, rfl, rfl, rfl⟩ rfl rfl rfl rfl rfl (by kernel_rfl) Try.func10 (by kernel_rfl)
    (of_decide_eq_true (by kernel_rfl)) (by unfold Func.isWrapper; first | (rw [if_pos (by decide +kernel)]; kernel_rfl) | (rw [if_neg (by decide +kernel)]; exact ⟨rfl, rfl⟩))
    (fun os started H enc _ => recTop_lifted os started H enc)

end Go.Proofs.Ytkmacjdigkaabaa
