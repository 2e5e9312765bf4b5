/- The law FnExactRunOpen of the program returns true whatever its arguments, and each argument reads afterwards as it read before. No condition. -/
import Derived.Test.YtnedadngbhndkaaFv
import Derived.Test.YtnedadngbhndkaacRunOpen
import Derived.Test.YtnedadngbhndkaaChecked
import Derived.Test.YtnedadngbhndkaaRows
set_option linter.unusedVariables false
set_option linter.unusedSimpArgs false
set_option linter.unnecessarySimpa false
set_option maxRecDepth 100000
namespace Go.Proofs.Ytnedadngbhndkaa
open Go Go.Mh Go.ChangeShapes Go.WideShapes Go.ChangeAt Go.RowKit

theorem Rd.fz {t : TypeId} {α : Type} {tr : α → T} (h : Rd Try.prog t α (fun l => [tr l])) : Rd Try.prog t α (fun l => [.fz (tr l)]) where
  len := h.len
  rd := fun hh => by
    obtain ⟨v, h1, h2⟩ := h.rd hh
    refine ⟨v, h1, fun j t' hj => ?_⟩
    cases j with
    | zero => cases hj; exact .fz (h2 0 _ rfl)
    | succ j => simp at hj
theorem ownK : ownKnob Try.prog.godebug = none := by kernel_rfl
theorem laidK : laidOutB Try.prog = true := by kernel_rfl
theorem rd9 : Rd Try.prog 9 Str (fun n => [.str n]) := Rd.str Try.underlying9 (by kernel_rfl)
theorem rd28 : Rd Try.prog 28 (List Str) (fun l => [strs l]) := Rd.slice rd9 Try.underlying28 (by kernel_rfl) (by kernel_rfl) (by decide)
theorem arg28 : Arg Try.prog 28 (List Str) (fun l => .one (strs l)) := Arg.one rd28 (noAgg_sl Try.underlying28)

theorem runOpen_lifted (os : Os) (started : os.Started) (H : Type) (enc : TypeId × Value → H) :
    ReturnsInHanded {} Try.checked os 4 .any (Rows.fnExactRunOpenSpec.pre6 enc Try.prog Try.f4 Rows.fnExactRunOpenRow.domain false) (Rows.fnExactRunOpenSpec.post enc Try.prog Try.f4 false true false false) := by
  refine returnsInHanded_of_change (C := Try.checked) ownK started (by kernel_rfl) Try.func4
    (ChangeSpec.witness6 (enc := enc) (C := Try.checked) false ⟨#[], #[.slice none 0 0], []⟩ 8 (by kernel_rfl) (by kernel_rfl) (by kernel_rfl) (by kernel_rfl)) ?_
  intro W base args ds gs before hval0 hW hcnd _
  have hval : ∀ (j : Nat) t v, Try.f4.params[j]? = some t → args[j]? = some v → Value.okWide Try.prog W .any base t v := hval0
  have hW0 : DataW.Whole enc Try.prog Try.f4.params.toList Rows.fnExactRunOpenSpec.vars false W args.toList ds gs before := hW
  obtain ⟨p, q, hA, hV, hpq, hfz, hnd⟩ := hW
  obtain ⟨rfl, rfl⟩ := trodVars_none hV
  have hA' : DataW.TrodAll enc Try.prog W 0 (fun _ => true) true Try.f4.params.toList args.toList ds p := hA
  rw [Try.params4] at hA' hval
  obtain ⟨v0, d0, rfl, rfl, h0⟩ := trodAll_one hA'
  obtain ⟨x0, hx0⟩ := arg28.get (hval 0 28 v0 rfl rfl) h0
  refine law_post laidK (by rw [Try.params4]; kernel_rfl) rfl Try.underlying4 rfl rfl rfl rfl hW0 (pvs := [.one (strs x0)]) rfl (fun i u hu => ?_) (lawRunOpen x0)
  match i, hu with
  | 0, hu => cases hu; exact hx0

theorem runOpen_holds : Rows.FnExactRunOpenSaid :=
  OpenClaim.holds_of_wide 4 Try.f4 rfl rfl rfl rfl rfl rfl rfl ⟨rfl, rfl, rfl, rfl, rfl⟩ rfl rfl rfl rfl rfl (by kernel_rfl) Try.func4 (by kernel_rfl)
    (of_decide_eq_true (by kernel_rfl)) (by unfold Func.isWrapper; first | (rw [if_pos (by decide +kernel)]; kernel_rfl) | (rw [if_neg (by decide +kernel)]; exact ⟨rfl, rfl⟩))
    (fun os started H enc _ => runOpen_lifted os started H enc)

end Go.Proofs.Ytnedadngbhndkaa
