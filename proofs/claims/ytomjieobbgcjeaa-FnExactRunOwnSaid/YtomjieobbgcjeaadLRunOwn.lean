/- The law FnExactRunOwn of the program returns true whatever its arguments, and each argument reads afterwards as it read before. No condition. -/
import Derived.Test.YtomjieobbgcjeaaFv
import Derived.Test.YtomjieobbgcjeaadLaws8
import Derived.Test.YtomjieobbgcjeaaChecked
import Derived.Test.YtomjieobbgcjeaaRows
set_option linter.unusedVariables false
set_option linter.unusedSimpArgs false
set_option linter.unnecessarySimpa false
set_option maxRecDepth 100000
namespace Go.Proofs.Ytomjieobbgcjeaa
open Go Go.Mh Go.ChangeShapes Go.WideShapes Go.ChangeAt Go.RowKit

theorem Rd.fz {t : TypeId} {α : Type} {tr : α → T} (h : Rd Try.prog t α (fun l => [tr l])) : Rd Try.prog t α (fun l => [.fz (tr l)]) where
  len := h.len
  rd := fun hh => by
    obtain ⟨v, h1, h2⟩ := h.rd hh
    refine ⟨v, h1, fun j t' hj => ?_⟩
    cases j with
    | zero => cases hj; exact .fz (h2 0 _ rfl)
    | succ j => simp at hj
theorem ownK : ownKnob Try.prog.godebug = none := by kernel_rfl
theorem laidK : laidOutB Try.prog = true := by kernel_rfl
theorem rd9 : Rd Try.prog 9 Str (fun n => [.str n]) := Rd.str Try.underlying9 (by kernel_rfl)
theorem rd3 : Rd Try.prog 3 Int (fun n => [.int .i64 n]) := Rd.int Try.underlying3 (by kernel_rfl)
theorem rd155z : Rd Try.prog 155 Ph Ph.cells :=
  Rd.struct (m := 8) Try.underlying155 (by kernel_rfl) (.cons (m := 1) rd9 rfl (by kernel_rfl) (.cons (m := 1) rd3 rfl (by kernel_rfl) (.cons (m := 1) rd9 rfl (by kernel_rfl) (.cons (m := 1) rd9 rfl (by kernel_rfl) (.cons (m := 1) rd3 rfl (by kernel_rfl) (.cons (m := 1) rd3 rfl (by kernel_rfl) (.cons (m := 1) rd9 rfl (by kernel_rfl) (.cons (m := 1) rd9 rfl (by kernel_rfl) .nil)))))))) (by kernel_rfl) (fun v => ⟨v.1, v.2.1, v.2.2.1, v.2.2.2.1, v.2.2.2.2.1, v.2.2.2.2.2.1, v.2.2.2.2.2.2.1, v.2.2.2.2.2.2.2.1⟩) (fun _ => rfl) (fun _ => rfl)
theorem rd70 : Rd Try.prog 70 (List Ph) (fun l => [phs 155 l]) := Rd.slice rd155z Try.underlying70 (by kernel_rfl) (by kernel_rfl) (by decide)
theorem rd158z : Rd Try.prog 158 Slt Slt.cells :=
  Rd.struct (m := 2) Try.underlying158 (by kernel_rfl) (.cons (m := 1) rd9 rfl (by kernel_rfl) (.cons (m := 1) rd9 rfl (by kernel_rfl) .nil)) (by kernel_rfl) (fun v => ⟨v.1, v.2.1⟩) (fun _ => rfl) (fun _ => rfl)
theorem rd71 : Rd Try.prog 71 (List Slt) (fun l => [slts 158 l]) := Rd.slice rd158z Try.underlying71 (by kernel_rfl) (by kernel_rfl) (by decide)
theorem rd73 : Rd Try.prog 73 Rb (Rb.cells 155 158) :=
  Rd.struct (m := 6) Try.underlying73 (by kernel_rfl) (.cons (m := 1) rd9 rfl (by kernel_rfl) (.cons (m := 1) rd70 rfl (by kernel_rfl) (.cons (m := 1) rd71 rfl (by kernel_rfl) (.cons (m := 1) rd9 rfl (by kernel_rfl) (.cons (m := 1) rd3 rfl (by kernel_rfl) (.cons (m := 1) rd3 rfl (by kernel_rfl) .nil)))))) (by kernel_rfl) (fun v => ⟨v.1, v.2.1, v.2.2.1, v.2.2.2.1, v.2.2.2.2.1, v.2.2.2.2.2.1⟩) (fun _ => rfl) (fun _ => rfl)
theorem arg73 : Arg Try.prog 73 Rb (fun l => .agg ((Rb.cells 155 158) l)) := Arg.agg rd73 Try.underlying73

theorem runOwn_lifted (os : Os) (started : os.Started) (H : Type) (enc : TypeId × Value → H) :
    ReturnsInHanded {} Try.checked os 12 .any (Rows.fnExactRunOwnSpec.pre6 enc Try.prog Try.f12 Rows.fnExactRunOwnRow.domain false) (Rows.fnExactRunOwnSpec.post enc Try.prog Try.f12 false true false false) := by
  refine returnsInHanded_of_change (C := Try.checked) ownK started (by kernel_rfl) Try.func12
    (ChangeSpec.witness6 (enc := enc) (C := Try.checked) false ⟨#[], #[.agg #[.string ⟨#[]⟩, .slice none 0 0, .slice none 0 0, .string ⟨#[]⟩, .int .i64 0, .int .i64 0]], []⟩ 8 (by kernel_rfl) (by kernel_rfl) (by kernel_rfl) (by kernel_rfl)) ?_
  intro W base args ds gs before hval0 hW hcnd _
  have hval : ∀ (j : Nat) t v, Try.f12.params[j]? = some t → args[j]? = some v → Value.okWide Try.prog W .any base t v := hval0
  have hW0 : DataW.Whole enc Try.prog Try.f12.params.toList Rows.fnExactRunOwnSpec.vars false W args.toList ds gs before := hW
  obtain ⟨p, q, hA, hV, hpq, hfz, hnd⟩ := hW
  obtain ⟨rfl, rfl⟩ := trodVars_none hV
  have hA' : DataW.TrodAll enc Try.prog W 0 (fun _ => true) true Try.f12.params.toList args.toList ds p := hA
  rw [Try.params12] at hA' hval
  obtain ⟨v0, d0, rfl, rfl, h0⟩ := trodAll_one hA'
  obtain ⟨x0, hx0⟩ := arg73.get (hval 0 73 v0 rfl rfl) h0
  refine law_post laidK (by rw [Try.params12]; kernel_rfl) rfl Try.underlying4 rfl rfl rfl rfl hW0 (pvs := [.agg ((Rb.cells 155 158) x0)]) rfl (fun i u hu => ?_) (lawRunOwn x0)
  match i, hu with
  | 0, hu => cases hu; exact hx0

theorem runOwn_holds : Rows.FnExactRunOwnSaid :=
  OpenClaim.holds_of_wide 12 Try.f12 rfl rfl rfl rfl rfl rfl rfl ⟨rfl, rfl, rfl, rfl, rfl⟩ rfl rfl rfl rfl rfl (by kernel_rfl) Try.func12 (by kernel_rfl)
    (of_decide_eq_true (by kernel_rfl)) (by unfold Func.isWrapper; first | (rw [if_pos (by decide +kernel)]; kernel_rfl) | (rw [if_neg (by decide +kernel)]; exact ⟨rfl, rfl⟩))
    (fun os started H enc _ => runOwn_lifted os started H enc)

end Go.Proofs.Ytomjieobbgcjeaa
