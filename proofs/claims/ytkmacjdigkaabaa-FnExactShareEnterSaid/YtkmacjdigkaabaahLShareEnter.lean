/- The law FnExactShareEnter of the program returns true whatever its arguments, and each argument reads afterwards as it read before. No condition. -/
import Derived.Test.YtkmacjdigkaabaaFv
import Derived.Test.YtkmacjdigkaabaahLaws12
import Derived.Test.YtkmacjdigkaabaaChecked
import Derived.Test.YtkmacjdigkaabaaRows
set_option linter.unusedVariables false
set_option linter.unusedSimpArgs false
set_option linter.unnecessarySimpa false
set_option maxRecDepth 100000
namespace Go.Proofs.Ytkmacjdigkaabaa
open Go Go.Mh Go.ChangeShapes Go.WideShapes Go.ChangeAt Go.RowKit

theorem Rd.fz {t : TypeId} {α : Type} {tr : α → T} (h : Rd Try.prog t α (fun l => [tr l])) : Rd Try.prog t α (fun l => [.fz (tr l)]) where
  len := h.len
  rd := fun hh => by
    obtain ⟨v, h1, h2⟩ := h.rd hh
    refine ⟨v, h1, fun j t' hj => ?_⟩
    cases j with
    | zero => cases hj; exact .fz (h2 0 _ rfl)
    | succ j => simp at hj
theorem ownK : ownKnob Try.prog.godebug = none := by kernel_rfl
theorem laidK : laidOutB Try.prog = true := by kernel_rfl
theorem rd9 : Rd Try.prog 9 Str (fun n => [.str n]) := Rd.str Try.underlying9 (by kernel_rfl)
theorem rd22 : Rd Try.prog 22 (List Str) (fun l => [strs l]) := Rd.slice rd9 Try.underlying22 (by kernel_rfl) (by kernel_rfl) (by decide)
theorem rd115z : Rd Try.prog 115 Bt Bt.zcells :=
  Rd.struct (m := 3) Try.underlying115 (by kernel_rfl) (.cons (m := 1) rd9 rfl (by kernel_rfl) (.cons (m := 1) (Rd.fz rd22) rfl (by kernel_rfl) (.cons (m := 1) (Rd.fz rd22) rfl (by kernel_rfl) .nil))) (by kernel_rfl) (fun v => ⟨v.1, v.2.1, v.2.2.1⟩) (fun _ => rfl) (fun _ => rfl)
theorem rd23 : Rd Try.prog 23 (List Bt) (fun l => [bts 115 l]) := Rd.slice rd115z Try.underlying23 (by kernel_rfl) (by kernel_rfl) (by decide)
theorem rd25 : Rd Try.prog 25 Bk (Bk.cells 115) :=
  Rd.struct (m := 2) Try.underlying25 (by kernel_rfl) (.cons (m := 1) rd22 rfl (by kernel_rfl) (.cons (m := 1) rd23 rfl (by kernel_rfl) .nil)) (by kernel_rfl) (fun v => ⟨v.1, v.2.1⟩) (fun _ => rfl) (fun _ => rfl)
theorem arg25 : Arg Try.prog 25 Bk (fun l => .agg ((Bk.cells 115) l)) := Arg.agg rd25 Try.underlying25
theorem arg9 : Arg Try.prog 9 Str (fun l => .one (.str l)) := Arg.one rd9 (noAgg_str Try.underlying9)
theorem arg22 : Arg Try.prog 22 (List Str) (fun l => .one (strs l)) := Arg.one rd22 (noAgg_sl Try.underlying22)

theorem shareEnter_lifted (os : Os) (started : os.Started) (H : Type) (enc : TypeId × Value → H) :
    ReturnsInHanded {} Try.checked os 4 .any (Rows.fnExactShareEnterSpec.pre6 enc Try.prog Try.f4 Rows.fnExactShareEnterRow.domain false) (Rows.fnExactShareEnterSpec.post enc Try.prog Try.f4 false true false false) := by
  refine returnsInHanded_of_change (C := Try.checked) ownK started (by kernel_rfl) Try.func4
    (ChangeSpec.witness6 (enc := enc) (C := Try.checked) false ⟨#[], #[.agg #[.slice none 0 0, .slice none 0 0], .string ⟨#[]⟩, .slice none 0 0], []⟩ 8 (by kernel_rfl) (by kernel_rfl) (by kernel_rfl) (by kernel_rfl)) ?_
  intro W base args ds gs before hval0 hW hcnd _
  have hval : ∀ (j : Nat) t v, Try.f4.params[j]? = some t → args[j]? = some v → Value.okWide Try.prog W .any base t v := hval0
  have hW0 : DataW.Whole enc Try.prog Try.f4.params.toList Rows.fnExactShareEnterSpec.vars false W args.toList ds gs before := hW
  obtain ⟨p, q, hA, hV, hpq, hfz, hnd⟩ := hW
  obtain ⟨rfl, rfl⟩ := trodVars_none hV
  have hA' : DataW.TrodAll enc Try.prog W 0 (fun _ => true) true Try.f4.params.toList args.toList ds p := hA
  rw [Try.params4] at hA' hval
  obtain ⟨v0, v1, v2, d0, d1, d2, p0, p1, p2, rfl, rfl, rfl, h0, h1, h2⟩ := trodAll_three hA'
  obtain ⟨x0, hx0⟩ := arg25.get (hval 0 25 v0 rfl rfl) h0
  obtain ⟨x1, hx1⟩ := arg9.get (hval 1 9 v1 rfl rfl) h1
  obtain ⟨x2, hx2⟩ := arg22.get (hval 2 22 v2 rfl rfl) h2
  refine law_post laidK (by rw [Try.params4]; kernel_rfl) rfl Try.underlying4 rfl rfl rfl rfl hW0 (pvs := [.agg ((Bk.cells 115) x0), .one (.str x1), .one (strs x2)]) rfl (fun i u hu => ?_) (lawShareEnter x0 x1 x2)
  match i, hu with
  | 0, hu => cases hu; exact hx0
  | 1, hu => cases hu; exact hx1
  | 2, hu => cases hu; exact hx2

theorem shareEnter_holds : Rows.FnExactShareEnterSaid :=
  OpenClaim.holds_of_wide 4 Try.f4 rfl rfl rfl rfl rfl rfl rfl ⟨rfl, rfl, rfl, rfl, rfl⟩ rfl rfl rfl rfl rfl (by kernel_rfl) Try.func4 (by kernel_rfl)
    (of_decide_eq_true (by kernel_rfl)) (by unfold Func.isWrapper; first | (rw [if_pos (by decide +kernel)]; kernel_rfl) | (rw [if_neg (by decide +kernel)]; exact ⟨rfl, rfl⟩))
    (fun os started H enc _ => shareEnter_lifted os started H enc)

end Go.Proofs.Ytkmacjdigkaabaa
