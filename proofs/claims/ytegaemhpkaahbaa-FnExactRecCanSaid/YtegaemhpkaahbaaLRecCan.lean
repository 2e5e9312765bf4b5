/- The law FnExactRecCan of the program returns true whatever its arguments, and each argument reads afterwards as it read before. No condition. -/
import Derived.Test.YtegaemhpkaahbaaFv
import Derived.Test.YtegaemhpkaahbaaRec
import Derived.Test.YtegaemhpkaahbaaChecked
import Derived.Test.YtegaemhpkaahbaaRows
set_option linter.unusedVariables false
set_option linter.unusedSimpArgs false
set_option linter.unnecessarySimpa false
set_option maxRecDepth 100000
namespace Go.Proofs.Ytegaemhpkaahbaa
open Go Go.Mh Go.ChangeShapes Go.WideShapes Go.ChangeAt Go.RowKit

theorem ownK : ownKnob Try.prog.godebug = none := by kernel_rfl
theorem laidK : laidOutB Try.prog = true := by kernel_rfl
theorem rdStr : Rd Try.prog 9 Str (fun s => [.str s]) := Rd.str Try.underlying9 (by kernel_rfl)
theorem rdInt : Rd Try.prog 3 Int (fun n => [.int .i64 n]) := Rd.int Try.underlying3 (by kernel_rfl)
theorem rdPh : Rd Try.prog 67 Ph Ph.cells :=
  Rd.struct (m := 8) Try.underlying67 (by kernel_rfl)
    (.cons (m := 1) rdStr rfl (by kernel_rfl) (.cons (m := 1) rdInt rfl (by kernel_rfl) (.cons (m := 1) rdStr rfl (by kernel_rfl) (.cons (m := 1) rdStr rfl (by kernel_rfl) (.cons (m := 1) rdInt rfl (by kernel_rfl) (.cons (m := 1) rdInt rfl (by kernel_rfl) (.cons (m := 1) rdStr rfl (by kernel_rfl) (.cons (m := 1) rdStr rfl (by kernel_rfl) .nil))))))))
    (by kernel_rfl) (fun v => ⟨v.1, v.2.1, v.2.2.1, v.2.2.2.1, v.2.2.2.2.1, v.2.2.2.2.2.1, v.2.2.2.2.2.2.1, v.2.2.2.2.2.2.2.1⟩) (fun _ => rfl) (fun _ => rfl)
theorem rdPhs : Rd Try.prog 22 (List Ph) (fun l => [phs 67 l]) := Rd.slice rdPh Try.underlying22 (by kernel_rfl) (by kernel_rfl) (by decide)
theorem arg22 : Arg Try.prog 22 (List Ph) (fun l => .one (phs 67 l)) := Arg.one rdPhs (noAgg_sl Try.underlying22)
theorem arg9 : Arg Try.prog 9 Str (fun s => .one (.str s)) := Arg.one rdStr (noAgg_str Try.underlying9)
theorem arg3 : Arg Try.prog 3 Int (fun n => .one (.int .i64 n)) := Arg.one rdInt (noAgg_int Try.underlying3)

theorem recCan_lifted (os : Os) (started : os.Started) (H : Type) (enc : TypeId × Value → H) :
    ReturnsInHanded {} Try.checked os 3 .any (Rows.fnExactRecCanSpec.pre6 enc Try.prog Try.f3 Rows.fnExactRecCanRow.domain false) (Rows.fnExactRecCanSpec.post enc Try.prog Try.f3 false true false false) := by
  refine returnsInHanded_of_change (C := Try.checked) ownK started (by kernel_rfl) Try.func3
    (ChangeSpec.witness6 (enc := enc) (C := Try.checked) false ⟨#[], #[.slice none 0 0, .string ⟨#[]⟩, .int .i64 0], []⟩ 8 (by kernel_rfl) (by kernel_rfl) (by kernel_rfl) (by kernel_rfl)) ?_
  intro W base args ds gs before hval0 hW hcnd _
  have hval : ∀ (j : Nat) t v, Try.f3.params[j]? = some t → args[j]? = some v → Value.okWide Try.prog W .any base t v := hval0
  have hW0 : DataW.Whole enc Try.prog Try.f3.params.toList Rows.fnExactRecCanSpec.vars false W args.toList ds gs before := hW
  obtain ⟨p, q, hA, hV, hpq, hfz, hnd⟩ := hW
  obtain ⟨rfl, rfl⟩ := trodVars_none hV
  have hA' : DataW.TrodAll enc Try.prog W 0 (fun _ => true) true Try.f3.params.toList args.toList ds p := hA
  rw [Try.params3] at hA' hval
  obtain ⟨v0, v1, v2, d0, d1, d2, p0, p1, p2, rfl, rfl, rfl, h0, h1, h2⟩ := trodAll_three hA'
  obtain ⟨x0, hx0⟩ := arg22.get (hval 0 22 v0 rfl rfl) h0
  obtain ⟨x1, hx1⟩ := arg9.get (hval 1 9 v1 rfl rfl) h1
  obtain ⟨x2, hx2⟩ := arg3.get (hval 2 3 v2 rfl rfl) h2
  refine law_post laidK (by rw [Try.params3]; kernel_rfl) rfl Try.underlying4 rfl rfl rfl rfl hW0 (pvs := [.one (phs 67 x0), .one (.str x1), .one (.int .i64 x2)]) rfl (fun i u hu => ?_) (lawRecCan x0 x1 x2)
  match i, hu with
  | 0, hu => cases hu; exact hx0
  | 1, hu => cases hu; exact hx1
  | 2, hu => cases hu; exact hx2

theorem recCan_holds : Rows.FnExactRecCanSaid :=
  OpenClaim.holds_of_wide 3 Try.f3 rfl rfl rfl rfl rfl rfl rfl ⟨rfl, rfl, rfl, rfl, rfl⟩ rfl rfl rfl rfl rfl (by kernel_rfl) Try.func3 (by kernel_rfl)
    (of_decide_eq_true (by kernel_rfl)) (by unfold Func.isWrapper; first | (rw [if_pos (by decide +kernel)]; kernel_rfl) | (rw [if_neg (by decide +kernel)]; exact ⟨rfl, rfl⟩))
    (fun os started H enc _ => recCan_lifted os started H enc)

end Go.Proofs.Ytegaemhpkaahbaa
