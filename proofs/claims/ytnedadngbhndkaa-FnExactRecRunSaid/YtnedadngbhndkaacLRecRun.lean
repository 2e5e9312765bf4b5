/- The law FnExactRecRun of the program returns true whatever its arguments, and each argument reads afterwards as it read before. No condition. -/
import Derived.Test.YtnedadngbhndkaaFv
import Derived.Test.YtnedadngbhndkaacLaws5
import Derived.Test.YtnedadngbhndkaaChecked
import Derived.Test.YtnedadngbhndkaaRows
set_option linter.unusedVariables false
set_option linter.unusedSimpArgs false
set_option linter.unnecessarySimpa false
set_option maxRecDepth 100000
namespace Go.Proofs.Ytnedadngbhndkaa
open Go Go.Mh Go.ChangeShapes Go.WideShapes Go.ChangeAt Go.RowKit

theorem ownK : ownKnob Try.prog.godebug = none := by kernel_rfl
theorem laidK : laidOutB Try.prog = true := by kernel_rfl
theorem rdStr : Rd Try.prog 9 Str (fun s => [.str s]) := Rd.str Try.underlying9 (by kernel_rfl)
theorem rdInt : Rd Try.prog 3 Int (fun n => [.int .i64 n]) := Rd.int Try.underlying3 (by kernel_rfl)
theorem rdPh : Rd Try.prog 68 Ph Ph.cells :=
  Rd.struct (m := 8) Try.underlying68 (by kernel_rfl)
    (.cons (m := 1) rdStr rfl (by kernel_rfl) (.cons (m := 1) rdInt rfl (by kernel_rfl) (.cons (m := 1) rdStr rfl (by kernel_rfl) (.cons (m := 1) rdStr rfl (by kernel_rfl) (.cons (m := 1) rdInt rfl (by kernel_rfl) (.cons (m := 1) rdInt rfl (by kernel_rfl) (.cons (m := 1) rdStr rfl (by kernel_rfl) (.cons (m := 1) rdStr rfl (by kernel_rfl) .nil))))))))
    (by kernel_rfl) (fun v => ⟨v.1, v.2.1, v.2.2.1, v.2.2.2.1, v.2.2.2.2.1, v.2.2.2.2.2.1, v.2.2.2.2.2.2.1, v.2.2.2.2.2.2.2.1⟩) (fun _ => rfl) (fun _ => rfl)
theorem rdPhs : Rd Try.prog 22 (List Ph) (fun l => [phs 68 l]) := Rd.slice rdPh Try.underlying22 (by kernel_rfl) (by kernel_rfl) (by decide)
theorem arg22 : Arg Try.prog 22 (List Ph) (fun l => .one (phs 68 l)) := Arg.one rdPhs (noAgg_sl Try.underlying22)

theorem rdBool : Rd Try.prog 4 Bool (fun b => [.bool b]) := Rd.bool Try.underlying4 (by kernel_rfl)
theorem rdSay : Rd Try.prog 79 Say Say.cells :=
  Rd.struct (m := 2) Try.underlying79 (by kernel_rfl) (.cons (m := 1) rdInt rfl (by kernel_rfl) (.cons (m := 1) rdBool rfl (by kernel_rfl) .nil))
    (by kernel_rfl) (fun v => ⟨v.1, v.2.1⟩) (fun _ => rfl) (fun _ => rfl)
theorem rdSays : Rd Try.prog 23 (List Say) (fun l => [says 79 l]) := Rd.slice rdSay Try.underlying23 (by kernel_rfl) (by kernel_rfl) (by decide)
theorem arg23 : Arg Try.prog 23 (List Say) (fun l => .one (says 79 l)) := Arg.one rdSays (noAgg_sl Try.underlying23)

theorem recRun_lifted (os : Os) (started : os.Started) (H : Type) (enc : TypeId × Value → H) :
    ReturnsInHanded {} Try.checked os 3 .any (Rows.fnExactRecRunSpec.pre6 enc Try.prog Try.f3 Rows.fnExactRecRunRow.domain false) (Rows.fnExactRecRunSpec.post enc Try.prog Try.f3 false true false false) := by
  refine returnsInHanded_of_change (C := Try.checked) ownK started (by kernel_rfl) Try.func3
    (ChangeSpec.witness6 (enc := enc) (C := Try.checked) false ⟨#[], #[.slice none 0 0, .slice none 0 0], []⟩ 8 (by kernel_rfl) (by kernel_rfl) (by kernel_rfl) (by kernel_rfl)) ?_
  intro W base args ds gs before hval0 hW hcnd _
  have hval : ∀ (j : Nat) t v, Try.f3.params[j]? = some t → args[j]? = some v → Value.okWide Try.prog W .any base t v := hval0
  have hW0 : DataW.Whole enc Try.prog Try.f3.params.toList Rows.fnExactRecRunSpec.vars false W args.toList ds gs before := hW
  obtain ⟨p, q, hA, hV, hpq, hfz, hnd⟩ := hW
  obtain ⟨rfl, rfl⟩ := trodVars_none hV
  have hA' : DataW.TrodAll enc Try.prog W 0 (fun _ => true) true Try.f3.params.toList args.toList ds p := hA
  rw [Try.params3] at hA' hval
  obtain ⟨v0, v1, d0, d1, p0, p1, rfl, rfl, rfl, h0, h1⟩ := trodAll_two hA'
  obtain ⟨x0, hx0⟩ := arg22.get (hval 0 22 v0 rfl rfl) h0
  obtain ⟨x1, hx1⟩ := arg23.get (hval 1 23 v1 rfl rfl) h1
  refine law_post laidK (by rw [Try.params3]; kernel_rfl) rfl Try.underlying4 rfl rfl rfl rfl hW0 (pvs := [.one (phs 68 x0), .one (says 79 x1)]) rfl (fun i u hu => ?_) (lawRecRun x0 x1)
  match i, hu with
  | 0, hu => cases hu; exact hx0
  | 1, hu => cases hu; exact hx1

theorem recRun_holds : Rows.FnExactRecRunSaid :=
  OpenClaim.holds_of_wide 3 Try.f3 rfl rfl rfl rfl rfl rfl rfl ⟨rfl, rfl, rfl, rfl, rfl⟩ rfl rfl rfl rfl rfl (by kernel_rfl) Try.func3 (by kernel_rfl)
    (of_decide_eq_true (by kernel_rfl)) (by unfold Func.isWrapper; first | (rw [if_pos (by decide +kernel)]; kernel_rfl) | (rw [if_neg (by decide +kernel)]; exact ⟨rfl, rfl⟩))
    (fun os started H enc _ => recRun_lifted os started H enc)

end Go.Proofs.Ytnedadngbhndkaa
