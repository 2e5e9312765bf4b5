/- The law FnExactShareLess of the program returns true whatever its arguments, and each argument reads afterwards as it read before. No condition. -/
import Derived.Test.YtegaemhpkaahbaaLaws4
import Derived.Test.YtegaemhpkaahbaaChecked
import Derived.Test.YtegaemhpkaahbaaRows
set_option linter.unusedVariables false
set_option linter.unusedSimpArgs false
set_option linter.unnecessarySimpa false
set_option maxRecDepth 100000
namespace Go.Proofs.Ytegaemhpkaahbaa
open Go Go.Mh Go.ChangeShapes Go.WideShapes Go.ChangeAt Go.RowKit

theorem Rd.fz {P : Program} {t : TypeId} {α : Type} {x : α → T} (h : Rd P t α (fun v => [x v])) : Rd P t α (fun v => [.fz (x v)]) where
  len := h.len
  rd := fun hh => by
    obtain ⟨v, h1, h2⟩ := h.rd hh
    refine ⟨v, h1, fun j t' hj => ?_⟩
    cases j with
    | zero => cases hj; exact .fz (h2 0 _ rfl)
    | succ j => simp at hj

theorem ownK : ownKnob Try.prog.godebug = none := by kernel_rfl
theorem laidK : laidOutB Try.prog = true := by kernel_rfl
theorem rdStr : Rd Try.prog 9 Str (fun s => [.str s]) := Rd.str Try.underlying9 (by kernel_rfl)
theorem rdInt : Rd Try.prog 3 Int (fun n => [.int .i64 n]) := Rd.int Try.underlying3 (by kernel_rfl)
theorem rdStrs : Rd Try.prog 29 (List Str) (fun l => [strs l]) := Rd.slice rdStr Try.underlying29 (by kernel_rfl) (by kernel_rfl) (by decide)
theorem rdBt : Rd Try.prog 97 Bt Bt.zcells :=
  Rd.struct (m := 3) Try.underlying97 (by kernel_rfl) (.cons (m := 1) rdStr rfl (by kernel_rfl) (.cons (m := 1) (Rd.fz rdStrs) rfl (by kernel_rfl) (.cons (m := 1) (Rd.fz rdStrs) rfl (by kernel_rfl) .nil)))
    (by kernel_rfl) (fun v => ⟨v.1, v.2.1, v.2.2.1⟩) (fun _ => rfl) (fun _ => rfl)
theorem rdBts : Rd Try.prog 30 (List Bt) (fun l => [bts 97 l]) := Rd.slice rdBt Try.underlying30 (by kernel_rfl) (by kernel_rfl) (by decide)
theorem rdBk : Rd Try.prog 32 Bk (Bk.cells 97) :=
  Rd.struct (m := 2) Try.underlying32 (by kernel_rfl) (.cons (m := 1) rdStrs rfl (by kernel_rfl) (.cons (m := 1) rdBts rfl (by kernel_rfl) .nil))
    (by kernel_rfl) (fun v => ⟨v.1, v.2.1⟩) (fun _ => rfl) (fun _ => rfl)
theorem arg32 : Arg Try.prog 32 Bk (fun l => .agg (l.cells 97)) := Arg.agg rdBk Try.underlying32

theorem arg9 : Arg Try.prog 9 Str (fun s => .one (.str s)) := Arg.one rdStr (noAgg_str Try.underlying9)
theorem arg3 : Arg Try.prog 3 Int (fun n => .one (.int .i64 n)) := Arg.one rdInt (noAgg_int Try.underlying3)
theorem arg29 : Arg Try.prog 29 (List Str) (fun l => .one (strs l)) := Arg.one rdStrs (noAgg_sl Try.underlying29)

theorem shareLess_lifted (os : Os) (started : os.Started) (H : Type) (enc : TypeId × Value → H) :
    ReturnsInHanded {} Try.checked os 14 .any (Rows.fnExactShareLessSpec.pre6 enc Try.prog Try.f14 Rows.fnExactShareLessRow.domain false) (Rows.fnExactShareLessSpec.post enc Try.prog Try.f14 false true false false) := by
  refine returnsInHanded_of_change (C := Try.checked) ownK started (by kernel_rfl) Try.func14
    (ChangeSpec.witness6 (enc := enc) (C := Try.checked) false ⟨#[], #[.agg #[.slice none 0 0, .slice none 0 0], .string ⟨#[]⟩, .slice none 0 0], []⟩ 8 (by kernel_rfl) (by kernel_rfl) (by kernel_rfl) (by kernel_rfl)) ?_
  intro W base args ds gs before hval0 hW hcnd _
  have hval : ∀ (j : Nat) t v, Try.f14.params[j]? = some t → args[j]? = some v → Value.okWide Try.prog W .any base t v := hval0
  have hW0 : DataW.Whole enc Try.prog Try.f14.params.toList Rows.fnExactShareLessSpec.vars false W args.toList ds gs before := hW
  obtain ⟨p, q, hA, hV, hpq, hfz, hnd⟩ := hW
  obtain ⟨rfl, rfl⟩ := trodVars_none hV
  have hA' : DataW.TrodAll enc Try.prog W 0 (fun _ => true) true Try.f14.params.toList args.toList ds p := hA
  rw [Try.params14] at hA' hval
  obtain ⟨v0, v1, v2, d0, d1, d2, p0, p1, p2, rfl, rfl, rfl, h0, h1, h2⟩ := trodAll_three hA'
  obtain ⟨x0, hx0⟩ := arg32.get (hval 0 32 v0 rfl rfl) h0
  obtain ⟨x1, hx1⟩ := arg9.get (hval 1 9 v1 rfl rfl) h1
  obtain ⟨x2, hx2⟩ := arg29.get (hval 2 29 v2 rfl rfl) h2
  refine law_post laidK (by rw [Try.params14]; kernel_rfl) rfl Try.underlying4 rfl rfl rfl rfl hW0 (pvs := [.agg (x0.cells 97), .one (.str x1), .one (strs x2)]) rfl (fun i u hu => ?_) (lawShareLess x0 x1 x2)
  match i, hu with
  | 0, hu => cases hu; exact hx0
  | 1, hu => cases hu; exact hx1
  | 2, hu => cases hu; exact hx2

theorem shareLess_holds : Rows.FnExactShareLessSaid :=
  OpenClaim.holds_of_wide 14 Try.f14 rfl rfl rfl rfl rfl rfl rfl ⟨rfl, rfl, rfl, rfl, rfl⟩ rfl rfl rfl rfl rfl (by kernel_rfl) Try.func14 (by kernel_rfl)
    (of_decide_eq_true (by kernel_rfl)) (by unfold Func.isWrapper; first | (rw [if_pos (by decide +kernel)]; kernel_rfl) | (rw [if_neg (by decide +kernel)]; exact ⟨rfl, rfl⟩))
    (fun os started H enc _ => shareLess_lifted os started H enc)

end Go.Proofs.Ytegaemhpkaahbaa
