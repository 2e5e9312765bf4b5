/- The law FnExactShareAsk of the program returns true whatever its arguments, and each argument reads afterwards as it read before. No condition. -/
import Derived.Test.YtnedadngbhndkaaFv
import Derived.Test.YtnedadngbhndkaacLaws7
import Derived.Test.YtnedadngbhndkaaChecked
import Derived.Test.YtnedadngbhndkaaRows
set_option linter.unusedVariables false
set_option linter.unusedSimpArgs false
set_option linter.unnecessarySimpa false
set_option maxRecDepth 100000
namespace Go.Proofs.Ytnedadngbhndkaa
open Go Go.Mh Go.ChangeShapes Go.WideShapes Go.ChangeAt Go.RowKit

theorem Rd.fz {t : TypeId} {α : Type} {tr : α → T} (h : Rd Try.prog t α (fun l => [tr l])) : Rd Try.prog t α (fun l => [.fz (tr l)]) where
  len := h.len
  rd := fun hh => by
    obtain ⟨v, h1, h2⟩ := h.rd hh
    refine ⟨v, h1, fun j t' hj => ?_⟩
    cases j with
    | zero => cases hj; exact .fz (h2 0 _ rfl)
    | succ j => simp at hj
theorem ownK : ownKnob Try.prog.godebug = none := by kernel_rfl
theorem laidK : laidOutB Try.prog = true := by kernel_rfl
theorem rd9 : Rd Try.prog 9 Str (fun n => [.str n]) := Rd.str Try.underlying9 (by kernel_rfl)
theorem rd28 : Rd Try.prog 28 (List Str) (fun l => [strs l]) := Rd.slice rd9 Try.underlying28 (by kernel_rfl) (by kernel_rfl) (by decide)
theorem rd120z : Rd Try.prog 120 Bt Bt.zcells :=
  Rd.struct (m := 3) Try.underlying120 (by kernel_rfl) (.cons (m := 1) rd9 rfl (by kernel_rfl) (.cons (m := 1) (Rd.fz rd28) rfl (by kernel_rfl) (.cons (m := 1) (Rd.fz rd28) rfl (by kernel_rfl) .nil))) (by kernel_rfl) (fun v => ⟨v.1, v.2.1, v.2.2.1⟩) (fun _ => rfl) (fun _ => rfl)
theorem rd56 : Rd Try.prog 56 (List Bt) (fun l => [bts 120 l]) := Rd.slice rd120z Try.underlying56 (by kernel_rfl) (by kernel_rfl) (by decide)
theorem rd58 : Rd Try.prog 58 Bk (Bk.cells 120) :=
  Rd.struct (m := 2) Try.underlying58 (by kernel_rfl) (.cons (m := 1) rd28 rfl (by kernel_rfl) (.cons (m := 1) rd56 rfl (by kernel_rfl) .nil)) (by kernel_rfl) (fun v => ⟨v.1, v.2.1⟩) (fun _ => rfl) (fun _ => rfl)
theorem arg58 : Arg Try.prog 58 Bk (fun l => .agg ((Bk.cells 120) l)) := Arg.agg rd58 Try.underlying58
theorem arg9 : Arg Try.prog 9 Str (fun l => .one (.str l)) := Arg.one rd9 (noAgg_str Try.underlying9)
theorem arg28 : Arg Try.prog 28 (List Str) (fun l => .one (strs l)) := Arg.one rd28 (noAgg_sl Try.underlying28)

theorem shareAsk_lifted (os : Os) (started : os.Started) (H : Type) (enc : TypeId × Value → H) :
    ReturnsInHanded {} Try.checked os 6 .any (Rows.fnExactShareAskSpec.pre6 enc Try.prog Try.f6 Rows.fnExactShareAskRow.domain false) (Rows.fnExactShareAskSpec.post enc Try.prog Try.f6 false true false false) := by
  refine returnsInHanded_of_change (C := Try.checked) ownK started (by kernel_rfl) Try.func6
    (ChangeSpec.witness6 (enc := enc) (C := Try.checked) false ⟨#[], #[.agg #[.slice none 0 0, .slice none 0 0], .string ⟨#[]⟩, .slice none 0 0], []⟩ 8 (by kernel_rfl) (by kernel_rfl) (by kernel_rfl) (by kernel_rfl)) ?_
  intro W base args ds gs before hval0 hW hcnd _
  have hval : ∀ (j : Nat) t v, Try.f6.params[j]? = some t → args[j]? = some v → Value.okWide Try.prog W .any base t v := hval0
  have hW0 : DataW.Whole enc Try.prog Try.f6.params.toList Rows.fnExactShareAskSpec.vars false W args.toList ds gs before := hW
  obtain ⟨p, q, hA, hV, hpq, hfz, hnd⟩ := hW
  obtain ⟨rfl, rfl⟩ := trodVars_none hV
  have hA' : DataW.TrodAll enc Try.prog W 0 (fun _ => true) true Try.f6.params.toList args.toList ds p := hA
  rw [Try.params6] at hA' hval
  obtain ⟨v0, v1, v2, d0, d1, d2, p0, p1, p2, rfl, rfl, rfl, h0, h1, h2⟩ := trodAll_three hA'
  obtain ⟨x0, hx0⟩ := arg58.get (hval 0 58 v0 rfl rfl) h0
  obtain ⟨x1, hx1⟩ := arg9.get (hval 1 9 v1 rfl rfl) h1
  obtain ⟨x2, hx2⟩ := arg28.get (hval 2 28 v2 rfl rfl) h2
  refine law_post laidK (by rw [Try.params6]; kernel_rfl) rfl Try.underlying4 rfl rfl rfl rfl hW0 (pvs := [.agg ((Bk.cells 120) x0), .one (.str x1), .one (strs x2)]) rfl (fun i u hu => ?_) (lawShareAsk x0 x1 x2)
  match i, hu with
  | 0, hu => cases hu; exact hx0
  | 1, hu => cases hu; exact hx1
  | 2, hu => cases hu; exact hx2

theorem shareAsk_holds : Rows.FnExactShareAskSaid :=
  OpenClaim.holds_of_wide 6 Try.f6 rfl rfl rfl rfl rfl rfl rfl ⟨rfl, rfl, rfl, rfl, rfl⟩ rfl rfl rfl rfl rfl (by kernel_rfl) Try.func6 (by kernel_rfl)
    (of_decide_eq_true (by kernel_rfl)) (by unfold Func.isWrapper; first | (rw [if_pos (by decide +kernel)]; kernel_rfl) | (rw [if_neg (by decide +kernel)]; exact ⟨rfl, rfl⟩))
    (fun os started H enc _ => shareAsk_lifted os started H enc)

end Go.Proofs.Ytnedadngbhndkaa
