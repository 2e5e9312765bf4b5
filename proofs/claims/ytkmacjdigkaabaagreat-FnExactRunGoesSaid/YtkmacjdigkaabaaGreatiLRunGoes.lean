/- The law FnExactRunGoes of the program returns true whatever its arguments, and each argument reads afterwards as it read before. No condition. -/
import Derived.Test.YtkmacjdigkaabaaGreatFv
import Derived.Test.YtkmacjdigkaabaaGreatiLaws10
import Derived.Test.YtkmacjdigkaabaaGreatChecked
import Derived.Test.YtkmacjdigkaabaaGreatRows
set_option linter.unusedVariables false
set_option linter.unusedSimpArgs false
set_option linter.unnecessarySimpa false
set_option maxRecDepth 100000
namespace Go.Proofs.YtkmacjdigkaabaaGreat
open Go Go.Mh Go.ChangeShapes Go.WideShapes Go.ChangeAt Go.RowKit

theorem Rd.fz {t : TypeId} {α : Type} {tr : α → T} (h : Rd Tryz.prog t α (fun l => [tr l])) : Rd Tryz.prog t α (fun l => [.fz (tr l)]) where
  len := h.len
  rd := fun hh => by
    obtain ⟨v, h1, h2⟩ := h.rd hh
    refine ⟨v, h1, fun j t' hj => ?_⟩
    cases j with
    | zero => cases hj; exact .fz (h2 0 _ rfl)
    | succ j => simp at hj
theorem ownK : ownKnob Tryz.prog.godebug = none := by kernel_rfl
theorem laidK : laidOutB Tryz.prog = true := by kernel_rfl
theorem rd3 : Rd Tryz.prog 3 Int (fun n => [.int .i64 n]) := Rd.int Tryz.underlying3 (by kernel_rfl)
theorem rd9 : Rd Tryz.prog 9 Str (fun n => [.str n]) := Rd.str Tryz.underlying9 (by kernel_rfl)
theorem rd22 : Rd Tryz.prog 22 (List Str) (fun l => [strs l]) := Rd.slice rd9 Tryz.underlying22 (by kernel_rfl) (by kernel_rfl) (by decide)
theorem rd191z : Rd Tryz.prog 191 Bt Bt.zcells :=
  Rd.struct (m := 3) Tryz.underlying191 (by kernel_rfl) (.cons (m := 1) rd9 rfl (by kernel_rfl) (.cons (m := 1) (Rd.fz rd22) rfl (by kernel_rfl) (.cons (m := 1) (Rd.fz rd22) rfl (by kernel_rfl) .nil))) (by kernel_rfl) (fun v => ⟨v.1, v.2.1, v.2.2.1⟩) (fun _ => rfl) (fun _ => rfl)
theorem rd23 : Rd Tryz.prog 23 (List Bt) (fun l => [bts 191 l]) := Rd.slice rd191z Tryz.underlying23 (by kernel_rfl) (by kernel_rfl) (by decide)
theorem rd25 : Rd Tryz.prog 25 Bk (Bk.cells 191) :=
  Rd.struct (m := 2) Tryz.underlying25 (by kernel_rfl) (.cons (m := 1) rd22 rfl (by kernel_rfl) (.cons (m := 1) rd23 rfl (by kernel_rfl) .nil)) (by kernel_rfl) (fun v => ⟨v.1, v.2.1⟩) (fun _ => rfl) (fun _ => rfl)
theorem rd229z : Rd Tryz.prog 229 Ph Ph.cells :=
  Rd.struct (m := 8) Tryz.underlying229 (by kernel_rfl) (.cons (m := 1) rd9 rfl (by kernel_rfl) (.cons (m := 1) rd3 rfl (by kernel_rfl) (.cons (m := 1) rd9 rfl (by kernel_rfl) (.cons (m := 1) rd9 rfl (by kernel_rfl) (.cons (m := 1) rd3 rfl (by kernel_rfl) (.cons (m := 1) rd3 rfl (by kernel_rfl) (.cons (m := 1) rd9 rfl (by kernel_rfl) (.cons (m := 1) rd9 rfl (by kernel_rfl) .nil)))))))) (by kernel_rfl) (fun v => ⟨v.1, v.2.1, v.2.2.1, v.2.2.2.1, v.2.2.2.2.1, v.2.2.2.2.2.1, v.2.2.2.2.2.2.1, v.2.2.2.2.2.2.2.1⟩) (fun _ => rfl) (fun _ => rfl)
theorem rd138 : Rd Tryz.prog 138 (List Ph) (fun l => [phs 229 l]) := Rd.slice rd229z Tryz.underlying138 (by kernel_rfl) (by kernel_rfl) (by decide)
theorem rd231z : Rd Tryz.prog 231 Slt Slt.cells :=
  Rd.struct (m := 2) Tryz.underlying231 (by kernel_rfl) (.cons (m := 1) rd9 rfl (by kernel_rfl) (.cons (m := 1) rd9 rfl (by kernel_rfl) .nil)) (by kernel_rfl) (fun v => ⟨v.1, v.2.1⟩) (fun _ => rfl) (fun _ => rfl)
theorem rd139 : Rd Tryz.prog 139 (List Slt) (fun l => [slts 231 l]) := Rd.slice rd231z Tryz.underlying139 (by kernel_rfl) (by kernel_rfl) (by decide)
theorem rd141z : Rd Tryz.prog 141 Rb (Rb.zcells 229 231) :=
  Rd.struct (m := 6) Tryz.underlying141 (by kernel_rfl) (.cons (m := 1) rd9 rfl (by kernel_rfl) (.cons (m := 1) (Rd.fz rd138) rfl (by kernel_rfl) (.cons (m := 1) (Rd.fz rd139) rfl (by kernel_rfl) (.cons (m := 1) rd9 rfl (by kernel_rfl) (.cons (m := 1) rd3 rfl (by kernel_rfl) (.cons (m := 1) rd3 rfl (by kernel_rfl) .nil)))))) (by kernel_rfl) (fun v => ⟨v.1, v.2.1, v.2.2.1, v.2.2.2.1, v.2.2.2.2.1, v.2.2.2.2.2.1⟩) (fun _ => rfl) (fun _ => rfl)
theorem rd26 : Rd Tryz.prog 26 (List Rb) (fun l => [rbs 141 229 231 l]) := Rd.slice rd141z Tryz.underlying26 (by kernel_rfl) (by kernel_rfl) (by decide)
theorem rd143z : Rd Tryz.prog 143 Dn Dn.cells :=
  Rd.struct (m := 3) Tryz.underlying143 (by kernel_rfl) (.cons (m := 1) rd9 rfl (by kernel_rfl) (.cons (m := 1) rd3 rfl (by kernel_rfl) (.cons (m := 1) rd3 rfl (by kernel_rfl) .nil))) (by kernel_rfl) (fun v => ⟨v.1, v.2.1, v.2.2.1⟩) (fun _ => rfl) (fun _ => rfl)
theorem rd27 : Rd Tryz.prog 27 (List Dn) (fun l => [dns 143 l]) := Rd.slice rd143z Tryz.underlying27 (by kernel_rfl) (by kernel_rfl) (by decide)
theorem rd29 : Rd Tryz.prog 29 Hs (Hs.acells 191 141 229 231 143) :=
  Rd.struct (m := 6) Tryz.underlying29 (by kernel_rfl) (.cons (m := 1) rd3 rfl (by kernel_rfl) (.cons (m := 1) rd3 rfl (by kernel_rfl) (.cons (m := 2) rd25 rfl (by kernel_rfl) (.cons (m := 1) rd26 rfl (by kernel_rfl) (.cons (m := 1) rd27 rfl (by kernel_rfl) .nil))))) (by kernel_rfl) (fun v => ⟨v.1, v.2.1, v.2.2.1, v.2.2.2.1, v.2.2.2.2.1⟩) (fun _ => rfl) (fun _ => rfl)
theorem arg29 : Arg Tryz.prog 29 Hs (fun l => .agg ((Hs.acells 191 141 229 231 143) l)) := Arg.agg rd29 Tryz.underlying29

theorem runGoes_lifted (os : Os) (started : os.Started) (H : Type) (enc : TypeId × Value → H) :
    ReturnsInHanded {} Tryz.checked os 3 .any (Rows.fnExactRunGoesSpec.pre6 enc Tryz.prog Tryz.f3 Rows.fnExactRunGoesRow.domain false) (Rows.fnExactRunGoesSpec.post enc Tryz.prog Tryz.f3 false true false false) := by
  refine returnsInHanded_of_change (C := Tryz.checked) ownK started (by kernel_rfl) Tryz.func3
    (ChangeSpec.witness6 (enc := enc) (C := Tryz.checked) false ⟨#[], #[.agg #[.int .i64 0, .int .i64 0, .slice none 0 0, .slice none 0 0, .slice none 0 0, .slice none 0 0]], []⟩ 8 (by kernel_rfl) (by kernel_rfl) (by kernel_rfl) (by kernel_rfl)) ?_
  intro W base args ds gs before hval0 hW hcnd _
  have hval : ∀ (j : Nat) t v, Tryz.f3.params[j]? = some t → args[j]? = some v → Value.okWide Tryz.prog W .any base t v := hval0
  have hW0 : DataW.Whole enc Tryz.prog Tryz.f3.params.toList Rows.fnExactRunGoesSpec.vars false W args.toList ds gs before := hW
  obtain ⟨p, q, hA, hV, hpq, hfz, hnd⟩ := hW
  obtain ⟨rfl, rfl⟩ := trodVars_none hV
  have hA' : DataW.TrodAll enc Tryz.prog W 0 (fun _ => true) true Tryz.f3.params.toList args.toList ds p := hA
  rw [Tryz.params3] at hA' hval
  obtain ⟨v0, d0, rfl, rfl, h0⟩ := trodAll_one hA'
  obtain ⟨x0, hx0⟩ := arg29.get (hval 0 29 v0 rfl rfl) h0
  refine law_post laidK (by rw [Tryz.params3]; kernel_rfl) rfl Tryz.underlying4 rfl rfl rfl rfl hW0 (pvs := [.agg ((Hs.acells 191 141 229 231 143) x0)]) rfl (fun i u hu => ?_) (lawRunGoes x0)
  match i, hu with
  | 0, hu => cases hu; exact hx0

theorem runGoes_holds : Rows.FnExactRunGoesSaid :=
  OpenClaim.holds_of_wide 3 Tryz.f3 rfl rfl rfl rfl rfl rfl rfl ⟨rfl, rfl, rfl, rfl, rfl⟩ rfl rfl rfl rfl rfl (by kernel_rfl) Tryz.func3 (by kernel_rfl)
    (of_decide_eq_true (by kernel_rfl)) (by unfold Func.isWrapper; first | (rw [if_pos (by decide +kernel)]; kernel_rfl) | (rw [if_neg (by decide +kernel)]; exact ⟨rfl, rfl⟩))
    (fun os started H enc _ => runGoes_lifted os started H enc)

end Go.Proofs.YtkmacjdigkaabaaGreat
