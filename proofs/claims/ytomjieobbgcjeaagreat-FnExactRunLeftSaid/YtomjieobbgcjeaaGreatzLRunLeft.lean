/- The law FnExactRunLeft of the program returns true whatever its arguments, and each argument reads afterwards as it read before. No condition. -/
import Derived.Test.YtomjieobbgcjeaaGreatFv
import Derived.Test.YtomjieobbgcjeaaGreatzLaws9
import Derived.Test.YtomjieobbgcjeaaGreatChecked
import Derived.Test.YtomjieobbgcjeaaGreatRows
set_option linter.unusedVariables false
set_option linter.unusedSimpArgs false
set_option linter.unnecessarySimpa false
set_option maxRecDepth 100000
namespace Go.Proofs.YtomjieobbgcjeaaGreat
open Go Go.Mh Go.ChangeShapes Go.WideShapes Go.ChangeAt Go.RowKit

theorem Rd.fz {t : TypeId} {α : Type} {tr : α → T} (h : Rd Tryz.prog t α (fun l => [tr l])) : Rd Tryz.prog t α (fun l => [.fz (tr l)]) where
  len := h.len
  rd := fun hh => by
    obtain ⟨v, h1, h2⟩ := h.rd hh
    refine ⟨v, h1, fun j t' hj => ?_⟩
    cases j with
    | zero => cases hj; exact .fz (h2 0 _ rfl)
    | succ j => simp at hj
theorem ownK : ownKnob Tryz.prog.godebug = none := by kernel_rfl
theorem laidK : laidOutB Tryz.prog = true := by kernel_rfl
theorem rd3 : Rd Tryz.prog 3 Int (fun n => [.int .i64 n]) := Rd.int Tryz.underlying3 (by kernel_rfl)
theorem rd9 : Rd Tryz.prog 9 Str (fun n => [.str n]) := Rd.str Tryz.underlying9 (by kernel_rfl)
theorem rd22 : Rd Tryz.prog 22 (List Str) (fun l => [strs l]) := Rd.slice rd9 Tryz.underlying22 (by kernel_rfl) (by kernel_rfl) (by decide)
theorem rd100z : Rd Tryz.prog 100 Bt Bt.zcells :=
  Rd.struct (m := 3) Tryz.underlying100 (by kernel_rfl) (.cons (m := 1) rd9 rfl (by kernel_rfl) (.cons (m := 1) (Rd.fz rd22) rfl (by kernel_rfl) (.cons (m := 1) (Rd.fz rd22) rfl (by kernel_rfl) .nil))) (by kernel_rfl) (fun v => ⟨v.1, v.2.1, v.2.2.1⟩) (fun _ => rfl) (fun _ => rfl)
theorem rd23 : Rd Tryz.prog 23 (List Bt) (fun l => [bts 100 l]) := Rd.slice rd100z Tryz.underlying23 (by kernel_rfl) (by kernel_rfl) (by decide)
theorem rd25 : Rd Tryz.prog 25 Bk (Bk.cells 100) :=
  Rd.struct (m := 2) Tryz.underlying25 (by kernel_rfl) (.cons (m := 1) rd22 rfl (by kernel_rfl) (.cons (m := 1) rd23 rfl (by kernel_rfl) .nil)) (by kernel_rfl) (fun v => ⟨v.1, v.2.1⟩) (fun _ => rfl) (fun _ => rfl)
theorem rd119z : Rd Tryz.prog 119 Ph Ph.cells :=
  Rd.struct (m := 8) Tryz.underlying119 (by kernel_rfl) (.cons (m := 1) rd9 rfl (by kernel_rfl) (.cons (m := 1) rd3 rfl (by kernel_rfl) (.cons (m := 1) rd9 rfl (by kernel_rfl) (.cons (m := 1) rd9 rfl (by kernel_rfl) (.cons (m := 1) rd3 rfl (by kernel_rfl) (.cons (m := 1) rd3 rfl (by kernel_rfl) (.cons (m := 1) rd9 rfl (by kernel_rfl) (.cons (m := 1) rd9 rfl (by kernel_rfl) .nil)))))))) (by kernel_rfl) (fun v => ⟨v.1, v.2.1, v.2.2.1, v.2.2.2.1, v.2.2.2.2.1, v.2.2.2.2.2.1, v.2.2.2.2.2.2.1, v.2.2.2.2.2.2.2.1⟩) (fun _ => rfl) (fun _ => rfl)
theorem rd74 : Rd Tryz.prog 74 (List Ph) (fun l => [phs 119 l]) := Rd.slice rd119z Tryz.underlying74 (by kernel_rfl) (by kernel_rfl) (by decide)
theorem rd121z : Rd Tryz.prog 121 Slt Slt.cells :=
  Rd.struct (m := 2) Tryz.underlying121 (by kernel_rfl) (.cons (m := 1) rd9 rfl (by kernel_rfl) (.cons (m := 1) rd9 rfl (by kernel_rfl) .nil)) (by kernel_rfl) (fun v => ⟨v.1, v.2.1⟩) (fun _ => rfl) (fun _ => rfl)
theorem rd75 : Rd Tryz.prog 75 (List Slt) (fun l => [slts 121 l]) := Rd.slice rd121z Tryz.underlying75 (by kernel_rfl) (by kernel_rfl) (by decide)
theorem rd77z : Rd Tryz.prog 77 Rb (Rb.zcells 119 121) :=
  Rd.struct (m := 6) Tryz.underlying77 (by kernel_rfl) (.cons (m := 1) rd9 rfl (by kernel_rfl) (.cons (m := 1) (Rd.fz rd74) rfl (by kernel_rfl) (.cons (m := 1) (Rd.fz rd75) rfl (by kernel_rfl) (.cons (m := 1) rd9 rfl (by kernel_rfl) (.cons (m := 1) rd3 rfl (by kernel_rfl) (.cons (m := 1) rd3 rfl (by kernel_rfl) .nil)))))) (by kernel_rfl) (fun v => ⟨v.1, v.2.1, v.2.2.1, v.2.2.2.1, v.2.2.2.2.1, v.2.2.2.2.2.1⟩) (fun _ => rfl) (fun _ => rfl)
theorem rd26 : Rd Tryz.prog 26 (List Rb) (fun l => [rbs 77 119 121 l]) := Rd.slice rd77z Tryz.underlying26 (by kernel_rfl) (by kernel_rfl) (by decide)
theorem rd79z : Rd Tryz.prog 79 Dn Dn.cells :=
  Rd.struct (m := 3) Tryz.underlying79 (by kernel_rfl) (.cons (m := 1) rd9 rfl (by kernel_rfl) (.cons (m := 1) rd3 rfl (by kernel_rfl) (.cons (m := 1) rd3 rfl (by kernel_rfl) .nil))) (by kernel_rfl) (fun v => ⟨v.1, v.2.1, v.2.2.1⟩) (fun _ => rfl) (fun _ => rfl)
theorem rd27 : Rd Tryz.prog 27 (List Dn) (fun l => [dns 79 l]) := Rd.slice rd79z Tryz.underlying27 (by kernel_rfl) (by kernel_rfl) (by decide)
theorem rd29 : Rd Tryz.prog 29 Hs (Hs.acells 100 77 119 121 79) :=
  Rd.struct (m := 6) Tryz.underlying29 (by kernel_rfl) (.cons (m := 1) rd3 rfl (by kernel_rfl) (.cons (m := 1) rd3 rfl (by kernel_rfl) (.cons (m := 2) rd25 rfl (by kernel_rfl) (.cons (m := 1) rd26 rfl (by kernel_rfl) (.cons (m := 1) rd27 rfl (by kernel_rfl) .nil))))) (by kernel_rfl) (fun v => ⟨v.1, v.2.1, v.2.2.1, v.2.2.2.1, v.2.2.2.2.1⟩) (fun _ => rfl) (fun _ => rfl)
theorem arg29 : Arg Tryz.prog 29 Hs (fun l => .agg ((Hs.acells 100 77 119 121 79) l)) := Arg.agg rd29 Tryz.underlying29

theorem runLeft_lifted (os : Os) (started : os.Started) (H : Type) (enc : TypeId × Value → H) :
    ReturnsInHanded {} Tryz.checked os 4 .any (Rows.fnExactRunLeftSpec.pre6 enc Tryz.prog Tryz.f4 Rows.fnExactRunLeftRow.domain false) (Rows.fnExactRunLeftSpec.post enc Tryz.prog Tryz.f4 false true false false) := by
  refine returnsInHanded_of_change (C := Tryz.checked) ownK started (by kernel_rfl) Tryz.func4
    (ChangeSpec.witness6 (enc := enc) (C := Tryz.checked) false ⟨#[], #[.agg #[.int .i64 0, .int .i64 0, .slice none 0 0, .slice none 0 0, .slice none 0 0, .slice none 0 0]], []⟩ 8 (by kernel_rfl) (by kernel_rfl) (by kernel_rfl) (by kernel_rfl)) ?_
  intro W base args ds gs before hval0 hW hcnd _
  have hval : ∀ (j : Nat) t v, Tryz.f4.params[j]? = some t → args[j]? = some v → Value.okWide Tryz.prog W .any base t v := hval0
  have hW0 : DataW.Whole enc Tryz.prog Tryz.f4.params.toList Rows.fnExactRunLeftSpec.vars false W args.toList ds gs before := hW
  obtain ⟨p, q, hA, hV, hpq, hfz, hnd⟩ := hW
  obtain ⟨rfl, rfl⟩ := trodVars_none hV
  have hA' : DataW.TrodAll enc Tryz.prog W 0 (fun _ => true) true Tryz.f4.params.toList args.toList ds p := hA
  rw [Tryz.params4] at hA' hval
  obtain ⟨v0, d0, rfl, rfl, h0⟩ := trodAll_one hA'
  obtain ⟨x0, hx0⟩ := arg29.get (hval 0 29 v0 rfl rfl) h0
  refine law_post laidK (by rw [Tryz.params4]; kernel_rfl) rfl Tryz.underlying4 rfl rfl rfl rfl hW0 (pvs := [.agg ((Hs.acells 100 77 119 121 79) x0)]) rfl (fun i u hu => ?_) (lawRunLeft x0)
  match i, hu with
  | 0, hu => cases hu; exact hx0

theorem runLeft_holds : Rows.FnExactRunLeftSaid :=
  OpenClaim.holds_of_wide 4 Tryz.f4 rfl rfl rfl rfl rfl rfl rfl ⟨rfl, rfl, rfl, rfl, rfl⟩ rfl rfl rfl rfl rfl (by kernel_rfl) Tryz.func4 (by kernel_rfl)
    (of_decide_eq_true (by kernel_rfl)) (by unfold Func.isWrapper; first | (rw [if_pos (by decide +kernel)]; kernel_rfl) | (rw [if_neg (by decide +kernel)]; exact ⟨rfl, rfl⟩))
    (fun os started H enc _ => runLeft_lifted os started H enc)

end Go.Proofs.YtomjieobbgcjeaaGreat
