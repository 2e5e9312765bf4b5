/- Contracts of functions of the program, each met by its body; conditions stand in each statement. No condition. -/
import Derived.Test.YtkmacjdigkaabaaGreatiRun0
import Derived.Test.YtkmacjdigkaabaaGreatiSrt
import Derived.Test.YtkmacjdigkaabaaGreatProg
import Derived.KernelRfl
set_option linter.unusedVariables false
set_option linter.unusedSimpArgs false
set_option linter.unnecessarySimpa false
set_option linter.unusedSimpArgs false
set_option maxRecDepth 100000
namespace Go.Proofs.YtkmacjdigkaabaaGreat
open Go Go.Mh

theorem withIZ (l m : List Str) (hl : l.length ≤ 1048576) (hm : m.length ≤ 1048576) : ASpec Tryz.prog 82 [.one (strs l), .one (strs m)] (.one (.fz (strs (withB l m)))) := (withI l m hl hm).letGo (.p (.one (.fz (.refl _))))
def slots1 (p : Ph) : List Str := if p.kind = 2 then withB [] [p.a, p.b] else [p.a]
def slotsG (l : List Ph) : Nat → Str → List Str
  | 0, _ => []
  | n + 1, s => if atP l s < 0 then [] else withB (withB (slots1 (nth l (atP l s).toNat)) (slotsG l n (nth l (atP l s).toNat).thn)) (slotsG l n (nth l (atP l s).toNat).els)
def slotsB (l : List Ph) (s : Str) : List Str := slotsG l (l.length + 1) s
theorem insB_nil (s : Str) : insB [] s = [s] := by simp [insB, posB]
theorem asc_nil : Asc [] := List.Pairwise.nil
theorem asc_one (s : Str) : Asc [s] := List.pairwise_singleton _ _
theorem slots1_ins (p : Ph) (h : p.kind = 2) : insB [p.a] p.b = slots1 p := by
  rw [slots1, if_pos h, ← ins_with asc_nil [p.a, p.b]]
  show _ = insB (insB [] p.a) p.b
  rw [insB_nil]
theorem slots1_asc (p : Ph) : Asc (slots1 p) := by
  unfold slots1; split
  · exact (withB_spec List.nodup_nil _).1
  · exact asc_one _
theorem slots1_mem {p : Ph} {x : Str} (h : x ∈ slots1 p) : x = p.a ∨ x = p.b := by
  unfold slots1 at h; split at h
  · have := ((withB_spec List.nodup_nil _).2 x).1 h
    simpa using this
  · exact .inl (by simpa using h)
theorem slots1_len (p : Ph) : (slots1 p).length ≤ 2 := (slots1_asc p).nodup.length_le_of_subset (l₂ := [p.a, p.b]) (fun x hx => by simpa using slots1_mem hx)
theorem slotsG_asc (l : List Ph) : ∀ (n : Nat) (s : Str), Asc (slotsG l n s)
  | 0, _ => asc_nil
  | n + 1, s => by
    simp only [slotsG]; split
    · exact asc_nil
    · exact (withB_spec (withB_spec (slots1_asc _).nodup _).1.nodup _).1
def allSl (l : List Ph) : List Str := l.flatMap fun p => [p.a, p.b]
theorem allSl_len (l : List Ph) : (allSl l).length = 2 * l.length := by
  induction l with
  | nil => rfl
  | cons p l ih => simp only [allSl, List.flatMap_cons, List.length_append, List.length_cons, List.length_nil] at *; omega
theorem nth_memG {α : Type} [Inhabited α] {l : List α} {i : Nat} (h : i < l.length) : nth l i ∈ l := by
  simp only [nth, List.getD_eq_getElem?_getD, List.getElem?_eq_getElem h, Option.getD_some]; exact List.getElem_mem h
theorem slotsG_mem (l : List Ph) : ∀ (n : Nat) (s x : Str), x ∈ slotsG l n s → x ∈ allSl l
  | 0, _, _, h => by simp [slotsG] at h
  | n + 1, s, x, h => by
    simp only [slotsG] at h; split at h
    · simp at h
    · have ha := atP_lt l s
      rcases ((withB_spec (withB_spec (slots1_asc _).nodup _).1.nodup _).2 x).1 h with h | h
      · rcases ((withB_spec (slots1_asc _).nodup _).2 x).1 h with h | h
        · refine List.mem_flatMap.2 ⟨_, nth_memG (l := l) (i := (atP l s).toNat) (by omega), ?_⟩
          simpa using slots1_mem h
        · exact slotsG_mem l n _ x h
      · exact slotsG_mem l n _ x h
theorem slotsG_len (l : List Ph) (n : Nat) (s : Str) : (slotsG l n s).length ≤ 2 * l.length := by
  rw [← allSl_len]
  exact (slotsG_asc l n s).nodup.length_le_of_subset (slotsG_mem l n s)
theorem slotsG_len2 (l : List Ph) (n : Nat) (s : Str) (h0 : 0 ≤ atP l s) : (withB (slots1 (nth l (atP l s).toNat)) (slotsG l n (nth l (atP l s).toNat).thn)).length ≤ 2 * l.length + 2 := by
  have h1 := withB_len (slots1 (nth l (atP l s).toNat)) (slotsG l n (nth l (atP l s).toNat).thn)
  have h2 := slotsG_len l n (nth l (atP l s).toNat).thn
  have h3 := slots1_len (nth l (atP l s).toNat)
  omega
/-- the thing of a slot -/
def thingB (sl : List Slt) (s : Str) : Str := match (List.range sl.length).find? (fun i => strEq (nth sl i).slot s) with | some i => (nth sl i).thing | none => ⟨#[]⟩
theorem thing_none {sl : List Slt} {s : Str} {i : Nat} (h : ∀ j, j < i → strEq (nth sl j).slot s = false) (hi : sl.length ≤ i) : ⟨#[]⟩ = thingB sl s := by
  have : (List.range sl.length).find? (fun i => strEq (nth sl i).slot s) = none := by
    rw [List.find?_eq_none]; intro x hx; have := h x (by have := List.mem_range.1 hx; omega); simp [this]
  simp [thingB, this]
theorem thing_some {sl : List Slt} {s : Str} {i : Nat} (h : ∀ j, j < i → strEq (nth sl j).slot s = false) (hi : i < sl.length) (hs : strEq (nth sl i).slot s = true) : (nth sl i).thing = thingB sl s := by
  have : (List.range sl.length).find? (fun i => strEq (nth sl i).slot s) = some i := by
    rw [List.find?_range_eq_some]
    exact ⟨hs, List.mem_range.2 hi, fun j hj => by simp [h j hj]⟩
  simp [thingB, this]
def thingsGo (sl : List Slt) (m : List Str) : Nat → List Str
  | 0 => []
  | i + 1 => withB (thingsGo sl m i) [thingB sl (nth m i)]
def thingsB (sl : List Slt) (m : List Str) : List Str := thingsGo sl m m.length
theorem thingsGo_asc (sl : List Slt) (m : List Str) : ∀ i, Asc (thingsGo sl m i)
  | 0 => asc_nil
  | i + 1 => (withB_spec (thingsGo_asc sl m i).nodup _).1
theorem thingsGo_len (sl : List Slt) (m : List Str) : ∀ i, (thingsGo sl m i).length ≤ i
  | 0 => Nat.le_refl _
  | i + 1 => by
    have h1 := thingsGo_len sl m i
    have h2 := withB_len (thingsGo sl m i) [thingB sl (nth m i)]
    simp only [List.length_cons, List.length_nil] at h2
    show (withB _ _).length ≤ _
    omega
theorem things_ins (sl : List Slt) (m : List Str) (i : Nat) : insB (thingsGo sl m i) (thingB sl (nth m i)) = thingsGo sl m (i + 1) := ins_with (thingsGo_asc sl m i) [thingB sl (nth m i)]
theorem ins_ih {x y : List Str} (h : Asc x) : insGo x y y.length = withB x y := ins_with h y
/-- slots that are just those of a recipe -/
def thgs (sl : List Slt) (i : Nat) : List Str := (sl.take i).map Slt.thing
theorem thgs_next {sl : List Slt} {i : Nat} (h : i < sl.length) : thgs sl i ++ [(nth sl i).thing] = thgs sl (i + 1) := by
  unfold thgs
  rw [List.take_succ_eq_append_getElem h, List.map_append]
  simp [nth, List.getD_eq_getElem?_getD, h]
theorem thgs_len (sl : List Slt) (i : Nat) : (thgs sl i).length ≤ i := by simp [thgs]; omega
theorem thgs_has {sl : List Slt} {i : Nat} (hi : i ≤ sl.length) (s : Str) : hasB (thgs sl i) s = (List.range i).any (fun k => strEq (nth sl k).thing s) := by
  have hl : (thgs sl i).length = i := by simp [thgs]; omega
  unfold hasB
  rw [hl, Bool.eq_iff_iff]
  simp only [List.any_eq_true, List.mem_range]
  refine exists_congr fun k => and_congr_right fun hk => ?_
  have : nth (thgs sl i) k = (nth sl k).thing := by
    unfold thgs nth
    rw [List.getD_eq_getElem?_getD, List.getElem?_map, List.getElem?_take_of_lt hk, List.getElem?_eq_getElem (by omega), List.getD_eq_getElem?_getD, List.getElem?_eq_getElem (by omega)]; rfl
  rw [this]
def sloAt (m : List Str) (sl : List Slt) (i : Nat) : Bool := strEq (nth sl i).slot (nth m i) && nameOk (nth sl i).thing && !hasB (thgs sl i) (nth sl i).thing
def slotsOkB (l : List Ph) (sl : List Slt) : Bool := decide ((slotsB l (nth l 0).name).length = sl.length) && (List.range sl.length).all (sloAt (slotsB l (nth l 0).name) sl)
theorem slo_no {l : List Ph} {sl : List Slt} {i : Nat} (hi : i < sl.length) (h : sloAt (slotsB l (nth l 0).name) sl i = false) : false = slotsOkB l sl := by
  rw [slotsOkB, all_not hi h, Bool.and_false]
theorem slo_free {sl : List Slt} {i : Nat} (hi : i < sl.length) (h : ∀ j, j < i → strEq (nth sl j).thing (nth sl i).thing = false) : hasB (thgs sl i) (nth sl i).thing = false := by
  rw [thgs_has (by omega), any_not h]
theorem slo_some {sl : List Slt} {i j : Nat} (hi : i < sl.length) (hj : j < i) (h : strEq (nth sl j).thing (nth sl i).thing = true) : hasB (thgs sl i) (nth sl i).thing = true := by
  rw [thgs_has (by omega), any_of hj h]
def rbOk (p : Rb) : Bool := nameOk p.name && recOk p.recipe && slotsOkB p.recipe p.slots && decide (1 ≤ p.start) && (decide (0 ≤ atP p.recipe p.at_) && inB p.since (-1) ((nth p.recipe (atP p.recipe p.at_).toNat).within - 1))
def fromB (p : Rb) (s : Str) : List Str := thingsB p.slots (slotsB p.recipe s)
def ownB (p : Rb) : List Str := thingsB p.slots (slots1 (nth p.recipe (atP p.recipe p.at_).toNat))
def runThings (p : Rb) (s : Str) : List Str := if rbOk p = true then fromB p s else []
def runOwn (p : Rb) : List Str := if rbOk p = true then ownB p else []
theorem slotsB_len {l : List Ph} (h : recOk l = true) (s : Str) : (slotsB l s).length ≤ 24 := by
  have h1 := slotsG_len l (l.length + 1) s
  have h2 := recOk_len h
  unfold slotsB; omega
theorem yvFo68_1 : fieldOff Tryz.prog 68 1 = some 1 := by kernel_rfl
theorem yvSc3 : scalarB Tryz.prog 3 = true := by kernel_rfl
theorem yvFo68_2 : fieldOff Tryz.prog 68 2 = some 2 := by kernel_rfl
theorem yvSc9 : scalarB Tryz.prog 9 = true := by kernel_rfl
theorem yvFo68_3 : fieldOff Tryz.prog 68 3 = some 3 := by kernel_rfl
theorem yvSl22 : sliceT Tryz.prog 22 = some ⟨9, 1, 16⟩ := by kernel_rfl
theorem yvCo82 : callOk Tryz.prog 82 = true := by kernel_rfl
theorem yvCo155 : callOk Tryz.prog 155 = true := by kernel_rfl
theorem yvCo101 : callOk Tryz.prog 101 = true := by kernel_rfl
theorem yvSl59 : sliceT Tryz.prog 59 = some ⟨68, 8, 104⟩ := by kernel_rfl
theorem yvSt68 : structSz Tryz.prog 68 = some 8 := by kernel_rfl
theorem yvCo163 : callOk Tryz.prog 163 = true := by kernel_rfl
theorem yvFo68_6 : fieldOff Tryz.prog 68 6 = some 6 := by kernel_rfl
theorem yvCo154 : callOk Tryz.prog 154 = true := by kernel_rfl
theorem yvMo : Tryz.prog.follows .mixedOrders = true := by kernel_rfl
theorem yvFo68_7 : fieldOff Tryz.prog 68 7 = some 7 := by kernel_rfl
theorem yvCo105 : callOk Tryz.prog 105 = true := by kernel_rfl
theorem yvCo109 : callOk Tryz.prog 109 = true := by kernel_rfl
theorem yvCo98 : callOk Tryz.prog 98 = true := by kernel_rfl
theorem yvCo157 : callOk Tryz.prog 157 = true := by kernel_rfl
theorem yvFo62_2 : fieldOff Tryz.prog 62 2 = some 2 := by kernel_rfl
theorem yvSc60 : scalarB Tryz.prog 60 = true := by kernel_rfl
theorem yvSl60 : sliceT Tryz.prog 60 = some ⟨177, 2, 32⟩ := by kernel_rfl
theorem yvSt177 : structSz Tryz.prog 177 = some 2 := by kernel_rfl
theorem yvZs177 : zeroSz Tryz.prog 177 = some 2 := by kernel_rfl
theorem yvCs177 : cellsSz Tryz.prog 177 = some (1 + 1) := by kernel_rfl
theorem yvFo177_0 : fieldOff Tryz.prog 177 0 = some 0 := by kernel_rfl
theorem yvFo177_1 : fieldOff Tryz.prog 177 1 = some 1 := by kernel_rfl
theorem yvSt62 : structSz Tryz.prog 62 = some 6 := by kernel_rfl
theorem yvCo210 : callOk Tryz.prog 210 = true := by kernel_rfl
theorem yvCo156 : callOk Tryz.prog 156 = true := by kernel_rfl
theorem yvZs68 : zeroSz Tryz.prog 68 = some 8 := by kernel_rfl
theorem yvFo62_1 : fieldOff Tryz.prog 62 1 = some 1 := by kernel_rfl
theorem yvSc59 : scalarB Tryz.prog 59 = true := by kernel_rfl
theorem yvFo62_3 : fieldOff Tryz.prog 62 3 = some 3 := by kernel_rfl
theorem yvCs68 : cellsSz Tryz.prog 68 = some (7 + 1) := by kernel_rfl
theorem yvCo153 : callOk Tryz.prog 153 = true := by kernel_rfl
theorem yvCo162 : callOk Tryz.prog 162 = true := by kernel_rfl
theorem slots1I (p : Ph)  : ASpec Tryz.prog 163 [.agg p.cells] (.one (.fz (strs (slots1 p)))) := by
  refine ASpec.body Tryz.func163 rfl [2] rfl 15 rfl rfl rfl ?_
  refine AWp.seq (AWp.region ?_)
  refine ARun.step rfl (step_box_p (m := 7) rfl (hn rfl) rfl rfl rfl rfl rfl) ?_
  refine ARun.step rfl (step_assignV rfl (hn rfl) rfl rfl) ?_
  refine ARun.nil ?_
  refine AWp.seq ?_
  refine AWp.seq (AWp.region ?_)
  refine ARun.step rfl (step_field_b rfl (hn rfl) rfl yvFo68_1 rfl (by exact List.cons_ne_nil _ _)) ?_
  refine ARun.step rfl (step_load_b rfl (hn rfl) rfl yvSc3 rfl rfl) ?_
  refine ARun.step rfl (step_eql rfl (hn rfl) rfl rfl rfl) ?_
  refine ARun.nil ?_
  refine AWp.cond rfl (fun c1 => ?_) (fun c1 => ?_)
  · try simp only [nrm] at c1
    refine AWp.seq (AWp.region ?_)
    refine ARun.step rfl (step_field_b rfl (hn rfl) rfl yvFo68_2 rfl (by exact List.cons_ne_nil _ _)) ?_
    refine ARun.step rfl (step_load_b rfl (hn rfl) rfl yvSc9 rfl rfl) ?_
    refine ARun.step rfl (step_field_b rfl (hn rfl) rfl yvFo68_3 rfl (by exact List.cons_ne_nil _ _)) ?_
    refine ARun.step rfl (step_load_b rfl (hn rfl) rfl yvSc9 rfl rfl) ?_
    refine ARun.step rfl (step_buildVT rfl (hn rfl) rfl yvSl22 (strs [_, _]) (.cons rfl rfl rfl rfl (.cons rfl rfl rfl rfl (.nil _))) rfl rfl rfl (rows2 rfl rfl)) ?_
    refine ARun.step rfl (call_stepZ rfl (hn rfl) rfl yvCo82 (.cons rfl (.one (.nil _ _ _)) (.cons rfl (.one (.v _)) (.nil))) (withIZ [] [p.a, p.b] (by simp) (by simp)) rfl rfl) ?_
    refine ARun.step rfl (step_assignV rfl (hn rfl) rfl rfl) ?_
    refine ARun.nil ?_
    refine AWp.ret ?_
    refine RetIs.frz (.inr rfl) rfl ?_
    exact congrArg (fun x => T.fz (strs x)) (by rw [slots1, if_pos c1])
  · try simp only [nrm] at c1
    refine AWp.skip ?_
    refine AWp.seq (AWp.region ?_)
    refine ARun.step rfl (step_field_b rfl (hn rfl) rfl yvFo68_2 rfl (by exact List.cons_ne_nil _ _)) ?_
    refine ARun.step rfl (step_load_b rfl (hn rfl) rfl yvSc9 rfl rfl) ?_
    refine ARun.step rfl (step_buildVT rfl (hn rfl) rfl yvSl22 (strs [_]) (.cons rfl rfl rfl rfl (.nil _)) rfl rfl rfl (rows1 rfl)) ?_
    refine ARun.step rfl (step_assignV rfl (hn rfl) rfl rfl) ?_
    refine ARun.nil ?_
    refine AWp.ret ?_
    refine RetIs.frz (.inr rfl) rfl ?_
    exact congrArg (fun x => T.fz (strs x)) (by rw [slots1, if_neg c1])
theorem slots1S (p : Ph)  : ASpec Tryz.prog 109 [.agg p.cells] (.one (.fz (strs (slots1 p)))) := by
  refine ASpec.body Tryz.func109 rfl [2] rfl 15 rfl rfl rfl ?_
  refine AWp.seq (AWp.region ?_)
  refine ARun.step rfl (step_box_p (m := 7) rfl (hn rfl) rfl rfl rfl rfl rfl) ?_
  refine ARun.step rfl (step_assignV rfl (hn rfl) rfl rfl) ?_
  refine ARun.nil ?_
  refine AWp.seq ?_
  refine AWp.seq (AWp.region ?_)
  refine ARun.step rfl (step_field_b rfl (hn rfl) rfl yvFo68_1 rfl (by exact List.cons_ne_nil _ _)) ?_
  refine ARun.step rfl (step_load_b rfl (hn rfl) rfl yvSc3 rfl rfl) ?_
  refine ARun.step rfl (step_eql rfl (hn rfl) rfl rfl rfl) ?_
  refine ARun.nil ?_
  refine AWp.cond rfl (fun c1 => ?_) (fun c1 => ?_)
  · try simp only [nrm] at c1
    refine AWp.seq (AWp.region ?_)
    refine ARun.step rfl (step_field_b rfl (hn rfl) rfl yvFo68_2 rfl (by exact List.cons_ne_nil _ _)) ?_
    refine ARun.step rfl (step_load_b rfl (hn rfl) rfl yvSc9 rfl rfl) ?_
    refine ARun.step rfl (step_buildVT rfl (hn rfl) rfl yvSl22 (strs [_]) (.cons rfl rfl rfl rfl (.nil _)) rfl rfl rfl (rows1 rfl)) ?_
    refine ARun.step rfl (step_field_b rfl (hn rfl) rfl yvFo68_3 rfl (by exact List.cons_ne_nil _ _)) ?_
    refine ARun.step rfl (step_load_b rfl (hn rfl) rfl yvSc9 rfl rfl) ?_
    refine ARun.step rfl (call_stepZ rfl (hn rfl) rfl yvCo155 (.cons rfl (.one (.v _)) (.cons rfl (.one (.v _)) (.nil))) (ins42 [p.a] p.b (by simp)) rfl rfl) ?_
    refine ARun.step rfl (step_assignV rfl (hn rfl) rfl rfl) ?_
    refine ARun.nil ?_
    refine AWp.ret ?_
    refine RetIs.frz (.inr rfl) rfl ?_
    exact congrArg (fun x => T.fz (strs x)) (slots1_ins p c1)
  · try simp only [nrm] at c1
    refine AWp.skip ?_
    refine AWp.seq (AWp.region ?_)
    refine ARun.step rfl (step_field_b rfl (hn rfl) rfl yvFo68_2 rfl (by exact List.cons_ne_nil _ _)) ?_
    refine ARun.step rfl (step_load_b rfl (hn rfl) rfl yvSc9 rfl rfl) ?_
    refine ARun.step rfl (step_buildVT rfl (hn rfl) rfl yvSl22 (strs [_]) (.cons rfl rfl rfl rfl (.nil _)) rfl rfl rfl (rows1 rfl)) ?_
    refine ARun.step rfl (step_assignV rfl (hn rfl) rfl rfl) ?_
    refine ARun.nil ?_
    refine AWp.ret ?_
    refine RetIs.frz (.inr rfl) rfl ?_
    exact congrArg (fun x => T.fz (strs x)) (by rw [slots1, if_neg c1])
theorem bothS (l m : List Str) (hl : l.length ≤ 1048576) (hm : m.length ≤ 1048576) : ASpec Tryz.prog 157 [.one (strs l), .one (strs m)] (.one (.fz (strs (insGo l m m.length)))) := by
  refine ASpec.body Tryz.func157 rfl [4] rfl 19 rfl rfl rfl ?_
  refine AWp.seq (AWp.region ?_)
  refine ARun.step rfl (step_assignV rfl (hn rfl) rfl rfl) ?_
  refine ARun.nil ?_
  refine AWp.seq ?_
  refine AWp.seq (AWp.region ?_)
  refine ARun.step rfl (step_assignV rfl (hn rfl) rfl rfl) ?_
  refine ARun.nil ?_
  refine AWp.block ?_
  refine AWp.loopM (fun i : Nat => mkAS 19 [(0, ⟨true, .one (.v (strs (insGo l m i)))⟩), (1, ⟨true, .one (.v (strs m))⟩), (5, ⟨true, .one (.v (.int .i64 (i : Nat)))⟩)] [] []) (fun i => i ≤ m.length) (fun i => m.length - i) 0 ?_ (Le.forgetR rfl ⟨rfl, rfl, rfl, trivial⟩ trivial trivial) ?_
  · try dsimp only
    omega
  rintro i hi
  have hil := insGo_len l m i
  refine AWp.seq ?_
  refine AWp.seq (AWp.region ?_)
  refine ARun.step rfl (step_moveV rfl (hn rfl) rfl rfl) ?_
  refine ARun.step rfl (step_moveV rfl (hn rfl) rfl rfl) ?_
  refine ARun.step rfl (step_len_f rfl (hn rfl) rfl yvSl22 rfl) ?_
  refine ARun.step rfl (step_lss rfl (hn rfl) rfl rfl rfl) ?_
  refine ARun.nil ?_
  refine AWp.cond rfl (fun c1 => ?_) (fun c1 => ?_)
  · try simp only [nrm] at c1
    refine AWp.skip ?_
    refine AWp.seq ?_
    refine AWp.block ?_
    refine AWp.region ?_
    refine ARun.step rfl (step_moveV rfl (hn rfl) rfl rfl) ?_
    refine ARun.step rfl (step_moveV rfl (hn rfl) rfl rfl) ?_
    refine ARun.step rfl (step_moveV rfl (hn rfl) rfl rfl) ?_
    refine ARun.step rfl (step_index_fN rfl (hn rfl) rfl yvSl22 rfl rfl (by omega)) ?_
    refine ARun.step rfl (step_load_f rfl (hn rfl) rfl yvSc9 rfl (hn rfl) rfl) ?_
    refine ARun.step rfl (call_stepZ rfl (hn rfl) rfl yvCo155 (.cons rfl (.one (.v _)) (.cons rfl (.one (.v _)) (.nil))) (ins42 _ _ (by omega)) rfl rfl) ?_
    refine ARun.step rfl (step_assignV rfl (hn rfl) rfl rfl) ?_
    refine ARun.nil ?_
    refine AWp.region ?_
    refine ARun.step rfl (step_moveV rfl (hn rfl) rfl rfl) ?_
    refine ARun.step rfl (step_addI rfl (hn rfl) rfl rfl rfl (by omega) (by omega)) ?_
    refine ARun.step rfl (step_assignV rfl (hn rfl) rfl rfl) ?_
    refine ARun.nil ?_
    refine ⟨i + 1, ?_, ?_, Le.forgetR rfl ⟨rfl, rfl, rfl, trivial⟩ trivial trivial⟩
    · try dsimp only
      omega
    · try dsimp only
      omega
  · try simp only [nrm] at c1
    refine AWp.exit ?_
    refine AWp.seq (AWp.region ?_)
    refine ARun.step rfl (step_moveV rfl (hn rfl) rfl rfl) ?_
    refine ARun.step rfl (step_assignV rfl (hn rfl) rfl rfl) ?_
    refine ARun.nil ?_
    refine AWp.ret ?_
    refine RetIs.frz (.inr rfl) rfl ?_
    obtain rfl : i = m.length := by omega
    rfl
theorem slotsI0 (l : List Ph) (n : Nat) (s : Str) (h : recOk l = true) (hr : rank l s < n + 1) (ih : ∀ s, rank l s < n → ASpec Tryz.prog 154 [.one (phs 68 l), .one (.str s)] (.one (.fz (strs (slotsG l n s))))) : ASpec Tryz.prog 154 [.one (phs 68 l), .one (.str s)] (.one (.fz (strs (slotsG l (n + 1) s)))) := by
  refine ASpec.body Tryz.func154 rfl [4] rfl 34 rfl rfl rfl ?_
  have ha := atP_lt l s
  have hlen := recOk_len h
  refine AWp.seq (AWp.region ?_)
  refine ARun.step rfl (step_assignV rfl (hn rfl) rfl rfl) ?_
  refine ARun.nil ?_
  refine AWp.seq (AWp.region ?_)
  refine ARun.step rfl (step_moveV rfl (hn rfl) rfl rfl) ?_
  refine ARun.step rfl (step_moveV rfl (hn rfl) rfl rfl) ?_
  refine ARun.step rfl (call_step1 rfl (hn rfl) rfl yvCo101 (.cons rfl (.one (.v _)) (.cons rfl (.one (.v _)) (.nil))) (phaseI _ _) rfl) ?_
  refine ARun.step rfl (step_assignV rfl (hn rfl) rfl rfl) ?_
  refine ARun.nil ?_
  refine AWp.seq ?_
  refine AWp.seq (AWp.region ?_)
  refine ARun.step rfl (step_moveV rfl (hn rfl) rfl rfl) ?_
  refine ARun.step rfl (step_lss rfl (hn rfl) rfl rfl rfl) ?_
  refine ARun.nil ?_
  refine AWp.cond rfl (fun c1 => ?_) (fun c1 => ?_)
  · try simp only [nrm] at c1
    refine AWp.seq (AWp.region ?_)
    refine ARun.step rfl (step_assignV rfl (hn rfl) rfl rfl) ?_
    refine ARun.nil ?_
    refine AWp.le (Le.nilV 4 9 1 (fun i => [.str (nth [] i)]) rfl) ?_
    refine AWp.ret ?_
    refine RetIs.frz (.inr rfl) rfl ?_
    exact congrArg (fun x => T.fz (strs x)) (show [] = slotsG l (n + 1) s by rw [slotsG, if_pos c1])
  · try simp only [nrm] at c1
    have hrt := rank_thn h (s := s) (by omega)
    have hl1 := slotsG_len l n (nth l (atP l s).toNat).thn
    have hl2 := slotsG_len l n (nth l (atP l s).toNat).els
    have hl3 := slots1_len (nth l (atP l s).toNat)
    have hl4 := slotsG_len2 l n s (by omega)
    refine AWp.skip ?_
    refine AWp.seq (AWp.draw [⟨[.s 0], [.s 12], false⟩, ⟨[.s 5], [.s 13], false⟩, ⟨[.s 12, .s 13], [.s 14], false⟩, ⟨[.s 14], [.s 15], false⟩, ⟨[.s 15], [.s 16], false⟩, ⟨[.s 0], [.s 17], false⟩, ⟨[.s 0], [.s 18], false⟩, ⟨[.s 5], [.s 19], false⟩, ⟨[.s 18, .s 19], [.s 20], false⟩, ⟨[.s 20], [.s 21], false⟩, ⟨[.s 21], [.s 22], false⟩, ⟨[.s 22, .s 17], [.s 23], false⟩, ⟨[.s 23, .s 16], [.s 24], false⟩, ⟨[], [], true⟩] yvMo rfl ?_)
    refine DRun.step rfl (fun τ hN hr => step_moveV rfl (rdN hN (hn rfl)) rfl (by exact rdS hr rfl rfl)) ?_
    refine DRun.step rfl (fun τ hN hr => step_moveV rfl (rdN hN (hn rfl)) rfl (by exact rdS hr rfl rfl)) ?_
    refine DRun.step rfl (fun τ hN hr => step_index_f rfl (rdN hN (hn rfl)) rfl yvSl59 (by exact rdS hr rfl rfl) (by exact rdS hr rfl rfl) (by omega) (by omega)) ?_
    refine DRun.step rfl (fun τ hN hr => step_loadS_f rfl (rdN hN (hn rfl)) rfl yvSt68 (by exact rdS hr rfl rfl) (hn rfl) rfl rfl) ?_
    refine DRun.step rfl (fun τ hN hr => call_stepZ rfl (rdN hN (hn rfl)) rfl yvCo163 (.cons (by exact rdS hr rfl rfl) (.agg (.cons (.v _) (.cons (.v _) (.cons (.v _) (.cons (.v _) (.cons (.v _) (.cons (.v _) (.cons (.v _) (.cons (.v _) .nil))))))))) (.nil)) (slots1I _) rfl (by exact rdNoRefs hr rfl rfl)) ?_
    refine DRun.step rfl (fun τ hN hr => step_moveV rfl (rdN hN (hn rfl)) rfl (by exact rdS hr rfl rfl)) ?_
    refine DRun.step rfl (fun τ hN hr => step_moveV rfl (rdN hN (hn rfl)) rfl (by exact rdS hr rfl rfl)) ?_
    refine DRun.step rfl (fun τ hN hr => step_moveV rfl (rdN hN (hn rfl)) rfl (by exact rdS hr rfl rfl)) ?_
    refine DRun.step rfl (fun τ hN hr => step_index_f rfl (rdN hN (hn rfl)) rfl yvSl59 (by exact rdS hr rfl rfl) (by exact rdS hr rfl rfl) (by omega) (by omega)) ?_
    refine DRun.step rfl (fun τ hN hr => step_field_f rfl (rdN hN (hn rfl)) rfl yvFo68_6 (by exact rdS hr rfl rfl)) ?_
    refine DRun.step rfl (fun τ hN hr => step_load_f rfl (rdN hN (hn rfl)) rfl yvSc9 (by exact rdS hr rfl rfl) (hn rfl) rfl) ?_
    refine DRun.step rfl (fun τ hN hr => call_stepZ rfl (rdN hN (hn rfl)) rfl yvCo154 (.cons (by exact rdS hr rfl rfl) (.one (.v _)) (.cons (by exact rdS hr rfl rfl) (.one (.v _)) (.nil))) (ih _ (by omega)) rfl (by exact rdNoRefs hr rfl rfl)) ?_
    refine DRun.step rfl (fun τ hN hr => call_stepZ rfl (rdN hN (hn rfl)) rfl yvCo82 (.cons (by exact rdS hr rfl rfl) (.one (.v _)) (.cons (by exact rdS hr rfl rfl) (.one (.v _)) (.nil))) (withIZ _ _ (by omega) (by omega)) rfl (by exact rdNoRefs hr rfl rfl)) ?_
    refine DRun.lastS rfl (step_assignV rfl (hn rfl) rfl rfl) ?_
    refine AWp.seq (AWp.region ?_)
    refine ARun.step rfl (step_moveV rfl (hn rfl) rfl rfl) ?_
    refine ARun.step rfl (step_moveV rfl (hn rfl) rfl rfl) ?_
    refine ARun.step rfl (step_moveV rfl (hn rfl) rfl rfl) ?_
    refine ARun.step rfl (step_moveV rfl (hn rfl) rfl rfl) ?_
    refine ARun.step rfl (step_index_f rfl (hn rfl) rfl yvSl59 rfl rfl (by omega) (by omega)) ?_
    refine ARun.step rfl (step_field_f rfl (hn rfl) rfl yvFo68_7 rfl) ?_
    refine ARun.step rfl (step_load_f rfl (hn rfl) rfl yvSc9 rfl (hn rfl) rfl) ?_
    refine ARun.step rfl (call_stepZ rfl (hn rfl) rfl yvCo154 (.cons rfl (.one (.v _)) (.cons rfl (.one (.v _)) (.nil))) (ih _ (by omega)) rfl rfl) ?_
    refine ARun.step rfl (call_stepZ rfl (hn rfl) rfl yvCo82 (.cons rfl (.one (.v _)) (.cons rfl (.one (.v _)) (.nil))) (withIZ _ _ (by omega) (by omega)) rfl rfl) ?_
    refine ARun.step rfl (step_assignV rfl (hn rfl) rfl rfl) ?_
    refine ARun.nil ?_
    refine AWp.ret ?_
    refine RetIs.frz (.inr rfl) rfl ?_
    exact congrArg (fun x => T.fz (strs x)) (by rw [slotsG, if_neg (by omega)])
theorem slotsI1 (l : List Ph) (h : recOk l = true) : ∀ (n : Nat) (s : Str), rank l s < n → ASpec Tryz.prog 154 [.one (phs 68 l), .one (.str s)] (.one (.fz (strs (slotsG l n s))))
  | 0, s, hr => by omega
  | n + 1, s, hr => slotsI0 l n s h hr (slotsI1 l h n)
theorem slotsI (l : List Ph) (s : Str) (h : recOk l = true) : ASpec Tryz.prog 154 [.one (phs 68 l), .one (.str s)] (.one (.fz (strs (slotsB l s)))) := slotsI1 l h (l.length + 1) s (rank_le l s)
theorem slotsS0 (l : List Ph) (n : Nat) (s : Str) (h : recOk l = true) (hr : rank l s < n + 1) (ih : ∀ s, rank l s < n → ASpec Tryz.prog 98 [.one (phs 68 l), .one (.str s)] (.one (.fz (strs (slotsG l n s))))) : ASpec Tryz.prog 98 [.one (phs 68 l), .one (.str s)] (.one (.fz (strs (slotsG l (n + 1) s)))) := by
  refine ASpec.body Tryz.func98 rfl [4] rfl 33 rfl rfl rfl ?_
  have ha := atP_lt l s
  have hlen := recOk_len h
  refine AWp.seq (AWp.region ?_)
  refine ARun.step rfl (step_assignV rfl (hn rfl) rfl rfl) ?_
  refine ARun.nil ?_
  refine AWp.seq (AWp.region ?_)
  refine ARun.step rfl (step_moveV rfl (hn rfl) rfl rfl) ?_
  refine ARun.step rfl (step_moveV rfl (hn rfl) rfl rfl) ?_
  refine ARun.step rfl (call_step1 rfl (hn rfl) rfl yvCo105 (.cons rfl (.one (.v _)) (.cons rfl (.one (.v _)) (.nil))) (l42At _ _) rfl) ?_
  refine ARun.step rfl (step_assignV rfl (hn rfl) rfl rfl) ?_
  refine ARun.nil ?_
  refine AWp.seq ?_
  refine AWp.seq (AWp.region ?_)
  refine ARun.step rfl (step_moveV rfl (hn rfl) rfl rfl) ?_
  refine ARun.step rfl (step_lss rfl (hn rfl) rfl rfl rfl) ?_
  refine ARun.nil ?_
  refine AWp.cond rfl (fun c1 => ?_) (fun c1 => ?_)
  · try simp only [nrm] at c1
    refine AWp.seq (AWp.region ?_)
    refine ARun.step rfl (step_buildVT rfl (hn rfl) rfl yvSl22 (strs []) (.nil _) rfl rfl rfl rows0) ?_
    refine ARun.step rfl (step_assignV rfl (hn rfl) rfl rfl) ?_
    refine ARun.nil ?_
    refine AWp.ret ?_
    refine RetIs.frz (.inr rfl) rfl ?_
    exact congrArg (fun x => T.fz (strs x)) (show [] = slotsG l (n + 1) s by rw [slotsG, if_pos c1])
  · try simp only [nrm] at c1
    have hrt := rank_thn h (s := s) (by omega)
    have hl1 := slotsG_len l n (nth l (atP l s).toNat).thn
    have hl2 := slotsG_len l n (nth l (atP l s).toNat).els
    have hl3 := slots1_len (nth l (atP l s).toNat)
    have hl4 := slotsG_len2 l n s (by omega)
    refine AWp.skip ?_
    refine AWp.seq (AWp.draw [⟨[.s 0], [.s 12], false⟩, ⟨[.s 5], [.s 13], false⟩, ⟨[.s 12, .s 13], [.s 14], false⟩, ⟨[.s 14], [.s 15], false⟩, ⟨[.s 15], [.s 16], false⟩, ⟨[.s 0], [.s 17], false⟩, ⟨[.s 0], [.s 18], false⟩, ⟨[.s 5], [.s 19], false⟩, ⟨[.s 18, .s 19], [.s 20], false⟩, ⟨[.s 20], [.s 21], false⟩, ⟨[.s 21], [.s 22], false⟩, ⟨[.s 22, .s 17], [.s 23], false⟩, ⟨[.s 23, .s 16], [.s 24], false⟩, ⟨[.s 0], [.s 25], false⟩, ⟨[.s 0], [.s 26], false⟩, ⟨[.s 5], [.s 27], false⟩, ⟨[.s 26, .s 27], [.s 28], false⟩, ⟨[.s 28], [.s 29], false⟩, ⟨[.s 29], [.s 30], false⟩, ⟨[.s 30, .s 25], [.s 31], false⟩, ⟨[.s 31, .s 24], [.s 32], false⟩, ⟨[], [], true⟩] yvMo rfl ?_)
    refine DRun.step rfl (fun τ hN hr => step_moveV rfl (rdN hN (hn rfl)) rfl (by exact rdS hr rfl rfl)) ?_
    refine DRun.step rfl (fun τ hN hr => step_moveV rfl (rdN hN (hn rfl)) rfl (by exact rdS hr rfl rfl)) ?_
    refine DRun.step rfl (fun τ hN hr => step_index_f rfl (rdN hN (hn rfl)) rfl yvSl59 (by exact rdS hr rfl rfl) (by exact rdS hr rfl rfl) (by omega) (by omega)) ?_
    refine DRun.step rfl (fun τ hN hr => step_loadS_f rfl (rdN hN (hn rfl)) rfl yvSt68 (by exact rdS hr rfl rfl) (hn rfl) rfl rfl) ?_
    refine DRun.step rfl (fun τ hN hr => call_stepZ rfl (rdN hN (hn rfl)) rfl yvCo109 (.cons (by exact rdS hr rfl rfl) (.agg (.cons (.v _) (.cons (.v _) (.cons (.v _) (.cons (.v _) (.cons (.v _) (.cons (.v _) (.cons (.v _) (.cons (.v _) .nil))))))))) (.nil)) (slots1S _) rfl (by exact rdNoRefs hr rfl rfl)) ?_
    refine DRun.step rfl (fun τ hN hr => step_moveV rfl (rdN hN (hn rfl)) rfl (by exact rdS hr rfl rfl)) ?_
    refine DRun.step rfl (fun τ hN hr => step_moveV rfl (rdN hN (hn rfl)) rfl (by exact rdS hr rfl rfl)) ?_
    refine DRun.step rfl (fun τ hN hr => step_moveV rfl (rdN hN (hn rfl)) rfl (by exact rdS hr rfl rfl)) ?_
    refine DRun.step rfl (fun τ hN hr => step_index_f rfl (rdN hN (hn rfl)) rfl yvSl59 (by exact rdS hr rfl rfl) (by exact rdS hr rfl rfl) (by omega) (by omega)) ?_
    refine DRun.step rfl (fun τ hN hr => step_field_f rfl (rdN hN (hn rfl)) rfl yvFo68_6 (by exact rdS hr rfl rfl)) ?_
    refine DRun.step rfl (fun τ hN hr => step_load_f rfl (rdN hN (hn rfl)) rfl yvSc9 (by exact rdS hr rfl rfl) (hn rfl) rfl) ?_
    refine DRun.step rfl (fun τ hN hr => call_stepZ rfl (rdN hN (hn rfl)) rfl yvCo98 (.cons (by exact rdS hr rfl rfl) (.one (.v _)) (.cons (by exact rdS hr rfl rfl) (.one (.v _)) (.nil))) (ih _ (by omega)) rfl (by exact rdNoRefs hr rfl rfl)) ?_
    refine DRun.step rfl (fun τ hN hr => call_stepZ rfl (rdN hN (hn rfl)) rfl yvCo157 (.cons (by exact rdS hr rfl rfl) (.one (.v _)) (.cons (by exact rdS hr rfl rfl) (.one (.v _)) (.nil))) (bothS _ _ (by omega) (by omega)) rfl (by exact rdNoRefs hr rfl rfl)) ?_
    refine DRun.step rfl (fun τ hN hr => step_moveV rfl (rdN hN (hn rfl)) rfl (by exact rdS hr rfl rfl)) ?_
    refine DRun.step rfl (fun τ hN hr => step_moveV rfl (rdN hN (hn rfl)) rfl (by exact rdS hr rfl rfl)) ?_
    refine DRun.step rfl (fun τ hN hr => step_moveV rfl (rdN hN (hn rfl)) rfl (by exact rdS hr rfl rfl)) ?_
    refine DRun.step rfl (fun τ hN hr => step_index_f rfl (rdN hN (hn rfl)) rfl yvSl59 (by exact rdS hr rfl rfl) (by exact rdS hr rfl rfl) (by omega) (by omega)) ?_
    refine DRun.step rfl (fun τ hN hr => step_field_f rfl (rdN hN (hn rfl)) rfl yvFo68_7 (by exact rdS hr rfl rfl)) ?_
    refine DRun.step rfl (fun τ hN hr => step_load_f rfl (rdN hN (hn rfl)) rfl yvSc9 (by exact rdS hr rfl rfl) (hn rfl) rfl) ?_
    refine DRun.step rfl (fun τ hN hr => call_stepZ rfl (rdN hN (hn rfl)) rfl yvCo98 (.cons (by exact rdS hr rfl rfl) (.one (.v _)) (.cons (by exact rdS hr rfl rfl) (.one (.v _)) (.nil))) (ih _ (by omega)) rfl (by exact rdNoRefs hr rfl rfl)) ?_
    refine DRun.step rfl (fun τ hN hr => call_stepZ rfl (rdN hN (hn rfl)) rfl yvCo157 (.cons (by exact rdS hr rfl rfl) (.one (.v _)) (.cons (by exact rdS hr rfl rfl) (.one (.v _)) (.nil))) (bothS _ _ (by rw [ins_ih (slots1_asc _)]; omega) (by omega)) rfl (by exact rdNoRefs hr rfl rfl)) ?_
    refine DRun.lastS rfl (step_assignV rfl (hn rfl) rfl rfl) ?_
    refine AWp.ret ?_
    refine RetIs.frz (.inr rfl) rfl ?_
    exact congrArg (fun x => T.fz (strs x)) (by rw [slotsG, if_neg (by omega)]; rw [ins_ih (slots1_asc _), ins_ih (withB_spec (slots1_asc _).nodup _).1])
theorem slotsS1 (l : List Ph) (h : recOk l = true) : ∀ (n : Nat) (s : Str), rank l s < n → ASpec Tryz.prog 98 [.one (phs 68 l), .one (.str s)] (.one (.fz (strs (slotsG l n s))))
  | 0, s, hr => by omega
  | n + 1, s, hr => slotsS0 l n s h hr (slotsS1 l h n)
theorem slotsS (l : List Ph) (s : Str) (h : recOk l = true) : ASpec Tryz.prog 98 [.one (phs 68 l), .one (.str s)] (.one (.fz (strs (slotsB l s)))) := slotsS1 l h (l.length + 1) s (rank_le l s)
theorem thingI (p : Rb) (s : Str)  : ASpec Tryz.prog 210 [.agg (p.cells 68 177), .one (.str s)] (.one (.str (thingB p.slots s))) := by
  refine ASpec.body Tryz.func210 rfl [4] rfl 21 rfl rfl rfl ?_
  refine AWp.aggLe 0 rfl (fun hc => ?_)
  have hl : p.slots.length ≤ 9223372036854775807 := hc (.v (slts 177 p.slots)) (by simp [Rb.cells])
  clear hc
  refine AWp.seq (AWp.region ?_)
  refine ARun.step rfl (step_box_p (m := 5) rfl (hn rfl) rfl rfl rfl rfl rfl) ?_
  refine ARun.step rfl (step_assignV rfl (hn rfl) rfl rfl) ?_
  refine ARun.nil ?_
  refine AWp.seq ?_
  refine AWp.seq (AWp.region ?_)
  refine ARun.step rfl (step_field_b rfl (hn rfl) rfl yvFo62_2 rfl (by exact List.cons_ne_nil _ _)) ?_
  refine ARun.step rfl (step_load_b rfl (hn rfl) rfl yvSc60 rfl rfl) ?_
  refine ARun.step rfl (step_len_f rfl (hn rfl) rfl yvSl60 rfl) ?_
  refine ARun.step rfl (step_moveV rfl (hn rfl) rfl rfl) ?_
  refine ARun.nil ?_
  refine AWp.block ?_
  refine AWp.loopM (fun i : Nat => mkAS 21 [(1, ⟨true, .one (.v (.str s))⟩), (8, ⟨true, .one (.v (slts 177 p.slots))⟩), (9, ⟨true, .one (.v (.int .i64 (p.slots.length : Nat)))⟩), (10, ⟨true, .one (.v (.int .i64 (i : Nat)))⟩)] [] []) (fun i => i ≤ p.slots.length ∧ ∀ j, j < i → strEq (nth p.slots j).slot s = false) (fun i => p.slots.length - i) 0 ?_ (Le.forgetR rfl ⟨rfl, rfl, rfl, rfl, trivial⟩ trivial trivial) ?_
  · try dsimp only
    exact ⟨by omega, by omega⟩
  rintro i ⟨hi, hall⟩
  refine AWp.seq (AWp.region ?_)
  refine ARun.step rfl (step_lss rfl (hn rfl) rfl rfl rfl) ?_
  refine ARun.nil ?_
  refine AWp.seq ?_
  refine AWp.cond rfl (fun c1 => ?_) (fun c1 => ?_)
  · try simp only [nrm] at c1
    refine AWp.skip ?_
    refine AWp.seq ?_
    refine AWp.block ?_
    refine AWp.seq (AWp.region ?_)
    refine ARun.step rfl (step_index_fN rfl (hn rfl) rfl yvSl60 rfl rfl (by omega)) ?_
    refine ARun.step rfl (step_loadS_f rfl (hn rfl) rfl yvSt177 rfl (hn rfl) rfl rfl) ?_
    refine ARun.step rfl (step_alloc_p rfl (hn rfl) rfl yvZs177) ?_
    refine ARun.step rfl (step_store_p rfl rfl yvCs177 rfl rfl rfl rfl rfl rfl rfl) ?_
    refine ARun.nil ?_
    refine AWp.seq (AWp.region ?_)
    refine ARun.step rfl (step_field_b rfl (hn rfl) rfl yvFo177_0 rfl (by exact List.cons_ne_nil _ _)) ?_
    refine ARun.step rfl (step_load_b rfl (hn rfl) rfl yvSc9 rfl rfl) ?_
    refine ARun.step rfl (step_moveV rfl (hn rfl) rfl rfl) ?_
    refine ARun.step rfl (step_seql rfl (hn rfl) rfl rfl rfl) ?_
    refine ARun.nil ?_
    refine AWp.cond rfl (fun c2 => ?_) (fun c2 => ?_)
    · try simp only [nrm] at c2
      refine AWp.seq (AWp.region ?_)
      refine ARun.step rfl (step_field_b rfl (hn rfl) rfl yvFo177_1 rfl (by exact List.cons_ne_nil _ _)) ?_
      refine ARun.step rfl (step_load_b rfl (hn rfl) rfl yvSc9 rfl rfl) ?_
      refine ARun.step rfl (step_assignV rfl (hn rfl) rfl rfl) ?_
      refine ARun.nil ?_
      refine AWp.ret ?_
      refine RetIs.sc (.inr rfl) rfl rfl ?_
      refine congrArg T.str ?_
      exact thing_some hall (by omega) c2
    · try simp only [nrm] at c2
      refine AWp.skip ?_
      refine AWp.region ?_
      refine ARun.step rfl (step_addI rfl (hn rfl) rfl rfl rfl (by omega) (by omega)) ?_
      refine ARun.step rfl (step_moveV rfl (hn rfl) rfl rfl) ?_
      refine ARun.nil ?_
      refine ⟨i + 1, ?_, ?_, Le.forgetR rfl ⟨rfl, rfl, rfl, rfl, trivial⟩ trivial trivial⟩
      · try dsimp only
        exact ⟨by omega, upto hall (by assumption)⟩
      · try dsimp only
        omega
  · try simp only [nrm] at c1
    refine AWp.exit ?_
    refine AWp.seq (AWp.region ?_)
    refine ARun.step rfl (step_assignV rfl (hn rfl) rfl rfl) ?_
    refine ARun.nil ?_
    refine AWp.ret ?_
    refine RetIs.sc (.inr rfl) rfl rfl ?_
    refine congrArg T.str ?_
    exact thing_none hall (by omega)
theorem thingS (p : Rb) (s : Str)  : ASpec Tryz.prog 156 [.agg (p.cells 68 177), .one (.str s)] (.one (.str (thingB p.slots s))) := by
  refine ASpec.body Tryz.func156 rfl [4] rfl 27 rfl rfl rfl ?_
  refine AWp.aggLe 0 rfl (fun hc => ?_)
  have hl : p.slots.length ≤ 9223372036854775807 := hc (.v (slts 177 p.slots)) (by simp [Rb.cells])
  clear hc
  refine AWp.seq (AWp.region ?_)
  refine ARun.step rfl (step_box_p (m := 5) rfl (hn rfl) rfl rfl rfl rfl rfl) ?_
  refine ARun.step rfl (step_assignV rfl (hn rfl) rfl rfl) ?_
  refine ARun.nil ?_
  refine AWp.seq ?_
  refine AWp.seq (AWp.region ?_)
  refine ARun.step rfl (step_assignV rfl (hn rfl) rfl rfl) ?_
  refine ARun.nil ?_
  refine AWp.block ?_
  refine AWp.loopM (fun i : Nat => mkAS 27 [(1, ⟨true, .one (.v (.str s))⟩), (2, ⟨true, .one (.bptr 2 0)⟩), (5, ⟨true, .one (.v (.int .i64 (i : Nat)))⟩)] [(2, (p.cells 68 177).map C.v)] []) (fun i => i ≤ p.slots.length ∧ ∀ j, j < i → strEq (nth p.slots j).slot s = false) (fun i => p.slots.length - i) 0 ?_ (Le.forgetR rfl ⟨rfl, rfl, rfl, trivial⟩ ⟨rfl, trivial⟩ trivial) ?_
  · try dsimp only
    exact ⟨by omega, by omega⟩
  rintro i ⟨hi, hall⟩
  refine AWp.seq ?_
  refine AWp.seq (AWp.region ?_)
  refine ARun.step rfl (step_moveV rfl (hn rfl) rfl rfl) ?_
  refine ARun.step rfl (step_field_b rfl (hn rfl) rfl yvFo62_2 rfl (by exact List.cons_ne_nil _ _)) ?_
  refine ARun.step rfl (step_load_b rfl (hn rfl) rfl yvSc60 rfl rfl) ?_
  refine ARun.step rfl (step_len_f rfl (hn rfl) rfl yvSl60 rfl) ?_
  refine ARun.step rfl (step_lss rfl (hn rfl) rfl rfl rfl) ?_
  refine ARun.nil ?_
  refine AWp.cond rfl (fun c1 => ?_) (fun c1 => ?_)
  · try simp only [nrm] at c1
    refine AWp.skip ?_
    refine AWp.seq ?_
    refine AWp.block ?_
    refine AWp.seq (AWp.region ?_)
    refine ARun.step rfl (step_field_b rfl (hn rfl) rfl yvFo62_2 rfl (by exact List.cons_ne_nil _ _)) ?_
    refine ARun.step rfl (step_load_b rfl (hn rfl) rfl yvSc60 rfl rfl) ?_
    refine ARun.step rfl (step_moveV rfl (hn rfl) rfl rfl) ?_
    refine ARun.step rfl (step_index_fN rfl (hn rfl) rfl yvSl60 rfl rfl (by omega)) ?_
    refine ARun.step rfl (step_field_f rfl (hn rfl) rfl yvFo177_0 rfl) ?_
    refine ARun.step rfl (step_load_f rfl (hn rfl) rfl yvSc9 rfl (hn rfl) rfl) ?_
    refine ARun.step rfl (step_moveV rfl (hn rfl) rfl rfl) ?_
    refine ARun.step rfl (step_seql rfl (hn rfl) rfl rfl rfl) ?_
    refine ARun.nil ?_
    refine AWp.cond rfl (fun c2 => ?_) (fun c2 => ?_)
    · try simp only [nrm] at c2
      refine AWp.seq (AWp.region ?_)
      refine ARun.step rfl (step_field_b rfl (hn rfl) rfl yvFo62_2 rfl (by exact List.cons_ne_nil _ _)) ?_
      refine ARun.step rfl (step_load_b rfl (hn rfl) rfl yvSc60 rfl rfl) ?_
      refine ARun.step rfl (step_moveV rfl (hn rfl) rfl rfl) ?_
      refine ARun.step rfl (step_index_fN rfl (hn rfl) rfl yvSl60 rfl rfl (by omega)) ?_
      refine ARun.step rfl (step_field_f rfl (hn rfl) rfl yvFo177_1 rfl) ?_
      refine ARun.step rfl (step_load_f rfl (hn rfl) rfl yvSc9 rfl (hn rfl) rfl) ?_
      refine ARun.step rfl (step_assignV rfl (hn rfl) rfl rfl) ?_
      refine ARun.nil ?_
      refine AWp.ret ?_
      refine RetIs.sc (.inr rfl) rfl rfl ?_
      refine congrArg T.str ?_
      exact thing_some hall (by omega) c2
    · try simp only [nrm] at c2
      refine AWp.skip ?_
      refine AWp.region ?_
      refine ARun.step rfl (step_moveV rfl (hn rfl) rfl rfl) ?_
      refine ARun.step rfl (step_addI rfl (hn rfl) rfl rfl rfl (by omega) (by omega)) ?_
      refine ARun.step rfl (step_assignV rfl (hn rfl) rfl rfl) ?_
      refine ARun.nil ?_
      refine ⟨i + 1, ?_, ?_, Le.forgetR rfl ⟨rfl, rfl, rfl, trivial⟩ ⟨rfl, trivial⟩ trivial⟩
      · try dsimp only
        exact ⟨by omega, upto hall (by assumption)⟩
      · try dsimp only
        omega
  · try simp only [nrm] at c1
    refine AWp.exit ?_
    refine AWp.seq (AWp.region ?_)
    refine ARun.step rfl (step_assignV rfl (hn rfl) rfl rfl) ?_
    refine ARun.nil ?_
    refine AWp.ret ?_
    refine RetIs.sc (.inr rfl) rfl rfl ?_
    refine congrArg T.str ?_
    exact thing_none hall (by omega)
theorem thingsI (p : Rb) (m : List Str) (hm : m.length ≤ 1048576) : ASpec Tryz.prog 153 [.agg (p.cells 68 177), .one (strs m)] (.one (strs (thingsB p.slots m))) := by
  refine ASpec.body Tryz.func153 rfl [4] rfl 22 rfl rfl rfl ?_
  refine AWp.seq (AWp.region ?_)
  refine ARun.step rfl (step_box_p (m := 5) rfl (hn rfl) rfl rfl rfl rfl rfl) ?_
  refine ARun.step rfl (step_assignV rfl (hn rfl) rfl rfl) ?_
  refine ARun.nil ?_
  refine AWp.seq (AWp.region ?_)
  refine ARun.step rfl (step_assignV rfl (hn rfl) rfl rfl) ?_
  refine ARun.nil ?_
  refine AWp.seq ?_
  refine AWp.seq (AWp.region ?_)
  refine ARun.step rfl (step_moveV rfl (hn rfl) rfl rfl) ?_
  refine ARun.step rfl (step_len_f rfl (hn rfl) rfl yvSl22 rfl) ?_
  refine ARun.step rfl (step_moveV rfl (hn rfl) rfl rfl) ?_
  refine ARun.nil ?_
  refine AWp.block ?_
  refine AWp.le (Le.nilRef 5 19 9 1 (fun i => [.str (nth [] i)]) rfl rfl) ?_
  refine AWp.loopM (fun i : Nat => mkAS 22 [(2, ⟨true, .one (.bptr 2 0)⟩), (5, ⟨true, .one (.ref ⟨.arr 19 0, []⟩)⟩), (8, ⟨true, .one (.v (strs m))⟩), (9, ⟨true, .one (.v (.int .i64 (m.length : Nat)))⟩), (10, ⟨true, .one (.v (.int .i64 (i : Nat)))⟩)] [(2, (p.cells 68 177).map C.v)] [(19, 0, strs (thingsGo p.slots m i))]) (fun i => i ≤ m.length) (fun i => m.length - i) 0 ?_ (Le.forgetR rfl ⟨rfl, rfl, rfl, rfl, rfl, trivial⟩ ⟨rfl, trivial⟩ ⟨.refl _, trivial⟩) ?_
  · try dsimp only
    omega
  rintro i hi
  have htl := thingsGo_len p.slots m i
  refine AWp.seq (AWp.region ?_)
  refine ARun.step rfl (step_lss rfl (hn rfl) rfl rfl rfl) ?_
  refine ARun.nil ?_
  refine AWp.seq ?_
  refine AWp.cond rfl (fun c1 => ?_) (fun c1 => ?_)
  · try simp only [nrm] at c1
    refine AWp.skip ?_
    refine AWp.seq ?_
    refine AWp.block ?_
    refine AWp.seq (AWp.region ?_)
    refine ARun.step rfl (step_index_fN rfl (hn rfl) rfl yvSl22 rfl rfl (by omega)) ?_
    refine ARun.step rfl (step_load_f rfl (hn rfl) rfl yvSc9 rfl (hn rfl) rfl) ?_
    refine ARun.step rfl (step_assignV rfl (hn rfl) rfl rfl) ?_
    refine ARun.nil ?_
    refine AWp.region ?_
    refine ARun.step rfl (step_moveV rfl (hn rfl) rfl rfl) ?_
    refine ARun.step rfl (step_loadS_b rfl (hn rfl) rfl yvSt62 rfl rfl rfl (by decide)) ?_
    refine ARun.step rfl (step_moveV rfl (hn rfl) rfl rfl) ?_
    refine ARun.step rfl (call_step1 rfl (hn rfl) rfl yvCo210 (.cons rfl (.agg (.cons (.v _) (.cons (.v _) (.cons (.v _) (.cons (.v _) (.cons (.v _) (.cons (.v _) .nil))))))) (.cons rfl (.one (.v _)) (.nil))) (thingI p _) rfl) ?_
    refine ARun.step rfl (step_buildVT rfl (hn rfl) rfl yvSl22 (strs [_]) (.cons rfl rfl rfl rfl (.nil _)) rfl rfl rfl (rows1 rfl)) ?_
    refine ARun.step rfl (call_stepC rfl (hn rfl) rfl yvCo82 (.cons rfl (.one (.ref _ rfl)) (.cons rfl (.one (.v _)) (.nil))) (withI (thingsGo p.slots m i) [thingB p.slots (nth m i)] (by omega) (by simp)) rfl (CleanL.all (.cons (clean_strs _) .nil))) ?_
    refine ARun.step rfl (step_assignV rfl (hn rfl) rfl rfl) ?_
    refine ARun.nil ?_
    refine AWp.region ?_
    refine ARun.step rfl (step_addI rfl (hn rfl) rfl rfl rfl (by omega) (by omega)) ?_
    refine ARun.step rfl (step_moveV rfl (hn rfl) rfl rfl) ?_
    refine ARun.nil ?_
    refine ⟨i + 1, ?_, ?_, Le.forgetR rfl ⟨rfl, rfl, rfl, rfl, rfl, trivial⟩ ⟨rfl, trivial⟩ ⟨.refl _, trivial⟩⟩
    · try dsimp only
      omega
    · try dsimp only
      omega
  · try simp only [nrm] at c1
    refine AWp.exit ?_
    refine AWp.seq (AWp.region ?_)
    refine ARun.step rfl (step_moveV rfl (hn rfl) rfl rfl) ?_
    refine ARun.step rfl (step_assignV rfl (hn rfl) rfl rfl) ?_
    refine ARun.nil ?_
    refine AWp.ret ?_
    refine RetIs.ref (.inr rfl) rfl rfl ?_
    obtain rfl : i = m.length := by omega
    rfl
theorem thingsS (p : Rb) (m : List Str) (hm : m.length ≤ 1048576) : ASpec Tryz.prog 97 [.agg (p.cells 68 177), .one (strs m)] (.one (.fz (strs (thingsB p.slots m)))) := by
  refine ASpec.body Tryz.func97 rfl [4] rfl 23 rfl rfl rfl ?_
  refine AWp.seq (AWp.region ?_)
  refine ARun.step rfl (step_box_p (m := 5) rfl (hn rfl) rfl rfl rfl rfl rfl) ?_
  refine ARun.step rfl (step_assignV rfl (hn rfl) rfl rfl) ?_
  refine ARun.nil ?_
  refine AWp.seq (AWp.region ?_)
  refine ARun.step rfl (step_buildVT rfl (hn rfl) rfl yvSl22 (strs []) (.nil _) rfl rfl rfl rows0) ?_
  refine ARun.step rfl (step_assignV rfl (hn rfl) rfl rfl) ?_
  refine ARun.nil ?_
  refine AWp.seq ?_
  refine AWp.seq (AWp.region ?_)
  refine ARun.step rfl (step_assignV rfl (hn rfl) rfl rfl) ?_
  refine ARun.nil ?_
  refine AWp.block ?_
  refine AWp.loopM (fun i : Nat => mkAS 23 [(1, ⟨true, .one (.v (strs m))⟩), (2, ⟨true, .one (.bptr 2 0)⟩), (5, ⟨true, .one (.v (strs (thingsGo p.slots m i)))⟩), (6, ⟨true, .one (.v (.int .i64 (i : Nat)))⟩)] [(2, (p.cells 68 177).map C.v)] []) (fun i => i ≤ m.length) (fun i => m.length - i) 0 ?_ (Le.forgetR rfl ⟨rfl, rfl, rfl, rfl, trivial⟩ ⟨rfl, trivial⟩ trivial) ?_
  · try dsimp only
    omega
  rintro i hi
  have htl := thingsGo_len p.slots m i
  refine AWp.seq ?_
  refine AWp.seq (AWp.region ?_)
  refine ARun.step rfl (step_moveV rfl (hn rfl) rfl rfl) ?_
  refine ARun.step rfl (step_moveV rfl (hn rfl) rfl rfl) ?_
  refine ARun.step rfl (step_len_f rfl (hn rfl) rfl yvSl22 rfl) ?_
  refine ARun.step rfl (step_lss rfl (hn rfl) rfl rfl rfl) ?_
  refine ARun.nil ?_
  refine AWp.cond rfl (fun c1 => ?_) (fun c1 => ?_)
  · try simp only [nrm] at c1
    refine AWp.skip ?_
    refine AWp.seq ?_
    refine AWp.block ?_
    refine AWp.draw [⟨[.s 5], [.s 14], false⟩, ⟨[.s 2, .b 2], [.s 15], false⟩, ⟨[.s 1], [.s 16], false⟩, ⟨[.s 6], [.s 17], false⟩, ⟨[.s 16, .s 17], [.s 18], false⟩, ⟨[.s 18], [.s 19], false⟩, ⟨[.s 19, .s 15], [.s 20], false⟩, ⟨[.s 20, .s 14], [.s 21], false⟩, ⟨[], [], true⟩] yvMo rfl ?_
    refine DRun.step rfl (fun τ hN hr => step_moveV rfl (rdN hN (hn rfl)) rfl (by exact rdS hr rfl rfl)) ?_
    refine DRun.step rfl (fun τ hN hr => step_loadS_b rfl (rdN hN (hn rfl)) rfl yvSt62 (by exact rdS hr rfl rfl) (by exact rdBtake hr rfl rfl) rfl (by decide)) ?_
    refine DRun.step rfl (fun τ hN hr => step_moveV rfl (rdN hN (hn rfl)) rfl (by exact rdS hr rfl rfl)) ?_
    refine DRun.step rfl (fun τ hN hr => step_moveV rfl (rdN hN (hn rfl)) rfl (by exact rdS hr rfl rfl)) ?_
    refine DRun.step rfl (fun τ hN hr => step_index_fN rfl (rdN hN (hn rfl)) rfl yvSl22 (by exact rdS hr rfl rfl) (by exact rdS hr rfl rfl) (by omega)) ?_
    refine DRun.step rfl (fun τ hN hr => step_load_f rfl (rdN hN (hn rfl)) rfl yvSc9 (by exact rdS hr rfl rfl) (hn rfl) rfl) ?_
    refine DRun.step rfl (fun τ hN hr => call_step1 rfl (rdN hN (hn rfl)) rfl yvCo156 (.cons (by exact rdS hr rfl rfl) (.agg (.cons (.v _) (.cons (.v _) (.cons (.v _) (.cons (.v _) (.cons (.v _) (.cons (.v _) .nil))))))) (.cons (by exact rdS hr rfl rfl) (.one (.v _)) (.nil))) (thingS p _) rfl) ?_
    refine DRun.step rfl (fun τ hN hr => call_stepZ rfl (rdN hN (hn rfl)) rfl yvCo155 (.cons (by exact rdS hr rfl rfl) (.one (.v _)) (.cons (by exact rdS hr rfl rfl) (.one (.v _)) (.nil))) (things_ins p.slots m i ▸ ins42 (thingsGo p.slots m i) (thingB p.slots (nth m i)) (by omega)) rfl (by exact rdNoRefs hr rfl rfl)) ?_
    refine DRun.lastS rfl (step_assignV rfl (hn rfl) rfl rfl) ?_
    refine AWp.region ?_
    refine ARun.step rfl (step_moveV rfl (hn rfl) rfl rfl) ?_
    refine ARun.step rfl (step_addI rfl (hn rfl) rfl rfl rfl (by omega) (by omega)) ?_
    refine ARun.step rfl (step_assignV rfl (hn rfl) rfl rfl) ?_
    refine ARun.nil ?_
    refine ⟨i + 1, ?_, ?_, Le.forgetR rfl ⟨rfl, rfl, rfl, rfl, trivial⟩ ⟨rfl, trivial⟩ trivial⟩
    · try dsimp only
      omega
    · try dsimp only
      omega
  · try simp only [nrm] at c1
    refine AWp.exit ?_
    refine AWp.seq (AWp.region ?_)
    refine ARun.step rfl (step_moveV rfl (hn rfl) rfl rfl) ?_
    refine ARun.step rfl (step_assignV rfl (hn rfl) rfl rfl) ?_
    refine ARun.nil ?_
    refine AWp.ret ?_
    refine RetIs.frz (.inr rfl) rfl ?_
    obtain rfl : i = m.length := by omega
    rfl
theorem rbAtI (p : Rb) (h0 : 0 ≤ atP p.recipe p.at_) : ASpec Tryz.prog 162 [.agg (p.cells 68 177)] (.agg (nth p.recipe (atP p.recipe p.at_).toNat).cells) := by
  refine ASpec.bodyC Tryz.func162 rfl 2 68 [] rfl rfl 12 rfl rfl rfl ?_
  have ha := atP_lt p.recipe p.at_
  refine AWp.seq (AWp.region ?_)
  refine ARun.step rfl (step_box_p (m := 5) rfl (hn rfl) rfl rfl rfl rfl rfl) ?_
  refine ARun.step rfl (step_alloc_p rfl (hn rfl) rfl yvZs68) ?_
  refine ARun.nil ?_
  refine AWp.seq (AWp.drawM [⟨⟨[.s 1, .b 1], [.s 3], false⟩, none, []⟩, ⟨⟨[.s 3, .b 1], [.s 4], false⟩, none, []⟩, ⟨⟨[.s 1, .b 1], [.s 5], false⟩, none, []⟩, ⟨⟨[.s 5, .b 1], [.s 6], false⟩, none, []⟩, ⟨⟨[.s 1, .b 1], [.s 7], false⟩, none, []⟩, ⟨⟨[.s 7, .b 1], [.s 8], false⟩, none, []⟩, ⟨⟨[.s 8, .s 6], [.s 9], false⟩, none, []⟩, ⟨⟨[], [], true⟩, none, []⟩, ⟨⟨[], [], true⟩, none, []⟩, ⟨⟨[], [], true⟩, none, []⟩] yvMo rfl rfl (Le.forgetR (n := 12) (sl := [(0, _), (1, _), (2, _)]) (bl := [(1, _), (2, _)]) (al := []) rfl ⟨rfl, rfl, rfl, trivial⟩ ⟨rfl, rfl, trivial⟩ trivial) rfl ?_)
  refine FRun.slot rfl (fun τ hN hr => step_field_b rfl (rdN hN (hn rfl)) rfl yvFo62_1 (by exact rdS hr rfl rfl) (by exact rdBne hr rfl (by exact List.cons_ne_nil _ _))) (by exact rfl) ?_
  refine FRun.slot rfl (fun τ hN hr => step_load_b rfl (rdN hN (hn rfl)) rfl yvSc59 (by exact rdS hr rfl rfl) (by exact rdBget hr rfl rfl)) (by exact rfl) ?_
  refine FRun.slot rfl (fun τ hN hr => step_field_b rfl (rdN hN (hn rfl)) rfl yvFo62_1 (by exact rdS hr rfl rfl) (by exact rdBne hr rfl (by exact List.cons_ne_nil _ _))) (by exact rfl) ?_
  refine FRun.slot rfl (fun τ hN hr => step_load_b rfl (rdN hN (hn rfl)) rfl yvSc59 (by exact rdS hr rfl rfl) (by exact rdBget hr rfl rfl)) (by exact rfl) ?_
  refine FRun.slot rfl (fun τ hN hr => step_field_b rfl (rdN hN (hn rfl)) rfl yvFo62_3 (by exact rdS hr rfl rfl) (by exact rdBne hr rfl (by exact List.cons_ne_nil _ _))) (by exact rfl) ?_
  refine FRun.slot rfl (fun τ hN hr => step_load_b rfl (rdN hN (hn rfl)) rfl yvSc9 (by exact rdS hr rfl rfl) (by exact rdBget hr rfl rfl)) (by exact rfl) ?_
  refine FRun.slot rfl (fun τ hN hr => call_step1 rfl (rdN hN (hn rfl)) rfl yvCo101 (.cons (by exact rdS hr rfl rfl) (.one (.v _)) (.cons (by exact rdS hr rfl rfl) (.one (.v _)) (.nil))) (phaseI _ _) rfl) (by exact rfl) ?_
  refine FRun.whole rfl (step_index_f rfl (hn rfl) rfl yvSl59 rfl rfl (by omega) (by omega)) (by exact rfl) ?_
  refine FRun.whole rfl (step_loadS_f rfl (hn rfl) rfl yvSt68 rfl (hn rfl) rfl rfl) (by exact rfl) ?_
  refine FRun.whole rfl (step_store_p rfl rfl yvCs68 rfl rfl rfl rfl rfl rfl rfl) (by exact rfl) ?_
  refine FRun.nil ?_
  refine AWp.ret ?_
  refine ⟨.inr rfl, 2, 8, _, _, _, yvSt68, by decide, rfl, rfl, rfl, rfl, (.cons rfl (.agg (.cons (.sc _ _ rfl) (.cons (.sc _ _ rfl) (.cons (.sc _ _ rfl) (.cons (.sc _ _ rfl) (.cons (.sc _ _ rfl) (.cons (.sc _ _ rfl) (.cons (.sc _ _ rfl) (.cons (.sc _ _ rfl) (.nil _)))))))))) (.nil _)), rfl, ?_⟩
  refine congrArg PV.agg ?_
  rfl
theorem fromI (p : Rb) (s : Str) (h : recOk p.recipe = true) : ASpec Tryz.prog 96 [.agg (p.cells 68 177), .one (.str s)] (.one (strs (fromB p s))) := by
  refine ASpec.body Tryz.func96 rfl [4] rfl 11 rfl rfl rfl ?_
  have hsl := slotsB_len h s
  refine AWp.seq (AWp.region ?_)
  refine ARun.step rfl (step_box_p (m := 5) rfl (hn rfl) rfl rfl rfl rfl rfl) ?_
  refine ARun.step rfl (step_assignV rfl (hn rfl) rfl rfl) ?_
  refine ARun.nil ?_
  refine AWp.seq (AWp.drawM [⟨⟨[.s 2, .b 2], [.s 5], false⟩, none, []⟩, ⟨⟨[.s 2, .b 2], [.s 6], false⟩, none, []⟩, ⟨⟨[.s 6, .b 2], [.s 7], false⟩, none, []⟩, ⟨⟨[.s 1], [.s 8], false⟩, none, []⟩, ⟨⟨[.s 8, .s 7], [.s 9], false⟩, none, []⟩, ⟨⟨[], [], true⟩, none, []⟩, ⟨⟨[], [], true⟩, none, []⟩] yvMo rfl rfl (Le.forgetR (n := 11) (sl := [(0, _), (1, _), (2, _), (4, _)]) (bl := [(2, _)]) (al := []) rfl ⟨rfl, rfl, rfl, rfl, trivial⟩ ⟨rfl, trivial⟩ trivial) rfl ?_)
  refine FRun.slot rfl (fun τ hN hr => step_loadS_b rfl (rdN hN (hn rfl)) rfl yvSt62 (by exact rdS hr rfl rfl) (by exact rdBtake hr rfl rfl) rfl (by decide)) (by exact rfl) ?_
  refine FRun.slot rfl (fun τ hN hr => step_field_b rfl (rdN hN (hn rfl)) rfl yvFo62_1 (by exact rdS hr rfl rfl) (by exact rdBne hr rfl (by exact List.cons_ne_nil _ _))) (by exact rfl) ?_
  refine FRun.slot rfl (fun τ hN hr => step_load_b rfl (rdN hN (hn rfl)) rfl yvSc59 (by exact rdS hr rfl rfl) (by exact rdBget hr rfl rfl)) (by exact rfl) ?_
  refine FRun.slot rfl (fun τ hN hr => step_moveV rfl (rdN hN (hn rfl)) rfl (by exact rdS hr rfl rfl)) (by exact rfl) ?_
  refine FRun.slot rfl (fun τ hN hr => call_stepZ rfl (rdN hN (hn rfl)) rfl yvCo154 (.cons (by exact rdS hr rfl rfl) (.one (.v _)) (.cons (by exact rdS hr rfl rfl) (.one (.v _)) (.nil))) (slotsI _ _ h) rfl (by exact rdNoRefs hr rfl rfl)) (by exact rfl) ?_
  refine FRun.whole rfl (call_stepN rfl (hn rfl) rfl yvCo153 (.cons rfl (.agg (.cons (.v _) (.cons (.v _) (.cons (.v _) (.cons (.v _) (.cons (.v _) (.cons (.v _) .nil))))))) (.cons rfl (.one (.v _)) (.nil))) (thingsI p _ (by omega)) rfl rfl) (by exact rfl) ?_
  refine FRun.whole rfl (step_assignV rfl (hn rfl) rfl rfl) (by exact rfl) ?_
  refine FRun.nil ?_
  refine AWp.ret ?_
  refine RetIs.ref (.inr rfl) rfl rfl ?_
  rfl
theorem ownI (p : Rb) (h : recOk p.recipe = true) (h0 : 0 ≤ atP p.recipe p.at_) : ASpec Tryz.prog 108 [.agg (p.cells 68 177)] (.one (strs (ownB p))) := by
  refine ASpec.body Tryz.func108 rfl [2] rfl 8 rfl rfl rfl ?_
  have hsl := slots1_len (nth p.recipe (atP p.recipe p.at_).toNat)
  refine AWp.seq (AWp.region ?_)
  refine ARun.step rfl (step_box_p (m := 5) rfl (hn rfl) rfl rfl rfl rfl rfl) ?_
  refine ARun.step rfl (step_assignV rfl (hn rfl) rfl rfl) ?_
  refine ARun.nil ?_
  refine AWp.seq (AWp.drawM [⟨⟨[.s 1, .b 1], [.s 3], false⟩, none, []⟩, ⟨⟨[.s 1, .b 1], [.s 4], false⟩, none, []⟩, ⟨⟨[.s 4], [.s 5], false⟩, none, []⟩, ⟨⟨[.s 5], [.s 6], false⟩, none, []⟩, ⟨⟨[], [], true⟩, none, []⟩, ⟨⟨[], [], true⟩, none, []⟩] yvMo rfl rfl (Le.forgetR (n := 8) (sl := [(0, _), (1, _), (2, _)]) (bl := [(1, _)]) (al := []) rfl ⟨rfl, rfl, rfl, trivial⟩ ⟨rfl, trivial⟩ trivial) rfl ?_)
  refine FRun.slot rfl (fun τ hN hr => step_loadS_b rfl (rdN hN (hn rfl)) rfl yvSt62 (by exact rdS hr rfl rfl) (by exact rdBtake hr rfl rfl) rfl (by decide)) (by exact rfl) ?_
  refine FRun.slot rfl (fun τ hN hr => step_loadS_b rfl (rdN hN (hn rfl)) rfl yvSt62 (by exact rdS hr rfl rfl) (by exact rdBtake hr rfl rfl) rfl (by decide)) (by exact rfl) ?_
  refine FRun.slot rfl (fun τ hN hr => call_step1 rfl (rdN hN (hn rfl)) rfl yvCo162 (.cons (by exact rdS hr rfl rfl) (.agg (.cons (.v _) (.cons (.v _) (.cons (.v _) (.cons (.v _) (.cons (.v _) (.cons (.v _) .nil))))))) (.nil)) (rbAtI p h0) rfl) (by exact rfl) ?_
  refine FRun.slot rfl (fun τ hN hr => call_stepZ rfl (rdN hN (hn rfl)) rfl yvCo163 (.cons (by exact rdS hr rfl rfl) (.agg (.cons (.v _) (.cons (.v _) (.cons (.v _) (.cons (.v _) (.cons (.v _) (.cons (.v _) (.cons (.v _) (.cons (.v _) .nil))))))))) (.nil)) (slots1I _) rfl (by exact rdNoRefs hr rfl rfl)) (by exact rfl) ?_
  refine FRun.whole rfl (call_stepN rfl (hn rfl) rfl yvCo153 (.cons rfl (.agg (.cons (.v _) (.cons (.v _) (.cons (.v _) (.cons (.v _) (.cons (.v _) (.cons (.v _) .nil))))))) (.cons rfl (.one (.v _)) (.nil))) (thingsI p _ (by omega)) rfl rfl) (by exact rfl) ?_
  refine FRun.whole rfl (step_assignV rfl (hn rfl) rfl rfl) (by exact rfl) ?_
  refine FRun.nil ?_
  refine AWp.ret ?_
  refine RetIs.ref (.inr rfl) rfl rfl ?_
  rfl

end Go.Proofs.YtkmacjdigkaabaaGreat
