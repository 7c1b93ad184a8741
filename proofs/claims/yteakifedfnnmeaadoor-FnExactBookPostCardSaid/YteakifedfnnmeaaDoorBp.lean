/-
  The theorem bookPost_holds; the law holds.
  Conditions: none.
-/
import Derived.WalkKit
import Derived.ProofKit
import Derived.Test.YteakifedfnnmeaaDoorRows
import Derived.OpenShut
import Derived.Lib.LaidTab
import Derived.Test.YteakifedfnnmeaaDoorCards
import Derived.Test.YteakifedfnnmeaaDoorTie
import Derived.Deep.DeepHandedRow
import Derived.Test.YteakifedfnnmeaaDoorBp4

namespace Go.Proofs.YteakifedfnnmeaaDoor
open Go.ChangeShapes Go.WideShapes Go.ChangeAt Go.RowKit
set_option linter.unusedVariables false
theorem own_knob : ownKnob Tryd.prog.godebug = none := by kernel_rfl
set_option maxRecDepth 100000 in
theorem fnExactBookPost_met (os : Os) : laidMet Tryd.prog Rows.fnExactBookPostRow.laid ((laidWorld os #[.agg #[.slice none 0 0], .string ByteArray.empty, .agg #[.string ByteArray.empty, .bool false, .slice none 0 0]]).forCall (fun _ _ => 0) ⟨#[], #[.agg #[.slice none 0 0], .string ByteArray.empty, .agg #[.string ByteArray.empty, .bool false, .slice none 0 0]], []⟩).memory := laidMet_of_run' 8 (by kernel_rfl) (by kernel_rfl)
set_option maxRecDepth 100000 in
theorem fnExactBookPost_lifted (os : Os) (started : os.Started) (H : Type) (enc : TypeId × Value → H) (F : Stop.Interp) :
    ReturnsInHanded {} Tryd.checked os 4 .any ((OpenSpec.ofChange Rows.fnExactBookPostSpec).preRow enc Tryd.prog Tryd.f4 Rows.fnExactBookPostRow.domain false Rows.fnExactBookPostRow.laid) (((OpenSpec.ofChange Rows.fnExactBookPostSpec).at F).post enc Tryd.prog Tryd.f4 false true false false) := by
  obtain ⟨x0, hx0⟩ : ∃ x, DataW.whole enc Tryd.prog ((laidWorld os #[.agg #[.slice none 0 0], .string ByteArray.empty, .agg #[.string ByteArray.empty, .bool false, .slice none 0 0]]).forCall (fun _ _ => 0) ⟨#[], #[.agg #[.slice none 0 0], .string ByteArray.empty, .agg #[.string ByteArray.empty, .bool false, .slice none 0 0]], []⟩).memory Tryd.f4.params.toList Rows.fnExactBookPostSpec.vars false (#[.agg #[.slice none 0 0], .string ByteArray.empty, .agg #[.string ByteArray.empty, .bool false, .slice none 0 0]] : Array Value).toList 8 = some x := Option.isSome_iff_exists.1 (by kernel_rfl)
  refine returnsInHanded_of_row (C := Tryd.checked) (s := OpenSpec.ofChange Rows.fnExactBookPostSpec) own_knob started (by kernel_rfl) Tryd.func4
    (witness_row_at (enc := enc) (C := Tryd.checked) false (laidWorld os #[.agg #[.slice none 0 0], .string ByteArray.empty, .agg #[.string ByteArray.empty, .bool false, .slice none 0 0]]) #[.agg #[.slice none 0 0], .string ByteArray.empty, .agg #[.string ByteArray.empty, .bool false, .slice none 0 0]] rfl (by kernel_rfl) (by kernel_rfl) (by kernel_rfl)
      (OpenSpec.preRow_of_cond 8 hx0 (by kernel_rfl) (fun k hk => by cases hk) (by kernel_rfl) (fnExactBookPost_met os))) ?_
  intro W base args ds gs before hval0 hW _ _ _ hL _ _
  have ht : Tab W := tab_of_laid hL
  have hval : ∀ (j : Nat) t v, Tryd.f4.params[j]? = some t → args[j]? = some v → Value.okWide Tryd.prog W .any base t v := hval0
  have hW' := hW
  obtain ⟨p, q, hA0, hV, hpq, hfz, hnd⟩ := hW
  have hA : DataW.TrodAll enc Tryd.prog W 0 (fun _ => true) true Tryd.f4.params.toList args.toList ds p := hA0
  rw [Tryd.params4] at hA hval
  obtain ⟨g0, hgs⟩ := trodVars_one hV
  obtain ⟨v0, vs0, e0, ds0, pa0, pb0, hargs0, hds0, hp0, h0, hA⟩ := trodAll_cons hA
  obtain ⟨v1, vs1, e1, ds1, pa1, pb1, hargs1, hds1, hp1, h1, hA⟩ := trodAll_cons hA
  obtain ⟨v2, vs2, e2, ds2, pa2, pb2, hargs2, hds2, hp2, h2, hA⟩ := trodAll_cons hA
  obtain ⟨hn1, hn2, hn3⟩ := trodAll_nil hA
  have ha : args = #[v0, v1, v2] := by apply Array.ext'; rw [hargs0, hargs1, hargs2, hn1]
  have hd : ds = [e0, e1, e2] := by rw [hds0, hds1, hds2, hn2]
  subst ha hd hgs
  have hpost : ∀ W2, Sx.Ext W W2 → Rows.fnExactBookPostSpec.post enc Tryd.prog Tryd.f4 false true false false W #[v0, v1, v2] (.bool true) W2 := fun W2 hx => Sx.post_of_ext (tb := 4) (by kernel_rfl) (by rw [Tryd.params4]; decide +kernel) (by kernel_rfl) (by kernel_rfl) Tryd.underlying4 hW' hx rfl
  have hok0 := hval 0 24 v0 rfl rfl
  unfold Value.okWide at hok0
  rw [Tryd.underlying24] at hok0
  obtain ⟨⟨cs0⟩, rfl, hcz0, _⟩ := hok0
  obtain ⟨fl0, g0⟩ := h0
  obtain ⟨_, _, _, l0, hcs0, hr0, hc0, hk0⟩ := Sx.book_open (m := 8) (ks := [.str, .str, .bool, .ints]) Tryd.underlying24 Tryd.underlying22 (by kernel_rfl) (by kernel_rfl) (by decide) (by kernel_rfl) g0
  have hcs0 : cs0 = _ := hcs0
  subst hcs0
  obtain ⟨a1, rfl⟩ := okWide_string Tryd.underlying9 (hval 1 9 v1 rfl rfl)
  have hok2 := hval 2 39 v2 rfl rfl
  unfold Value.okWide at hok2
  rw [Tryd.underlying39] at hok2
  obtain ⟨⟨cs2⟩, rfl, hcz2, _⟩ := hok2
  obtain ⟨fl2, g2⟩ := h2
  obtain ⟨dd2, hr2, hc2, hk2⟩ := Sx.flat_open 8 (ks := [.str, .bool, .ints]) (by kernel_rfl) g2
  have hr2 : Sx.Reps W cs2 dd2 := hr2
  refine Calls.mono (laws_FnExactBookPost_c hr0 hc0 hk0 a1 hr2 hc2 hk2 ht) fun e W2 ⟨v, he, hv, hx⟩ => ?_
  subst he; subst hv
  exact ⟨_, rfl, hpost _ hx⟩
theorem bookPost_said : Rows.FnExactBookPostSaid :=
  OpenClaim.holds_of_cond 4 Tryd.f4 rfl rfl rfl rfl rfl rfl rfl ⟨rfl, rfl, rfl, rfl, rfl⟩ rfl rfl rfl rfl rfl (by kernel_rfl) Tryd.func4 (by kernel_rfl)
    (of_decide_eq_true (by kernel_rfl)) (by unfold Func.isWrapper; first | (rw [if_pos (by decide +kernel)]; kernel_rfl) | (rw [if_neg (by decide +kernel)]; exact ⟨rfl, rfl⟩))
    (fun os started H enc _ F => by rw [OpenClaim.pre_eq_preRow]; exact fnExactBookPost_lifted os started H enc F)
theorem bookPost_plain (f : FuncId) (fn : Func) (hf : Tryd.pinned.checked.prog.funcNamed "loop.example/g00793/laws.FnExactBookPost" = some f) (hfn : Tryd.pinned.checked.prog.funcs[f]? = some fn) :
    false = Tryd.pinned.checked.prog.looks [] ∧ ∀ (j : Nat) t, fn.params[j]? = some t → Tryd.pinned.checked.prog.wantsStandIn t = false := by
  obtain rfl : f = 4 := Option.some.inj ((show Tryd.prog.funcNamed "loop.example/g00793/laws.FnExactBookPost" = some 4 by kernel_rfl).symm.trans hf) |>.symm
  obtain rfl : fn = Tryd.f4 := (Option.some.inj (Tryd.func4.symm.trans hfn)).symm
  refine ⟨by kernel_rfl, fun j t ht => ?_⟩
  rw [Tryd.params4] at ht
  have hm := Array.mem_toList_iff.2 (Array.mem_of_getElem? ht)
  have all : ((#[24, 9, 39] : Array TypeId).toList.all fun t => !(Tryd.prog.wantsStandIn t)) = true := by kernel_rfl
  rw [List.all_eq_true] at all
  have h2 : Tryd.prog.wantsStandIn t = false := by simpa using all t hm
  exact h2
theorem bookPost_holds : Rows.FnExactBookPostCardSaid :=
  Claim7.holds_tied_plain_at .later [] _ _ _ _ bookPost_said (fun _ h => by cases h) (by kernel_rfl) (fun _ h => by cases h) fnExactBookPost_row_tie rfl ⟨rfl, rfl⟩ (by kernel_rfl) rfl bookPost_plain (by kernel_rfl)
end Go.Proofs.YteakifedfnnmeaaDoor
