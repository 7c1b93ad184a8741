/-
  The theorem textSteps_holds; the law holds.
  Conditions: none.
-/
import Derived.WalkKit
import Derived.ProofKit
import Derived.Test.YtgbknjdjbahdkaaGreatDoorRows
import Derived.OpenShut
import Derived.Lib.LaidTab
import Derived.Test.YtgbknjdjbahdkaaGreatDoorCards
import Derived.Test.YtgbknjdjbahdkaaGreatDoorTie
import Derived.Deep.DeepHandedRow
import Derived.Test.YtgbknjdjbahdkaaGreatDoorTs5
set_option linter.unusedVariables false
namespace Go.ChangeAt
end Go.ChangeAt
namespace Go.ChangeShapes
end Go.ChangeShapes
namespace Go.RowKit
end Go.RowKit
namespace Go.WideShapes
end Go.WideShapes

namespace Go.Proofs.YtgbknjdjbahdkaaGreatDoor
open Go.ChangeShapes Go.WideShapes Go.ChangeAt Go.RowKit
theorem own_knob : ownKnob Tryz.prog.godebug = none := by kernel_rfl
set_option maxRecDepth 100000 in
theorem fnExactTextSteps_met (os : Os) : laidMet Tryz.prog Rows.fnExactTextStepsRow.laid ((laidWorldE os #[.string ByteArray.empty]).forCall (fun _ _ => 0) ⟨#[], #[.string ByteArray.empty], []⟩).memory := laidMet_of_run' 8 (by kernel_rfl) (by kernel_rfl)
set_option maxRecDepth 100000 in
theorem fnExactTextSteps_lifted (os : Os) (started : os.Started) (H : Type) (enc : TypeId × Value -> H) (F : Stop.Interp) :
    ReturnsInHanded {} Tryz.checked os 3 .any ((OpenSpec.ofChange Rows.fnExactTextStepsSpec).preRow enc Tryz.prog Tryz.f3 Rows.fnExactTextStepsRow.domain false Rows.fnExactTextStepsRow.laid) (((OpenSpec.ofChange Rows.fnExactTextStepsSpec).at F).post enc Tryz.prog Tryz.f3 false true false false) := by
  obtain ⟨x0, hx0⟩ : ∃ x, DataW.whole enc Tryz.prog ((laidWorldE os #[.string ByteArray.empty]).forCall (fun _ _ => 0) ⟨#[], #[.string ByteArray.empty], []⟩).memory Tryz.f3.params.toList Rows.fnExactTextStepsSpec.vars false (#[.string ByteArray.empty] : Array Value).toList 8 = some x := Option.isSome_iff_exists.1 (by kernel_rfl)
  refine returnsInHanded_of_row (C := Tryz.checked) (s := OpenSpec.ofChange Rows.fnExactTextStepsSpec) own_knob started (by kernel_rfl) Tryz.func3
    (witness_row_at (enc := enc) (C := Tryz.checked) false (laidWorldE os #[.string ByteArray.empty]) #[.string ByteArray.empty] rfl (by kernel_rfl) (by kernel_rfl) (by kernel_rfl)
      (OpenSpec.preRow_of_cond 8 hx0 (by kernel_rfl) (fun k hk => by cases hk) (by kernel_rfl) (fnExactTextSteps_met os))) ?_
  intro W base args ds gs before hval0 hW _ _ _ hL _ _
  obtain ⟨hp, he⟩ := tabsE_of_laid hL
  have hval : ∀ (j : Nat) t v, Tryz.f3.params[j]? = some t -> args[j]? = some v -> Value.okWide Tryz.prog W .any base t v := hval0
  have hW' := hW
  obtain ⟨p, q, hA0, hV, hpq, hfz, hnd⟩ := hW
  have hA : DataW.TrodAll enc Tryz.prog W 0 (fun _ => true) true Tryz.f3.params.toList args.toList ds p := hA0
  rw [Tryz.params3] at hA hval
  have hgs := trodVars_zero hV
  obtain ⟨v0, vs0, e0, ds0, pa0, pb0, hargs0, hds0, hp0, h0, hA⟩ := trodAll_cons hA
  obtain ⟨hn1, hn2, hn3⟩ := trodAll_nil hA
  have ha : args = #[v0] := by apply Array.ext'; rw [hargs0, hn1]
  have hd : ds = [e0] := by rw [hds0, hn2]
  subst ha hd hgs
  have hpost : ∀ W2, Sx.Ext W W2 -> Rows.fnExactTextStepsSpec.post enc Tryz.prog Tryz.f3 false true false false W #[v0] (.bool true) W2 := fun W2 hx => Sx.post_of_ext (tb := 4) (by kernel_rfl) (by rw [Tryz.params3]; decide +kernel) (by kernel_rfl) (by kernel_rfl) Tryz.underlying4 hW' hx rfl
  obtain ⟨a0, rfl⟩ := okWide_string Tryz.underlying9 (hval 0 9 v0 rfl rfl)
  refine Calls.mono (laws_FnExactTextSteps_c a0 hp he) fun e W2 ⟨v, he, hv, hx⟩ => ?_
  subst he; subst hv
  exact ⟨_, rfl, hpost _ hx⟩
theorem textSteps_inPlace : Tryz.prog.inPlace 3 = Rows.fnExactTextStepsRow.inPlace := by kernel_rfl
theorem textSteps_unfollowed : Tryz.prog.unfollowed 3 = Rows.fnExactTextStepsRow.unfollowed := by kernel_rfl
theorem textSteps_recurses : Tryz.prog.recurses 3 = Rows.fnExactTextStepsRow.recurses := by kernel_rfl
theorem textSteps_varsNamed : Tryz.prog.varsNamed 3 = Rows.fnExactTextStepsRow.named := by kernel_rfl
theorem textSteps_closed : joinedFacts Tryz.prog 3 Tryz.f3 (OpenSpec.ofChange Rows.fnExactTextStepsSpec).bare Rows.fnExactTextStepsRow = true := by
  unfold joinedFacts
  rw [textSteps_inPlace, textSteps_unfollowed, textSteps_recurses, textSteps_varsNamed]
  kernel_rfl
theorem textSteps_said : Rows.FnExactTextStepsSaid :=
  OpenClaim.holds_of_cond 3 Tryz.f3 rfl rfl rfl rfl rfl rfl rfl ⟨rfl, rfl, rfl, rfl, rfl⟩ rfl rfl rfl rfl rfl (by kernel_rfl) Tryz.func3 textSteps_closed
    (of_decide_eq_true (by kernel_rfl)) (by unfold Func.isWrapper; first | (rw [if_pos (by decide +kernel)]; kernel_rfl) | (rw [if_neg (by decide +kernel)]; exact ⟨rfl, rfl⟩))
    (fun os started H enc _ F => by rw [OpenClaim.pre_eq_preRow]; exact fnExactTextSteps_lifted os started H enc F)
theorem textSteps_plain (f : FuncId) (fn : Func) (hf : Tryz.pinned.checked.prog.funcNamed "loop.example/g00793/laws.FnExactTextSteps" = some f) (hfn : Tryz.pinned.checked.prog.funcs[f]? = some fn) :
    true = Tryz.pinned.checked.prog.looks [] /\ ∀ (j : Nat) t, fn.params[j]? = some t -> Tryz.pinned.checked.prog.wantsStandIn t = false := by
  obtain rfl : f = 3 := Option.some.inj ((show Tryz.prog.funcNamed "loop.example/g00793/laws.FnExactTextSteps" = some 3 by kernel_rfl).symm.trans hf) |>.symm
  obtain rfl : fn = Tryz.f3 := (Option.some.inj (Tryz.func3.symm.trans hfn)).symm
  refine ⟨by kernel_rfl, fun j t ht => ?_⟩
  rw [Tryz.params3] at ht
  have hm := Array.mem_toList_iff.2 (Array.mem_of_getElem? ht)
  have all : ((#[9] : Array TypeId).toList.all fun t => !(Tryz.prog.wantsStandIn t)) = true := by kernel_rfl
  rw [List.all_eq_true] at all
  have h2 : Tryz.prog.wantsStandIn t = false := by simpa using all t hm
  exact h2
theorem textSteps_holds : Rows.FnExactTextStepsCardSaid :=
  Claim7.holds_tied_plain_at .later [] _ _ _ _ textSteps_said (fun _ h => by cases h) (by kernel_rfl) (fun _ h => by cases h) fnExactTextSteps_row_tie rfl ⟨rfl, rfl⟩ (by kernel_rfl) rfl textSteps_plain (by kernel_rfl)
end Go.Proofs.YtgbknjdjbahdkaaGreatDoor
