/-
  The theorem fnFee_holds; the law holds.
  Conditions: none.
-/
import Derived.WalkKit
import Derived.ProofKit
import Derived.Test.YtgbknjdjbahdkaaGreatDoorRows
import Derived.OpenShut
import Derived.Lib.LaidTab
import Derived.Test.YtgbknjdjbahdkaaGreatDoorCards
import Derived.Test.YtgbknjdjbahdkaaGreatDoorTie
import Derived.Deep.DeepHandedRow
import Derived.Test.YtgbknjdjbahdkaaGreatDoorFe6
set_option linter.unusedVariables false
namespace Go.ChangeAt
end Go.ChangeAt
namespace Go.ChangeShapes
end Go.ChangeShapes
namespace Go.RowKit
end Go.RowKit
namespace Go.WideShapes
end Go.WideShapes

namespace Go.Proofs.YtgbknjdjbahdkaaGreatDoor
open Go.ChangeShapes Go.WideShapes Go.ChangeAt Go.RowKit
theorem own_knob : ownKnob Tryz.prog.godebug = none := by kernel_rfl
set_option maxRecDepth 100000 in
theorem fnFee_met (os : Os) : laidMet Tryz.prog Rows.fnFeeRow.laid ((laidWorldF os #[.slice none 0 0]).forCall (fun _ _ => 0) ⟨#[], #[.slice none 0 0], []⟩).memory := laidMet_of_run' 8 (by kernel_rfl) (by kernel_rfl)
set_option maxRecDepth 100000 in
theorem fnFee_lifted (os : Os) (started : os.Started) (H : Type) (enc : TypeId × Value -> H) (F : Stop.Interp) :
    ReturnsInHanded {} Tryz.checked os 4 .any ((OpenSpec.ofChange Rows.fnFeeSpec).preRow enc Tryz.prog Tryz.f4 Rows.fnFeeRow.domain false Rows.fnFeeRow.laid) (((OpenSpec.ofChange Rows.fnFeeSpec).at F).post enc Tryz.prog Tryz.f4 false true false false) := by
  obtain ⟨x0, hx0⟩ : ∃ x, DataW.whole enc Tryz.prog ((laidWorldF os #[.slice none 0 0]).forCall (fun _ _ => 0) ⟨#[], #[.slice none 0 0], []⟩).memory Tryz.f4.params.toList Rows.fnFeeSpec.vars false (#[.slice none 0 0] : Array Value).toList 8 = some x := Option.isSome_iff_exists.1 (by kernel_rfl)
  refine returnsInHanded_of_row (C := Tryz.checked) (s := OpenSpec.ofChange Rows.fnFeeSpec) own_knob started (by kernel_rfl) Tryz.func4
    (witness_row_at (enc := enc) (C := Tryz.checked) false (laidWorldF os #[.slice none 0 0]) #[.slice none 0 0] rfl (by kernel_rfl) (by kernel_rfl) (by kernel_rfl)
      (OpenSpec.preRow_of_cond 8 hx0 (by kernel_rfl) (fun k hk => by cases hk) (by kernel_rfl) (fnFee_met os))) ?_
  intro W base args ds gs before hval0 hW _ _ _ hL _ _
  obtain ⟨ht, hp, he⟩ := tabsF_of_laid hL
  have hval : ∀ (j : Nat) t v, Tryz.f4.params[j]? = some t -> args[j]? = some v -> Value.okWide Tryz.prog W .any base t v := hval0
  have hW' := hW
  obtain ⟨p, q, hA0, hV, hpq, hfz, hnd⟩ := hW
  have hA : DataW.TrodAll enc Tryz.prog W 0 (fun _ => true) true Tryz.f4.params.toList args.toList ds p := hA0
  rw [Tryz.params4] at hA hval
  obtain ⟨g0, hgs⟩ := trodVars_one hV
  obtain ⟨v0, vs0, e0, ds0, pa0, pb0, hargs0, hds0, hp0, h0, hA⟩ := trodAll_cons hA
  obtain ⟨hn1, hn2, hn3⟩ := trodAll_nil hA
  have ha : args = #[v0] := by apply Array.ext'; rw [hargs0, hn1]
  have hd : ds = [e0] := by rw [hds0, hn2]
  subst ha hd hgs
  have hpost : ∀ W2, Sx.Ext W W2 -> Rows.fnFeeSpec.post enc Tryz.prog Tryz.f4 false true false false W #[v0] (.bool true) W2 := fun W2 hx => Sx.post_of_ext (tb := 4) (by kernel_rfl) (by rw [Tryz.params4]; decide +kernel) (by kernel_rfl) (by kernel_rfl) Tryz.underlying4 hW' hx rfl
  obtain ⟨x0, nn0, cc0, rfl⟩ := okWide_slice Tryz.underlying28 (hval 0 28 v0 rfl rfl)
  obtain ⟨fl0, g0⟩ := h0
  obtain ⟨_, _, _, hcs0, hr0⟩ := bytes_of_trod Tryz.underlying28 Tryz.underlying5 (by kernel_rfl) g0
  cases hcs0
  refine Calls.mono (laws_FnFee_c hr0 ht hp he) fun e W2 ⟨v, he, hv, hx⟩ => ?_
  subst he; subst hv
  exact ⟨_, rfl, hpost _ hx⟩
theorem fnFee_inPlace : Tryz.prog.inPlace 4 = Rows.fnFeeRow.inPlace := by kernel_rfl
theorem fnFee_unfollowed : Tryz.prog.unfollowed 4 = Rows.fnFeeRow.unfollowed := by kernel_rfl
theorem fnFee_recurses : Tryz.prog.recurses 4 = Rows.fnFeeRow.recurses := by kernel_rfl
theorem fnFee_varsNamed : Tryz.prog.varsNamed 4 = Rows.fnFeeRow.named := by kernel_rfl
theorem fnFee_closed : joinedFacts Tryz.prog 4 Tryz.f4 (OpenSpec.ofChange Rows.fnFeeSpec).bare Rows.fnFeeRow = true := by
  unfold joinedFacts
  rw [fnFee_inPlace, fnFee_unfollowed, fnFee_recurses, fnFee_varsNamed]
  kernel_rfl
theorem fnFee_said : Rows.FnFeeSaid :=
  OpenClaim.holds_of_cond 4 Tryz.f4 rfl rfl rfl rfl rfl rfl rfl ⟨rfl, rfl, rfl, rfl, rfl⟩ rfl rfl rfl rfl rfl (by kernel_rfl) Tryz.func4 fnFee_closed
    (of_decide_eq_true (by kernel_rfl)) (by unfold Func.isWrapper; first | (rw [if_pos (by decide +kernel)]; kernel_rfl) | (rw [if_neg (by decide +kernel)]; exact ⟨rfl, rfl⟩))
    (fun os started H enc _ F => by rw [OpenClaim.pre_eq_preRow]; exact fnFee_lifted os started H enc F)
theorem fnFee_plain (f : FuncId) (fn : Func) (hf : Tryz.pinned.checked.prog.funcNamed "loop.example/g00793/laws.FnFee" = some f) (hfn : Tryz.pinned.checked.prog.funcs[f]? = some fn) :
    true = Tryz.pinned.checked.prog.looks [] /\ ∀ (j : Nat) t, fn.params[j]? = some t -> Tryz.pinned.checked.prog.wantsStandIn t = false := by
  obtain rfl : f = 4 := Option.some.inj ((show Tryz.prog.funcNamed "loop.example/g00793/laws.FnFee" = some 4 by kernel_rfl).symm.trans hf) |>.symm
  obtain rfl : fn = Tryz.f4 := (Option.some.inj (Tryz.func4.symm.trans hfn)).symm
  refine ⟨by kernel_rfl, fun j t ht => ?_⟩
  rw [Tryz.params4] at ht
  have hm := Array.mem_toList_iff.2 (Array.mem_of_getElem? ht)
  have all : ((#[28] : Array TypeId).toList.all fun t => !(Tryz.prog.wantsStandIn t)) = true := by kernel_rfl
  rw [List.all_eq_true] at all
  have h2 : Tryz.prog.wantsStandIn t = false := by simpa using all t hm
  exact h2
theorem fnFee_holds : Rows.FnFeeCardSaid :=
  Claim7.holds_tied_plain_at .later [] _ _ _ _ fnFee_said (fun _ h => by cases h) (by kernel_rfl) (fun _ h => by cases h) fnFee_row_tie rfl ⟨rfl, rfl⟩ (by kernel_rfl) rfl fnFee_plain (by kernel_rfl)
end Go.Proofs.YtgbknjdjbahdkaaGreatDoor
