/-
  The theorem shareMoney_holds; the law holds.
  Conditions: none.
-/
import Derived.WalkKit
import Derived.Test.YtfehpaekbbmkcaaGreatDoorRows
import Derived.OpenShut
import Derived.ProofKit
import Derived.Lib.LaidTab
import Derived.Test.YtfehpaekbbmkcaaGreatDoorCards
import Derived.Test.YtfehpaekbbmkcaaGreatDoorTie
import Derived.Deep.DeepHandedRow
import Derived.Test.YtfehpaekbbmkcaaGreatDoorSm6
set_option linter.unusedVariables false
namespace Go.ChangeAt
end Go.ChangeAt
namespace Go.ChangeShapes
end Go.ChangeShapes
namespace Go.RowKit
end Go.RowKit
namespace Go.WideShapes
end Go.WideShapes

namespace Go.Proofs.YtfehpaekbbmkcaaGreatDoor
open Go.ChangeShapes Go.WideShapes Go.ChangeAt Go.RowKit
theorem own_knob : ownKnob Tryz.prog.godebug = none := by kernel_rfl
set_option maxRecDepth 100000 in
theorem fnExactShareMoney_met (os : Os) : laidMet Tryz.prog Rows.fnExactShareMoneyRow.laid ((laidWorld os #[.agg #[.string ByteArray.empty, .bool false, .slice none 0 0], .slice none 0 0]).forCall (fun _ _ => 0) ⟨#[], #[.agg #[.string ByteArray.empty, .bool false, .slice none 0 0], .slice none 0 0], []⟩).memory := laidMet_of_run' 8 (by kernel_rfl) (by kernel_rfl)
set_option maxRecDepth 100000 in
theorem fnExactShareMoney_lifted (os : Os) (started : os.Started) (H : Type) (enc : TypeId × Value -> H) (F : Stop.Interp) :
    ReturnsInHanded {} Tryz.checked os 3 .any ((OpenSpec.ofChange Rows.fnExactShareMoneySpec).preRow enc Tryz.prog Tryz.f3 Rows.fnExactShareMoneyRow.domain false Rows.fnExactShareMoneyRow.laid) (((OpenSpec.ofChange Rows.fnExactShareMoneySpec).at F).post enc Tryz.prog Tryz.f3 false true false false) := by
  obtain ⟨x0, hx0⟩ : ∃ x, DataW.whole enc Tryz.prog ((laidWorld os #[.agg #[.string ByteArray.empty, .bool false, .slice none 0 0], .slice none 0 0]).forCall (fun _ _ => 0) ⟨#[], #[.agg #[.string ByteArray.empty, .bool false, .slice none 0 0], .slice none 0 0], []⟩).memory Tryz.f3.params.toList Rows.fnExactShareMoneySpec.vars false (#[.agg #[.string ByteArray.empty, .bool false, .slice none 0 0], .slice none 0 0] : Array Value).toList 8 = some x := Option.isSome_iff_exists.1 (by kernel_rfl)
  refine returnsInHanded_of_row (C := Tryz.checked) (s := OpenSpec.ofChange Rows.fnExactShareMoneySpec) own_knob started (by kernel_rfl) Tryz.func3
    (witness_row_at (enc := enc) (C := Tryz.checked) false (laidWorld os #[.agg #[.string ByteArray.empty, .bool false, .slice none 0 0], .slice none 0 0]) #[.agg #[.string ByteArray.empty, .bool false, .slice none 0 0], .slice none 0 0] rfl (by kernel_rfl) (by kernel_rfl) (by kernel_rfl)
      (OpenSpec.preRow_of_cond 8 hx0 (by kernel_rfl) (fun k hk => by cases hk) (by kernel_rfl) (fnExactShareMoney_met os))) ?_
  intro W base args ds gs before hval0 hW _ _ _ hL _ _
  have ht : Tab W := tab_of_laid hL
  have hval : ∀ (j : Nat) t v, Tryz.f3.params[j]? = some t -> args[j]? = some v -> Value.okWide Tryz.prog W .any base t v := hval0
  have hW' := hW
  obtain ⟨p, q, hA0, hV, hpq, hfz, hnd⟩ := hW
  have hA : DataW.TrodAll enc Tryz.prog W 0 (fun _ => true) true Tryz.f3.params.toList args.toList ds p := hA0
  rw [Tryz.params3] at hA hval
  obtain ⟨g0, hgs⟩ := trodVars_one hV
  obtain ⟨v0, vs0, e0, ds0, pa0, pb0, hargs0, hds0, hp0, h0, hA⟩ := trodAll_cons hA
  obtain ⟨v1, vs1, e1, ds1, pa1, pb1, hargs1, hds1, hp1, h1, hA⟩ := trodAll_cons hA
  obtain ⟨hn1, hn2, hn3⟩ := trodAll_nil hA
  have ha : args = #[v0, v1] := by apply Array.ext'; rw [hargs0, hargs1, hn1]
  have hd : ds = [e0, e1] := by rw [hds0, hds1, hn2]
  subst ha hd hgs
  have hpost : ∀ W2, Sx.Ext W W2 -> Rows.fnExactShareMoneySpec.post enc Tryz.prog Tryz.f3 false true false false W #[v0, v1] (.bool true) W2 := fun W2 hx => Sx.post_of_ext (tb := 4) (by kernel_rfl) (by rw [Tryz.params3]; decide +kernel) (by kernel_rfl) (by kernel_rfl) Tryz.underlying4 hW' hx rfl
  have hok0 := hval 0 26 v0 rfl rfl
  unfold Value.okWide at hok0
  rw [Tryz.underlying26] at hok0
  obtain ⟨⟨cs0⟩, rfl, hcz0, _⟩ := hok0
  obtain ⟨fl0, g0⟩ := h0
  obtain ⟨dd0, hr0, hc0, hk0⟩ := Sx.flat_open 8 (ks := [.str, .bool, .ints]) (by kernel_rfl) g0
  have hr0 : Sx.Reps W cs0 dd0 := hr0
  obtain ⟨x1, nn1, cc1, rfl⟩ := okWide_slice Tryz.underlying22 (hval 1 22 v1 rfl rfl)
  obtain ⟨fl1, g1⟩ := h1
  obtain ⟨_, _, _, z1, hcs1, hr1, hk1⟩ := Sx.ints_of_trod Tryz.underlying22 Tryz.underlying3 (by kernel_rfl) g1
  cases hcs1
  refine Calls.mono (laws_FnExactShareMoney_c hr0 hc0 hk0 hr1 ht) fun e W2 ⟨v, he, hv, hx⟩ => ?_
  subst he; subst hv
  exact ⟨_, rfl, hpost _ hx⟩
theorem shareMoney_inPlace : Tryz.prog.inPlace 3 = Rows.fnExactShareMoneyRow.inPlace := by kernel_rfl
theorem shareMoney_unfollowed : Tryz.prog.unfollowed 3 = Rows.fnExactShareMoneyRow.unfollowed := by kernel_rfl
theorem shareMoney_recurses : Tryz.prog.recurses 3 = Rows.fnExactShareMoneyRow.recurses := by kernel_rfl
theorem shareMoney_varsNamed : Tryz.prog.varsNamed 3 = Rows.fnExactShareMoneyRow.named := by kernel_rfl
theorem shareMoney_closed : joinedFacts Tryz.prog 3 Tryz.f3 (OpenSpec.ofChange Rows.fnExactShareMoneySpec).bare Rows.fnExactShareMoneyRow = true := by
  unfold joinedFacts
  rw [shareMoney_inPlace, shareMoney_unfollowed, shareMoney_recurses, shareMoney_varsNamed]
  kernel_rfl
theorem shareMoney_said : Rows.FnExactShareMoneySaid :=
  OpenClaim.holds_of_cond 3 Tryz.f3 rfl rfl rfl rfl rfl rfl rfl ⟨rfl, rfl, rfl, rfl, rfl⟩ rfl rfl rfl rfl rfl (by kernel_rfl) Tryz.func3 shareMoney_closed
    (of_decide_eq_true (by kernel_rfl)) (by unfold Func.isWrapper; first | (rw [if_pos (by decide +kernel)]; kernel_rfl) | (rw [if_neg (by decide +kernel)]; exact ⟨rfl, rfl⟩))
    (fun os started H enc _ F => by rw [OpenClaim.pre_eq_preRow]; exact fnExactShareMoney_lifted os started H enc F)
theorem shareMoney_plain (f : FuncId) (fn : Func) (hf : Tryz.pinned.checked.prog.funcNamed "loop.example/g00793/laws.FnExactShareMoney" = some f) (hfn : Tryz.pinned.checked.prog.funcs[f]? = some fn) :
    true = Tryz.pinned.checked.prog.looks [] /\ ∀ (j : Nat) t, fn.params[j]? = some t -> Tryz.pinned.checked.prog.wantsStandIn t = false := by
  obtain rfl : f = 3 := Option.some.inj ((show Tryz.prog.funcNamed "loop.example/g00793/laws.FnExactShareMoney" = some 3 by kernel_rfl).symm.trans hf) |>.symm
  obtain rfl : fn = Tryz.f3 := (Option.some.inj (Tryz.func3.symm.trans hfn)).symm
  refine ⟨by kernel_rfl, fun j t ht => ?_⟩
  rw [Tryz.params3] at ht
  have hm := Array.mem_toList_iff.2 (Array.mem_of_getElem? ht)
  have all : ((#[26, 22] : Array TypeId).toList.all fun t => !(Tryz.prog.wantsStandIn t)) = true := by kernel_rfl
  rw [List.all_eq_true] at all
  have h2 : Tryz.prog.wantsStandIn t = false := by simpa using all t hm
  exact h2
theorem shareMoney_holds : Rows.FnExactShareMoneyCardSaid :=
  Claim7.holds_tied_plain_at .later [] _ _ _ _ shareMoney_said (fun _ h => by cases h) (by kernel_rfl) (fun _ h => by cases h) fnExactShareMoney_row_tie rfl ⟨rfl, rfl⟩ (by kernel_rfl) rfl shareMoney_plain (by kernel_rfl)
end Go.Proofs.YtfehpaekbbmkcaaGreatDoor
