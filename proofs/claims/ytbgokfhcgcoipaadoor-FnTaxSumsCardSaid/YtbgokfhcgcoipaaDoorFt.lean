/-
  The theorem fnTaxSums_holds; the law holds.
  Conditions: none.
-/
import Derived.WalkKit
import Derived.ProofKit
import Derived.Test.YtbgokfhcgcoipaaDoorRows
import Derived.OpenShut
import Derived.Lib.LaidTab
import Derived.Test.YtbgokfhcgcoipaaDoorCards
import Derived.Test.YtbgokfhcgcoipaaDoorTie
import Derived.Deep.DeepHandedRow
import Derived.Test.YtbgokfhcgcoipaaDoorFt5
set_option linter.unusedVariables false
namespace Go.ChangeAt
end Go.ChangeAt
namespace Go.ChangeShapes
end Go.ChangeShapes
namespace Go.RowKit
end Go.RowKit
namespace Go.WideShapes
end Go.WideShapes

namespace Go.Proofs.YtbgokfhcgcoipaaDoor
open Go.ChangeShapes Go.WideShapes Go.ChangeAt Go.RowKit
theorem own_knob : ownKnob Tryd.prog.godebug = none := by kernel_rfl
set_option maxRecDepth 100000 in
theorem fnTaxSums_met (os : Os) : laidMet Tryd.prog Rows.fnTaxSumsRow.laid ((laidWorld os #[.slice none 0 0]).forCall (fun _ _ => 0) ⟨#[], #[.slice none 0 0], []⟩).memory := laidMet_of_run' 8 (by kernel_rfl) (by kernel_rfl)
set_option maxRecDepth 100000 in
theorem fnTaxSums_lifted (os : Os) (started : os.Started) (H : Type) (enc : TypeId × Value -> H) (F : Stop.Interp) :
    ReturnsInHanded {} Tryd.checked os 5 .any ((OpenSpec.ofChange Rows.fnTaxSumsSpec).preRow enc Tryd.prog Tryd.f5 Rows.fnTaxSumsRow.domain false Rows.fnTaxSumsRow.laid) (((OpenSpec.ofChange Rows.fnTaxSumsSpec).at F).post enc Tryd.prog Tryd.f5 false true false false) := by
  obtain ⟨x0, hx0⟩ : ∃ x, DataW.whole enc Tryd.prog ((laidWorld os #[.slice none 0 0]).forCall (fun _ _ => 0) ⟨#[], #[.slice none 0 0], []⟩).memory Tryd.f5.params.toList Rows.fnTaxSumsSpec.vars false (#[.slice none 0 0] : Array Value).toList 8 = some x := Option.isSome_iff_exists.1 (by kernel_rfl)
  refine returnsInHanded_of_row (C := Tryd.checked) (s := OpenSpec.ofChange Rows.fnTaxSumsSpec) own_knob started (by kernel_rfl) Tryd.func5
    (witness_row_at (enc := enc) (C := Tryd.checked) false (laidWorld os #[.slice none 0 0]) #[.slice none 0 0] rfl (by kernel_rfl) (by kernel_rfl) (by kernel_rfl)
      (OpenSpec.preRow_of_cond 8 hx0 (by kernel_rfl) (fun k hk => by cases hk) (by kernel_rfl) (fnTaxSums_met os))) ?_
  intro W base args ds gs before hval0 hW _ _ _ hL _ _
  have ht : Tab W := tab_of_laid hL
  have hval : ∀ (j : Nat) t v, Tryd.f5.params[j]? = some t -> args[j]? = some v -> Value.okWide Tryd.prog W .any base t v := hval0
  have hW' := hW
  obtain ⟨p, q, hA0, hV, hpq, hfz, hnd⟩ := hW
  have hA : DataW.TrodAll enc Tryd.prog W 0 (fun _ => true) true Tryd.f5.params.toList args.toList ds p := hA0
  rw [Tryd.params5] at hA hval
  obtain ⟨g0, hgs⟩ := trodVars_one hV
  obtain ⟨v0, vs0, e0, ds0, pa0, pb0, hargs0, hds0, hp0, h0, hA⟩ := trodAll_cons hA
  obtain ⟨hn1, hn2, hn3⟩ := trodAll_nil hA
  have ha : args = #[v0] := by apply Array.ext'; rw [hargs0, hn1]
  have hd : ds = [e0] := by rw [hds0, hn2]
  subst ha hd hgs
  have hpost : ∀ W2, Sx.Ext W W2 -> Rows.fnTaxSumsSpec.post enc Tryd.prog Tryd.f5 false true false false W #[v0] (.bool true) W2 := fun W2 hx => Sx.post_of_ext (tb := 4) (by kernel_rfl) (by rw [Tryd.params5]; decide +kernel) (by kernel_rfl) (by kernel_rfl) Tryd.underlying4 hW' hx rfl
  obtain ⟨x0, nn0, cc0, rfl⟩ := okWide_slice Tryd.underlying22 (hval 0 22 v0 rfl rfl)
  obtain ⟨fl0, g0⟩ := h0
  obtain ⟨_, _, _, hcs0, hr0⟩ := bytes_of_trod Tryd.underlying22 Tryd.underlying5 (by kernel_rfl) g0
  cases hcs0
  refine Calls.mono (laws_FnTaxSums_c hr0 ht) fun e W2 ⟨v, he, hv, hx⟩ => ?_
  subst he; subst hv
  exact ⟨_, rfl, hpost _ hx⟩
theorem fnTaxSums_inPlace : Tryd.prog.inPlace 5 = Rows.fnTaxSumsRow.inPlace := by kernel_rfl
theorem fnTaxSums_unfollowed : Tryd.prog.unfollowed 5 = Rows.fnTaxSumsRow.unfollowed := by kernel_rfl
theorem fnTaxSums_recurses : Tryd.prog.recurses 5 = Rows.fnTaxSumsRow.recurses := by kernel_rfl
theorem fnTaxSums_varsNamed : Tryd.prog.varsNamed 5 = Rows.fnTaxSumsRow.named := by kernel_rfl
theorem fnTaxSums_closed : joinedFacts Tryd.prog 5 Tryd.f5 (OpenSpec.ofChange Rows.fnTaxSumsSpec).bare Rows.fnTaxSumsRow = true := by
  unfold joinedFacts
  rw [fnTaxSums_inPlace, fnTaxSums_unfollowed, fnTaxSums_recurses, fnTaxSums_varsNamed]
  kernel_rfl
theorem fnTaxSums_said : Rows.FnTaxSumsSaid :=
  OpenClaim.holds_of_cond 5 Tryd.f5 rfl rfl rfl rfl rfl rfl rfl ⟨rfl, rfl, rfl, rfl, rfl⟩ rfl rfl rfl rfl rfl (by kernel_rfl) Tryd.func5 fnTaxSums_closed
    (of_decide_eq_true (by kernel_rfl)) (by unfold Func.isWrapper; first | (rw [if_pos (by decide +kernel)]; kernel_rfl) | (rw [if_neg (by decide +kernel)]; exact ⟨rfl, rfl⟩))
    (fun os started H enc _ F => by rw [OpenClaim.pre_eq_preRow]; exact fnTaxSums_lifted os started H enc F)
theorem fnTaxSums_plain (f : FuncId) (fn : Func) (hf : Tryd.pinned.checked.prog.funcNamed "loop.example/g00793/laws.FnTaxSums" = some f) (hfn : Tryd.pinned.checked.prog.funcs[f]? = some fn) :
    false = Tryd.pinned.checked.prog.looks [] /\ ∀ (j : Nat) t, fn.params[j]? = some t -> Tryd.pinned.checked.prog.wantsStandIn t = false := by
  obtain rfl : f = 5 := Option.some.inj ((show Tryd.prog.funcNamed "loop.example/g00793/laws.FnTaxSums" = some 5 by kernel_rfl).symm.trans hf) |>.symm
  obtain rfl : fn = Tryd.f5 := (Option.some.inj (Tryd.func5.symm.trans hfn)).symm
  refine ⟨by kernel_rfl, fun j t ht => ?_⟩
  rw [Tryd.params5] at ht
  have hm := Array.mem_toList_iff.2 (Array.mem_of_getElem? ht)
  have all : ((#[22] : Array TypeId).toList.all fun t => !(Tryd.prog.wantsStandIn t)) = true := by kernel_rfl
  rw [List.all_eq_true] at all
  have h2 : Tryd.prog.wantsStandIn t = false := by simpa using all t hm
  exact h2
theorem fnTaxSums_holds : Rows.FnTaxSumsCardSaid :=
  Claim7.holds_tied_plain_at .later [] _ _ _ _ fnTaxSums_said (fun _ h => by cases h) (by kernel_rfl) (fun _ h => by cases h) fnTaxSums_row_tie rfl ⟨rfl, rfl⟩ (by kernel_rfl) rfl fnTaxSums_plain (by kernel_rfl)
end Go.Proofs.YtbgokfhcgcoipaaDoor
