/-
  The theorem settle_holds; the law holds.
  Conditions: none.
-/
import Derived.WalkKit
import Derived.ProofKit
import Derived.Test.YtdidocmbcfbjdaaDoorRows
import Derived.OpenShut
import Derived.Lib.LaidTab
import Derived.Test.YtdidocmbcfbjdaaDoorCards
import Derived.Test.YtdidocmbcfbjdaaDoorTie
import Derived.Deep.DeepHandedRow
import Derived.Test.YtdidocmbcfbjdaaDoorSt4

namespace Go.Proofs.YtdidocmbcfbjdaaDoor
open Go.ChangeShapes Go.WideShapes Go.ChangeAt Go.RowKit
set_option linter.unusedVariables false
theorem own_knob : ownKnob Tryd.prog.godebug = none := by kernel_rfl
set_option maxRecDepth 100000 in
theorem fnExactSettle_met (os : Os) : laidMet Tryd.prog Rows.fnExactSettleRow.laid ((laidWorld os #[.string ByteArray.empty, .slice none 0 0]).forCall (fun _ _ => 0) ⟨#[], #[.string ByteArray.empty, .slice none 0 0], []⟩).memory := laidMet_of_run' 8 (by kernel_rfl) (by kernel_rfl)
set_option maxRecDepth 100000 in
theorem fnExactSettle_lifted (os : Os) (started : os.Started) (H : Type) (enc : TypeId × Value → H) (F : Stop.Interp) :
    ReturnsInHanded {} Tryd.checked os 6 .any ((OpenSpec.ofChange Rows.fnExactSettleSpec).preRow enc Tryd.prog Tryd.f6 Rows.fnExactSettleRow.domain false Rows.fnExactSettleRow.laid) (((OpenSpec.ofChange Rows.fnExactSettleSpec).at F).post enc Tryd.prog Tryd.f6 false true false false) := by
  obtain ⟨x0, hx0⟩ : ∃ x, DataW.whole enc Tryd.prog ((laidWorld os #[.string ByteArray.empty, .slice none 0 0]).forCall (fun _ _ => 0) ⟨#[], #[.string ByteArray.empty, .slice none 0 0], []⟩).memory Tryd.f6.params.toList Rows.fnExactSettleSpec.vars false (#[.string ByteArray.empty, .slice none 0 0] : Array Value).toList 8 = some x := Option.isSome_iff_exists.1 (by kernel_rfl)
  refine returnsInHanded_of_row (C := Tryd.checked) (s := OpenSpec.ofChange Rows.fnExactSettleSpec) own_knob started (by kernel_rfl) Tryd.func6
    (witness_row_at (enc := enc) (C := Tryd.checked) false (laidWorld os #[.string ByteArray.empty, .slice none 0 0]) #[.string ByteArray.empty, .slice none 0 0] rfl (by kernel_rfl) (by kernel_rfl) (by kernel_rfl)
      (OpenSpec.preRow_of_cond 8 hx0 (by kernel_rfl) (fun k hk => by cases hk) (by kernel_rfl) (fnExactSettle_met os))) ?_
  intro W base args ds gs before hval0 hW _ _ _ hL _ _
  have ht : Tab W := tab_of_laid hL
  have hval : ∀ (j : Nat) t v, Tryd.f6.params[j]? = some t → args[j]? = some v → Value.okWide Tryd.prog W .any base t v := hval0
  have hW' := hW
  obtain ⟨p, q, hA0, hV, hpq, hfz, hnd⟩ := hW
  have hA : DataW.TrodAll enc Tryd.prog W 0 (fun _ => true) true Tryd.f6.params.toList args.toList ds p := hA0
  rw [Tryd.params6] at hA hval
  obtain ⟨g0, hgs⟩ := trodVars_one hV
  obtain ⟨v0, vs0, e0, ds0, pa0, pb0, hargs0, hds0, hp0, h0, hA⟩ := trodAll_cons hA
  obtain ⟨v1, vs1, e1, ds1, pa1, pb1, hargs1, hds1, hp1, h1, hA⟩ := trodAll_cons hA
  obtain ⟨hn1, hn2, hn3⟩ := trodAll_nil hA
  have ha : args = #[v0, v1] := by apply Array.ext'; rw [hargs0, hargs1, hn1]
  have hd : ds = [e0, e1] := by rw [hds0, hds1, hn2]
  subst ha hd hgs
  have hpost : ∀ W2, Sx.Ext W W2 → Rows.fnExactSettleSpec.post enc Tryd.prog Tryd.f6 false true false false W #[v0, v1] (.bool true) W2 := fun W2 hx => Sx.post_of_ext (tb := 4) (by kernel_rfl) (by rw [Tryd.params6]; decide +kernel) (by kernel_rfl) (by kernel_rfl) Tryd.underlying4 hW' hx rfl
  obtain ⟨a0, rfl⟩ := okWide_string Tryd.underlying9 (hval 0 9 v0 rfl rfl)
  obtain ⟨x1, nn1, cc1, rfl⟩ := okWide_slice Tryd.underlying34 (hval 1 34 v1 rfl rfl)
  obtain ⟨fl1, g1⟩ := h1
  obtain ⟨_, _, _, l1, hcs1, hr1, hc1, hk1⟩ := Sx.rows_open (m := 8) (ks := [.str, .str, .str, .bool, .ints]) Tryd.underlying34 (e := 70) (by kernel_rfl) (by kernel_rfl) (by decide) g1
  cases hcs1
  refine Calls.mono (laws_FnExactSettle_c a0 hr1 hc1 hk1 ht) fun e W2 ⟨v, he, hv, hx⟩ => ?_
  subst he; subst hv
  exact ⟨_, rfl, hpost _ hx⟩
theorem settle_said : Rows.FnExactSettleSaid :=
  OpenClaim.holds_of_cond 6 Tryd.f6 rfl rfl rfl rfl rfl rfl rfl ⟨rfl, rfl, rfl, rfl, rfl⟩ rfl rfl rfl rfl rfl (by kernel_rfl) Tryd.func6 (by kernel_rfl)
    (of_decide_eq_true (by kernel_rfl)) (by unfold Func.isWrapper; first | (rw [if_pos (by decide +kernel)]; kernel_rfl) | (rw [if_neg (by decide +kernel)]; exact ⟨rfl, rfl⟩))
    (fun os started H enc _ F => by rw [OpenClaim.pre_eq_preRow]; exact fnExactSettle_lifted os started H enc F)
theorem settle_plain (f : FuncId) (fn : Func) (hf : Tryd.pinned.checked.prog.funcNamed "loop.example/g00793/laws.FnExactSettle" = some f) (hfn : Tryd.pinned.checked.prog.funcs[f]? = some fn) :
    false = Tryd.pinned.checked.prog.looks [] ∧ ∀ (j : Nat) t, fn.params[j]? = some t → Tryd.pinned.checked.prog.wantsStandIn t = false := by
  obtain rfl : f = 6 := Option.some.inj ((show Tryd.prog.funcNamed "loop.example/g00793/laws.FnExactSettle" = some 6 by kernel_rfl).symm.trans hf) |>.symm
  obtain rfl : fn = Tryd.f6 := (Option.some.inj (Tryd.func6.symm.trans hfn)).symm
  refine ⟨by kernel_rfl, fun j t ht => ?_⟩
  rw [Tryd.params6] at ht
  have hm := Array.mem_toList_iff.2 (Array.mem_of_getElem? ht)
  have all : ((#[9, 34] : Array TypeId).toList.all fun t => !(Tryd.prog.wantsStandIn t)) = true := by kernel_rfl
  rw [List.all_eq_true] at all
  have h2 : Tryd.prog.wantsStandIn t = false := by simpa using all t hm
  exact h2
theorem settle_holds : Rows.FnExactSettleCardSaid :=
  Claim7.holds_tied_plain_at .later [] _ _ _ _ settle_said (fun _ h => by cases h) (by kernel_rfl) (fun _ h => by cases h) fnExactSettle_row_tie rfl ⟨rfl, rfl⟩ (by kernel_rfl) rfl settle_plain (by kernel_rfl)
end Go.Proofs.YtdidocmbcfbjdaaDoor
