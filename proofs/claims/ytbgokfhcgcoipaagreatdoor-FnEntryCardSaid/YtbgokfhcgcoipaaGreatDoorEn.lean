/-
  The theorem fnEntry_holds; the law holds.
  Conditions: none.
-/
import Derived.WalkKit
import Derived.ProofKit
import Derived.Test.YtbgokfhcgcoipaaGreatDoorRows
import Derived.OpenShut
import Derived.Lib.LaidTab
import Derived.Test.YtbgokfhcgcoipaaGreatDoorCards
import Derived.Test.YtbgokfhcgcoipaaGreatDoorTie
import Derived.Deep.DeepHandedRow
import Derived.Test.YtbgokfhcgcoipaaGreatDoorEn5
set_option linter.unusedVariables false
namespace Go.ChangeAt
end Go.ChangeAt
namespace Go.ChangeShapes
end Go.ChangeShapes
namespace Go.RowKit
end Go.RowKit
namespace Go.WideShapes
end Go.WideShapes

namespace Go.Proofs.YtbgokfhcgcoipaaGreatDoor
open Go.ChangeShapes Go.WideShapes Go.ChangeAt Go.RowKit
theorem own_knob : ownKnob Tryz.prog.godebug = none := by kernel_rfl
set_option maxRecDepth 100000 in
theorem fnEntry_met (os : Os) : laidMet Tryz.prog Rows.fnEntryRow.laid ((laidWorldX os #[.slice none 0 0]).forCall (fun _ _ => 0) ⟨#[], #[.slice none 0 0], []⟩).memory := laidMet_of_run' 8 (by kernel_rfl) (by kernel_rfl)
set_option maxRecDepth 100000 in
theorem fnEntry_lifted (os : Os) (started : os.Started) (H : Type) (enc : TypeId × Value -> H) (F : Stop.Interp) :
    ReturnsInHanded {} Tryz.checked os 8 .any ((OpenSpec.ofChange Rows.fnEntrySpec).preRow enc Tryz.prog Tryz.f8 Rows.fnEntryRow.domain false Rows.fnEntryRow.laid) (((OpenSpec.ofChange Rows.fnEntrySpec).at F).post enc Tryz.prog Tryz.f8 false true false false) := by
  obtain ⟨x0, hx0⟩ : ∃ x, DataW.whole enc Tryz.prog ((laidWorldX os #[.slice none 0 0]).forCall (fun _ _ => 0) ⟨#[], #[.slice none 0 0], []⟩).memory Tryz.f8.params.toList Rows.fnEntrySpec.vars false (#[.slice none 0 0] : Array Value).toList 8 = some x := Option.isSome_iff_exists.1 (by kernel_rfl)
  refine returnsInHanded_of_row (C := Tryz.checked) (s := OpenSpec.ofChange Rows.fnEntrySpec) own_knob started (by kernel_rfl) Tryz.func8
    (witness_row_at (enc := enc) (C := Tryz.checked) false (laidWorldX os #[.slice none 0 0]) #[.slice none 0 0] rfl (by kernel_rfl) (by kernel_rfl) (by kernel_rfl)
      (OpenSpec.preRow_of_cond 8 hx0 (by kernel_rfl) (fun k hk => by cases hk) (by kernel_rfl) (fnEntry_met os))) ?_
  intro W base args ds gs before hval0 hW _ _ _ hL _ _
  obtain ⟨ht, hp⟩ := tabs_of_laid hL
  have hval : ∀ (j : Nat) t v, Tryz.f8.params[j]? = some t -> args[j]? = some v -> Value.okWide Tryz.prog W .any base t v := hval0
  have hW' := hW
  obtain ⟨p, q, hA0, hV, hpq, hfz, hnd⟩ := hW
  have hA : DataW.TrodAll enc Tryz.prog W 0 (fun _ => true) true Tryz.f8.params.toList args.toList ds p := hA0
  rw [Tryz.params8] at hA hval
  obtain ⟨g0, hgs⟩ := trodVars_one hV
  obtain ⟨v0, vs0, e0, ds0, pa0, pb0, hargs0, hds0, hp0, h0, hA⟩ := trodAll_cons hA
  obtain ⟨hn1, hn2, hn3⟩ := trodAll_nil hA
  have ha : args = #[v0] := by apply Array.ext'; rw [hargs0, hn1]
  have hd : ds = [e0] := by rw [hds0, hn2]
  subst ha hd hgs
  have hpost : ∀ W2, Sx.Ext W W2 -> Rows.fnEntrySpec.post enc Tryz.prog Tryz.f8 false true false false W #[v0] (.bool true) W2 := fun W2 hx => Sx.post_of_ext (tb := 4) (by kernel_rfl) (by rw [Tryz.params8]; decide +kernel) (by kernel_rfl) (by kernel_rfl) Tryz.underlying4 hW' hx rfl
  obtain ⟨x0, nn0, cc0, rfl⟩ := okWide_slice Tryz.underlying28 (hval 0 28 v0 rfl rfl)
  obtain ⟨fl0, g0⟩ := h0
  obtain ⟨_, _, _, hcs0, hr0⟩ := bytes_of_trod Tryz.underlying28 Tryz.underlying5 (by kernel_rfl) g0
  cases hcs0
  refine Calls.mono (laws_FnEntry_c hr0 ht hp) fun e W2 ⟨v, he, hv, hx⟩ => ?_
  subst he; subst hv
  exact ⟨_, rfl, hpost _ hx⟩
theorem fnEntry_inPlace : Tryz.prog.inPlace 8 = Rows.fnEntryRow.inPlace := by kernel_rfl
theorem fnEntry_unfollowed : Tryz.prog.unfollowed 8 = Rows.fnEntryRow.unfollowed := by kernel_rfl
theorem fnEntry_recurses : Tryz.prog.recurses 8 = Rows.fnEntryRow.recurses := by kernel_rfl
theorem fnEntry_varsNamed : Tryz.prog.varsNamed 8 = Rows.fnEntryRow.named := by kernel_rfl
theorem fnEntry_closed : joinedFacts Tryz.prog 8 Tryz.f8 (OpenSpec.ofChange Rows.fnEntrySpec).bare Rows.fnEntryRow = true := by
  unfold joinedFacts
  rw [fnEntry_inPlace, fnEntry_unfollowed, fnEntry_recurses, fnEntry_varsNamed]
  kernel_rfl
theorem fnEntry_said : Rows.FnEntrySaid :=
  OpenClaim.holds_of_cond 8 Tryz.f8 rfl rfl rfl rfl rfl rfl rfl ⟨rfl, rfl, rfl, rfl, rfl⟩ rfl rfl rfl rfl rfl (by kernel_rfl) Tryz.func8 fnEntry_closed
    (of_decide_eq_true (by kernel_rfl)) (by unfold Func.isWrapper; first | (rw [if_pos (by decide +kernel)]; kernel_rfl) | (rw [if_neg (by decide +kernel)]; exact ⟨rfl, rfl⟩))
    (fun os started H enc _ F => by rw [OpenClaim.pre_eq_preRow]; exact fnEntry_lifted os started H enc F)
theorem fnEntry_plain (f : FuncId) (fn : Func) (hf : Tryz.pinned.checked.prog.funcNamed "loop.example/g00793/laws.FnEntry" = some f) (hfn : Tryz.pinned.checked.prog.funcs[f]? = some fn) :
    true = Tryz.pinned.checked.prog.looks [] /\ ∀ (j : Nat) t, fn.params[j]? = some t -> Tryz.pinned.checked.prog.wantsStandIn t = false := by
  obtain rfl : f = 8 := Option.some.inj ((show Tryz.prog.funcNamed "loop.example/g00793/laws.FnEntry" = some 8 by kernel_rfl).symm.trans hf) |>.symm
  obtain rfl : fn = Tryz.f8 := (Option.some.inj (Tryz.func8.symm.trans hfn)).symm
  refine ⟨by kernel_rfl, fun j t ht => ?_⟩
  rw [Tryz.params8] at ht
  have hm := Array.mem_toList_iff.2 (Array.mem_of_getElem? ht)
  have all : ((#[28] : Array TypeId).toList.all fun t => !(Tryz.prog.wantsStandIn t)) = true := by kernel_rfl
  rw [List.all_eq_true] at all
  have h2 : Tryz.prog.wantsStandIn t = false := by simpa using all t hm
  exact h2
theorem fnEntry_holds : Rows.FnEntryCardSaid :=
  Claim7.holds_tied_plain_at .later [] _ _ _ _ fnEntry_said (fun _ h => by cases h) (by kernel_rfl) (fun _ h => by cases h) fnEntry_row_tie rfl ⟨rfl, rfl⟩ (by kernel_rfl) rfl fnEntry_plain (by kernel_rfl)
end Go.Proofs.YtbgokfhcgcoipaaGreatDoor
