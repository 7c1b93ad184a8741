/-
  FnExactBookSum returns true for every argument, and leaves what was there as it was.
  Conditions: none.
-/
import Derived.Test.YtfbmjimhjlmhkaaDoorRows
import Derived.Test.YtfbmjimhjlmhkaaDoorWBookSum
import Derived.Test.YtfbmjimhjlmhkaaDoorSxRow
import Derived.Test.YtfbmjimhjlmhkaaDoorSxOpen
import Derived.Test.YtfbmjimhjlmhkaaDoorCards
import Derived.Test.YtfbmjimhjlmhkaaDoorTie
import Derived.Test.YtfbmjimhjlmhkaaDoorCTab
import Derived.WalkKit
import Derived.ProofKit
import Derived.OpenShut
import Derived.Deep.DeepHandedRow
import Derived.Lib.LaidTab
namespace Go.Proofs.YtfbmjimhjlmhkaaDoor
open Go.ChangeShapes Go.WideShapes Go.ChangeAt Go.RowKit
set_option linter.unusedVariables false

theorem own_knob : ownKnob Tryd.prog.godebug = none := by kernel_rfl

set_option maxRecDepth 100000 in
theorem fnExactBookSum_met (os : Os) : laidMet Tryd.prog Rows.fnExactBookSumRow.laid ((laidWorld os #[.agg #[.slice none 0 0], .string ByteArray.empty]).forCall (fun _ _ => 0) ⟨#[], #[.agg #[.slice none 0 0], .string ByteArray.empty], []⟩).memory := laidMet_of_run' 8 (by kernel_rfl) (by kernel_rfl)
set_option maxRecDepth 100000 in
theorem fnExactBookSum_lifted (os : Os) (started : os.Started) (H : Type) (enc : TypeId × Value → H) (F : Stop.Interp) :
    ReturnsInHanded {} Tryd.checked os 8 .any ((OpenSpec.ofChange Rows.fnExactBookSumSpec).preRow enc Tryd.prog Tryd.f8 Rows.fnExactBookSumRow.domain false Rows.fnExactBookSumRow.laid) (((OpenSpec.ofChange Rows.fnExactBookSumSpec).at F).post enc Tryd.prog Tryd.f8 false true false false) := by
  obtain ⟨x0, hx0⟩ : ∃ x, DataW.whole enc Tryd.prog ((laidWorld os #[.agg #[.slice none 0 0], .string ByteArray.empty]).forCall (fun _ _ => 0) ⟨#[], #[.agg #[.slice none 0 0], .string ByteArray.empty], []⟩).memory Tryd.f8.params.toList Rows.fnExactBookSumSpec.vars false (#[.agg #[.slice none 0 0], .string ByteArray.empty] : Array Value).toList 8 = some x := Option.isSome_iff_exists.1 (by kernel_rfl)
  refine returnsInHanded_of_row (C := Tryd.checked) (s := OpenSpec.ofChange Rows.fnExactBookSumSpec) own_knob started (by kernel_rfl) Tryd.func8
    (witness_row_at (enc := enc) (C := Tryd.checked) false (laidWorld os #[.agg #[.slice none 0 0], .string ByteArray.empty]) #[.agg #[.slice none 0 0], .string ByteArray.empty] rfl (by kernel_rfl) (by kernel_rfl) (by kernel_rfl)
      (OpenSpec.preRow_of_cond 8 hx0 (by kernel_rfl) (fun k hk => by cases hk) (by kernel_rfl) (fnExactBookSum_met os))) ?_
  intro W base args ds gs before hval0 hW _ _ _ hL _ _
  have ht : Tab W := tab_of_laid hL
  have hval : ∀ (j : Nat) t v, Tryd.f8.params[j]? = some t → args[j]? = some v → Value.okWide Tryd.prog W .any base t v := hval0
  have hW' := hW
  obtain ⟨p, q, hA0, hV, hpq, hfz, hnd⟩ := hW
  have hA : DataW.TrodAll enc Tryd.prog W 0 (fun _ => true) true Tryd.f8.params.toList args.toList ds p := hA0
  rw [Tryd.params8] at hA hval
  obtain ⟨g0, hgs⟩ := trodVars_one hV
  obtain ⟨v0, vs0, e0, ds0, pa0, pb0, hargs0, hds0, hp0, h0, hA⟩ := trodAll_cons hA
  obtain ⟨v1, vs1, e1, ds1, pa1, pb1, hargs1, hds1, hp1, h1, hA⟩ := trodAll_cons hA
  obtain ⟨hn1, hn2, hn3⟩ := trodAll_nil hA
  have ha : args = #[v0, v1] := by apply Array.ext'; rw [hargs0, hargs1, hn1]
  have hd : ds = [e0, e1] := by rw [hds0, hds1, hn2]
  subst ha hd hgs
  have hpost : ∀ W2, Sx.Ext W W2 → Rows.fnExactBookSumSpec.post enc Tryd.prog Tryd.f8 false true false false W #[v0, v1] (.bool true) W2 := fun W2 hx => Sx.post_of_ext (tb := 4) (by kernel_rfl) (by rw [Tryd.params8]; decide +kernel) (by kernel_rfl) (by kernel_rfl) Tryd.underlying4 hW' hx rfl
  have hok0 := hval 0 31 v0 rfl rfl
  unfold Value.okWide at hok0
  rw [Tryd.underlying31] at hok0
  obtain ⟨⟨cs0⟩, rfl, hcz0, _⟩ := hok0
  obtain ⟨fl0, g0⟩ := h0
  obtain ⟨_, _, _, l0, hcs0, hr0, hc0, hk0⟩ := Sx.book_open (m := 8) (ks := [.str, .str, .bool, .ints]) Tryd.underlying31 Tryd.underlying29 (by kernel_rfl) (by kernel_rfl) (by decide) (by kernel_rfl) g0
  have hcs0 : cs0 = _ := hcs0
  subst hcs0
  obtain ⟨a1, rfl⟩ := okWide_string Tryd.underlying9 (hval 1 9 v1 rfl rfl)
  refine Calls.mono (laws_FnExactBookSum_c hr0 hc0 hk0 a1 ht) fun e W2 ⟨v, he, hv, hx⟩ => ?_
  subst he; subst hv
  exact ⟨_, rfl, hpost _ hx⟩

theorem bookSum_said : Rows.FnExactBookSumSaid :=
  OpenClaim.holds_of_cond 8 Tryd.f8 rfl rfl rfl rfl rfl rfl rfl ⟨rfl, rfl, rfl, rfl, rfl⟩ rfl rfl rfl rfl rfl (by kernel_rfl) Tryd.func8 (by kernel_rfl)
    (of_decide_eq_true (by kernel_rfl)) (by unfold Func.isWrapper; first | (rw [if_pos (by decide +kernel)]; kernel_rfl) | (rw [if_neg (by decide +kernel)]; exact ⟨rfl, rfl⟩))
    (fun os started H enc _ F => by rw [OpenClaim.pre_eq_preRow]; exact fnExactBookSum_lifted os started H enc F)

theorem bookSum_plain (f : FuncId) (fn : Func) (hf : Tryd.pinned.checked.prog.funcNamed "loop.example/g00793/laws.FnExactBookSum" = some f) (hfn : Tryd.pinned.checked.prog.funcs[f]? = some fn) :
    false = Tryd.pinned.checked.prog.looks [] ∧ ∀ (j : Nat) t, fn.params[j]? = some t → Tryd.pinned.checked.prog.wantsStandIn t = false := by
  obtain rfl : f = 8 := Option.some.inj ((show Tryd.prog.funcNamed "loop.example/g00793/laws.FnExactBookSum" = some 8 by kernel_rfl).symm.trans hf) |>.symm
  obtain rfl : fn = Tryd.f8 := (Option.some.inj (Tryd.func8.symm.trans hfn)).symm
  refine ⟨by kernel_rfl, fun j t ht => ?_⟩
  rw [Tryd.params8] at ht
  have hm := Array.mem_toList_iff.2 (Array.mem_of_getElem? ht)
  have all : ((#[31, 9] : Array TypeId).toList.all fun t => !(Tryd.prog.wantsStandIn t)) = true := by kernel_rfl
  rw [List.all_eq_true] at all
  have h2 : Tryd.prog.wantsStandIn t = false := by simpa using all t hm
  exact h2

theorem bookSum_holds : Rows.FnExactBookSumCardSaid :=
  Claim7.holds_tied_plain_at .later [] _ _ _ _ bookSum_said (fun _ h => by cases h) (by kernel_rfl) (fun _ h => by cases h) fnExactBookSum_row_tie rfl ⟨rfl, rfl⟩ (by kernel_rfl) rfl bookSum_plain (by kernel_rfl)

end Go.Proofs.YtfbmjimhjlmhkaaDoor
