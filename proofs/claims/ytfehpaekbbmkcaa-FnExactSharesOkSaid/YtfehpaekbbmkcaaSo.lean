/-
  The theorem sharesOk_holds; the law holds.
  Conditions: none.
-/
import Derived.Test.YtfehpaekbbmkcaaRows
import Derived.Test.YtfehpaekbbmkcaaSo6
set_option linter.unusedVariables false
namespace Go.ChangeAt
end Go.ChangeAt
namespace Go.ChangeShapes
end Go.ChangeShapes
namespace Go.RowKit
end Go.RowKit
namespace Go.WideShapes
end Go.WideShapes

namespace Go.Proofs.Ytfehpaekbbmkcaa
open Go.ChangeShapes Go.WideShapes Go.ChangeAt Go.RowKit
theorem own_knob : ownKnob Try.prog.godebug = none := by kernel_rfl
set_option maxRecDepth 100000 in
theorem fnExactSharesOk_lifted (os : Os) (started : os.Started) (H : Type) (enc : TypeId × Value -> H) :
    ReturnsInHanded {} Try.checked os 5 .any (Rows.fnExactSharesOkSpec.pre6 enc Try.prog Try.f5 Rows.fnExactSharesOkRow.domain false) (Rows.fnExactSharesOkSpec.post enc Try.prog Try.f5 false true false false) := by
  refine returnsInHanded_of_change (C := Try.checked) own_knob started (by kernel_rfl) Try.func5
    (ChangeSpec.witness6 (enc := enc) (C := Try.checked) false ⟨#[], #[.agg #[.bool false, .slice none 0 0], .slice none 0 0, .slice none 0 0], []⟩ 8 (by kernel_rfl) (by kernel_rfl) (by kernel_rfl) (by kernel_rfl)) ?_
  intro W base args ds gs before hval0 hW hcnd _
  have hval : ∀ (j : Nat) t v, Try.f5.params[j]? = some t -> args[j]? = some v -> Value.okWide Try.prog W .any base t v := hval0
  have hW' := hW
  obtain ⟨p, q, hA0, hV, hpq, hfz, hnd⟩ := hW
  have hA : DataW.TrodAll enc Try.prog W 0 (fun _ => true) true Try.f5.params.toList args.toList ds p := hA0
  rw [Try.params5] at hA hval
  obtain ⟨hgs, hq⟩ := trodVars_none hV
  obtain ⟨v0, vs0, e0, ds0, pa0, pb0, hargs0, hds0, hp0, h0, hA⟩ := trodAll_cons hA
  obtain ⟨v1, vs1, e1, ds1, pa1, pb1, hargs1, hds1, hp1, h1, hA⟩ := trodAll_cons hA
  obtain ⟨v2, vs2, e2, ds2, pa2, pb2, hargs2, hds2, hp2, h2, hA⟩ := trodAll_cons hA
  obtain ⟨hn1, hn2, hn3⟩ := trodAll_nil hA
  have ha : args = #[v0, v1, v2] := by apply Array.ext'; rw [hargs0, hargs1, hargs2, hn1]
  have hd : ds = [e0, e1, e2] := by rw [hds0, hds1, hds2, hn2]
  subst ha hd hgs
  have hpost : ∀ W2, Sx.Ext W W2 -> Rows.fnExactSharesOkSpec.post enc Try.prog Try.f5 false true false false W #[v0, v1, v2] (.bool true) W2 := fun W2 hx => Sx.post_of_ext (tb := 4) (by kernel_rfl) (by rw [Try.params5]; decide +kernel) (by kernel_rfl) (by kernel_rfl) Try.underlying4 hW' hx rfl
  have hok0 := hval 0 39 v0 rfl rfl
  unfold Value.okWide at hok0
  rw [Try.underlying39] at hok0
  obtain ⟨⟨cs0⟩, rfl, hcz0, _⟩ := hok0
  obtain ⟨fl0, g0⟩ := h0
  obtain ⟨dd0, hr0, hc0, hk0⟩ := Sx.flat_open 8 (ks := [.bool, .ints]) (by kernel_rfl) g0
  have hr0 : Sx.Reps W cs0 dd0 := hr0
  obtain ⟨x1, nn1, cc1, rfl⟩ := okWide_slice Try.underlying37 (hval 1 37 v1 rfl rfl)
  obtain ⟨fl1, g1⟩ := h1
  obtain ⟨_, _, _, z1, hcs1, hr1, hk1⟩ := Sx.ints_of_trod Try.underlying37 Try.underlying3 (by kernel_rfl) g1
  cases hcs1
  obtain ⟨x2, nn2, cc2, rfl⟩ := okWide_slice Try.underlying54 (hval 2 54 v2 rfl rfl)
  obtain ⟨fl2, g2⟩ := h2
  obtain ⟨_, _, _, l2, hcs2, hr2, hc2, hk2⟩ := Sx.rows_open (m := 8) (ks := [.bool, .ints]) Try.underlying54 (e := 39) (by kernel_rfl) (by kernel_rfl) (by decide) g2
  cases hcs2
  refine Calls.mono (laws_FnExactSharesOk_c hr0 hc0 hk0 hr1 hr2 hc2 hk2) fun e W2 ⟨v, he, hv, hx⟩ => ?_
  subst he; subst hv
  exact ⟨_, rfl, hpost _ hx⟩
theorem sharesOk_holds : Rows.FnExactSharesOkSaid :=
  OpenClaim.holds_of_wide 5 Try.f5 rfl rfl rfl rfl rfl rfl rfl ⟨rfl, rfl, rfl, rfl, rfl⟩ rfl rfl rfl rfl rfl (by kernel_rfl) Try.func5 (by kernel_rfl)
    (of_decide_eq_true (by kernel_rfl)) (by unfold Func.isWrapper; first | (rw [if_pos (by decide +kernel)]; kernel_rfl) | (rw [if_neg (by decide +kernel)]; exact ⟨rfl, rfl⟩))
    (fun os started H enc _ => fnExactSharesOk_lifted os started H enc)
end Go.Proofs.Ytfehpaekbbmkcaa
