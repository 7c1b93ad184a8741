/-
  The theorem sharesEven_holds; the law holds.
  Conditions: none.
-/
import Derived.Test.YtbgokfhcgcoipaaGreatRows
import Derived.Test.YtbgokfhcgcoipaaGreatSe6
set_option linter.unusedVariables false
namespace Go.ChangeAt
end Go.ChangeAt
namespace Go.ChangeShapes
end Go.ChangeShapes
namespace Go.RowKit
end Go.RowKit
namespace Go.WideShapes
end Go.WideShapes

namespace Go.Proofs.YtbgokfhcgcoipaaGreat
open Go.ChangeShapes Go.WideShapes Go.ChangeAt Go.RowKit
theorem own_knob : ownKnob Tryz.prog.godebug = none := by kernel_rfl
set_option maxRecDepth 100000 in
theorem fnExactSharesEven_lifted (os : Os) (started : os.Started) (H : Type) (enc : TypeId × Value -> H) :
    ReturnsInHanded {} Tryz.checked os 3 .any (Rows.fnExactSharesEvenSpec.pre6 enc Tryz.prog Tryz.f3 Rows.fnExactSharesEvenRow.domain false) (Rows.fnExactSharesEvenSpec.post enc Tryz.prog Tryz.f3 false true false false) := by
  refine returnsInHanded_of_change (C := Tryz.checked) own_knob started (by kernel_rfl) Tryz.func3
    (ChangeSpec.witness6 (enc := enc) (C := Tryz.checked) false ⟨#[], #[.agg #[.bool false, .slice none 0 0], .int .i64 0], []⟩ 8 (by kernel_rfl) (by kernel_rfl) (by kernel_rfl) (by kernel_rfl)) ?_
  intro W base args ds gs before hval0 hW hcnd _
  have hval : ∀ (j : Nat) t v, Tryz.f3.params[j]? = some t -> args[j]? = some v -> Value.okWide Tryz.prog W .any base t v := hval0
  have hW' := hW
  obtain ⟨p, q, hA0, hV, hpq, hfz, hnd⟩ := hW
  have hA : DataW.TrodAll enc Tryz.prog W 0 (fun _ => true) true Tryz.f3.params.toList args.toList ds p := hA0
  rw [Tryz.params3] at hA hval
  obtain ⟨hgs, hq⟩ := trodVars_none hV
  obtain ⟨v0, vs0, e0, ds0, pa0, pb0, hargs0, hds0, hp0, h0, hA⟩ := trodAll_cons hA
  obtain ⟨v1, vs1, e1, ds1, pa1, pb1, hargs1, hds1, hp1, h1, hA⟩ := trodAll_cons hA
  obtain ⟨hn1, hn2, hn3⟩ := trodAll_nil hA
  have ha : args = #[v0, v1] := by apply Array.ext'; rw [hargs0, hargs1, hn1]
  have hd : ds = [e0, e1] := by rw [hds0, hds1, hn2]
  subst ha hd hgs
  have hpost : ∀ W2, Sx.Ext W W2 -> Rows.fnExactSharesEvenSpec.post enc Tryz.prog Tryz.f3 false true false false W #[v0, v1] (.bool true) W2 := fun W2 hx => Sx.post_of_ext (tb := 4) (by kernel_rfl) (by rw [Tryz.params3]; decide +kernel) (by kernel_rfl) (by kernel_rfl) Tryz.underlying4 hW' hx rfl
  have hok0 := hval 0 24 v0 rfl rfl
  unfold Value.okWide at hok0
  rw [Tryz.underlying24] at hok0
  obtain ⟨⟨cs0⟩, rfl, hcz0, _⟩ := hok0
  obtain ⟨fl0, g0⟩ := h0
  obtain ⟨dd0, hr0, hc0, hk0⟩ := Sx.flat_open 8 (ks := [.bool, .ints]) (by kernel_rfl) g0
  have hr0 : Sx.Reps W cs0 dd0 := hr0
  obtain ⟨a1, rfl⟩ := okWide_int Tryz.underlying3 (hval 1 3 v1 rfl rfl)
  refine Calls.mono (laws_FnExactSharesEven_c hr0 hc0 hk0 a1) fun e W2 ⟨v, he, hv, hx⟩ => ?_
  subst he; subst hv
  exact ⟨_, rfl, hpost _ hx⟩
theorem sharesEven_holds : Rows.FnExactSharesEvenSaid :=
  OpenClaim.holds_of_wide 3 Tryz.f3 rfl rfl rfl rfl rfl rfl rfl ⟨rfl, rfl, rfl, rfl, rfl⟩ rfl rfl rfl rfl rfl (by kernel_rfl) Tryz.func3 (by kernel_rfl)
    (of_decide_eq_true (by kernel_rfl)) (by unfold Func.isWrapper; first | (rw [if_pos (by decide +kernel)]; kernel_rfl) | (rw [if_neg (by decide +kernel)]; exact ⟨rfl, rfl⟩))
    (fun os started H enc _ => fnExactSharesEven_lifted os started H enc)
end Go.Proofs.YtbgokfhcgcoipaaGreat
