/-
  FnExactEnName returns true for every argument, and leaves what was there as it was. Conditions: none.
-/
import Derived.Test.YtjbbelfocdbeeaaRows
import Derived.Test.YtjbbelfocdbeeaaCEnName
import Derived.Test.YtjbbelfocdbeeaaSxRow
namespace Go.Proofs.Ytjbbelfocdbeeaa
open Go.ChangeShapes Go.WideShapes Go.ChangeAt Go.RowKit
set_option linter.unusedVariables false

theorem enName_own : ownKnob Try.prog.godebug = none := by kernel_rfl

set_option maxRecDepth 100000 in
theorem enName_lifted (os : Os) (started : os.Started) (H : Type) (enc : TypeId × Value → H) :
    ReturnsInHanded {} Try.checked os 3 .any (Rows.fnExactEnNameSpec.pre6 enc Try.prog Try.f3 Rows.fnExactEnNameRow.domain false) (Rows.fnExactEnNameSpec.post enc Try.prog Try.f3 false true false false) := by
  refine returnsInHanded_of_change (C := Try.checked) enName_own started (by kernel_rfl) Try.func3
    (ChangeSpec.witness6 (enc := enc) (C := Try.checked) false ⟨#[], #[.int .i64 0], []⟩ 8 (by kernel_rfl) (by kernel_rfl) (by kernel_rfl) (by kernel_rfl)) ?_
  intro W base args ds gs before hval0 hW hcnd _
  have hval : ∀ (j : Nat) t v, Try.f3.params[j]? = some t → args[j]? = some v → Value.okWide Try.prog W .any base t v := hval0
  have hW' := hW
  obtain ⟨p, q, hA0, hV, hpq, hfz, hnd⟩ := hW
  have hA : DataW.TrodAll enc Try.prog W 0 (fun _ => true) true Try.f3.params.toList args.toList ds p := hA0
  rw [Try.params3] at hA hval
  obtain ⟨v0, d0, hargs, hds, h0⟩ := trodAll_one hA
  obtain ⟨hgs, hq⟩ := trodVars_none hV
  subst hargs hds hgs
  obtain ⟨a, hv0, hd0, hp0, wa⟩ := open_int Try.underlying3 (hval 0 3 v0 rfl rfl) h0
  subst hv0
  refine Calls.mono (laws_FnExactEnName_c a W) fun e W' ⟨v, he, hv, hx⟩ => ?_
  subst he; subst hv
  exact ⟨_, rfl, Sx.post_of_ext (tb := 4) (by kernel_rfl) (by rw [Try.params3]; decide +kernel) (by kernel_rfl) (by kernel_rfl) Try.underlying4 hW' hx rfl⟩

theorem enName_holds : Rows.FnExactEnNameSaid :=
  OpenClaim.holds_of_wide 3 Try.f3 rfl rfl rfl rfl rfl rfl rfl ⟨rfl, rfl, rfl, rfl, rfl⟩ rfl rfl rfl rfl rfl (by kernel_rfl) Try.func3 (by kernel_rfl)
    (of_decide_eq_true (by kernel_rfl)) (by unfold Func.isWrapper; first | (rw [if_pos (by decide +kernel)]; kernel_rfl) | (rw [if_neg (by decide +kernel)]; exact ⟨rfl, rfl⟩))
    (fun os started H enc _ => enName_lifted os started H enc)

end Go.Proofs.Ytjbbelfocdbeeaa
