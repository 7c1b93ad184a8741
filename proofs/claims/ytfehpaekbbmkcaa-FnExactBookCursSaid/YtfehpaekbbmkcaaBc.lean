/-
  The theorem bookCurs_holds; the law holds.
  Conditions: none.
-/
import Derived.Test.YtfehpaekbbmkcaaRows
import Derived.Test.YtfehpaekbbmkcaaBc3

namespace Go.Proofs.Ytfehpaekbbmkcaa
open Go.ChangeShapes Go.WideShapes Go.ChangeAt Go.RowKit
set_option linter.unusedVariables false
theorem own_knob : ownKnob Try.prog.godebug = none := by kernel_rfl
set_option maxRecDepth 100000 in
theorem fnExactBookCurs_lifted (os : Os) (started : os.Started) (H : Type) (enc : TypeId × Value → H) :
    ReturnsInHanded {} Try.checked os 3 .any (Rows.fnExactBookCursSpec.pre6 enc Try.prog Try.f3 Rows.fnExactBookCursRow.domain false) (Rows.fnExactBookCursSpec.post enc Try.prog Try.f3 false true false false) := by
  refine returnsInHanded_of_change (C := Try.checked) own_knob started (by kernel_rfl) Try.func3
    (ChangeSpec.witness6 (enc := enc) (C := Try.checked) false ⟨#[], #[.agg #[.slice none 0 0]], []⟩ 8 (by kernel_rfl) (by kernel_rfl) (by kernel_rfl) (by kernel_rfl)) ?_
  intro W base args ds gs before hval0 hW hcnd _
  have hval : ∀ (j : Nat) t v, Try.f3.params[j]? = some t → args[j]? = some v → Value.okWide Try.prog W .any base t v := hval0
  have hW' := hW
  obtain ⟨p, q, hA0, hV, hpq, hfz, hnd⟩ := hW
  have hA : DataW.TrodAll enc Try.prog W 0 (fun _ => true) true Try.f3.params.toList args.toList ds p := hA0
  rw [Try.params3] at hA hval
  obtain ⟨hgs, hq⟩ := trodVars_none hV
  obtain ⟨v0, vs0, e0, ds0, pa0, pb0, hargs0, hds0, hp0, h0, hA⟩ := trodAll_cons hA
  obtain ⟨hn1, hn2, hn3⟩ := trodAll_nil hA
  have ha : args = #[v0] := by apply Array.ext'; rw [hargs0, hn1]
  have hd : ds = [e0] := by rw [hds0, hn2]
  subst ha hd hgs
  have hpost : ∀ W2, Sx.Ext W W2 → Rows.fnExactBookCursSpec.post enc Try.prog Try.f3 false true false false W #[v0] (.bool true) W2 := fun W2 hx => Sx.post_of_ext (tb := 4) (by kernel_rfl) (by rw [Try.params3]; decide +kernel) (by kernel_rfl) (by kernel_rfl) Try.underlying4 hW' hx rfl
  have hok0 := hval 0 24 v0 rfl rfl
  unfold Value.okWide at hok0
  rw [Try.underlying24] at hok0
  obtain ⟨⟨cs0⟩, rfl, hcz0, _⟩ := hok0
  obtain ⟨fl0, g0⟩ := h0
  obtain ⟨_, _, _, l0, hcs0, hr0, hc0, hk0⟩ := Sx.book_open (m := 8) (ks := [.str, .str, .bool, .ints]) Try.underlying24 Try.underlying22 (by kernel_rfl) (by kernel_rfl) (by decide) (by kernel_rfl) g0
  have hcs0 : cs0 = _ := hcs0
  subst hcs0
  refine Calls.mono (laws_FnExactBookCurs_c hr0 hc0 hk0) fun e W2 ⟨v, he, hv, hx⟩ => ?_
  subst he; subst hv
  exact ⟨_, rfl, hpost _ hx⟩
theorem bookCurs_holds : Rows.FnExactBookCursSaid :=
  OpenClaim.holds_of_wide 3 Try.f3 rfl rfl rfl rfl rfl rfl rfl ⟨rfl, rfl, rfl, rfl, rfl⟩ rfl rfl rfl rfl rfl (by kernel_rfl) Try.func3 (by kernel_rfl)
    (of_decide_eq_true (by kernel_rfl)) (by unfold Func.isWrapper; first | (rw [if_pos (by decide +kernel)]; kernel_rfl) | (rw [if_neg (by decide +kernel)]; exact ⟨rfl, rfl⟩))
    (fun os started H enc _ => fnExactBookCurs_lifted os started H enc)
end Go.Proofs.Ytfehpaekbbmkcaa
