/-
  The law FnExactLegsOk returns true and only adds to the memory; printed by a program of mine from the contracts of both sides.
  Conditions: none.
-/
import Derived.Test.YtfbmjimhjlmhkaaDoorCLegsOk
import Derived.Test.YtfbmjimhjlmhkaaDoorDS
namespace Go.Proofs.YtfbmjimhjlmhkaaDoor
open Go Go.Proofs.YtfbmjimhjlmhkaaDoor.Sx
set_option linter.unusedVariables false
set_option linter.unusedSimpArgs false

theorem laws_FnExactLegsOk_c {w : World} {p0 : Option Addr} {n0 c0 : Nat} {l0 : List (List D0)} (h0 : RowsR w 4 p0 n0 c0 l0) (hc0 : ∀ x ∈ l0, x.map D0.code = [.str, .str, .bool, .ints]) (hk0 : ∀ x ∈ l0, ∀ d ∈ x, d.ok) (ht : Tab w) :
    Ret P n_laws_FnExactLegsOk [.slice p0 n0 c0] w fun v w' => v = .bool true ∧ Ext w w' := by
  refine laws_FnExactLegsOk_ret ?_
  unfold laws_FnExactLegsOk
  have x : Ext w w := Ext.refl w
  refine Ret.at (laws_szLegS_c (h0.ext x) hc0 hk0 (by omega) (by omega)) ?_
  rintro v W1 ⟨k0, hv, hs0, hm0, y⟩
  subst hv
  have x := x.trans y
  refine ⟨_, rfl, ifD (fun _ => ⟨rfl, x⟩) (fun hp0 => ?_)⟩
  have hs0 := hs0 (by omega)
  have hb0 : ∀ y ∈ l0, bulks y ≤ 1048576 := fun y hy => by have := bulks_le hy; omega
  have hz0 : n0 ≤ 1048576 := by omega
  refine Ret.at (laws_toLegS_c (h0.ext x) hc0 hz0 hb0) ?_
  rintro v W2 ⟨ps0, cs0, fs0, hv, os0, y⟩
  subst hv
  have yy := y
  have x := x.trans y
  refine ⟨_, _, _, rfl, ?_⟩
  refine Ret.at (spec_LegsOk_c os0.rows hc0 hz0 hb0) ?_
  rintro v W3 ⟨hv, y⟩
  subst hv
  have x := x.trans y
  refine ⟨_, rfl, ?_⟩
  refine Ret.at (laws_toLegS_c (h0.ext x) hc0 hz0 hb0) ?_
  rintro v W4 ⟨px0, cx0, fx0, hv, ox0, y⟩
  subst hv
  have x := x.trans y
  refine ⟨_, _, _, rfl, ?_⟩
  refine Ret.at (impl_LegsOk_c ox0.rows hc0 hz0 hb0 (ht.ext x)) ?_
  rintro v W5 ⟨hv, y⟩
  subst hv
  have x := x.trans y
  have ox0 := ox0.ext y
  refine ⟨_, rfl, ⟨fun h => absurd h (by simp), fun _ => ?_⟩⟩
  refine Ret.at (laws_toLegS_c (h0.ext x) hc0 hz0 hb0) ?_
  rintro v W6 ⟨py0, cy0, fy0, hv, oy0, y⟩
  subst hv
  have y2 := y
  have x := x.trans y
  have ox0 := ox0.ext y
  refine ⟨_, _, _, rfl, ?_⟩
  refine Ret.at (laws_eqLegS_c ox0.rows oy0.rows hc0 hc0) ?_
  rintro v W7 ⟨hv, y⟩
  subst hv
  have x := x.trans y
  have ox0 := ox0.ext y
  refine ⟨_, rfl, ifN (fun h => absurd h (by simp)) (fun _ => ?_)⟩
  exact ⟨rfl, x⟩

end Go.Proofs.YtfbmjimhjlmhkaaDoor
