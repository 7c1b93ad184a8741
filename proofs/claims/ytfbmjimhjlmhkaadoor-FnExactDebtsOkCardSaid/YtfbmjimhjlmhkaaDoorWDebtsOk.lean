/-
  The law FnExactDebtsOk returns true and only adds to the memory; printed by a program of mine from the contracts of both sides.
  Conditions: none.
-/
import Derived.Test.YtfbmjimhjlmhkaaDoorCDebtsOk
import Derived.Test.YtfbmjimhjlmhkaaDoorDS
namespace Go.Proofs.YtfbmjimhjlmhkaaDoor
open Go Go.Proofs.YtfbmjimhjlmhkaaDoor.Sx
set_option linter.unusedVariables false
set_option linter.unusedSimpArgs false

theorem laws_FnExactDebtsOk_c {w : World} (a0 : ByteArray) {p1 : Option Addr} {n1 c1 : Nat} {l1 : List (List D0)} (h1 : RowsR w 5 p1 n1 c1 l1) (hc1 : ∀ x ∈ l1, x.map D0.code = [.str, .str, .str, .bool, .ints]) (hk1 : ∀ x ∈ l1, ∀ d ∈ x, d.ok) (ht : Tab w) :
    Ret P n_laws_FnExactDebtsOk [.string a0, .slice p1 n1 c1] w fun v w' => v = .bool true ∧ Ext w w' := by
  refine laws_FnExactDebtsOk_ret ?_
  unfold laws_FnExactDebtsOk
  have x : Ext w w := Ext.refl w
  refine ifD (fun _ => ⟨rfl, x⟩) (fun hs0 => ?_)
  refine Ret.at (laws_szDebtS_c (h1.ext x) hc1 hk1 (by omega) (by omega)) ?_
  rintro v W1 ⟨k1, hv, hs1, hm1, y⟩
  subst hv
  have x := x.trans y
  refine ⟨_, rfl, ifD (fun _ => ⟨rfl, x⟩) (fun hp1 => ?_)⟩
  have hs1 := hs1 (by omega)
  have hb1 : ∀ y ∈ l1, bulks y ≤ 1048576 := fun y hy => by have := bulks_le hy; omega
  have hz1 : n1 ≤ 1048576 := by omega
  refine Ret.at (laws_toDebtS_c (h1.ext x) hc1 hz1 hb1) ?_
  rintro v W2 ⟨ps1, cs1, fs1, hv, os1, y⟩
  subst hv
  have yy := y
  have x := x.trans y
  refine ⟨_, _, _, rfl, ?_⟩
  refine Ret.at (spec_DebtsOk_c a0 os1.rows hc1 hz1 hb1) ?_
  rintro v W3 ⟨hv, y⟩
  subst hv
  have x := x.trans y
  refine ⟨_, rfl, ?_⟩
  refine Ret.at (laws_toDebtS_c (h1.ext x) hc1 hz1 hb1) ?_
  rintro v W4 ⟨px1, cx1, fx1, hv, ox1, y⟩
  subst hv
  have x := x.trans y
  refine ⟨_, _, _, rfl, ?_⟩
  refine Ret.at (impl_DebtsOk_c a0 ox1.rows hc1 hz1 hb1 (ht.ext x)) ?_
  rintro v W5 ⟨hv, y⟩
  subst hv
  have x := x.trans y
  have ox1 := ox1.ext y
  refine ⟨_, rfl, ⟨fun h => absurd h (by simp), fun _ => ?_⟩⟩
  refine Ret.at (laws_toDebtS_c (h1.ext x) hc1 hz1 hb1) ?_
  rintro v W6 ⟨py1, cy1, fy1, hv, oy1, y⟩
  subst hv
  have y2 := y
  have x := x.trans y
  have ox1 := ox1.ext y
  refine ⟨_, _, _, rfl, ?_⟩
  refine Ret.at (laws_eqDebtS_c ox1.rows oy1.rows hc1 hc1) ?_
  rintro v W7 ⟨hv, y⟩
  subst hv
  have x := x.trans y
  have ox1 := ox1.ext y
  refine ⟨_, rfl, ifN (fun h => absurd h (by simp)) (fun _ => ?_)⟩
  exact ⟨rfl, x⟩

end Go.Proofs.YtfbmjimhjlmhkaaDoor
