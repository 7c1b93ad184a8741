/-
  The law FnExactRestsSame returns true and only adds to the memory; printed by a program of mine from the contracts of both sides.
  Conditions: none.
-/
import Derived.Test.YtoacnglkliioaaaCRestsSame
import Derived.Test.YtoacnglkliioaaaDS
namespace Go.Proofs.Ytoacnglkliioaaa
open Go Go.Proofs.Ytoacnglkliioaaa.Sx
set_option linter.unusedVariables false
set_option linter.unusedSimpArgs false

theorem laws_FnExactRestsSame_c {w : World} {p0 : Option Addr} {n0 c0 : Nat} {l0 : List (List D0)} (h0 : RowsR w 4 p0 n0 c0 l0) (hc0 : ∀ x ∈ l0, x.map D0.code = [.str, .bool, .ints, .ints]) (hk0 : ∀ x ∈ l0, ∀ d ∈ x, d.ok) {p1 : Option Addr} {n1 c1 : Nat} {l1 : List (List D0)} (h1 : RowsR w 4 p1 n1 c1 l1) (hc1 : ∀ x ∈ l1, x.map D0.code = [.str, .bool, .ints, .ints]) (hk1 : ∀ x ∈ l1, ∀ d ∈ x, d.ok) :
    Ret P n_laws_FnExactRestsSame [.slice p0 n0 c0, .slice p1 n1 c1] w fun v w' => v = .bool true ∧ Ext w w' := by
  refine laws_FnExactRestsSame_ret ?_
  unfold laws_FnExactRestsSame
  have x : Ext w w := Ext.refl w
  refine Ret.at (laws_szRestS_c (h0.ext x) hc0 hk0 (by omega) (by omega)) ?_
  rintro v W1 ⟨k0, hv, hs0, hm0, y⟩
  subst hv
  have x := x.trans y
  refine ⟨_, rfl, ifD (fun _ => ⟨rfl, x⟩) (fun hp0 => ?_)⟩
  refine Ret.at (laws_szRestS_c (h1.ext x) hc1 hk1 (by omega) (by omega)) ?_
  rintro v W2 ⟨k1, hv, hs1, hm1, y⟩
  subst hv
  have x := x.trans y
  refine ⟨_, rfl, ifD (fun _ => ⟨rfl, x⟩) (fun hp1 => ?_)⟩
  have hs0 := hs0 (by omega)
  have hs1 := hs1 (by omega)
  have hb0 : ∀ y ∈ l0, bulks y ≤ 1048576 := fun y hy => by have := bulks_le hy; omega
  have hz0 : n0 ≤ 1048576 := by omega
  have hb1 : ∀ y ∈ l1, bulks y ≤ 1048576 := fun y hy => by have := bulks_le hy; omega
  have hz1 : n1 ≤ 1048576 := by omega
  refine Ret.at (laws_toRestS_c (h0.ext x) hc0 hz0 hb0) ?_
  rintro v W3 ⟨ps0, cs0, fs0, hv, os0, y⟩
  subst hv
  have x := x.trans y
  refine ⟨_, _, _, rfl, ?_⟩
  refine Ret.at (laws_toRestS_c (h1.ext x) hc1 hz1 hb1) ?_
  rintro v W4 ⟨ps1, cs1, fs1, hv, os1, y⟩
  subst hv
  have x := x.trans y
  have os0 := os0.ext y
  refine ⟨_, _, _, rfl, ?_⟩
  refine Ret.at (spec_RestsSame_c os0.rows hc0 os1.rows hc1) ?_
  rintro v W5 ⟨hv, y⟩
  subst hv
  have x := x.trans y
  refine ⟨_, rfl, ?_⟩
  refine Ret.at (laws_toRestS_c (h0.ext x) hc0 hz0 hb0) ?_
  rintro v W6 ⟨px0, cx0, fx0, hv, ox0, y⟩
  subst hv
  have x := x.trans y
  refine ⟨_, _, _, rfl, ?_⟩
  refine Ret.at (laws_toRestS_c (h1.ext x) hc1 hz1 hb1) ?_
  rintro v W7 ⟨px1, cx1, fx1, hv, ox1, y⟩
  subst hv
  have x := x.trans y
  have ox0 := ox0.ext y
  refine ⟨_, _, _, rfl, ?_⟩
  refine Ret.at (impl_RestsSame_c ox0.rows hc0 ox1.rows hc1) ?_
  rintro v W8 ⟨hv, y⟩
  subst hv
  have x := x.trans y
  have ox0 := ox0.ext y
  have ox1 := ox1.ext y
  refine ⟨_, rfl, ⟨fun h => absurd h (by simp), fun _ => ?_⟩⟩
  refine Ret.at (laws_toRestS_c (h0.ext x) hc0 hz0 hb0) ?_
  rintro v W9 ⟨py0, cy0, fy0, hv, oy0, y⟩
  subst hv
  have y2 := y
  have x := x.trans y
  have ox0 := ox0.ext y
  have ox1 := ox1.ext y
  refine ⟨_, _, _, rfl, ?_⟩
  refine Ret.at (laws_eqRestS_c ox0.rows oy0.rows hc0 hc0) ?_
  rintro v W10 ⟨hv, y⟩
  subst hv
  have x := x.trans y
  have ox0 := ox0.ext y
  have ox1 := ox1.ext y
  refine ⟨_, rfl, ifN (fun h => absurd h (by simp)) (fun _ => ?_)⟩
  refine Ret.at (laws_toRestS_c (h1.ext x) hc1 hz1 hb1) ?_
  rintro v W11 ⟨py1, cy1, fy1, hv, oy1, y⟩
  subst hv
  have y2 := y
  have x := x.trans y
  have ox0 := ox0.ext y
  have ox1 := ox1.ext y
  refine ⟨_, _, _, rfl, ?_⟩
  refine Ret.at (laws_eqRestS_c ox1.rows oy1.rows hc1 hc1) ?_
  rintro v W12 ⟨hv, y⟩
  subst hv
  have x := x.trans y
  have ox0 := ox0.ext y
  have ox1 := ox1.ext y
  refine ⟨_, rfl, ifN (fun h => absurd h (by simp)) (fun _ => ?_)⟩
  exact ⟨rfl, x⟩

end Go.Proofs.Ytoacnglkliioaaa
