/-
  The law FnExactBookOk returns true and only adds to the memory; printed by a program of mine from the contracts of both sides.
  Conditions: none.
-/
import Derived.Test.YtfbmjimhjlmhkaaDoorCBookOk
import Derived.Test.YtfbmjimhjlmhkaaDoorDBook
import Derived.Test.YtfbmjimhjlmhkaaDoorDS
namespace Go.Proofs.YtfbmjimhjlmhkaaDoor
open Go Go.Proofs.YtfbmjimhjlmhkaaDoor.Sx
set_option linter.unusedVariables false
set_option linter.unusedSimpArgs false

theorem laws_FnExactBookOk_c {w : World} {p0 : Option Addr} {n0 c0 : Nat} {l0 : List (List D0)} (h0 : RowsR w 4 p0 n0 c0 l0) (hc0 : ∀ x ∈ l0, x.map D0.code = [.str, .str, .bool, .ints]) (hk0 : ∀ x ∈ l0, ∀ d ∈ x, d.ok) (ht : Tab w) :
    Ret P n_laws_FnExactBookOk [.agg ⟨[.slice p0 n0 c0]⟩] w fun v w' => v = .bool true ∧ Ext w w' := by
  refine laws_FnExactBookOk_ret ?_
  unfold laws_FnExactBookOk
  have x : Ext w w := Ext.refl w
  intro r0 W1 hn0
  have y := hn0.ext
  have x := x.trans y
  have bk0 := hn0.blk
  refine ⟨_, _, _, bk0.loadA0 (by kernel_rfl), ?_⟩
  refine Ret.at (laws_szBook_c (h0.ext x) hc0 hk0 (by omega) (by omega)) ?_
  rintro v W2 ⟨k0, hv, hs0, hm0, y⟩
  subst hv
  have x := x.trans y
  have bk0 := bk0.ext y
  refine ⟨_, rfl, ifD (fun _ => ⟨rfl, x⟩) (fun hp0 => ?_)⟩
  have hs0 := hs0 (by omega)
  have hb0 : ∀ y ∈ l0, bulks y ≤ 1048576 := fun y hy => by have := bulks_le hy; omega
  have hz0 : n0 ≤ 1048576 := by omega
  refine ⟨_, _, _, bk0.loadA0 (by kernel_rfl), ?_⟩
  refine Ret.at (laws_toBook_c (h0.ext x) hc0 hz0 hb0) ?_
  rintro v W3 ⟨ps0, cs0, fs0, hv, os0, y⟩
  subst hv
  have yy := y
  have x := x.trans y
  have bk0 := bk0.ext y
  refine ⟨_, _, _, rfl, ?_⟩
  refine Ret.at (spec_BookOk_c os0.rows hc0 hz0 hb0) ?_
  rintro v W4 ⟨hv, y⟩
  subst hv
  have x := x.trans y
  have bk0 := bk0.ext y
  refine ⟨_, rfl, ?_⟩
  refine ⟨_, _, _, bk0.loadA0 (by kernel_rfl), ?_⟩
  refine Ret.at (laws_toBook_c (h0.ext x) hc0 hz0 hb0) ?_
  rintro v W5 ⟨px0, cx0, fx0, hv, ox0, y⟩
  subst hv
  have x := x.trans y
  have bk0 := bk0.ext y
  refine ⟨_, _, _, rfl, ?_⟩
  intro rx0 W6 hnx0
  obtain ⟨W7, st, bx0, ch, sz⟩ := hnx0.blk.storeA0 (P := P) (t := T_impl_Book) (xs := [.slice px0 n0 cx0]) (by kernel_rfl) rfl (by simp [Value.oneCell'])
  have y := hnx0.ext.chg ch (by have := hnx0.r_eq; simp; omega)
  have x := x.trans y
  have bk0 := bk0.ext y
  have ox0 := ox0.ext y
  refine ⟨_, st, ?_⟩
  refine ⟨_, _, _, bx0.loadA0 (by kernel_rfl), ?_⟩
  refine Ret.at (impl_BookOk_c ox0.rows hc0 hz0 hb0 (ht.ext x)) ?_
  rintro v W8 ⟨hv, y⟩
  subst hv
  have x := x.trans y
  have bk0 := bk0.ext y
  have bx0 := bx0.ext y
  have ox0 := ox0.ext y
  refine ⟨_, rfl, ⟨fun h => absurd h (by simp), fun _ => ?_⟩⟩
  refine ⟨_, _, _, fun W' hW => (bx0.ext ((Ext.drew _).trans hW)).loadA0 (by kernel_rfl), _, _, _, fun W' hW => (bk0.ext ((Ext.drew _).trans hW)).loadA0 (by kernel_rfl), ?_⟩
  have y := Ext.drew W8
  have x := x.trans y
  have bk0 := bk0.ext y
  have bx0 := bx0.ext y
  have ox0 := ox0.ext y
  refine Ret.at (laws_toBook_c (h0.ext x) hc0 hz0 hb0) ?_
  rintro v W9 ⟨py0, cy0, fy0, hv, oy0, y⟩
  subst hv
  have y2 := y
  have x := x.trans y
  have bk0 := bk0.ext y
  have bx0 := bx0.ext y
  have ox0 := ox0.ext y
  refine ⟨_, _, _, rfl, y, ?_⟩
  refine Ret.at (laws_eqBook_c ox0.rows oy0.rows hc0 hc0) ?_
  rintro v W10 ⟨hv, y⟩
  subst hv
  have x := x.trans y
  have bk0 := bk0.ext y
  have bx0 := bx0.ext y
  have ox0 := ox0.ext y
  refine ⟨_, rfl, ifN (fun h => absurd h (by simp)) (fun _ => ?_)⟩
  exact ⟨rfl, x⟩

end Go.Proofs.YtfbmjimhjlmhkaaDoor
