/-
  The law FnExactBookSame returns true and only adds to the memory; printed by a program of mine from the contracts of both sides.
  Conditions: none.
-/
import Derived.Test.YtoacnglkliioaaaCBookSame
import Derived.Test.YtoacnglkliioaaaDBook
import Derived.Test.YtoacnglkliioaaaDS
namespace Go.Proofs.Ytoacnglkliioaaa
open Go Go.Proofs.Ytoacnglkliioaaa.Sx
set_option linter.unusedVariables false
set_option linter.unusedSimpArgs false

theorem laws_FnExactBookSame_c {w : World} {p0 : Option Addr} {n0 c0 : Nat} {l0 : List (List D0)} (h0 : RowsR w 4 p0 n0 c0 l0) (hc0 : ∀ x ∈ l0, x.map D0.code = [.str, .str, .bool, .ints]) (hk0 : ∀ x ∈ l0, ∀ d ∈ x, d.ok) {p1 : Option Addr} {n1 c1 : Nat} {l1 : List (List D0)} (h1 : RowsR w 4 p1 n1 c1 l1) (hc1 : ∀ x ∈ l1, x.map D0.code = [.str, .str, .bool, .ints]) (hk1 : ∀ x ∈ l1, ∀ d ∈ x, d.ok) :
    Ret P n_laws_FnExactBookSame [.agg ⟨[.slice p0 n0 c0]⟩, .agg ⟨[.slice p1 n1 c1]⟩] w fun v w' => v = .bool true ∧ Ext w w' := by
  refine laws_FnExactBookSame_ret ?_
  unfold laws_FnExactBookSame
  have x : Ext w w := Ext.refl w
  intro r0 W1 hn0
  have y := hn0.ext
  have x := x.trans y
  have bk0 := hn0.blk
  intro r1 W2 hn1
  have y := hn1.ext
  have x := x.trans y
  have bk0 := bk0.ext y
  have bk1 := hn1.blk
  refine ⟨_, _, _, bk0.loadA0 (by kernel_rfl), ?_⟩
  refine Ret.at (laws_szBook_c (h0.ext x) hc0 hk0 (by omega) (by omega)) ?_
  rintro v W3 ⟨k0, hv, hs0, hm0, y⟩
  subst hv
  have x := x.trans y
  have bk0 := bk0.ext y
  have bk1 := bk1.ext y
  refine ⟨_, rfl, ifD (fun _ => ⟨rfl, x⟩) (fun hp0 => ?_)⟩
  refine ⟨_, _, _, bk1.loadA0 (by kernel_rfl), ?_⟩
  refine Ret.at (laws_szBook_c (h1.ext x) hc1 hk1 (by omega) (by omega)) ?_
  rintro v W4 ⟨k1, hv, hs1, hm1, y⟩
  subst hv
  have x := x.trans y
  have bk0 := bk0.ext y
  have bk1 := bk1.ext y
  refine ⟨_, rfl, ifD (fun _ => ⟨rfl, x⟩) (fun hp1 => ?_)⟩
  have hs0 := hs0 (by omega)
  have hs1 := hs1 (by omega)
  have hb0 : ∀ y ∈ l0, bulks y ≤ 1048576 := fun y hy => by have := bulks_le hy; omega
  have hz0 : n0 ≤ 1048576 := by omega
  have hb1 : ∀ y ∈ l1, bulks y ≤ 1048576 := fun y hy => by have := bulks_le hy; omega
  have hz1 : n1 ≤ 1048576 := by omega
  have y := Ext.drew W4
  have x := x.trans y
  have bk0 := bk0.ext y
  have bk1 := bk1.ext y
  have bd0 := bk0
  have bd1 := bk1
  refine ⟨_, _, _, fun W' hW => (bd0.ext hW).loadA0 (by kernel_rfl), ?_⟩
  refine Ret.at (laws_toBook_c (h0.ext x) hc0 hz0 hb0) ?_
  rintro v W5 ⟨ps0, cs0, fs0, hv, os0, y⟩
  subst hv
  have yy := y
  have x := x.trans y
  have bk0 := bk0.ext y
  have bk1 := bk1.ext y
  refine ⟨_, _, _, rfl, yy, ?_⟩
  refine ⟨_, _, _, fun W' hW => (bd1.ext hW).loadA0 (by kernel_rfl), ?_⟩
  refine Ret.at (laws_toBook_c (h1.ext x) hc1 hz1 hb1) ?_
  rintro v W6 ⟨ps1, cs1, fs1, hv, os1, y⟩
  subst hv
  have yy := y
  have x := x.trans y
  have bk0 := bk0.ext y
  have bk1 := bk1.ext y
  have os0 := os0.ext y
  refine ⟨_, _, _, rfl, ?_⟩
  refine Ret.at (spec_BookSame_c os0.rows hc0 os1.rows hc1) ?_
  rintro v W7 ⟨hv, y⟩
  subst hv
  have x := x.trans y
  have bk0 := bk0.ext y
  have bk1 := bk1.ext y
  refine ⟨_, rfl, ?_⟩
  refine ⟨_, _, _, bk0.loadA0 (by kernel_rfl), ?_⟩
  refine Ret.at (laws_toBook_c (h0.ext x) hc0 hz0 hb0) ?_
  rintro v W8 ⟨px0, cx0, fx0, hv, ox0, y⟩
  subst hv
  have x := x.trans y
  have bk0 := bk0.ext y
  have bk1 := bk1.ext y
  refine ⟨_, _, _, rfl, ?_⟩
  intro rx0 W9 hnx0
  obtain ⟨W10, st, bx0, ch, sz⟩ := hnx0.blk.storeA0 (P := P) (t := T_impl_Book) (xs := [.slice px0 n0 cx0]) (by kernel_rfl) rfl (by simp [Value.oneCell'])
  have y := hnx0.ext.chg ch (by have := hnx0.r_eq; simp; omega)
  have x := x.trans y
  have bk0 := bk0.ext y
  have bk1 := bk1.ext y
  have ox0 := ox0.ext y
  refine ⟨_, st, ?_⟩
  refine ⟨_, _, _, bk1.loadA0 (by kernel_rfl), ?_⟩
  refine Ret.at (laws_toBook_c (h1.ext x) hc1 hz1 hb1) ?_
  rintro v W11 ⟨px1, cx1, fx1, hv, ox1, y⟩
  subst hv
  have x := x.trans y
  have bk0 := bk0.ext y
  have bk1 := bk1.ext y
  have bx0 := bx0.ext y
  have ox0 := ox0.ext y
  refine ⟨_, _, _, rfl, ?_⟩
  intro rx1 W12 hnx1
  obtain ⟨W13, st, bx1, ch, sz⟩ := hnx1.blk.storeA0 (P := P) (t := T_impl_Book) (xs := [.slice px1 n1 cx1]) (by kernel_rfl) rfl (by simp [Value.oneCell'])
  have y := hnx1.ext.chg ch (by have := hnx1.r_eq; simp; omega)
  have x := x.trans y
  have bk0 := bk0.ext y
  have bk1 := bk1.ext y
  have bx0 := bx0.ext y
  have ox0 := ox0.ext y
  have ox1 := ox1.ext y
  refine ⟨_, st, ?_⟩
  refine ⟨_, _, _, bx0.loadA0 (by kernel_rfl), ?_⟩
  refine ⟨_, _, _, bx1.loadA0 (by kernel_rfl), ?_⟩
  refine Ret.at (impl_BookSame_c ox0.rows hc0 ox1.rows hc1) ?_
  rintro v W14 ⟨hv, y⟩
  subst hv
  have x := x.trans y
  have bk0 := bk0.ext y
  have bk1 := bk1.ext y
  have bx0 := bx0.ext y
  have bx1 := bx1.ext y
  have ox0 := ox0.ext y
  have ox1 := ox1.ext y
  refine ⟨_, rfl, ⟨fun h => absurd h (by simp), fun _ => ?_⟩⟩
  refine ⟨_, _, _, fun W' hW => (bx0.ext ((Ext.drew _).trans hW)).loadA0 (by kernel_rfl), _, _, _, fun W' hW => (bk0.ext ((Ext.drew _).trans hW)).loadA0 (by kernel_rfl), ?_⟩
  have y := Ext.drew W14
  have x := x.trans y
  have bk0 := bk0.ext y
  have bk1 := bk1.ext y
  have bx0 := bx0.ext y
  have bx1 := bx1.ext y
  have ox0 := ox0.ext y
  have ox1 := ox1.ext y
  refine Ret.at (laws_toBook_c (h0.ext x) hc0 hz0 hb0) ?_
  rintro v W15 ⟨py0, cy0, fy0, hv, oy0, y⟩
  subst hv
  have y2 := y
  have x := x.trans y
  have bk0 := bk0.ext y
  have bk1 := bk1.ext y
  have bx0 := bx0.ext y
  have bx1 := bx1.ext y
  have ox0 := ox0.ext y
  have ox1 := ox1.ext y
  refine ⟨_, _, _, rfl, y, ?_⟩
  refine Ret.at (laws_eqBook_c ox0.rows oy0.rows hc0 hc0) ?_
  rintro v W16 ⟨hv, y⟩
  subst hv
  have x := x.trans y
  have bk0 := bk0.ext y
  have bk1 := bk1.ext y
  have bx0 := bx0.ext y
  have bx1 := bx1.ext y
  have ox0 := ox0.ext y
  have ox1 := ox1.ext y
  refine ⟨_, rfl, ifN (fun h => absurd h (by simp)) (fun _ => ?_)⟩
  refine ⟨_, _, _, fun W' hW => (bx1.ext ((Ext.drew _).trans hW)).loadA0 (by kernel_rfl), _, _, _, fun W' hW => (bk1.ext ((Ext.drew _).trans hW)).loadA0 (by kernel_rfl), ?_⟩
  have y := Ext.drew W16
  have x := x.trans y
  have bk0 := bk0.ext y
  have bk1 := bk1.ext y
  have bx0 := bx0.ext y
  have bx1 := bx1.ext y
  have ox0 := ox0.ext y
  have ox1 := ox1.ext y
  refine Ret.at (laws_toBook_c (h1.ext x) hc1 hz1 hb1) ?_
  rintro v W17 ⟨py1, cy1, fy1, hv, oy1, y⟩
  subst hv
  have y2 := y
  have x := x.trans y
  have bk0 := bk0.ext y
  have bk1 := bk1.ext y
  have bx0 := bx0.ext y
  have bx1 := bx1.ext y
  have ox0 := ox0.ext y
  have ox1 := ox1.ext y
  refine ⟨_, _, _, rfl, y, ?_⟩
  refine Ret.at (laws_eqBook_c ox1.rows oy1.rows hc1 hc1) ?_
  rintro v W18 ⟨hv, y⟩
  subst hv
  have x := x.trans y
  have bk0 := bk0.ext y
  have bk1 := bk1.ext y
  have bx0 := bx0.ext y
  have bx1 := bx1.ext y
  have ox0 := ox0.ext y
  have ox1 := ox1.ext y
  refine ⟨_, rfl, ifN (fun h => absurd h (by simp)) (fun _ => ?_)⟩
  exact ⟨rfl, x⟩

end Go.Proofs.Ytoacnglkliioaaa
