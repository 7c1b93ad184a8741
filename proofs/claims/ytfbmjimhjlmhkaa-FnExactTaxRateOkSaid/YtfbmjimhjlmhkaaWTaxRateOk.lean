/-
  The law FnExactTaxRateOk returns true and only adds to the memory; printed by a program of mine from the contracts of both sides.
  Conditions: none.
-/
import Derived.Test.YtfbmjimhjlmhkaaCTaxRateOk
import Derived.Test.YtfbmjimhjlmhkaaDS
namespace Go.Proofs.Ytfbmjimhjlmhkaa
open Go Go.Proofs.Ytfbmjimhjlmhkaa.Sx
set_option linter.unusedVariables false
set_option linter.unusedSimpArgs false

theorem laws_FnExactTaxRateOk_c {w : World} {vs0 : List Value} {d0 : List D0} (h0 : Reps w vs0 d0) (hc0 : d0.map D0.code = [.bool, .ints, .int]) (hk0 : ∀ x ∈ d0, x.ok) :
    Ret P n_laws_FnExactTaxRateOk [.agg ⟨vs0⟩] w fun v w' => v = .bool true ∧ Ext w w' := by
  have hr0 := h0
  obtain ⟨u00, u01p, u01n, u01c, u01z, u02, rfl, rfl, u01h⟩ := open_Dec h0 hc0
  refine laws_FnExactTaxRateOk_ret ?_
  unfold laws_FnExactTaxRateOk
  have x : Ext w w := Ext.refl w
  intro r0 W1 hn0
  have y := hn0.ext
  have x := x.trans y
  have bk0 := hn0.blk
  refine ⟨_, _, _, _, _, bk0.loadA0 (by kernel_rfl), ?_⟩
  refine Ret.at (laws_szDec_c (hr0.ext x) rfl hk0 (by omega) (by omega)) ?_
  rintro v W2 ⟨k0, hv, hs0, hm0, y⟩
  subst hv
  have x := x.trans y
  have bk0 := bk0.ext y
  refine ⟨_, rfl, ifD (fun _ => ⟨rfl, x⟩) (fun hp0 => ?_)⟩
  have hs0 := hs0 (by omega)
  simp only [bulks, D0.bulk, List.map_cons, List.map_nil, List.sum_cons, List.sum_nil] at hs0
  refine ⟨_, _, _, _, _, bk0.loadA0 (by kernel_rfl), ?_⟩
  refine Ret.at (laws_toDec_c (hr0.ext x) rfl (by simp only [bulks, D0.bulk, List.map_cons, List.map_nil, List.sum_cons, List.sum_nil]; omega)) ?_
  rintro v W3 ⟨vs, fs0, hv, os0, nds0, y⟩
  subst hv
  obtain ⟨ts00, ts01p, ts01n, ts01c, ts01z, ts02, rfl, hds0, ts01h⟩ := open_Dec os0.reps rfl
  have yy := y
  have x := x.trans y
  have bk0 := bk0.ext y
  refine ⟨_, _, _, _, _, rfl, ?_⟩
  refine Ret.at (spec_TaxRateOk_c os0.reps rfl) ?_
  rintro v W4 ⟨hv, y⟩
  subst hv
  have x := x.trans y
  have bk0 := bk0.ext y
  refine ⟨_, rfl, ?_⟩
  refine ⟨_, _, _, _, _, bk0.loadA0 (by kernel_rfl), ?_⟩
  refine Ret.at (laws_toDec_c (hr0.ext x) rfl (by simp only [bulks, D0.bulk, List.map_cons, List.map_nil, List.sum_cons, List.sum_nil]; omega)) ?_
  rintro v W5 ⟨vs, fx0, hv, ox0, ndx0, y⟩
  subst hv
  obtain ⟨tx00, tx01p, tx01n, tx01c, tx01z, tx02, rfl, hdx0, tx01h⟩ := open_Dec ox0.reps rfl
  have x := x.trans y
  have bk0 := bk0.ext y
  refine ⟨_, _, _, _, _, rfl, ?_⟩
  intro rx0 W6 hnx0
  obtain ⟨W7, st, bx0, ch, sz⟩ := hnx0.blk.storeA0 (P := P) (t := T_impl_Dec) (xs := [.bool tx00, .slice tx01p tx01n tx01c, .int .i64 tx02]) (by kernel_rfl) rfl ox0.reps.cells1
  have y := hnx0.ext.chg ch (by have := hnx0.r_eq; simp; omega)
  have x := x.trans y
  have bk0 := bk0.ext y
  have ox0 := ox0.ext y
  refine ⟨_, st, ?_⟩
  refine ⟨_, _, _, _, _, bx0.loadA0 (by kernel_rfl), ?_⟩
  refine Ret.at (impl_TaxRateOk_c ox0.reps rfl) ?_
  rintro v W8 ⟨hv, y⟩
  subst hv
  have x := x.trans y
  have bk0 := bk0.ext y
  have bx0 := bx0.ext y
  have ox0 := ox0.ext y
  refine ⟨_, rfl, ⟨fun h => absurd h (by simp), fun _ => ?_⟩⟩
  refine ⟨_, _, _, _, _, fun W' hW => (bx0.ext ((Ext.drew _).trans hW)).loadA0 (by kernel_rfl), _, _, _, _, _, fun W' hW => (bk0.ext ((Ext.drew _).trans hW)).loadA0 (by kernel_rfl), ?_⟩
  have y := Ext.drew W8
  have x := x.trans y
  have bk0 := bk0.ext y
  have bx0 := bx0.ext y
  have ox0 := ox0.ext y
  refine Ret.at (laws_toDec_c (hr0.ext x) rfl (by simp only [bulks, D0.bulk, List.map_cons, List.map_nil, List.sum_cons, List.sum_nil]; omega)) ?_
  rintro v W9 ⟨vs, fy0, hv, oy0, ndy0, y⟩
  subst hv
  obtain ⟨ty00, ty01p, ty01n, ty01c, ty01z, ty02, rfl, hdy0, ty01h⟩ := open_Dec oy0.reps rfl
  have y2 := y
  have x := x.trans y
  have bk0 := bk0.ext y
  have bx0 := bx0.ext y
  have ox0 := ox0.ext y
  refine ⟨_, _, _, _, _, rfl, y, ?_⟩
  refine Ret.at (laws_eqDec_c ox0.reps oy0.reps rfl rfl) ?_
  rintro v W10 ⟨hv, y⟩
  subst hv
  have x := x.trans y
  have bk0 := bk0.ext y
  have bx0 := bx0.ext y
  have ox0 := ox0.ext y
  refine ⟨_, rfl, ifN (fun h => absurd h (by simp)) (fun _ => ?_)⟩
  exact ⟨rfl, x⟩

end Go.Proofs.Ytfbmjimhjlmhkaa
