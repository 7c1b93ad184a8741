/-
  The law FnExactUndo returns true and only adds to the memory; printed by a program of mine from the contracts of both sides.
  Conditions: none.
-/
import Derived.Test.YtfbmjimhjlmhkaaDoorCUndo
import Derived.Test.YtfbmjimhjlmhkaaDoorDMarkS
import Derived.Test.YtfbmjimhjlmhkaaDoorDM
namespace Go.Proofs.YtfbmjimhjlmhkaaDoor
open Go Go.Proofs.YtfbmjimhjlmhkaaDoor.Sx
set_option linter.unusedVariables false
set_option linter.unusedSimpArgs false

theorem laws_FnExactUndo_c {w : World} {p0 : Option Addr} {n0 c0 : Nat} {l0 : List (List D0)} (h0 : RowsR w 4 p0 n0 c0 l0) (hc0 : ∀ x ∈ l0, x.map D0.code = [.str, .str, .bool, .ints]) (hk0 : ∀ x ∈ l0, ∀ d ∈ x, d.ok) (ht : Tab w) :
    Ret P n_laws_FnExactUndo [.slice p0 n0 c0] w fun v w' => v = .bool true ∧ Ext w w' := by
  refine laws_FnExactUndo_ret ?_
  unfold laws_FnExactUndo
  have x : Ext w w := Ext.refl w
  refine Ret.at (laws_szLegS_c (h0.ext x) hc0 hk0 (by omega) (by omega)) ?_
  rintro v W1 ⟨k0, hv, hs0, hm0, y⟩
  subst hv
  have x := x.trans y
  have ll1 := y.le
  refine ⟨_, rfl, ifD (fun _ => ⟨rfl, x⟩) (fun hp0 => ?_)⟩
  have hs0 := hs0 (by omega)
  have hb0 : ∀ y ∈ l0, bulks y ≤ 1048576 := fun y hy => by have := bulks_le hy; omega
  have hz0 : n0 ≤ 1048576 := by omega
  have hsum0 : (l0.map bulks).sum ≤ 1048576 := by omega
  refine Ret.at (laws_toLegS_c (h0.ext x) hc0 hz0 hb0) ?_
  rintro v W2 ⟨p_s0, c_s0, f_s0, hv, o_s0, y⟩
  subst hv
  have lt_o_s0 : ∀ k ∈ f_s0, W1.heap.size ≤ k ∧ k < W2.heap.size := o_s0.lt
  have yy := y
  have x := x.trans y
  have ll2 := y.le
  refine ⟨_, _, _, rfl, ?_⟩
  refine Ret.at (spec_Undo_c o_s0.rows hc0 hz0 hb0) ?_
  rintro v W3 ⟨p_w0, m_w0, c_w0, hv, o_w0, co_w0, y⟩
  subst hv
  have x := x.trans y
  have ll3 := y.le
  have xS := Ext.refl W3
  refine ⟨_, _, _, _, rfl, ?_⟩
  refine Ret.at (laws_toLegS_c (h0.ext x) hc0 hz0 hb0) ?_
  rintro v W4 ⟨p_x0, c_x0, f_x0, hv, o_x0, y⟩
  subst hv
  have lt_o_x0 : ∀ k ∈ f_x0, W3.heap.size ≤ k ∧ k < W4.heap.size := o_x0.lt
  have x := x.trans y
  have xS := xS.trans y
  have ll4 := y.le
  refine ⟨_, _, _, rfl, ?_⟩
  refine Ret.at (impl_Undo_c o_x0.rows hc0 hz0 hb0 (ht.ext x)) ?_
  rintro v W5 ⟨p_g0, m_g0, c_g0, f_g0, hv, o_g0, co_g0, ct_g0, y⟩
  subst hv
  have tn_g0 := cntL_nn ct_g0
  have lt_o_g0 : ∀ k ∈ f_g0, W4.heap.size ≤ k ∧ k < W5.heap.size := o_g0.lt
  have x := x.trans y
  have xS := xS.trans y
  have o_x0 := o_x0.ext y
  have ll5 := y.le
  refine ⟨_, _, _, _, rfl, ?_⟩
  refine Ret.at (laws_eqLegS_c o_g0.rows (o_w0.ext xS) co_g0 co_w0) ?_
  rintro v W6 ⟨hv, y⟩
  subst hv
  have x := x.trans y
  have xS := xS.trans y
  have o_x0 := o_x0.ext y
  have o_g0 := o_g0.ext y
  have ll6 := y.le
  refine ⟨_, rfl, ifN (fun h => absurd h (by simp)) (fun _ => ?_)⟩
  refine ⟨fun h => absurd h (bne_no rfl), fun _ => ?_⟩
  unfold laws_FnExactUndo_j0
  refine Ret.at (laws_toLegS_c (h0.ext x) hc0 hz0 hb0) ?_
  rintro v W7 ⟨p_y0, c_y0, f_y0, hv, o_y0, y⟩
  subst hv
  have lt_o_y0 : ∀ k ∈ f_y0, W6.heap.size ≤ k ∧ k < W7.heap.size := o_y0.lt
  have y2 := y
  have x := x.trans y
  have xS := xS.trans y
  have o_x0 := o_x0.ext y
  have o_g0 := o_g0.ext y
  have ll7 := y.le
  refine ⟨_, _, _, rfl, ?_⟩
  refine Ret.at (laws_eqLegS_c o_x0.rows o_y0.rows hc0 hc0) ?_
  rintro v W8 ⟨hv, y⟩
  subst hv
  have x := x.trans y
  have xS := xS.trans y
  have o_x0 := o_x0.ext y
  have o_g0 := o_g0.ext y
  have ll8 := y.le
  refine ⟨_, rfl, ifN (fun h => absurd h (by simp)) (fun _ => ?_)⟩
  have cn0 := cntL_nonneg l0; have cb0 := cntL_le l0 (m := 4) (fun y hy => by rw [code_len (hc0 y hy)]; decide)
  have cl0 : cntL l0 ≤ 100000000 := by have := h0.1; omega
  refine Ret.at (laws_markLegS_c o_x0 hc0 (by omega) (by omega)) ?_
  rintro v W9 ⟨hv, on, ch⟩
  subst hv
  have x := x.chg ch (fun k hk => by have := lt_o_x0 k hk; omega)
  have xS := xS.chg ch (fun k hk => by have := lt_o_x0 k hk; omega)
  have o_g0 := o_g0.chg ch (fun k hk hm => by have h1 := lt_o_g0 k hk; have h2 := lt_o_x0 k hm; omega)
  have ll9 := ch.size
  have o_x0 := on; clear on
  refine ⟨_, rfl, ?_⟩
  refine ifD (fun h => absurd h (by omega)) (fun _ => ?_)
  refine Ret.at (laws_eqLegS_c o_g0.rows (o_w0.ext xS) co_g0 co_w0) ?_
  rintro v W10 ⟨hv, y⟩
  subst hv
  have x := x.trans y
  have xS := xS.trans y
  have o_x0 := o_x0.ext y
  have o_g0 := o_g0.ext y
  have ll10 := y.le
  refine ⟨_, rfl, ifN (fun h => absurd h (by simp)) (fun _ => ?_)⟩
  refine ⟨fun h => absurd h (bne_no rfl), fun _ => ?_⟩
  unfold laws_FnExactUndo_j1
  refine Ret.at (laws_markLegS_c o_g0 co_g0 (by omega) (by omega)) ?_
  rintro v W11 ⟨hv, on, ch⟩
  subst hv
  have x := x.chg ch (fun k hk => by have := lt_o_g0 k hk; omega)
  have xS := xS.chg ch (fun k hk => by have := lt_o_g0 k hk; omega)
  have o_x0 := o_x0.chg ch (fun k hk hm => by have h1 := lt_o_x0 k hk; have h2 := lt_o_g0 k hm; omega)
  have ll11 := ch.size
  have o_g0 := on; clear on
  refine ⟨_, rfl, ?_⟩
  refine Ret.at (laws_heldLegS_c o_g0.rows co_g0 (by omega) (by omega)) ?_
  rintro v W12 ⟨hv, y⟩
  subst hv
  have x := x.trans y
  have xS := xS.trans y
  have o_x0 := o_x0.ext y
  have o_g0 := o_g0.ext y
  have ll12 := y.le
  refine ⟨_, rfl, ifD (fun h => absurd h (by omega)) (fun _ => ?_)⟩
  refine ifD (fun h => absurd rfl h) (fun _ => ?_)
  refine Ret.at (laws_toLegS_c (h0.ext x) hc0 hz0 hb0) ?_
  rintro v W13 ⟨p_h0, c_h0, f_h0, hv, o_h0, y⟩
  subst hv
  have lt_o_h0 : ∀ k ∈ f_h0, W12.heap.size ≤ k ∧ k < W13.heap.size := o_h0.lt
  have yy := y
  have x := x.trans y
  have xS := xS.trans y
  have o_x0 := o_x0.ext y
  have o_g0 := o_g0.ext y
  have ll13 := y.le
  refine ⟨_, _, _, rfl, ?_⟩
  refine Ret.at (impl_Undo_c o_h0.rows hc0 hz0 hb0 (ht.ext x)) ?_
  rintro v W14 ⟨p_h0, m_h0, c_h0, f_h0, hv, o_h0, co_h0, ct_h0, y⟩
  subst hv
  have tn_h0 := cntL_nn ct_h0
  have lt_o_h0 : ∀ k ∈ f_h0, W13.heap.size ≤ k ∧ k < W14.heap.size := o_h0.lt
  have x := x.trans y
  have xS := xS.trans y
  have o_x0 := o_x0.ext y
  have o_g0 := o_g0.ext y
  have ll14 := y.le
  refine ⟨_, _, _, _, rfl, ?_⟩
  refine Ret.at (laws_eqLegS_c o_h0.rows (o_w0.ext xS) co_h0 co_w0) ?_
  rintro v W15 ⟨hv, y⟩
  subst hv
  have x := x.trans y
  have xS := xS.trans y
  have o_x0 := o_x0.ext y
  have o_g0 := o_g0.ext y
  have o_h0 := o_h0.ext y
  have ll15 := y.le
  refine ⟨_, rfl, ifN (fun h => absurd h (by simp)) (fun _ => ?_)⟩
  refine ⟨fun h => absurd h (bne_no rfl), fun _ => ?_⟩
  unfold laws_FnExactUndo_j2
  refine Ret.at (laws_heldLegS_c o_g0.rows co_g0 (by omega) (by omega)) ?_
  rintro v W16 ⟨hv, y⟩
  subst hv
  have x := x.trans y
  have xS := xS.trans y
  have o_x0 := o_x0.ext y
  have o_g0 := o_g0.ext y
  have o_h0 := o_h0.ext y
  have ll16 := y.le
  refine ⟨_, rfl, ifD (fun h => absurd h (by omega)) (fun _ => ?_)⟩
  refine ifD (fun h => absurd rfl h) (fun _ => ?_)
  exact ⟨rfl, x⟩

end Go.Proofs.YtfbmjimhjlmhkaaDoor
