/-
  The law FnExactBookSum returns true and only adds to the memory; printed by a program of mine from the contracts of both sides.
  Conditions: none.
-/
import Derived.Test.YtfbmjimhjlmhkaaDoorCBookSum
import Derived.Test.YtfbmjimhjlmhkaaDoorDMarkS
import Derived.Test.YtfbmjimhjlmhkaaDoorDM
import Derived.Test.YtfbmjimhjlmhkaaDoorDBook
import Derived.Test.YtfbmjimhjlmhkaaDoorDMarkB
namespace Go.Proofs.YtfbmjimhjlmhkaaDoor
open Go Go.Proofs.YtfbmjimhjlmhkaaDoor.Sx
set_option linter.unusedVariables false
set_option linter.unusedSimpArgs false

theorem laws_FnExactBookSum_c {w : World} {p0 : Option Addr} {n0 c0 : Nat} {l0 : List (List D0)} (h0 : RowsR w 4 p0 n0 c0 l0) (hc0 : ∀ x ∈ l0, x.map D0.code = [.str, .str, .bool, .ints]) (hk0 : ∀ x ∈ l0, ∀ d ∈ x, d.ok) (a1 : ByteArray) (ht : Tab w) :
    Ret P n_laws_FnExactBookSum [.agg ⟨[.slice p0 n0 c0]⟩, .string a1] w fun v w' => v = .bool true ∧ Ext w w' := by
  refine laws_FnExactBookSum_ret ?_
  unfold laws_FnExactBookSum
  have x : Ext w w := Ext.refl w
  intro r_a0 W1 hn
  have er_a0 := hn.r_eq; have sr_a0 := hn.size
  have y := hn.ext
  have x := x.trans y
  have ll1 := y.le
  have bk_a0 := hn.blk; clear hn
  refine ifD (fun _ => ⟨rfl, x⟩) (fun hs1 => ?_)
  refine ⟨_, _, _, bk_a0.loadA0 (by kernel_rfl), ?_⟩
  refine Ret.at (laws_szBook_c (h0.ext x) hc0 hk0 (by omega) (by omega)) ?_
  rintro v W2 ⟨k0, hv, hs0, hm0, y⟩
  subst hv
  have x := x.trans y
  have bk_a0 := bk_a0.ext y
  have ll2 := y.le
  refine ⟨_, rfl, ifD (fun _ => ⟨rfl, x⟩) (fun hp0 => ?_)⟩
  have hs0 := hs0 (by omega)
  have hb0 : ∀ y ∈ l0, bulks y ≤ 1048576 := fun y hy => by have := bulks_le hy; omega
  have hz0 : n0 ≤ 1048576 := by omega
  have hsum0 : (l0.map bulks).sum ≤ 1048576 := by omega
  refine ⟨_, _, _, bk_a0.loadA0 (by kernel_rfl), ?_⟩
  refine Ret.at (laws_toBook_c (h0.ext x) hc0 hz0 hb0) ?_
  rintro v W3 ⟨p_s0, c_s0, f_s0, hv, o_s0, y⟩
  subst hv
  have lt_o_s0 : ∀ k ∈ f_s0, W2.heap.size ≤ k ∧ k < W3.heap.size := o_s0.lt
  have yy := y
  have x := x.trans y
  have bk_a0 := bk_a0.ext y
  have ll3 := y.le
  refine ⟨_, _, _, rfl, ?_⟩
  refine Ret.at (spec_BookSum_c o_s0.rows hc0 hz0 hb0 a1) ?_
  rintro v W4 ⟨vs_w0, hv, o_w0, co_w0, y⟩
  subst hv
  have x := x.trans y
  have bk_a0 := bk_a0.ext y
  have ll4 := y.le
  have xS := Ext.refl W4
  obtain ⟨gw00, gw01p, gw01n, gw01c, gw01z, rfl, hd_w0, gw01h⟩ := open_Signed o_w0 co_w0
  refine ⟨_, _, _, _, rfl, ?_⟩
  intro r_w0 W5 hn
  have er_w0 := hn.r_eq; have sr_w0 := hn.size
  have y := hn.ext
  have x := x.trans y
  have xS := xS.trans y
  have bk_a0 := bk_a0.ext y
  have ll5 := y.le
  have bk_w0 := hn.blk; clear hn
  obtain ⟨W6, st, bq, ch, sz⟩ := bk_w0.storeA0 (P := P) (t := T_impl_Signed) (xs := [.bool gw00, .slice gw01p gw01n gw01c]) (by kernel_rfl) rfl o_w0.cells1
  have x := x.chg ch (by simp; omega)
  have xS := xS.chg ch (by simp; omega)
  have bk_a0 := bk_a0.chg ch (by simp; omega)
  have bk_w0 := bq; clear bq
  have ll6 := ch.size
  refine ⟨_, st, ?_⟩
  refine ⟨_, _, _, bk_a0.loadA0 (by kernel_rfl), ?_⟩
  refine Ret.at (laws_toBook_c (h0.ext x) hc0 hz0 hb0) ?_
  rintro v W7 ⟨p_x0, c_x0, f_x0, hv, o_x0, y⟩
  subst hv
  have lt_o_x0 : ∀ k ∈ f_x0, W6.heap.size ≤ k ∧ k < W7.heap.size := o_x0.lt
  have x := x.trans y
  have xS := xS.trans y
  have bk_a0 := bk_a0.ext y
  have bk_w0 := bk_w0.ext y
  have ll7 := y.le
  refine ⟨_, _, _, rfl, ?_⟩
  intro r_x0 W8 hn
  have er_x0 := hn.r_eq; have sr_x0 := hn.size
  have y := hn.ext
  have x := x.trans y
  have xS := xS.trans y
  have bk_a0 := bk_a0.ext y
  have bk_w0 := bk_w0.ext y
  have o_x0 := o_x0.ext y
  have ll8 := y.le
  have bk_x0 := hn.blk; clear hn
  obtain ⟨W9, st, bq, ch, sz⟩ := bk_x0.storeA0 (P := P) (t := T_impl_Book) (xs := [.slice p_x0 n0 c_x0]) (by kernel_rfl) rfl (by simp [Value.oneCell'])
  have x := x.chg ch (by simp; omega)
  have xS := xS.chg ch (by simp; omega)
  have bk_a0 := bk_a0.chg ch (by simp; omega)
  have bk_w0 := bk_w0.chg ch (by simp; omega)
  have o_x0 := o_x0.chg ch (fun k hk hm => by have h1 := lt_o_x0 k hk; simp at hm; omega)
  have bk_x0 := bq; clear bq
  have ll9 := ch.size
  refine ⟨_, st, ?_⟩
  refine ⟨_, _, _, bk_x0.loadA0 (by kernel_rfl), ?_⟩
  refine Ret.at (impl_BookSum_c o_x0.rows hc0 hz0 hb0 a1 (ht.ext x)) ?_
  rintro v W10 ⟨vs_g0, f_g0, hv, o_g0, nd_g0, co_g0, ct_g0, y⟩
  subst hv
  have tn_g0 := tcnts_nn ct_g0
  have lt_o_g0 : ∀ k ∈ f_g0, W9.heap.size ≤ k ∧ k < W10.heap.size := o_g0.lt
  have x := x.trans y
  have xS := xS.trans y
  have bk_a0 := bk_a0.ext y
  have bk_w0 := bk_w0.ext y
  have bk_x0 := bk_x0.ext y
  have o_x0 := o_x0.ext y
  have ll10 := y.le
  obtain ⟨gg00, gg01p, gg01n, gg01c, gg01z, rfl, hd_g0, gg01h⟩ := open_Signed o_g0.reps co_g0
  refine ⟨_, _, _, _, rfl, ?_⟩
  intro r_g0 W11 hn
  have er_g0 := hn.r_eq; have sr_g0 := hn.size
  have y := hn.ext
  have x := x.trans y
  have xS := xS.trans y
  have bk_a0 := bk_a0.ext y
  have bk_w0 := bk_w0.ext y
  have bk_x0 := bk_x0.ext y
  have o_x0 := o_x0.ext y
  have o_g0 := o_g0.ext y
  have ll11 := y.le
  have bk_g0 := hn.blk; clear hn
  obtain ⟨W12, st, bq, ch, sz⟩ := bk_g0.storeA0 (P := P) (t := T_impl_Signed) (xs := [.bool gg00, .slice gg01p gg01n gg01c]) (by kernel_rfl) rfl o_g0.reps.cells1
  have x := x.chg ch (by simp; omega)
  have xS := xS.chg ch (by simp; omega)
  have bk_a0 := bk_a0.chg ch (by simp; omega)
  have bk_w0 := bk_w0.chg ch (by simp; omega)
  have bk_x0 := bk_x0.chg ch (by simp; omega)
  have o_x0 := o_x0.chg ch (fun k hk hm => by have h1 := lt_o_x0 k hk; simp at hm; omega)
  have o_g0 := o_g0.chg ch (fun k hk hm => by have h1 := lt_o_g0 k hk; simp at hm; omega)
  have bk_g0 := bq; clear bq
  have ll12 := ch.size
  refine ⟨_, st, ?_⟩
  refine ⟨_, _, _, _, bk_g0.loadA0 (by kernel_rfl), _, _, _, _, bk_w0.loadA0 (by kernel_rfl), ?_⟩
  refine Ret.at (laws_eqSigned_c o_g0.reps (o_w0.ext xS) co_g0 co_w0) ?_
  rintro v W13 ⟨hv, y⟩
  subst hv
  have x := x.trans y
  have xS := xS.trans y
  have bk_a0 := bk_a0.ext y
  have bk_w0 := bk_w0.ext y
  have bk_x0 := bk_x0.ext y
  have bk_g0 := bk_g0.ext y
  have o_x0 := o_x0.ext y
  have o_g0 := o_g0.ext y
  have ll13 := y.le
  refine ⟨_, rfl, ifN (fun h => absurd h (by simp)) (fun _ => ?_)⟩
  refine ⟨_, _, _, fun W' hW => (bk_x0.ext ((Ext.drew _).trans hW)).loadA0 (by kernel_rfl), _, _, _, fun W' hW => (bk_a0.ext ((Ext.drew _).trans hW)).loadA0 (by kernel_rfl), ?_⟩
  have y := Ext.drew W13
  have x := x.trans y
  have xS := xS.trans y
  have bk_a0 := bk_a0.ext y
  have bk_w0 := bk_w0.ext y
  have bk_x0 := bk_x0.ext y
  have bk_g0 := bk_g0.ext y
  have o_x0 := o_x0.ext y
  have o_g0 := o_g0.ext y
  have ll14 := y.le
  refine Ret.at (laws_toBook_c (h0.ext x) hc0 hz0 hb0) ?_
  rintro v W14 ⟨p_y0, c_y0, f_y0, hv, o_y0, y⟩
  subst hv
  have lt_o_y0 : ∀ k ∈ f_y0, W13.heap.size ≤ k ∧ k < W14.heap.size := o_y0.lt
  have y2 := y
  have x := x.trans y
  have xS := xS.trans y
  have bk_a0 := bk_a0.ext y
  have bk_w0 := bk_w0.ext y
  have bk_x0 := bk_x0.ext y
  have bk_g0 := bk_g0.ext y
  have o_x0 := o_x0.ext y
  have o_g0 := o_g0.ext y
  have ll15 := y.le
  refine ⟨_, _, _, rfl, y, ?_⟩
  refine Ret.at (laws_eqBook_c o_x0.rows o_y0.rows hc0 hc0) ?_
  rintro v W15 ⟨hv, y⟩
  subst hv
  have x := x.trans y
  have xS := xS.trans y
  have bk_a0 := bk_a0.ext y
  have bk_w0 := bk_w0.ext y
  have bk_x0 := bk_x0.ext y
  have bk_g0 := bk_g0.ext y
  have o_x0 := o_x0.ext y
  have o_g0 := o_g0.ext y
  have ll16 := y.le
  refine ⟨_, rfl, ifN (fun h => absurd h (by simp)) (fun _ => ?_)⟩
  have cn0 := cntL_nonneg l0; have cb0 := cntL_le l0 (m := 4) (fun y hy => by rw [code_len (hc0 y hy)]; decide)
  have cl0 : cntL l0 ≤ 100000000 := by have := h0.1; omega
  refine ⟨_, _, _, bk_x0.loadA0 (by kernel_rfl), ?_⟩
  refine Ret.at (laws_markBook_c o_x0 hc0 (by omega) (by omega)) ?_
  rintro v W16 ⟨hv, on, ch⟩
  subst hv
  have x := x.chg ch (fun k hk => by have := lt_o_x0 k hk; omega)
  have xS := xS.chg ch (fun k hk => by have := lt_o_x0 k hk; omega)
  have bk_a0 := bk_a0.chg ch (fun hm => by have := lt_o_x0 _ hm; omega)
  have bk_w0 := bk_w0.chg ch (fun hm => by have := lt_o_x0 _ hm; omega)
  have bk_x0 := bk_x0.chg ch (fun hm => by have := lt_o_x0 _ hm; omega)
  have bk_g0 := bk_g0.chg ch (fun hm => by have := lt_o_x0 _ hm; omega)
  have o_g0 := o_g0.chg ch (fun k hk hm => by have h1 := lt_o_g0 k hk; have h2 := lt_o_x0 k hm; omega)
  have ll17 := ch.size
  have o_x0 := on; clear on
  refine ⟨_, rfl, ?_⟩
  refine ifD (fun h => absurd h (by omega)) (fun _ => ?_)
  refine ⟨_, _, _, _, bk_g0.loadA0 (by kernel_rfl), _, _, _, _, bk_w0.loadA0 (by kernel_rfl), ?_⟩
  refine Ret.at (laws_eqSigned_c o_g0.reps (o_w0.ext xS) co_g0 co_w0) ?_
  rintro v W17 ⟨hv, y⟩
  subst hv
  have x := x.trans y
  have xS := xS.trans y
  have bk_a0 := bk_a0.ext y
  have bk_w0 := bk_w0.ext y
  have bk_x0 := bk_x0.ext y
  have bk_g0 := bk_g0.ext y
  have o_x0 := o_x0.ext y
  have o_g0 := o_g0.ext y
  have ll18 := y.le
  refine ⟨_, rfl, ifN (fun h => absurd h (by simp)) (fun _ => ?_)⟩
  unfold laws_FnExactBookSum_j0
  refine ⟨_, _, _, _, bk_g0.loadA0 (by kernel_rfl), ?_⟩
  refine Ret.at (laws_markSigned_c o_g0 nd_g0 co_g0 (by omega) (by omega)) ?_
  rintro v W18 ⟨hv, on, ch⟩
  subst hv
  have x := x.chg ch (fun k hk => by have := lt_o_g0 k hk; omega)
  have xS := xS.chg ch (fun k hk => by have := lt_o_g0 k hk; omega)
  have bk_a0 := bk_a0.chg ch (fun hm => by have := lt_o_g0 _ hm; omega)
  have bk_w0 := bk_w0.chg ch (fun hm => by have := lt_o_g0 _ hm; omega)
  have bk_x0 := bk_x0.chg ch (fun hm => by have := lt_o_g0 _ hm; omega)
  have bk_g0 := bk_g0.chg ch (fun hm => by have := lt_o_g0 _ hm; omega)
  have o_x0 := o_x0.chg ch (fun k hk hm => by have h1 := lt_o_x0 k hk; have h2 := lt_o_g0 k hm; omega)
  have ll19 := ch.size
  have o_g0 := on; clear on
  refine ⟨_, rfl, ?_⟩
  refine ⟨_, _, _, _, bk_g0.loadA0 (by kernel_rfl), ?_⟩
  refine Ret.at (laws_heldSigned_c o_g0.reps co_g0 (by omega) (by omega)) ?_
  rintro v W19 ⟨hv, y⟩
  subst hv
  have x := x.trans y
  have xS := xS.trans y
  have bk_a0 := bk_a0.ext y
  have bk_w0 := bk_w0.ext y
  have bk_x0 := bk_x0.ext y
  have bk_g0 := bk_g0.ext y
  have o_x0 := o_x0.ext y
  have o_g0 := o_g0.ext y
  have ll20 := y.le
  refine ⟨_, rfl, ifD (fun h => absurd h (by omega)) (fun _ => ?_)⟩
  refine ifD (fun h => absurd rfl h) (fun _ => ?_)
  refine ⟨_, _, _, bk_a0.loadA0 (by kernel_rfl), ?_⟩
  refine Ret.at (laws_toBook_c (h0.ext x) hc0 hz0 hb0) ?_
  rintro v W20 ⟨p_h0, c_h0, f_h0, hv, o_h0, y⟩
  subst hv
  have lt_o_h0 : ∀ k ∈ f_h0, W19.heap.size ≤ k ∧ k < W20.heap.size := o_h0.lt
  have yy := y
  have x := x.trans y
  have xS := xS.trans y
  have bk_a0 := bk_a0.ext y
  have bk_w0 := bk_w0.ext y
  have bk_x0 := bk_x0.ext y
  have bk_g0 := bk_g0.ext y
  have o_x0 := o_x0.ext y
  have o_g0 := o_g0.ext y
  have ll21 := y.le
  refine ⟨_, _, _, rfl, ?_⟩
  refine Ret.at (impl_BookSum_c o_h0.rows hc0 hz0 hb0 a1 (ht.ext x)) ?_
  rintro v W21 ⟨vs_h0, f_h0, hv, o_h0, nd_h0, co_h0, ct_h0, y⟩
  subst hv
  have tn_h0 := tcnts_nn ct_h0
  have lt_o_h0 : ∀ k ∈ f_h0, W20.heap.size ≤ k ∧ k < W21.heap.size := o_h0.lt
  have x := x.trans y
  have xS := xS.trans y
  have bk_a0 := bk_a0.ext y
  have bk_w0 := bk_w0.ext y
  have bk_x0 := bk_x0.ext y
  have bk_g0 := bk_g0.ext y
  have o_x0 := o_x0.ext y
  have o_g0 := o_g0.ext y
  have ll22 := y.le
  obtain ⟨gh00, gh01p, gh01n, gh01c, gh01z, rfl, hd_h0, gh01h⟩ := open_Signed o_h0.reps co_h0
  refine ⟨_, _, _, _, rfl, ?_⟩
  intro r_h0 W22 hn
  have er_h0 := hn.r_eq; have sr_h0 := hn.size
  have y := hn.ext
  have x := x.trans y
  have xS := xS.trans y
  have bk_a0 := bk_a0.ext y
  have bk_w0 := bk_w0.ext y
  have bk_x0 := bk_x0.ext y
  have bk_g0 := bk_g0.ext y
  have o_x0 := o_x0.ext y
  have o_g0 := o_g0.ext y
  have o_h0 := o_h0.ext y
  have ll23 := y.le
  have bk_h0 := hn.blk; clear hn
  obtain ⟨W23, st, bq, ch, sz⟩ := bk_h0.storeA0 (P := P) (t := T_impl_Signed) (xs := [.bool gh00, .slice gh01p gh01n gh01c]) (by kernel_rfl) rfl o_h0.reps.cells1
  have x := x.chg ch (by simp; omega)
  have xS := xS.chg ch (by simp; omega)
  have bk_a0 := bk_a0.chg ch (by simp; omega)
  have bk_w0 := bk_w0.chg ch (by simp; omega)
  have bk_x0 := bk_x0.chg ch (by simp; omega)
  have bk_g0 := bk_g0.chg ch (by simp; omega)
  have o_x0 := o_x0.chg ch (fun k hk hm => by have h1 := lt_o_x0 k hk; simp at hm; omega)
  have o_g0 := o_g0.chg ch (fun k hk hm => by have h1 := lt_o_g0 k hk; simp at hm; omega)
  have o_h0 := o_h0.chg ch (fun k hk hm => by have h1 := lt_o_h0 k hk; simp at hm; omega)
  have bk_h0 := bq; clear bq
  have ll24 := ch.size
  refine ⟨_, st, ?_⟩
  refine ⟨_, _, _, _, bk_h0.loadA0 (by kernel_rfl), _, _, _, _, bk_w0.loadA0 (by kernel_rfl), ?_⟩
  refine Ret.at (laws_eqSigned_c o_h0.reps (o_w0.ext xS) co_h0 co_w0) ?_
  rintro v W24 ⟨hv, y⟩
  subst hv
  have x := x.trans y
  have xS := xS.trans y
  have bk_a0 := bk_a0.ext y
  have bk_w0 := bk_w0.ext y
  have bk_x0 := bk_x0.ext y
  have bk_g0 := bk_g0.ext y
  have bk_h0 := bk_h0.ext y
  have o_x0 := o_x0.ext y
  have o_g0 := o_g0.ext y
  have o_h0 := o_h0.ext y
  have ll25 := y.le
  refine ⟨_, rfl, ifN (fun h => absurd h (by simp)) (fun _ => ?_)⟩
  refine ⟨_, _, _, _, bk_g0.loadA0 (by kernel_rfl), ?_⟩
  refine Ret.at (laws_heldSigned_c o_g0.reps co_g0 (by omega) (by omega)) ?_
  rintro v W25 ⟨hv, y⟩
  subst hv
  have x := x.trans y
  have xS := xS.trans y
  have bk_a0 := bk_a0.ext y
  have bk_w0 := bk_w0.ext y
  have bk_x0 := bk_x0.ext y
  have bk_g0 := bk_g0.ext y
  have bk_h0 := bk_h0.ext y
  have o_x0 := o_x0.ext y
  have o_g0 := o_g0.ext y
  have o_h0 := o_h0.ext y
  have ll26 := y.le
  refine ⟨_, rfl, ifD (fun h => absurd h (by omega)) (fun _ => ?_)⟩
  refine ifD (fun h => absurd rfl h) (fun _ => ?_)
  exact ⟨rfl, x⟩

end Go.Proofs.YtfbmjimhjlmhkaaDoor
