/-
  Parts of the proof of fnLeast_holds: CLeastI, SxFlS, CLeastS, CDrawL, CMoneyOf, CLeastPay, SxRow, SxOpen, CByR, CFnLeast, CTab.
  Conditions: none.
-/
import Derived.ProofKit
import Derived.Deep.Slices
import Derived.Test.YtbgokfhcgcoipaaDoorRows
import Derived.OpenShut
import Derived.Lib.LaidTab
import Derived.Test.YtbgokfhcgcoipaaDoorFl4
set_option linter.unusedVariables false
set_option linter.unusedSimpArgs false
namespace Go.ChangeShapes
end Go.ChangeShapes
namespace Go.Conc
end Go.Conc
namespace Go.RowKit
end Go.RowKit
namespace Go.WideShapes
end Go.WideShapes

namespace Go.Proofs.YtbgokfhcgcoipaaDoor
open Go Go.Conc Go.Proofs.YtbgokfhcgcoipaaDoor.Sx
def RdN (W : World) (r x : Nat) : Prop := ∃ b p n c, Blk W r T_impl_Signed [.bool b, .slice p n c] /\ IntsR W p n c (digs x)
theorem seg_uniq {W : World} {b o : Nat} : ∀ {xs ys : List Int}, Seg W b o (xs.map (Value.int .i64)) -> Seg W b o (ys.map (Value.int .i64)) -> xs.length = ys.length -> xs = ys := by
  intro xs ys h g hl
  apply List.ext_getElem hl
  intro i h1 h2
  have e1 := h i (.int .i64 xs[i]) (by simp [List.getElem?_eq_getElem h1])
  have e2 := g i (.int .i64 ys[i]) (by simp [List.getElem?_eq_getElem h2])
  rw [e1] at e2
  simpa using e2
theorem intsR_uniq {W : World} {p : Option Addr} {n c : Nat} {xs ys : List Int} (h : IntsR W p n c xs) (g : IntsR W p n c ys) : xs = ys := by
  by_cases hn : 0 < n
  · obtain ⟨b, o, hp, hs⟩ := h.2.2.2 hn
    obtain ⟨b2, o2, hp2, hs2⟩ := g.2.2.2 hn
    rw [hp] at hp2
    simp only [Option.some.injEq, Addr.mk.injEq, and_true] at hp2
    obtain ⟨rfl, rfl⟩ := hp2
    exact seg_uniq hs hs2 (by rw [h.1, g.1])
  · have e1 := h.1; have e2 := g.1
    rw [List.eq_nil_of_length_eq_zero (show xs.length = 0 by omega), List.eq_nil_of_length_eq_zero (show ys.length = 0 by omega)]
theorem RdN.uniq {W : World} {r x y : Nat} (h : RdN W r x) (g : RdN W r y) : x = y := by
  obtain ⟨b, p, n, c, hb, hi⟩ := h
  obtain ⟨b2, p2, n2, c2, hb2, hi2⟩ := g
  have e := hb.symm.trans hb2
  simp only [Option.some.injEq, Obj.cells.injEq, Array.mk.injEq, List.cons.injEq, Value.bool.injEq, Value.slice.injEq, and_true] at e
  obtain ⟨_, rfl, rfl, rfl⟩ := e
  have := intsR_uniq hi hi2
  have h2 : val (digs x) = val (digs y) := by rw [this]
  rw [val_digs, val_digs] at h2
  omega
theorem gap_ex (r3 r6 : Nat) : ∃ mu : World -> Nat, ∀ W lo hi, RdN W r3 lo -> RdN W r6 hi -> mu W = hi - lo := by
  classical
  refine ⟨fun W => if h : ∃ k, ∃ lo hi, RdN W r3 lo /\ RdN W r6 hi /\ k = hi - lo then h.choose else 0, fun W lo hi h1 h2 => ?_⟩
  have hx : ∃ k, ∃ lo hi, RdN W r3 lo /\ RdN W r6 hi /\ k = hi - lo := ⟨_, lo, hi, h1, h2, rfl⟩
  simp only [dif_pos hx]
  obtain ⟨lo', hi', k1, k2, e⟩ := hx.choose_spec
  rw [e, k1.uniq h1, k2.uniq h2]
theorem owns_nd {W : World} {B : Nat} {b : Bool} {p : Option Addr} {n c : Nat} {z : List Int} {f : List Nat} (h : Owns W B [.bool b, .slice p n c] [.bool b, .ints z] f) : f.Nodup := by
  obtain ⟨f1, f2, rfl, ⟨_, rfl⟩, f3, f4, rfl, ⟨p', n', c', e, _, rfl⟩, rfl⟩ := h
  simp only [List.nil_append, List.append_nil]
  exact nodup_opt p'
theorem own_nat {W : World} {B : Nat} {p : Option Addr} {n c x : Nat} (h : Sx.Own W B T_int 1 p n c ((digs x).map (Value.int .i64))) : Owns W B [.bool false, .slice p n c] (enc (x : Int)) (p.map (·.block)).toList := by
  rw [enc_nat]
  exact Owns.int2 h
theorem enc_open {W : World} {B : Nat} {vs : List Value} {x : Nat} {f : List Nat} (h : Owns W B vs (enc (x : Int)) f) : ∃ p n c, vs = [.bool false, .slice p n c] /\ IntsR W p n c (digs x) := by
  rw [enc_nat] at h
  obtain ⟨b, p, n, c, z, rfl, hd, hi⟩ := open_Signed h.reps rfl
  simp only [List.cons.injEq, D0.bool.injEq, D0.ints.injEq, and_true] at hd
  obtain ⟨rfl, rfl⟩ := hd
  exact ⟨p, n, c, rfl, hi⟩
theorem leastT_no {c : ByteArray} {b : Bool} {z : List Int} {b2 : Bool} {z2 : List Int} {s n m : Int} (h : leastOk [.str c, .bool b, .ints z] [.bool b2, .ints z2, .int s] n m = false) : leastT [.str c, .bool b, .ints z] [.bool b2, .ints z2, .int s] n m = (false, zeroMoney) := by
  rw [leastT_eq, h]; rfl
theorem impl_LeastPay_o {w : World} {xs ys : List Value} {dx dr : List D0} (h : Reps w xs dx) (hc : dx.map D0.code = [.str, .bool, .ints]) (g : Reps w ys dr) (gc : dr.map D0.code = [.bool, .ints, .int]) (n mode : Int) (ht : Tab w) :
    Ret P n_impl_LeastPay [.agg ⟨xs⟩, .agg ⟨ys⟩, .int .i64 n, .int .i64 mode] w fun v w' => ∃ vs f, v = .tuple #[.agg ⟨vs⟩, .bool (leastT dx dr n mode).1] /\ Owns w' w.heap.size vs (leastT dx dr n mode).2 f /\ f.Nodup /\ Ext w w' := by
  have hr := h; have gr := g
  obtain ⟨c0, b0, ap, an, ac, z0, rfl, rfl, ha⟩ := open_Money h hc
  obtain ⟨d0, dp', dn, dc, dz, ds, rfl, rfl, hd⟩ := open_Dec g gc
  refine impl_LeastPay_ret ?_
  unfold impl_LeastPay
  intro r w1 hn1 r1 w2 hn2 r2 w3 hn3
  have e1 := hn1.r_eq; have e2 := hn2.r_eq; have e3 := hn3.r_eq; have s1 := hn1.size; have s2 := hn2.size; have s3 := hn3.size
  have X := (hn1.ext.trans hn2.ext).trans hn3.ext
  have q0 := (hn1.blk.ext hn2.ext).ext hn3.ext; have q1 := hn2.blk.ext hn3.ext; have q2 := hn3.blk
  have zero : ∀ W, Ext w3 W -> leastOk [.str c0, .bool b0, .ints z0] [.bool d0, .ints dz, .int ds] n mode = false -> ∃ W', Stores P T_impl_Money ⟨r2, 0, none⟩ (.agg #[.string ByteArray.empty, .bool false, .slice none 0 0]) W W' /\ ∃ (x0 : ByteArray) (x1 : Bool) (x2p : Option Addr) (x2n x2c : Nat), Loads P T_impl_Money ⟨r2, 0, none⟩ (.agg #[.string x0, .bool x1, .slice x2p x2n x2c]) W' /\
      ∃ vs f, Value.tuple #[.agg #[.string x0, .bool x1, .slice x2p x2n x2c], .bool false] = .tuple #[.agg ⟨vs⟩, .bool (leastT [.str c0, .bool b0, .ints z0] [.bool d0, .ints dz, .int ds] n mode).1] /\ Owns W' w.heap.size vs (leastT [.str c0, .bool b0, .ints z0] [.bool d0, .ints dz, .int ds] n mode).2 f /\ f.Nodup /\ Ext w W' := by
    intro W hW hno
    obtain ⟨W', st, ld, ow, xx, _, _⟩ := agg_end (t := T_impl_Money) (q2.ext hW) (X.trans hW) (by omega) (own_money0 W (r2 + 1)) (by kernel_rfl) rfl (by omega) (by omega)
    rw [leastT_no hno]
    exact ⟨W', st, _, _, _, _, _, ld, _, [], rfl, ow, List.nodup_nil, xx⟩
  refine ⟨_, _, _, _, _, q0.loadA0 (by kernel_rfl), ?_⟩
  refine Ret.at (impl_MoneyOk_c (ht.ext X) (hr.ext X) rfl) ?_
  rintro v w4 ⟨hv, y4⟩
  subst hv
  refine ⟨_, rfl, ifN (fun hno => by
    (repeat refine ifT ?_)
    exact zero w4 y4 (by rw [leastOk_eq, hno]; rfl)) (fun hmk => ?_)⟩
  refine ⟨_, (q0.ext y4).loadAt 1 (by rw [addr_add, addr_add]) (by kernel_rfl) rfl, fun hneg => by
    (repeat refine ifT ?_)
    exact zero w4 y4 (by rw [leastOk_eq, hneg]; simp), fun hpos => ?_⟩
  have hz0 := ha.1
  refine ⟨_, _, _, (q0.ext y4).loadAt 2 (by rw [addr_add, addr_add]) (by kernel_rfl) rfl, ifD (fun hlen => by
    (repeat refine ifT ?_)
    exact zero w4 y4 (by rw [leastOk_eq, decide_eq_false (show ¬ z0.length <= 2 by omega)]; simp)) (fun hlen => ?_)⟩
  refine ⟨_, _, _, _, _, (q1.ext y4).loadA0 (by kernel_rfl), ?_⟩
  have X4 := X.trans y4
  refine Ret.at (impl_TaxRateOk_c (gr.ext X4) rfl) ?_
  rintro v w5 ⟨hv, y5⟩
  subst hv
  have Y5 := y4.trans y5
  refine ⟨_, rfl, ifN (fun hno => by
    (repeat refine ifT ?_)
    exact zero w5 Y5 (by rw [leastOk_eq, hno]; simp)) (fun htx => ?_)⟩
  refine ifD (fun hn1' => by
    (repeat refine ifT ?_)
    exact zero w5 Y5 (by rw [leastOk_eq, decide_eq_false (show ¬ (1 <= n /\ n <= 24) by omega)]; simp)) (fun hn1' => ifD (fun hn2' => by
    (repeat refine ifT ?_)
    exact zero w5 Y5 (by rw [leastOk_eq, decide_eq_false (show ¬ (1 <= n /\ n <= 24) by omega)]; simp)) (fun hn2' => ?_))
  refine Ret.at (impl_isMode_c mode w5) ?_
  rintro v w6 ⟨hv, hw⟩
  subst hv; subst hw
  refine ⟨_, rfl, ifN (fun hno => zero w6 Y5 (by rw [leastOk_eq, hno]; simp)) (fun hmo => ?_)⟩
  -- all is in order
  have hok : leastOk [.str c0, .bool b0, .ints z0] [.bool d0, .ints dz, .int ds] n mode = true := by
    rw [leastOk_eq, hmk, hpos, decide_eq_true (show z0.length <= 2 by omega), htx, decide_eq_true (show 1 <= n /\ n <= 24 by omega), hmo]; rfl
  have hlt : leastT [.str c0, .bool b0, .ints z0] [.bool d0, .ints dz, .int ds] n mode = (true, .str c0 :: enc ((leastP (txF (val dz).toNat ds.toNat mode) n.toNat (val z0).toNat : Nat) : Int)) := by
    rw [leastT_eq, hok]; rfl
  obtain ⟨m, t, rfl, rfl, rfl, ht30, em, et, hm9⟩ := taxOk_nn htx
  obtain ⟨N, rfl⟩ : ∃ N : Nat, n = N := ⟨n.toNat, by omega⟩
  subst hpos
  have hcur : curKnown c0 = true := by
    have h' : (curKnown c0 && intOk [.bool false, .ints z0] && decide (z0.length <= 4)) = true := hmk
    rw [Bool.and_eq_true, Bool.and_eq_true] at h'
    exact h'.1.1
  obtain ⟨henc, bb, zz, he, hcan, _⟩ := intOk_enc (moneyOk_int hmk)
  simp only [List.cons.injEq, D0.bool.injEq, D0.ints.injEq, and_true] at he
  obtain ⟨rfl, rfl⟩ := he
  obtain ⟨L, hLz⟩ : ∃ L : Nat, z0 = digs L := ⟨(val z0).toNat, (digs_val hcan).symm⟩
  subst hLz
  have hL : L < 1000000000000000000 := by
    have := val_lt (digs_limbs L)
    rw [val_digs] at this
    have h3 : (digs L).length = 0 ∨ (digs L).length = 1 ∨ (digs L).length = 2 := by omega
    rcases h3 with h3 | h3 | h3 <;> rw [h3] at this <;> omega
  rw [em, et, Int.toNat_natCast, val_digs, Int.toNat_natCast] at hlt
  have hmon : [D0.str c0, .bool false, .ints (digs L)] = .str c0 :: enc (L : Int) := by rw [enc_nat]
  have htle := txF_le (mode := mode) (taxOk_le htx) L
  generalize hT : txF m t mode = T at hlt htle
  have hTm : ∀ a b, a <= b -> T a <= T b := by rw [<- hT]; exact txF_mono
  have hT0 : T 0 = 0 := by rw [<- hT]; exact txF_zero
  rw [hlt]
  clear zero
  have X6 := X.trans Y5
  have l6 := Y5.le
  unfold impl_LeastPay_j0
  intro r3 w7 hn7
  have e7 := hn7.r_eq; have s7 := hn7.size
  obtain ⟨w8, st8, hb8, y8⟩ := hn7.fill (P := P) (t := T_impl_Signed) (xs := [.bool false, .slice none 0 0]) (by simp [Value.oneCell']) (by kernel_rfl) rfl
  have Y8 := Y5.trans y8
  have X8 := X.trans Y8
  have lr3 := hb8.lt
  refine ⟨w8, st8, _, _, _, _, _, (q0.ext Y8).loadA0 (by kernel_rfl), ?_⟩
  refine Ret.at (impl_isZero_c (hr.ext X8)) ?_
  rintro v w9 ⟨hv, y9⟩
  subst hv
  have hzM : (intOk [.bool false, .ints (digs L)] && decide (isign [.bool false, .ints (digs L)] = 0)) = decide (L = 0) := by
    have := zeroM_nat (c := c0) (L := L) (by omega)
    rw [enc_nat] at this
    exact this
  rw [hzM]
  have Y9 := Y8.trans y9
  have X9 := X.trans Y9
  refine ⟨_, rfl, fun hz => ?_, fun hnz => ?_⟩
  · -- nothing is left: nothing is to be paid
    have hL0 := of_decide_eq_true hz
    obtain ⟨W', st, ld, ow, xx, _, _⟩ := agg_end (t := T_impl_Money) (xs := [.string c0, .bool false, .slice none 0 0]) (d := .str c0 :: enc ((0 : Nat) : Int)) (f := []) (q2.ext Y9) X9 (by omega) (Owns.append (Owns.str _ (r2 + 1) c0) (own_nat (x := 0) (by rw [digs_zero]; exact Own.nil _ _ _ _))) (by kernel_rfl) rfl (by omega) (by omega)
    have hle0 : leastP T N L = 0 := by
      refine leastP_eq ⟨?_, fun q hq => by omega⟩ (by omega)
      rw [hL0]; exact it_zero hT0 _ _
    rw [hle0]
    exact ⟨_, (q0.ext Y9).loadAt 0 (by rw [addr_add]) (by kernel_rfl) rfl, _, _, _, _, (hb8.ext y9).loadA0 (by kernel_rfl), W', st, _, _, _, _, _, ld, _, [], rfl, ow, List.nodup_nil, xx⟩
  have hL0 := of_decide_eq_false hnz
  refine ⟨_, _, _, _, _, (q0.ext Y9).loadA0 (by kernel_rfl), _, _, _, _, _, (q1.ext Y9).loadA0 (by kernel_rfl), ?_⟩
  refine Ret.at (impl_TaxOn_o (hr.ext X9) (gr.ext X9) rfl rfl mode (ht.ext X9)) ?_
  rintro v w10 ⟨vs0, f0, vs1, f1, hv, o0, nd0, o1, nd1, _, y10⟩
  subst hv
  have htax := taxOn_tx (c := c0) (L := L) (mode := mode) hcur (by omega) htx hmo
  rw [<- hmon, hT] at htax
  rw [htax.2] at o0
  rw [htax.1]
  have o0l := o0.lt
  obtain ⟨i0, i1, ip, in_, ic, iz, rfl, hid, hii⟩ := open_Money o0.reps rfl
  have o1r := o1.reps
  obtain ⟨j0, jp, jn, jc, jz, kp, kn, kc, kz, rfl, hjd, hj1, hj2⟩ := open_Rat o1r (taxOnT_facts _ _ _).2.2.1
  refine ⟨_, _, _, _, _, _, _, _, _, _, _, _, _, rfl, ?_⟩
  intro r4 w11 hn11 r5 w12 hn12
  have e11 := hn11.r_eq; have e12 := hn12.r_eq; have s11 := hn11.size; have s12 := hn12.size
  have l10 := y10.le
  obtain ⟨w13, st13, hb13, cg13, sz13⟩ := (hn11.blk.ext hn12.ext).storeA0 (P := P) (t := T_impl_Money) (xs := [.string i0, .bool i1, .slice ip in_ ic]) (by kernel_rfl) rfl (by simp [Value.oneCell'])
  obtain ⟨w14, st14, hb14, cg14, sz14⟩ := (hn12.blk.chg cg13 (by simp; omega)).storeA0 (P := P) (t := T_impl_Rat) (xs := [.bool j0, .slice jp jn jc, .slice kp kn kc]) (by kernel_rfl) rfl (by simp [Value.oneCell'])
  have Z14 : Ext w10 w14 := ((hn11.ext.trans hn12.ext).chg cg13 (by simp; omega)).chg cg14 (by simp; omega)
  have Y14 := (Y9.trans y10).trans Z14
  have X14 := X.trans Y14
  refine ⟨w13, st13, w14, st14, ifN (fun hno => by cases hno) (fun _ => ?_)⟩
  have hb4 := hb13.chg cg14 (by simp; omega)
  refine ⟨_, _, _, _, (q0.ext Y14).loadAAt 1 [.bool false, .slice ap an ac] (by rw [addr_add]) (by kernel_rfl) rfl, _, _, _, _, hb4.loadAAt 1 [.bool i1, .slice ip in_ ic] (by rw [addr_add]) (by kernel_rfl) rfl, ?_⟩
  have hu : Reps w14 [.bool false, .slice ap an ac] (enc (L : Int)) := by rw [enc_nat]; exact (hr.ext X14).2
  have hi14 : Reps w14 [.bool i1, .slice ip in_ ic] (enc ((T L : Nat) : Int)) := (o0.reps.ext Z14).2
  refine Ret.at (impl_intAdd_n hu hi14 (by omega) (by omega)) ?_
  rintro v w15 ⟨vsH, fH, hv, oH, ndH, y15⟩
  subst hv
  have hsum : ((L : Int) + ((T L : Nat) : Int)) = ((L + T L : Nat) : Int) := by omega
  rw [hsum] at oH
  obtain ⟨hp0, hn0, hc0, rfl, hHi⟩ := enc_open oH
  refine ⟨_, _, _, _, rfl, ?_⟩
  intro r6 w16 hn16
  have e16 := hn16.r_eq
  obtain ⟨w17, st17, hb17, y17⟩ := hn16.fill (P := P) (t := T_impl_Signed) (xs := [.bool false, .slice hp0 hn0 hc0]) (by simp [Value.oneCell']) (by kernel_rfl) rfl
  have l14 := Z14.le; have l15 := y15.le; have l9 := y9.le
  have Y17 := (Y14.trans y15).trans y17
  have X17 := X.trans Y17
  have lr6 := hb17.lt
  have oHl := oH.lt
  obtain ⟨mu, hmu⟩ := gap_ex r3 r6
  have hb817 : Blk w17 r3 T_impl_Signed [.bool false, .slice none 0 0] := hb8.ext ((((y9.trans y10).trans Z14).trans y15).trans y17)
  have lw := X9.le
  refine ⟨w17, st17, fun W => ∃ (lo hi : Nat) (pl : Option Addr) (nl cl : Nat) (ph : Option Addr) (nh ch : Nat) (fl fh : List Nat), Blk W r3 T_impl_Signed [.bool false, .slice pl nl cl] /\ Owns W w.heap.size [.bool false, .slice pl nl cl] (enc (lo : Int)) fl /\ (∀ q ∈ fl, q ≠ r3 /\ q ≠ r6) /\
      Blk W r6 T_impl_Signed [.bool false, .slice ph nh ch] /\ Owns W w.heap.size [.bool false, .slice ph nh ch] (enc (hi : Int)) fh /\ (∀ q ∈ fh, q ≠ r3 /\ q ≠ r6 /\ r2 < q) /\ lo <= hi /\ hi <= L + T L /\ it T N hi L = 0 /\ (lo = 0 ∨ 0 < lo /\ it T N (lo - 1) L ≠ 0) /\
      Blk W r T_impl_Money [.string c0, .bool false, .slice ap an ac] /\ Blk W r1 T_impl_Dec [.bool false, .slice dp' dn dc, .int .i64 (t : Int)] /\ Blk W r2 T_impl_Money [.string ByteArray.empty, .bool false, .slice none 0 0] /\ Ext w W, mu,
    ⟨0, L + T L, none, 0, 0, hp0, hn0, hc0, [], fH, hb817, own_nat (x := 0) (by rw [digs_zero]; exact Own.nil _ _ _ _), by simp, hb17, (oH.ext y17).mono (by omega), fun q hq => by have := oHl q hq; omega, by omega, by omega, it_top hT0 (by omega) (Nat.le_refl _), .inl rfl, q0.ext Y17, q1.ext Y17, q2.ext Y17, X17⟩, ?_⟩
  rintro junk W ⟨lo, hi, pl, nl, cl, ph, nh, ch, fl, fh, hbl, ol, hfl, hbh, oh, hfh, hlh, hhi, hith, hitl, k0, k1, k2, hX⟩
  have hrl : RdN W r3 lo := by
    have := ol.reps; rw [enc_nat] at this
    obtain ⟨_, _, _, e, hi'⟩ := this.2.1
    cases e
    exact ⟨_, _, _, _, hbl, hi'⟩
  have hrh : RdN W r6 hi := by
    have := oh.reps; rw [enc_nat] at this
    obtain ⟨_, _, _, e, hi'⟩ := this.2.1
    cases e
    exact ⟨_, _, _, _, hbh, hi'⟩
  have hmuW := hmu W lo hi hrl hrh
  have dlo : (digs ((lo : Int)).natAbs).length <= 6 := by rw [Int.natAbs_natCast]; exact digs_len_le (by omega)
  have dhi : (digs ((hi : Int)).natAbs).length <= 6 := by rw [Int.natAbs_natCast]; exact digs_len_le (by omega)
  refine ⟨_, _, _, _, hbl.loadA0 (by kernel_rfl), _, _, _, _, hbh.loadA0 (by kernel_rfl), ?_⟩
  refine Ret.at (impl_intCmp_c ol.reps oh.reps (by omega) (by omega)) ?_
  rintro v W1 ⟨hv, y1⟩
  subst hv
  have XW1 := hX.trans y1
  refine ⟨_, rfl, ifD (fun hlt' => ?_) (fun hge' => ?_)⟩
  · have hltn : lo < hi := by have := sgn_neg.1 hlt'; omega
    refine ⟨_, _, _, (hbl.ext y1).loadAt 1 (by rw [addr_add]) (by kernel_rfl) rfl, _, _, _, (hbh.ext y1).loadAt 1 (by rw [addr_add]) (by kernel_rfl) rfl, ?_⟩
    have il : IntsR W1 pl nl cl (digs lo) := by
      have := (ol.ext y1).reps; rw [enc_nat] at this
      obtain ⟨_, _, _, e, hi'⟩ := this.2.1
      cases e; exact hi'
    have ih : IntsR W1 ph nh ch (digs hi) := by
      have := (oh.ext y1).reps; rw [enc_nat] at this
      obtain ⟨_, _, _, e, hi'⟩ := this.2.1
      cases e; exact hi'
    rw [Int.natAbs_natCast] at dlo dhi
    have il1 := il.1; have ih1 := ih.1
    refine Ret.at (impl_natAdd_c il ih (digs_limbs _) (digs_limbs _) (by omega) (by omega)) ?_
    rintro v W2 ⟨ps, ns, cs, hv, os, y2⟩
    subst hv
    rw [val_add'] at os
    refine ⟨_, _, _, rfl, ?_⟩
    have is := os.ints
    have is1 := is.1
    have dsum : (digs (lo + hi)).length <= 6 := digs_len_le (by omega)
    refine Ret.at (impl_natSmall_c is (digs_limbs _) (by omega) (by omega)) ?_
    rintro v W3 ⟨pm, nm, cm, hv, om, y3⟩
    subst hv
    obtain ⟨mid, hmid⟩ : ∃ x : Nat, x = (lo + hi) / 2 := ⟨_, rfl⟩
    have hdiv : (val (digs (lo + hi)) / 2).toNat = mid := by rw [val_digs]; omega
    rw [hdiv] at om
    refine ⟨_, _, _, _, rfl, ?_⟩
    intro r7 W4 hn4
    have e4 := hn4.r_eq
    obtain ⟨W5, st5, hb5, y5'⟩ := hn4.fill (P := P) (t := T_impl_Signed) (xs := [.bool false, .slice pm nm cm]) (by simp [Value.oneCell']) (by kernel_rfl) rfl
    have Y5' := ((y1.trans y2).trans y3).trans y5'
    have XW5 := hX.trans Y5'
    have l1 := y1.le; have l2 := y2.le; have l3 := y3.le; have l5 := y5'.le
    have omo := own_nat (om.ext y5')
    have oml := omo.lt
    have bl := hbl.lt; have bh := hbh.lt; have bk2 := k2.lt; have bk0 := k0.lt; have bk1 := k1.lt
    refine ⟨W5, st5, _, _, _, _, _, (k0.ext Y5').loadA0 (by kernel_rfl), _, _, _, _, _, (k1.ext Y5').loadA0 (by kernel_rfl), _, (k0.ext Y5').loadAt 0 (by rw [addr_add]) (by kernel_rfl) rfl, _, _, _, _, hb5.loadA0 (by kernel_rfl), ?_⟩
    have hpay : Reps W5 [.string c0, .bool false, .slice pm nm cm] (.str c0 :: enc (mid : Int)) := ⟨rfl, omo.reps⟩
    have hr5 := hr.ext XW5
    rw [hmon] at hr5
    refine Ret.at (impl_Plan_c hr5 rfl (gr.ext XW5) rfl hpay rfl N mode (ht.ext XW5)) ?_
    rintro v W6 ⟨pr, nr, cr, fr, hv, orr, hcr, _, y6⟩
    subst hv
    obtain ⟨hp1, hp2⟩ := planT_it (c := c0) (n := N) (p := mid) (L := L) (m := m) (t := t) (mode := mode) hcur (by omega) (by omega) (by omega) (by omega) htx hmo
    rw [hp1]
    have hp2 := hp2 hL0
    rw [hT] at hp2
    refine ⟨_, _, _, _, rfl, ifT ?_⟩
    refine Ret.at (impl_PlanDone_c orr.rows hcr) ?_
    rintro v W7 ⟨hv, y7⟩
    subst hv
    rw [hp2]
    have Y7 := (y6.trans y7)
    have YY7 := Y5'.trans Y7
    have XW7 := hX.trans YY7
    have l7 := Y7.le
    refine ⟨_, rfl, ifD (fun hdo => ?_) (fun hdo => ?_)⟩
    · obtain ⟨W8, st8', hb8', cg8, sz8⟩ := (hbh.ext YY7).storeA0 (P := P) (t := T_impl_Signed) (xs := [.bool false, .slice pm nm cm]) (by kernel_rfl) rfl (by simp [Value.oneCell'])
      have o8 : Owns W8 w.heap.size [.bool false, .slice pm nm cm] (enc (mid : Int)) _ := ((omo.ext Y7).mono (B' := w.heap.size) (by have := XW1.le; omega)).chg cg8 (fun q hq => by have := oml q hq; simp; omega)
      have ol8 := (ol.ext YY7).chg cg8 (fun q hq => by have := hfl q hq; simp; omega)
      have bl8 := (hbl.ext YY7).chg cg8 (by simp; omega)
      refine ⟨_, _, _, _, (hb5.ext Y7).loadA0 (by kernel_rfl), W8, st8', ⟨lo, mid, pl, nl, cl, pm, nm, cm, fl, _, bl8, ol8, hfl, hb8', o8, fun q hq => by have := oml q hq; omega, by omega, by omega, hdo, hitl, (k0.ext YY7).chg cg8 (by simp; omega), (k1.ext YY7).chg cg8 (by simp; omega), (k2.ext YY7).chg cg8 (by simp; omega), XW7.chg cg8 (by simp; omega)⟩, ?_⟩
      have hrl8 : RdN W8 r3 lo := by
        have := ol8.reps; rw [enc_nat] at this
        obtain ⟨_, _, _, e, hi'⟩ := this.2.1
        cases e; exact ⟨_, _, _, _, bl8, hi'⟩
      have hrh8 : RdN W8 r6 mid := by
        have := o8.reps; rw [enc_nat] at this
        obtain ⟨_, _, _, e, hi'⟩ := this.2.1
        cases e; exact ⟨_, _, _, _, hb8', hi'⟩
      rw [hmu W8 lo mid hrl8 hrh8, hmuW]; omega
    · have D := Ext.drew W7
      have hb5d := (hb5.ext Y7).ext D
      refine ⟨_, _, _, _, fun W hW => (hb5d.ext hW).loadA0 (by kernel_rfl), ?_⟩
      refine Ret.at (impl_IntOf_c (by omega) (by omega)) ?_
      rintro v W8 ⟨vs8, f8, hv, o8, nd8, y8'⟩
      subst hv
      obtain ⟨p8, n8, c8, rfl, hi8⟩ := enc_open (x := 1) o8
      refine ⟨_, _, _, _, rfl, y8', ?_⟩
      have hm8 : Reps W8 [.bool false, .slice pm nm cm] (enc (mid : Int)) := (omo.ext ((Y7.trans D).trans y8')).reps
      refine Ret.at (impl_intAdd_n hm8 o8.reps (by omega) (by omega)) ?_
      rintro v W9 ⟨vs9, f9, hv, o9, nd9, y9'⟩
      subst hv
      have hs9 : ((mid : Int) + 1) = ((mid + 1 : Nat) : Int) := by omega
      rw [hs9] at o9
      obtain ⟨p9, n9, c9, rfl, hi9⟩ := enc_open o9
      have o9l := o9.lt
      have l8 := D.le; have l8' := y8'.le
      have YY9 := ((YY7.trans D).trans y8').trans y9'
      have XW9 := hX.trans YY9
      obtain ⟨W10, st10, hb10, cg10, sz10⟩ := (hbl.ext YY9).storeA0 (P := P) (t := T_impl_Signed) (xs := [.bool false, .slice p9 n9 c9]) (by kernel_rfl) rfl (by simp [Value.oneCell'])
      have o10 := (o9.mono (B' := w.heap.size) (by have := XW1.le; omega)).chg cg10 (fun q hq => by have := o9l q hq; simp; omega)
      have oh10 := (oh.ext YY9).chg cg10 (fun q hq => by have := hfh q hq; simp; omega)
      have bh10 := (hbh.ext YY9).chg cg10 (by simp; omega)
      refine ⟨_, _, _, _, rfl, W10, st10, ⟨mid + 1, hi, p9, n9, c9, ph, nh, ch, f9, fh, hb10, o10, fun q hq => by have := o9l q hq; omega, bh10, oh10, hfh, by omega, hhi, hith, .inr ⟨by omega, by rw [Nat.add_sub_cancel]; exact hdo⟩, (k0.ext YY9).chg cg10 (by simp; omega), (k1.ext YY9).chg cg10 (by simp; omega), (k2.ext YY9).chg cg10 (by simp; omega), XW9.chg cg10 (by simp; omega)⟩, ?_⟩
      have hrl8 : RdN W10 r3 (mid + 1) := by
        have := o10.reps; rw [enc_nat] at this
        obtain ⟨_, _, _, e, hi'⟩ := this.2.1
        cases e; exact ⟨_, _, _, _, hb10, hi'⟩
      have hrh8 : RdN W10 r6 hi := by
        have := oh10.reps; rw [enc_nat] at this
        obtain ⟨_, _, _, e, hi'⟩ := this.2.1
        cases e; exact ⟨_, _, _, _, bh10, hi'⟩
      rw [hmu W10 (mid + 1) hi hrl8 hrh8, hmuW]; omega
  · have heq : lo = hi := by
      have h1 : ¬ ((lo : Int) - hi < 0) := fun hh => hge' (sgn_neg.2 hh)
      omega
    have hres : leastP T N L = hi := leastP_eq (IsLeast.of_search hTm hith (by rw [<- heq]; exact hitl)) hhi
    obtain ⟨W2, st2, hb2, cg2, sz2⟩ := (k2.ext y1).storeA0 (P := P) (t := T_impl_Money) (xs := [.string c0, .bool false, .slice ph nh ch]) (by kernel_rfl) rfl (by simp [Value.oneCell'])
    have o2 := (oh.ext y1).chg cg2 (fun q hq => by have := hfh q hq; simp; omega)
    rw [hres]
    refine ⟨_, (k0.ext y1).loadAt 0 (by rw [addr_add]) (by kernel_rfl) rfl, _, _, _, _, (hbh.ext y1).loadA0 (by kernel_rfl), W2, st2, _, _, _, _, _, hb2.loadA0 (by kernel_rfl), _, fh, rfl, ?_, ?_, XW1.chg cg2 (by simp; omega)⟩
    · have := Owns.append (Owns.str W2 w.heap.size c0) o2
      simpa using this
    · rw [enc_nat] at o2; exact owns_nd o2
end Go.Proofs.YtbgokfhcgcoipaaDoor
namespace Go.Proofs.YtbgokfhcgcoipaaDoor.Sx
open Go Go.RowKit
theorem Fl.trans {os : List Obj} {ss : List (Option Nat)} {w : World} {s1 : List (Option Nat)} {w1 : World} {s2 : List (Option Nat)} {w2 : World} (h : Fl os ss w s1 w1) (g : Fl os s1 w1 s2 w2) : Fl os ss w s2 w2 := by
  induction h with
  | refl => exact g
  | step h1 h2 _ ih => exact .step h1 h2 (ih g)
theorem Fl.old {os : List Obj} {ss : List (Option Nat)} {w : World} {s1 : List (Option Nat)} {w1 : World} (h : Fl os ss w s1 w1) {k r : Nat} (hk : s1[k]? = some (some r)) : ss[k]? = some (some r) ∨ w.heap.size <= r := by
  induction h with
  | refl => exact .inl hk
  | step h1 h2 h3 ih =>
    rename_i ss w k' o s' w'
    have hs : (w.alloc o).heap.size = w.heap.size + 1 := by simp
    rcases ih hk with h | h
    · by_cases e : k' = k
      · subst e
        have hl : k' < ss.length := by
          rcases Nat.lt_or_ge k' ss.length with h | h
          · exact h
          · rw [List.getElem?_eq_none h] at h1; cases h1
        rw [List.getElem?_set_self hl] at h
        simp at h
        exact .inr (by omega)
      · rw [List.getElem?_set_ne e] at h
        exact .inl h
    · exact .inr (by omega)
def FlS (os : List Obj) (w0 : World) (ss : List (Option Nat)) (w : World) : Prop :=
 Ext w0 w /\ (∀ (k r : Nat), ss[k]? = some (some r) -> w0.heap.size <= r /\ r < w.heap.size /\ w.heap[r]? = os[k]?) /\ (∀ (k l r : Nat), ss[k]? = some (some r) -> ss[l]? = some (some r) -> k = l)
theorem FlS.ext {os : List Obj} {w0 w w' : World} {ss : List (Option Nat)} (h : FlS os w0 ss w) (y : Ext w w') : FlS os w0 ss w' :=
  ⟨h.1.trans y, fun k r hk => by
    obtain ⟨a, b, c⟩ := h.2.1 k r hk
    exact ⟨a, Nat.lt_of_lt_of_le b y.le, (y.block r b).trans c⟩, h.2.2⟩
theorem FlS.step {os : List Obj} {w0 w w' : World} {ss ss' : List (Option Nat)} (h : FlS os w0 ss w) (f : Fl os ss w ss' w') : FlS os w0 ss' w' := by
  induction f with
  | refl => exact h
  | step h1 h2 h3 ih =>
    rename_i ss w k' o s' w'
    refine ih ?_
    have y : Ext w (w.alloc o) := (Below.refl _ _).alloc (Nat.le_refl _) _
    have hs : (w.alloc o).heap.size = w.heap.size + 1 := by simp
    have hg : (w.alloc o).heap[w.heap.size]? = some o := heap_alloc_new w _
    have hl : k' < ss.length := by
      rcases Nat.lt_or_ge k' ss.length with h | h
      · exact h
      · rw [List.getElem?_eq_none h] at h1; cases h1
    have hx := h.ext y
    have hle := h.1.le
    refine ⟨hx.1, fun k r hk => ?_, fun k l r hk hl' => ?_⟩
    · by_cases e : k' = k
      · subst e
        rw [List.getElem?_set_self hl] at hk
        simp at hk
        subst hk
        exact ⟨hle, by omega, hg.trans h2.symm⟩
      · rw [List.getElem?_set_ne e] at hk
        exact hx.2.1 k r hk
    · by_cases e : k' = k
      · by_cases e2 : k' = l
        · omega
        · subst e
          rw [List.getElem?_set_self hl] at hk
          simp at hk
          subst hk
          rw [List.getElem?_set_ne e2] at hl'
          have := (h.2.1 l _ hl').2.1
          omega
      · rw [List.getElem?_set_ne e] at hk
        by_cases e2 : k' = l
        · subst e2
          rw [List.getElem?_set_self hl] at hl'
          simp at hl'
          subst hl'
          have := (h.2.1 k _ hk).2.1
          omega
        · rw [List.getElem?_set_ne e2] at hl'
          exact h.2.2 k l r hk hl'
theorem FlS.first {os : List Obj} {w0 w : World} {ss0 ss : List (Option Nat)} (f : Fl os ss0 w0 ss w) (h : ss0.all Option.isNone = true) : FlS os w0 ss w := by
  refine FlS.step ⟨Ext.refl _, fun k r hk => ?_, fun k l r hk _ => ?_⟩ f <;>
  · have hm := List.mem_of_getElem? hk
    have := List.all_eq_true.1 h _ hm
    simp at this
theorem FlS.blk {os : List Obj} {w0 w : World} {ss : List (Option Nat)} {k r : Nat} {cs : List Value} {e : TypeId} (h : FlS os w0 ss w) (hk : ss[k]? = some (some r)) (ho : os[k]? = some (.cells ⟨cs⟩ e (0, 0))) : w0.heap.size <= r /\ r < w.heap.size /\ Blk w r e cs := by
  obtain ⟨a, b, c⟩ := h.2.1 k r hk
  exact ⟨a, b, c.trans ho⟩
theorem FlS.ne {os : List Obj} {w0 w : World} {ss : List (Option Nat)} {k l r s : Nat} (h : FlS os w0 ss w) (hk : ss[k]? = some (some r)) (hl : ss[l]? = some (some s)) (e : k ≠ l) : r ≠ s := fun hh => e (h.2.2 k l r hk (hh ▸ hl))
theorem FlS.apart {os : List Obj} {w0 wc we w' : World} {ss ss' : List (Option Nat)} {k r : Nat} (h : FlS os w0 ss wc) (f : Fl os ss we ss' w') (hk : ss'[k]? = some (some r)) : r < wc.heap.size ∨ we.heap.size <= r := by
  rcases f.old hk with a | a
  · exact .inl (h.2.1 k r a).2.1
  · exact .inr a
end Go.Proofs.YtbgokfhcgcoipaaDoor.Sx
namespace Go.Proofs.YtbgokfhcgcoipaaDoor
open Go Go.Conc Go.Proofs.YtbgokfhcgcoipaaDoor.Sx
theorem enc_nat_ok {x : Nat} (h : x < 1000000000000000000000000000000000000) : intOk (enc (x : Int)) = true := enc_ok (by
  have : (digs (x : Int).natAbs).length <= 4 := by rw [Int.natAbs_natCast]; exact digs_len 4 (by omega)
  omega)
end Go.Proofs.YtbgokfhcgcoipaaDoor
namespace Go.Proofs.YtbgokfhcgcoipaaDoor
open Go Go.Proofs.YtbgokfhcgcoipaaDoor.Sx
theorem rate_form {z s : Int} (hz : z ∈ rateNums) (hs : s ∈ rateScales) : ∃ m t : Nat, enc z ++ [.int s] = [.bool false, .ints (digs m), .int (t : Int)] /\ taxOk [.bool false, .ints (digs m), .int (t : Int)] = true := by
  have h1 : ∀ z ∈ rateNums, ∀ s ∈ rateScales, taxOk (enc z ++ [.int s]) = true := by decide +kernel
  have h2 : ∀ z ∈ rateNums, 0 <= z := by decide
  have h3 : ∀ s ∈ rateScales, 0 <= s := by decide
  have hz0 := h2 z hz; have hs0 := h3 s hs
  refine ⟨z.toNat, s.toNat, ?_, ?_⟩
  · have e := enc_nat z.toNat
    rw [show ((z.toNat : Nat) : Int) = z by omega] at e
    rw [e, show ((s.toNat : Nat) : Int) = s by omega]; rfl
  · have e := enc_nat z.toNat
    rw [show ((z.toNat : Nat) : Int) = z by omega] at e
    have h4 := h1 z hz s hs
    rw [e] at h4
    rw [show ((s.toNat : Nat) : Int) = s by omega]
    exact h4
theorem mode_form {m : Int} (h0 : 0 <= m) (h1 : m < 7) : modeOk m = true := decide_eq_true ⟨h0, by omega⟩
abbrev curEUR : ByteArray := S [69, 85, 82]
theorem curEUR_known : curKnown curEUR = true := by decide +kernel
theorem leastP_is {tx : Nat -> Nat} (h0 : tx 0 = 0) {n L : Nat} (hn : 0 < n) : IsLeast tx n L (leastP tx n L) /\ leastP tx n L <= L + tx L := by
  unfold leastP
  cases h : (List.range (L + tx L + 1)).find? (fun p => decide (it tx n p L = 0)) with
  | none =>
    rw [List.find?_eq_none] at h
    have := h (L + tx L) (List.mem_range.2 (by omega))
    exact absurd (decide_eq_true (it_top h0 hn (Nat.le_refl _))) this
  | some p =>
    rw [List.find?_range_eq_some] at h
    obtain ⟨h1, h2, h3⟩ := h
    refine ⟨⟨of_decide_eq_true h1, fun q hq => ?_⟩, by have := List.mem_range.1 h2; show p <= _; omega⟩
    have := h3 q hq
    rw [Bool.not_eq_true', decide_eq_false_iff_not] at this
    exact this
theorem leastP_pos {tx : Nat -> Nat} {n L p : Nat} (h : IsLeast tx n L p) (hL : L ≠ 0) : 0 < p := by
  rcases Nat.eq_zero_or_pos p with e | e
  · subst e
    have := it_nopay (tx := tx) n L
    have := h.1
    omega
  · exact e
theorem leastP_nil {tx : Nat -> Nat} (h0 : tx 0 = 0) {n : Nat} : leastP tx n 0 = 0 := leastP_eq ⟨it_zero h0 n 0, fun q hq => by omega⟩ (by omega)
theorem leastT_draw {c : ByteArray} {L m t n : Nat} {mode : Int} (hc : curKnown c = true) (hL : L < 30000) (hn : 1 <= n) (hn2 : n <= 24) (ht : taxOk [.bool false, .ints (digs m), .int (t : Int)] = true) (hmo : modeOk mode = true) :
    leastT (.str c :: enc (L : Int)) [.bool false, .ints (digs m), .int (t : Int)] n mode = (true, .str c :: enc ((leastP (txF m t mode) n L : Nat) : Int)) := by
  have hmk := money_nat hc (show L < 1000000000000000000000000000000000000 by omega)
  rw [enc_nat L] at hmk ⊢
  rw [leastT_eq, leastOk_eq, hmk, ht, hmo, decide_eq_true (show (1 : Int) <= (n : Int) /\ (n : Int) <= 24 by omega), decide_eq_true (show (digs L).length <= 2 from digs_len 2 (by omega))]
  have e1 : (val (digs m)).toNat = m := by rw [val_digs]; omega
  have e2 : (val (digs L)).toNat = L := by rw [val_digs]; omega
  rw [e1, e2, Int.toNat_natCast, Int.toNat_natCast]
  rfl
end Go.Proofs.YtbgokfhcgcoipaaDoor
namespace Go.Proofs.YtbgokfhcgcoipaaDoor
open Go Go.Proofs.YtbgokfhcgcoipaaDoor.Sx
theorem moneyMk_ok {c : ByteArray} {z : Int} (h : moneyOk (.str c :: enc z) = true) : moneyMk c z = .str c :: enc z := by unfold moneyMk; rw [if_pos h]
theorem impl_IntSign_c {w : World} {xs : List Value} {z : Int} (h : Reps w xs (enc z)) (hok : intOk (enc z) = true) : Ret P n_impl_IntSign [.agg ⟨xs⟩] w fun v w' => v = .int .i64 (sgn z) /\ Ext w w' := by
  have hr := h
  obtain ⟨a0, a1p, a1n, a1c, a1z, rfl, hd, ha⟩ := open_Signed h rfl
  refine impl_IntSign_ret ?_
  unfold impl_IntSign
  intro r w1 hn1
  refine ⟨_, _, _, _, hn1.blk.loadA0 (by kernel_rfl), ?_⟩
  refine Ret.at (impl_IntOk_c (hr.ext hn1.ext) rfl) ?_
  rintro v w2 ⟨hv, y2⟩
  subst hv
  rw [hok]
  refine ⟨_, rfl, fun e => absurd e (by simp), fun _ => ⟨_, _, _, _, (hn1.blk.ext y2).loadA0 (by kernel_rfl), ?_⟩⟩
  refine Ret.at (impl_intSign_c (hr.ext (hn1.ext.trans y2))) ?_
  rintro v w3 ⟨hv, y3⟩
  subst hv
  exact ⟨_, rfl, rfl, (hn1.ext.trans y2).trans y3⟩
theorem impl_MoneyOf_c {w : World} (cur : ByteArray) {n : Int} (h0 : -9223372036854775808 <= n) (h1 : n <= 9223372036854775807) (ht : Tab w) :
    Ret P n_impl_MoneyOf [.string cur, .int .i64 n] w fun v w' => ∃ vs f, v = .tuple #[.agg ⟨vs⟩, .bool (moneyOk (.str cur :: enc n))] /\ Owns w' w.heap.size vs (moneyMk cur n) f /\ f.Nodup /\ Ext w w' := by
  refine impl_MoneyOf_ret ?_
  unfold impl_MoneyOf
  intro r w1 hn1
  have e1 := hn1.r_eq; have s1 := hn1.size
  refine Ret.at (impl_IntOf_c h0 h1) ?_
  rintro v w2 ⟨vs2, f2, hv, ho2, nd2, y2⟩
  subst hv
  obtain ⟨a0, ap, an, ac, az, rfl, _, _⟩ := open_Signed ho2.reps (enc_code _)
  have l2 := y2.le
  have X2 := hn1.ext.trans y2
  refine ⟨_, _, _, _, rfl, ?_⟩
  refine Ret.at (impl_moneyOf_c (ht.ext X2) cur ho2 nd2 (by omega)) ?_
  rintro v w3 ⟨vs3, f3, hv, ho3, nd3, y3⟩
  subst hv
  have l3 := y3.le
  obtain ⟨b0, b1, bp, bn, bc, bz, rfl, _, _⟩ := open_Money ho3.reps (moneyMk_code _ _)
  obtain ⟨W', st', ld', ow', xx', _, _⟩ := agg_end (t := T_impl_Money) ((hn1.blk.ext y2).ext y3) (X2.trans y3) (by omega) ho3 (by kernel_rfl) rfl (by omega) (by omega)
  exact ⟨_, _, _, _, _, _, rfl, W', st', _, _, _, _, _, ld', _, f3, rfl, ow', nd3, xx'⟩
end Go.Proofs.YtbgokfhcgcoipaaDoor
namespace Go.Proofs.YtbgokfhcgcoipaaDoor
open Go Go.Proofs.YtbgokfhcgcoipaaDoor.Sx
theorem leastT_code (dx dr : List D0) (n m : Int) : (leastT dx dr n m).2.map D0.code = [.str, .bool, .ints] := by
  unfold leastT
  split
  · split
    · rfl
    · rfl
  · rfl
theorem leastP_le (tx : Nat -> Nat) (n L : Nat) : leastP tx n L <= L + tx L := by
  unfold leastP
  cases h : (List.range (L + tx L + 1)).find? (fun p => decide (it tx n p L = 0)) with
  | none => exact Nat.zero_le _
  | some p =>
    have := List.mem_of_find?_eq_some h
    rw [List.mem_range] at this
    show p <= _
    omega
theorem leastT_cnt (dx dr : List D0) (n m : Int) : tcnts (leastT dx dr n m).2 <= 1000000000 := by
  unfold leastT
  split
  · split
    · rename_i c b z b2 z2 s h
      rw [leastOk_eq] at h
      simp only [Bool.and_eq_true, decide_eq_true_eq, Bool.not_eq_true'] at h
      obtain ⟨⟨h1, h2, h3⟩, h4, h5, h6⟩ := h
      obtain ⟨mm, t, rfl, rfl, rfl, ht30, em, et, hm9⟩ := taxOk_nn h4
      obtain ⟨_, bb, zz, he, hcan, _⟩ := intOk_enc (moneyOk_int h1)
      simp only [List.cons.injEq, D0.bool.injEq, D0.ints.injEq, and_true] at he
      obtain ⟨rfl, rfl⟩ := he
      have hle := leastP_le (txF (val (digs mm)).toNat ((t : Int)).toNat m) n.toNat (val z).toNat
      have h7 := txF_le (mode := m) (taxOk_le h4) (val z).toNat
      have h8 : (val (digs mm)).toNat = mm := by rw [val_digs]; omega
      rw [h8, Int.toNat_natCast] at hle ⊢
      have hv := val_lt hcan.1
      have hv0 := val_nonneg hcan.1
      have h9 : val z < 1000000000000000000 := by
        have h3' : z.length = 0 ∨ z.length = 1 ∨ z.length = 2 := by omega
        rcases h3' with h3' | h3' | h3' <;> rw [h3'] at hv <;> omega
      have := digs_len 4 (n := leastP (txF mm t m) n.toNat (val z).toNat) (by omega)
      show tcnts (.str c :: enc _) <= _
      simp only [enc, tcnts, Int.natAbs_natCast]
      omega
    · decide
  · decide
theorem impl_LeastPay_c {w : World} {xs ys : List Value} {dx dr : List D0} (h : Reps w xs dx) (hc : dx.map D0.code = [.str, .bool, .ints]) (g : Reps w ys dr) (gc : dr.map D0.code = [.bool, .ints, .int]) (n mode : Int) (ht : Tab w) :
    Ret P n_impl_LeastPay [.agg ⟨xs⟩, .agg ⟨ys⟩, .int .i64 n, .int .i64 mode] w fun v w' => ∃ vs f, v = .tuple #[.agg ⟨vs⟩, .bool (leastT dx dr n mode).1] /\ Owns w' w.heap.size vs (leastT dx dr n mode).2 f /\ f.Nodup /\ (leastT dx dr n mode).2.map D0.code = [.str, .bool, .ints] /\ tcnts (leastT dx dr n mode).2 <= 1000000000 /\ Ext w w' :=
  (impl_LeastPay_o h hc g gc n mode ht).mono fun v w' ⟨vs, f, hv, ho, hn, hx⟩ => ⟨vs, f, hv, ho, hn, leastT_code _ _ _ _, leastT_cnt _ _ _ _, hx⟩
end Go.Proofs.YtbgokfhcgcoipaaDoor
namespace Go.Proofs.YtbgokfhcgcoipaaDoor.Sx
open Go Go.RowKit Go.ChangeShapes Go.WideShapes
def rowedV (P : Program) (ns : List String) : Bool := ns.all fun n => ((P.globalNamed n).bind (P.globals[·]?)).all fun gl => P.readableRec gl.type && decide (gl.type < P.types.size)
section
variable {H : Type} {enc : TypeId × Value -> H} {P : Program}
theorem trodAll_ext (hl : laidOutB P = true) {W W' : World} (hb : Ext W W') (sp' : Nat -> Bool) : ∀ {ts : List TypeId} {vs : List Value} {ds : List (DataW H)} {ps : List MemPlace},
    (∀ t ∈ ts, P.readableRec t = true /\ t < P.types.size) -> (∀ p ∈ ps, p.block < W.heap.size) -> (∀ p ∈ ps, sp' p.block = true) ->
    DataW.TrodAll enc P W 0 (fun _ => true) true ts vs ds ps -> DataW.TrodAll enc P W' 0 sp' true ts vs ds ps
  | [], _, _, _, _, _, _, h => by
    obtain ⟨rfl, rfl, rfl⟩ := trodAll_nil h
    exact rfl
  | t :: ts, _, _, _, hr, hlt, hsp, h => by
    obtain ⟨v, vs1, d, ds1, a, b, rfl, rfl, rfl, h1, h2⟩ := trodAll_cons h
    have hrt := hr t (by simp)
    exact ⟨a, b, WideElems.Trod_stays hl hrt.1 hrt.2 h1 (fun x hx => Below.same hb (hlt x (by simp [hx]))) (fun x hx => hsp x (by simp [hx])),
      trodAll_ext hl hb sp' (fun u hu => hr u (by simp [hu])) (fun x hx => hlt x (by simp [hx])) (fun x hx => hsp x (by simp [hx])) h2, rfl⟩
theorem trodVars_sp (hl : laidOutB P = true) {W W' : World} (hb : Ext W W') (sp' : Nat -> Bool) :
    ∀ {ns : List String} {gs : List (DataW H)} {ps : List MemPlace}, rowedV P ns = true -> (∀ p ∈ ps, sp' p.block = true) -> DataW.TrodVars enc P W (fun _ => true) ns gs ps -> DataW.TrodVars enc P W' sp' ns gs ps
  | [], [], _, _, _, h => h
  | [], _ :: _, _, _, _, h => h.elim
  | _ :: _, [], _, _, _, h => h.elim
  | n :: ns, d :: ds, ps, hv, hsp, h => by
    have hlt := h.lt
    obtain ⟨g, t, cs, fuel, p, q, h1, h2, h3, h4, hs, e⟩ := h
    simp only [rowedV, List.all_cons, Bool.and_eq_true] at hv
    have ht : P.readableRec t = true /\ t < P.types.size := by
      have := hv.1
      rw [h1] at this
      cases hg : P.globals[g]? with
      | none => rw [hg] at h2; cases h2
      | some gl =>
        rw [hg] at h2
        obtain rfl : gl.type = t := Option.some.inj h2
        simpa [hg] using this
    have hp : ∀ x ∈ p, x.block < W.heap.size := fun x hx => hlt x (by rw [e]; simp [hx])
    have h3' : W'.var? P n = some cs := by
      unfold World.var? at h3 ⊢
      rw [h1] at h3 ⊢
      simp only [Option.bind_some] at h3 ⊢
      have hg : g < W.heap.size := by
        cases hh : W.heap[g]? with
        | none => rw [hh] at h3; cases h3
        | some o => exact (Array.getElem?_eq_some_iff.1 hh).1
      rw [hb.block g hg]; exact h3
    exact ⟨g, t, cs, fuel, p, q, h1, h2, h3', DataW.trod_stays (kids_book hl ht.1) (book_sized ht.1) (fun h => by cases h) ⟨ht.2, book_self t⟩ h4 (fun x hx => Below.same hb (hp x hx)) (fun x hx => hsp x (by rw [e]; simp [hx])),
      trodVars_sp hl hb sp' (by simpa [rowedV] using hv.2) (fun x hx => hsp x (by rw [e]; simp [hx])) hs, e⟩
theorem post_of_ext {f : Func} {s : ChangeSpec} {apart fresh handsOn again : Bool} {W W' : World} {args : Array Value} {ds gs : List (DataW H)} {before : List MemPlace} {tb : TypeId}
    (hl : laidOutB P = true) (hpar : ∀ t ∈ f.params.toList, P.readableRec t = true /\ t < P.types.size) (hvr : rowedV P s.vars = true)
    (hrt : f.resultTypes = #[tb]) (htb : P.underlying tb = some .bool)
    (hW : DataW.Whole enc P f.params.toList s.vars apart W args.toList ds gs before) (hx : Ext W W')
    (hfn : s.fn H (ds ++ gs) = { results := [.lit (.bool true)], args := ds, vars := gs }) :
    s.post enc P f apart fresh handsOn again W args (.bool true) W' := by
  have hW0 := hW
  have hlt : ∀ p ∈ before, p.block < W.heap.size := hW.lt
  obtain ⟨pa, pv, hA, hV, rfl, hz, hn⟩ := hW
  have hlta : ∀ p ∈ pa, p.block < W.heap.size := fun p hp => hlt p (by simp [hp])
  have hltv : ∀ p ∈ pv, p.block < W.heap.size := fun p hp => hlt p (by simp [hp])
  have hr : (Value.bool true).resultList f.resultTypes.size = [Value.bool true] := by rw [hrt]; rfl
  refine ⟨ds, gs, pa ++ pv, [], pa, pv, hW0, ?_, ?_, ?_, Below.frame hx _, fun _ => ?_⟩
  · rw [hfn, hr, hrt]
    exact trodAll_mk1 (shut_bool htb _)
  · rw [hfn]
    exact trodAll_ext hl hx _ hpar hlta (fun p hp => by simpa using hlta p hp) hA
  · rw [hfn]
    exact trodVars_sp hl hx _ hvr (fun p hp => by simpa using hltv p hp) hV
  · refine ⟨?_, (.lit (.bool true)) :: ds, gs, pa ++ pv, ⟨[] ++ pa, pv, ?_, ?_, by simp, ?_, ?_⟩, fun p hp _ => hp⟩
    · rw [hr, hrt]
      exact ok_one (f := { f with resultTypes := #[tb] }) rfl rfl (okWide_bool_mk htb _)
    · rw [hr, hrt]
      exact trodAll_append (trodAll_ext hl hx _ hpar hlta (fun _ _ => rfl) hA) (trodAll_mk1 (shut_bool htb _))
    · exact trodVars_sp hl hx _ hvr (fun _ _ => rfl) hV
    · intro b off hp
      have := hlt _ hp
      rw [Below.frozen hx (p := ⟨b, off, none⟩) this]
      exact hz b off hp
    · exact hn
end
end Go.Proofs.YtbgokfhcgcoipaaDoor.Sx
namespace Go.Proofs.YtbgokfhcgcoipaaDoor.Sx
open Go Go.RowKit Go.ChangeShapes Go.WideShapes
section
variable {H : Type} {enc : TypeId × Value -> H} {P : Program} {w : World}
theorem spot_none {a : Addr} {v : Value} (h : w.cell? a = some v) : a = ⟨a.block, a.off, none⟩ := by
  obtain ⟨b, o, spot⟩ := a
  have : spot = none := by simpa using World.cell?_spot h
  subst this; rfl
end
end Go.Proofs.YtbgokfhcgcoipaaDoor.Sx
namespace Go.Proofs.YtbgokfhcgcoipaaDoor
open Go Go.RowKit Go.ChangeShapes Go.Proofs.YtbgokfhcgcoipaaDoor.Sx
theorem bytes_of_trod {H : Type} {enc : TypeId × Value -> H} {P : Program} {w : World} {t e : TypeId} {fuel : Nat} {sp : Nat -> Bool} {hd : Bool} {cs : List Value} {x : DataW H × List MemPlace} (ht : P.underlying t = some (.slice e)) (he : P.underlying e = some (.int .u8)) (hc : P.cellsOf e = 1)
    (h : DataW.trod enc P w 0 sp hd fuel t cs = some x) : ∃ p n c, cs = [.slice p n c] /\ ByR w p n := by
  rcases Go.ChangeShapes.open_ints ht he hc h with ⟨rfl, _⟩ | ⟨a, len, cap, zs, rfl, _, hl, hm, hz, _, hcell, _⟩
  · exact ⟨none, 0, 0, rfl, fun h => absurd h (by omega)⟩
  · have hlz : len <= zs.length := by rw [hz]; split <;> omega
    refine ⟨some a, len, cap, rfl, fun hpos => ?_⟩
    have h0 := hcell 0 (by omega)
    have hs := spot_none h0
    have ha : a = ⟨a.block, a.off, none⟩ := by
      obtain ⟨b, o, s⟩ := a
      simp [Addr.add] at hs
      simp [hs]
    have hlt := World.block_lt_of_cell? w _ h0
    refine ⟨a.block, a.off, zs.take len, by rw [<- ha], by simp; omega, fun j v hj => ?_, by simpa [Addr.add] using hlt⟩
    simp only [List.getElem?_map, List.getElem?_take] at hj
    split at hj
    · rename_i hjl
      have hjz : j < zs.length := by omega
      have := hcell j hjz
      rw [ha, addr_add] at this
      rw [this]
      rw [List.getElem?_eq_getElem hjz] at hj
      simp at hj
      rw [<- hj]
      simp [hjz]
    · simp at hj
end Go.Proofs.YtbgokfhcgcoipaaDoor
namespace Go.Proofs.YtbgokfhcgcoipaaDoor
open Go Go.Proofs.YtbgokfhcgcoipaaDoor.Sx
theorem sgn_is0 {z : Int} : sgn z = 0 ↔ z = 0 := by unfold sgn; split <;> (try split) <;> omega
theorem sgn_is1 {z : Int} : 0 < sgn z ↔ 0 < z := by unfold sgn; split <;> (try split) <;> omega
theorem rate_code (m : Nat) (t : Int) : ([.bool false, .ints (digs m), .int t] : List D0).map D0.code = [.bool, .ints, .int] := rfl
theorem mon_code (c : ByteArray) (z : Int) : (.str c :: enc z : List D0).map D0.code = [.str, .bool, .ints] := rfl
theorem laws_FnLeast_c {w : World} {p0 : Option Addr} {n0 c0 : Nat} (h0 : ByR w p0 n0) (ht : Tab w) : Ret P n_laws_FnLeast [.slice p0 n0 c0] w fun v w' => v = .bool true /\ Ext w w' := by
  have h := h0
  refine laws_FnLeast_ret ?_
  unfold laws_FnLeast
  refine ifD (fun _ => ⟨rfl, Ext.refl w⟩) (fun hs => ?_)
  have hn : n0 <= 1048576 := by omega
  refine Ret.at (spec_MakeAmount_c curEUR h hn) ?_
  rintro v w1 ⟨z, vs1, f1, hv, hz0, hz1, ho1, _, y1⟩
  subst hv
  obtain ⟨L, rfl⟩ : ∃ L : Nat, z = L := ⟨z.toNat, by omega⟩
  have rA := ho1.reps
  obtain ⟨a0, a1, ap, an, ac, az, rfl, _, _⟩ := open_Money ho1.reps (mon_code _ _)
  refine ⟨_, _, _, _, _, rfl, ?_⟩
  intro ra w2 hn2
  obtain ⟨w3, st3, bA, y3⟩ := hn2.fill (P := P) (t := T_impl_Money) rA.cells1 (by kernel_rfl) rfl
  have rA := rA.ext y3
  have x := y1.trans y3
  refine ⟨w3, st3, ?_⟩
  refine Ret.at (spec_MakeRate_c (h.ext x) hn) ?_
  rintro v w4 ⟨num, sc, vs4, f4, hv, hnum, hsc, ho4, _, y4⟩
  subst hv
  obtain ⟨m, t, hR, htax⟩ := rate_form hnum hsc
  have rR := ho4.reps
  rw [hR] at rR
  obtain ⟨b0, bp, bn, bc, bz, bs, rfl, _, _⟩ := open_Dec ho4.reps rfl
  have rA := rA.ext y4; have bA := bA.ext y4; have x := x.trans y4
  refine ⟨_, _, _, _, _, rfl, ?_⟩
  intro rr w5 hn5
  obtain ⟨w6, st6, bR, y6⟩ := hn5.fill (P := P) (t := T_impl_Dec) rR.cells1 (by kernel_rfl) rfl
  have rA := rA.ext y6; have bA := bA.ext y6; have rR := rR.ext y6; have x := x.trans y6
  refine ⟨w6, st6, ?_⟩
  refine Ret.at (spec_MakeMode_c (h.ext x) hn) ?_
  rintro v w7 ⟨mode, hv, hm0, hm1, y7⟩
  subst hv
  have hmo := mode_form hm0 hm1
  have rA := rA.ext y7; have bA := bA.ext y7; have rR := rR.ext y7; have bR := bR.ext y7; have x := x.trans y7
  refine ⟨_, rfl, ?_⟩
  refine Ret.at (spec_MakeNum_c (h.ext x) hn (k := 12) (by decide) (by decide)) ?_
  rintro v w8 ⟨q, hv, hq0, hq1, y8⟩
  subst hv
  have rA := rA.ext y8; have bA := bA.ext y8; have rR := rR.ext y8; have bR := bR.ext y8; have x := x.trans y8
  refine ⟨_, rfl, exW ⟨by omega, by omega⟩ ?_⟩
  obtain ⟨N, hN⟩ : ∃ N : Nat, 1 + q = N := ⟨(1 + q).toNat, by omega⟩
  rw [hN]
  refine ⟨_, _, _, _, _, bA.loadA0 (by kernel_rfl), _, _, _, _, _, bR.loadA0 (by kernel_rfl), ?_⟩
  have hl := leastT_draw (c := curEUR) (L := L) (m := m) (t := t) (n := N) (mode := mode) curEUR_known (by omega) (by omega) (by omega) htax hmo
  have hp := leastP_is (tx := txF m t mode) (n := N) (L := L) txF_zero (by omega)
  have htl := txF_le (mode := mode) (taxOk_le htax) L
  have hLB : L < 1000000000000000000000000000000000000 := by omega
  refine Ret.at (impl_LeastPay_c rA (mon_code _ _) rR (rate_code _ _) N mode (ht.ext x)) ?_
  rintro v w9 ⟨vs9, f9, hv, ho9, _, _, _, y9⟩
  rw [hl] at hv ho9
  subst hv
  obtain ⟨p, hpe⟩ : ∃ p, leastP (txF m t mode) N L = p := ⟨_, rfl⟩
  rw [hpe] at hp
  have rP := ho9.reps
  simp only [hpe] at rP
  obtain ⟨d0, d1, dp, dn, dc, dz, rfl, _, _⟩ := open_Money ho9.reps (mon_code _ _)
  have rA := rA.ext y9; have bA := bA.ext y9; have rR := rR.ext y9; have bR := bR.ext y9; have x := x.trans y9
  refine ⟨_, _, _, _, _, _, rfl, ?_⟩
  intro rp w10 hn10
  obtain ⟨w11, st11, bP, y11⟩ := hn10.fill (P := P) (t := T_impl_Money) rP.cells1 (by kernel_rfl) rfl
  have rA := rA.ext y11; have bA := bA.ext y11; have rR := rR.ext y11; have bR := bR.ext y11; have rP := rP.ext y11; have x := x.trans y11
  refine ⟨w11, st11, fun e => absurd e (by simp), fun _ => ?_⟩
  refine ⟨_, _, _, _, bA.loadAAt 1 [.bool a1, .slice ap an ac] rfl (by kernel_rfl) rfl, ?_⟩
  refine Ret.at (impl_IntSign_c rA.2 (enc_nat_ok hLB)) ?_
  rintro v w12 ⟨hv, y12⟩
  subst hv
  have rA := rA.ext y12; have bA := bA.ext y12; have rR := rR.ext y12; have bR := bR.ext y12; have rP := rP.ext y12; have bP := bP.ext y12; have x := x.trans y12
  have hpB : p < 1000000000000000000000000000000000000 := by omega
  refine ⟨_, rfl, ifD (fun hz => ⟨fun _ => ?_, fun e => absurd e (by simp)⟩) (fun hnz => ?_)⟩
  · have hL0 : L = 0 := by have := sgn_is0.1 hz; omega
    subst hL0
    rw [leastP_nil txF_zero] at hpe
    subst hpe
    refine ⟨_, _, _, _, bP.loadAAt 1 [.bool d1, .slice dp dn dc] rfl (by kernel_rfl) rfl, ?_⟩
    refine Ret.at (impl_IntSign_c rP.2 (enc_nat_ok hpB)) ?_
    rintro v w13 ⟨hv, y13⟩
    subst hv
    exact ⟨_, rfl, by rfl, x.trans y13⟩
  · have hL0 : L ≠ 0 := fun e => hnz (by subst e; rfl)
    have hp0 := leastP_pos hp.1 hL0
    unfold laws_FnLeast_j0
    refine ⟨_, _, _, _, _, bA.loadA0 (by kernel_rfl), _, _, _, _, _, bR.loadA0 (by kernel_rfl), _, _, _, _, _, bP.loadA0 (by kernel_rfl), ?_⟩
    have g1 := planT_it (c := curEUR) (n := N) (p := p) (L := L) (m := m) (t := t) (mode := mode) curEUR_known (by omega) (by omega) hpB (by omega) htax hmo
    have g2 := planT_it (c := curEUR) (n := N) (p := p - 1) (L := L) (m := m) (t := t) (mode := mode) curEUR_known (by omega) (by omega) (by omega) (by omega) htax hmo
    refine Ret.at (impl_Plan_c rA (mon_code _ _) rR (rate_code _ _) rP (mon_code _ _) N mode (ht.ext x)) ?_
    rintro v w13 ⟨p13, n13, c13, f13, hv, o13, k13, _, y13⟩
    subst hv
    rw [g1.1]
    have hd1 := g1.2 hL0
    rw [hp.1.1] at hd1
    have rA := rA.ext y13; have bA := bA.ext y13; have rR := rR.ext y13; have bR := bR.ext y13; have rP := rP.ext y13; have bP := bP.ext y13; have x := x.trans y13
    refine ⟨_, _, _, _, rfl, ?_⟩
    have ok1 : moneyOk (.str curEUR :: enc 1) = true := money_nat curEUR_known (L := 1) (by decide)
    refine Ret.at (impl_MoneyOf_c curEUR (n := 1) (by decide) (by decide) (ht.ext x)) ?_
    rintro v w14 ⟨vs14, f14, hv, o14, _, y14⟩
    subst hv
    have rO := o14.reps
    rw [moneyMk_ok ok1] at rO
    obtain ⟨e0, e1, ep, en, ec, ez, rfl, _, _⟩ := open_Money o14.reps (moneyMk_code _ _)
    have rA := rA.ext y14; have bA := bA.ext y14; have rR := rR.ext y14; have bR := bR.ext y14; have rP := rP.ext y14; have bP := bP.ext y14; have x := x.trans y14; have o13 := o13.rows.ext y14
    refine ⟨_, _, _, _, _, _, rfl, ?_⟩
    intro ro w15 hn15
    obtain ⟨w16, st16, bO, y16⟩ := hn15.fill (P := P) (t := T_impl_Money) rO.cells1 (by kernel_rfl) rfl
    have rA := rA.ext y16; have bA := bA.ext y16; have rR := rR.ext y16; have bR := bR.ext y16; have rP := rP.ext y16; have bP := bP.ext y16; have rO := rO.ext y16; have x := x.trans y16; have o13 := o13.ext y16
    refine ⟨w16, st16, _, _, _, _, _, bP.loadA0 (by kernel_rfl), _, _, _, _, _, bO.loadA0 (by kernel_rfl), ?_⟩
    have hsub : ((p : Int) - 1) = ((p - 1 : Nat) : Int) := by omega
    have ok2 := money_nat curEUR_known (L := p - 1) (by omega)
    refine Ret.at (impl_MoneySub_e (d := (p : Int)) (p := 1) rP rO (money_nat curEUR_known hpB) ok1 (ht.ext x)) ?_
    rintro v w17 ⟨vs17, f17, hv, o17, _, y17⟩
    subst hv
    have rM := o17.reps
    rw [hsub, moneyMk_ok ok2] at rM
    obtain ⟨g0, g1', gp, gn, gc, gz, rfl, _, _⟩ := open_Money o17.reps (moneyMk_code _ _)
    have rA := rA.ext y17; have bA := bA.ext y17; have rR := rR.ext y17; have bR := bR.ext y17; have rP := rP.ext y17; have bP := bP.ext y17; have x := x.trans y17; have o13 := o13.ext y17
    refine ⟨_, _, _, _, _, _, rfl, ?_⟩
    intro rm w18 hn18
    obtain ⟨w19, st19, bM, y19⟩ := hn18.fill (P := P) (t := T_impl_Money) rM.cells1 (by kernel_rfl) rfl
    have rA := rA.ext y19; have bA := bA.ext y19; have rR := rR.ext y19; have bR := bR.ext y19; have rP := rP.ext y19; have bP := bP.ext y19; have rM := rM.ext y19; have x := x.trans y19; have o13 := o13.ext y19
    refine ⟨w19, st19, _, _, _, _, _, bA.loadA0 (by kernel_rfl), _, _, _, _, _, bR.loadA0 (by kernel_rfl), _, _, _, _, _, bM.loadA0 (by kernel_rfl), ?_⟩
    refine Ret.at (impl_Plan_c rA (mon_code _ _) rR (rate_code _ _) rM (mon_code _ _) N mode (ht.ext x)) ?_
    rintro v w20 ⟨p20, n20, c20, f20, hv, o20, k20, _, y20⟩
    subst hv
    rw [g2.1]
    have hd2 := g2.2 hL0
    rw [decide_eq_false (hp.1.2 (p - 1) (by omega))] at hd2
    have rP := rP.ext y20; have bP := bP.ext y20; have x := x.trans y20; have o13 := o13.ext y20; have o20 := o20.rows
    refine ⟨_, _, _, _, rfl, fun _ => ?_, fun e => absurd e (by simp)⟩
    refine Ret.at (impl_PlanDone_c o13 k13) ?_
    rintro v w21 ⟨hv, y21⟩
    subst hv
    rw [hd1]
    have rP := rP.ext y21; have bP := bP.ext y21; have x := x.trans y21; have o20 := o20.ext y21
    refine ⟨_, rfl, fun _ => ?_, fun e => absurd e (by simp)⟩
    refine ⟨_, _, _, _, bP.loadAAt 1 [.bool d1, .slice dp dn dc] rfl (by kernel_rfl) rfl, ?_⟩
    refine Ret.at (impl_IntSign_c rP.2 (enc_nat_ok hpB)) ?_
    rintro v w22 ⟨hv, y22⟩
    subst hv
    have x := x.trans y22; have o20 := o20.ext y22
    refine ⟨_, rfl, ifD (fun _ => ⟨fun _ => ?_, fun e => absurd e (by simp)⟩) (fun hno => absurd (sgn_is1.2 (by omega)) hno)⟩
    refine Ret.at (impl_PlanDone_c o20 k20) ?_
    rintro v w23 ⟨hv, y23⟩
    subst hv
    rw [hd2]
    exact ⟨_, rfl, rfl, x.trans y23⟩
end Go.Proofs.YtbgokfhcgcoipaaDoor
namespace Go.Proofs.YtbgokfhcgcoipaaDoor
open Go Go.Proofs.YtbgokfhcgcoipaaDoor.Sx
def curData {H : Type} (r : CurRow) : DataW H := .agg [.lit (.string r.1.data.toList), .lit (.string r.2.1.data.toList), .lit (.int .i64 r.2.2.1), .lit (.int .i64 r.2.2.2)]
theorem bytes_eq {a b : ByteArray} (h : a.data.toList = b.data.toList) : a = b := by
  obtain ⟨⟨x⟩⟩ := a; obtain ⟨⟨y⟩⟩ := b
  simp at h; subst h; rfl
set_option maxRecDepth 100000 in
theorem cur_cells {H : Type} {enc : TypeId × Value -> H} {w : World} {sp : Nat -> Bool} {hd : Bool} {fuel : Nat} {cs : List Value} {r : CurRow} {p : List MemPlace}
    (h : DataW.trod enc P w 0 sp hd fuel T_impl_currency cs = some (curData r, p)) : cs = curCells r := by
  obtain ⟨fs, hu, hsz, ⟨f0, e0, t0, o0⟩, ⟨f1, e1, t1, o1⟩, ⟨f2, e2, t2, o2⟩, ⟨f3, e3, t3, o3⟩⟩ := cur_fields
  have hu : P.underlying T_impl_currency = some (.struct fs) := hu
  have hs : P.underlying T_string = some .string := by kernel_rfl
  have hi : P.underlying T_int = some (.int .i64) := by kernel_rfl
  have cS : P.cellsOf T_string = 1 := by kernel_rfl
  have cI : P.cellsOf T_int = 1 := by kernel_rfl
  have cC : P.cellsOf T_impl_currency = 4 := by kernel_rfl
  obtain ⟨xs, n, rfl, hx, hlen, hxl, hf⟩ := DataW.trod_struct hu h
  rw [cC] at hlen
  rw [hsz] at hxl
  have h0 := hf 0 f0 e0; have h1 := hf 1 f1 e1; have h2 := hf 2 f2 e2; have h3 := hf 3 f3 e3
  rw [t0, o0, cS] at h0; rw [t1, o1, cS] at h1; rw [t2, o2, cI] at h2; rw [t3, o3, cI] at h3
  match cs, hlen, xs, hxl, hx, h0, h1, h2, h3 with
  | [c0, c1, c2, c3], _, [x0, x1, x2, x3], _, hx, h0, h1, h2, h3 =>
    simp only [List.drop_succ_cons, List.drop_zero, List.take_succ_cons, List.take_zero, List.getElem?_cons_zero, List.getElem?_cons_succ] at h0 h1 h2 h3
    obtain ⟨s0, a0, b0, _⟩ := DataW.trod_string hs h0
    obtain ⟨s1, a1, b1, _⟩ := DataW.trod_string hs h1
    obtain ⟨z2, a2, b2, _⟩ := DataW.trod_int hi h2
    obtain ⟨z3, a3, b3, _⟩ := DataW.trod_int hi h3
    simp only [Prod.mk.injEq, curData, DataW.agg.injEq, List.map_cons, List.map_nil, List.cons.injEq, b0, b1, b2, b3, DataW.lit.injEq, Lit.string.injEq, Lit.int.injEq, true_and, and_true] at hx
    simp only [List.cons.injEq, and_true] at a0 a1 a2 a3
    obtain ⟨⟨q0, q1, q2, q3⟩, _⟩ := hx
    rw [a0, a1, a2, a3, <- bytes_eq q0, <- bytes_eq q1, <- q2, <- q3]
    rfl
theorem flat_of_rows : ∀ (l : List CurRow) (cs : List Value), cs.length = l.length * 4 -> (∀ i (hi : i < l.length), (cs.drop (i * 4)).take 4 = curCells (l[i]'hi)) -> cs = l.flatMap curCells
  | [], cs, h, _ => by simpa using h
  | r :: l, cs, h, hr => by
    have h0 := hr 0 (by simp)
    simp only [Nat.zero_mul, List.drop_zero, List.getElem_cons_zero] at h0
    rw [List.flatMap_cons, <- h0, <- flat_of_rows l (cs.drop 4) (by simp at h ⊢; omega) (fun i hi => by
      have := hr (i + 1) (by simpa using hi)
      rw [List.drop_drop, show 4 + i * 4 = (i + 1) * 4 by omega]
      simpa using this), List.take_append_drop]
def curVar : String := "loop.example/g00793/impl.currencies"
set_option maxRecDepth 100000 in
theorem tab_of_head {W : World} {rest : List (String × DataW Unit)} (h : laidMet P ((curVar, Rows.laid_loop_example_g00793_impl_currencies) :: rest) W) : Tab W := by
  obtain ⟨ps, ⟨g, t, cs, fuel, p, q, hg, ht, hvar, hd, _, _⟩, _⟩ := h
  have hg0 : P.globalNamed curVar = some 0 := by kernel_rfl
  have ht0 : (P.globals[0]?).map (·.type) = some T_20_impl_currency := by kernel_rfl
  obtain rfl := Option.some.inj (hg0.symm.trans hg)
  obtain rfl := Option.some.inj (ht0.symm.trans ht)
  have hu : P.underlying T_20_impl_currency = some (.array 20 T_impl_currency) := und_T_20_impl_currency
  have cC : P.cellsOf T_impl_currency = 4 := by kernel_rfl
  have cA : P.cellsOf T_20_impl_currency = 80 := by kernel_rfl
  obtain ⟨xs, m, rfl, hx, hlen, hxl, hf⟩ := DataW.trod_array hu hd
  rw [cA] at hlen
  have hdat : (Rows.laid_loop_example_g00793_impl_currencies : DataW Unit) = .agg (implTab.map curData) := by rfl
  rw [hdat] at hx
  simp only [Prod.mk.injEq, DataW.agg.injEq] at hx
  have hl := impl_length
  have hcs : cs.toList = implTab.flatMap curCells := by
    refine flat_of_rows implTab _ (by omega) fun i hi => ?_
    have h1 := hf i (by omega)
    rw [cC] at h1
    have h2 : (xs.map (·.1))[i]? = some (curData (implTab[i]'hi)) := by rw [<- hx.1]; simp [hi]
    rw [List.getElem?_map] at h2
    cases h3 : xs[i]? with
    | none => rw [h3] at h2; cases h2
    | some x =>
      rw [h3] at h1 h2
      simp only [Option.map_some, Option.some.injEq] at h2
      obtain ⟨d, pp⟩ := x
      simp only at h2
      subst h2
      exact cur_cells h1
  intro i v hv
  have := World.var?_cell hg0 hvar i
  rw [Nat.zero_add, this, <- hv, <- hcs]
  simp
theorem tab_of_laid {W : World} (h : laidMetH P [(curVar, Rows.laid_loop_example_g00793_impl_currencies)] W) : Tab W := tab_of_head (rest := []) h
noncomputable def laidWorld (os : Os) (args : Array Value) : World :=
  { World.holding P os ⟨#[], args, []⟩ with heap := (World.holding P os ⟨#[], args, []⟩).heap.modify 0 fun
      | .cells _ t frozen => .cells ⟨implTab.flatMap curCells⟩ t frozen
      | o => o }
theorem trodVars_one {H : Type} {enc : TypeId × Value -> H} {w : World} {sp : Nat -> Bool} {n : String} {gs : List (DataW H)} {ps : List MemPlace} (h : DataW.TrodVars enc P w sp [n] gs ps) : ∃ g, gs = [g] := by
  match gs, h with
  | [g], _ => exact ⟨g, rfl⟩
  | g :: g2 :: r, h =>
    obtain ⟨_, _, _, _, _, _, _, _, _, _, h2, _⟩ := h
    exact h2.elim
end Go.Proofs.YtbgokfhcgcoipaaDoor
