/-
  Parts of the proof of leastPay_holds: CLeastI, CDecLowO, SxFlS, CLeastS, CLeastPay, WLeastPay, SxRow, SxOpen, CTab.
  Conditions: none.
-/
import Derived.ProofKit
import Derived.Deep.Slices
import Derived.Test.YtfehpaekbbmkcaaGreatDoorRows
import Derived.OpenShut
import Derived.Lib.LaidTab
import Derived.Test.YtfehpaekbbmkcaaGreatDoorLp6
set_option linter.unusedVariables false
set_option linter.unusedSimpArgs false

namespace Go.Proofs.YtfehpaekbbmkcaaGreatDoor
open Go Go.Conc Go.Proofs.YtfehpaekbbmkcaaGreatDoor.Sx
def RdN (W : World) (r x : Nat) : Prop := ∃ b p n c, Blk W r T_impl_Signed [.bool b, .slice p n c] /\ IntsR W p n c (digs x)
theorem seg_uniq {W : World} {b o : Nat} : ∀ {xs ys : List Int}, Seg W b o (xs.map (Value.int .i64)) -> Seg W b o (ys.map (Value.int .i64)) -> xs.length = ys.length -> xs = ys := by
  intro xs ys h g hl
  apply List.ext_getElem hl
  intro i h1 h2
  have e1 := h i (.int .i64 xs[i]) (by simp [List.getElem?_eq_getElem h1])
  have e2 := g i (.int .i64 ys[i]) (by simp [List.getElem?_eq_getElem h2])
  rw [e1] at e2
  simpa using e2
theorem intsR_uniq {W : World} {p : Option Addr} {n c : Nat} {xs ys : List Int} (h : IntsR W p n c xs) (g : IntsR W p n c ys) : xs = ys := by
  by_cases hn : 0 < n
  · obtain ⟨b, o, hp, hs⟩ := h.2.2.2 hn
    obtain ⟨b2, o2, hp2, hs2⟩ := g.2.2.2 hn
    rw [hp] at hp2
    simp only [Option.some.injEq, Addr.mk.injEq, and_true] at hp2
    obtain ⟨rfl, rfl⟩ := hp2
    exact seg_uniq hs hs2 (by rw [h.1, g.1])
  · have e1 := h.1; have e2 := g.1
    rw [List.eq_nil_of_length_eq_zero (show xs.length = 0 by omega), List.eq_nil_of_length_eq_zero (show ys.length = 0 by omega)]
theorem RdN.uniq {W : World} {r x y : Nat} (h : RdN W r x) (g : RdN W r y) : x = y := by
  obtain ⟨b, p, n, c, hb, hi⟩ := h
  obtain ⟨b2, p2, n2, c2, hb2, hi2⟩ := g
  have e := hb.symm.trans hb2
  simp only [Option.some.injEq, Obj.cells.injEq, Array.mk.injEq, List.cons.injEq, Value.bool.injEq, Value.slice.injEq, and_true] at e
  obtain ⟨_, rfl, rfl, rfl⟩ := e
  have := intsR_uniq hi hi2
  have h2 : val (digs x) = val (digs y) := by rw [this]
  rw [val_digs, val_digs] at h2
  omega
theorem gap_ex (r3 r6 : Nat) : ∃ mu : World -> Nat, ∀ W lo hi, RdN W r3 lo -> RdN W r6 hi -> mu W = hi - lo := by
  classical
  refine ⟨fun W => if h : ∃ k, ∃ lo hi, RdN W r3 lo /\ RdN W r6 hi /\ k = hi - lo then h.choose else 0, fun W lo hi h1 h2 => ?_⟩
  have hx : ∃ k, ∃ lo hi, RdN W r3 lo /\ RdN W r6 hi /\ k = hi - lo := ⟨_, lo, hi, h1, h2, rfl⟩
  simp only [dif_pos hx]
  obtain ⟨lo', hi', k1, k2, e⟩ := hx.choose_spec
  rw [e, k1.uniq h1, k2.uniq h2]
theorem owns_nd {W : World} {B : Nat} {b : Bool} {p : Option Addr} {n c : Nat} {z : List Int} {f : List Nat} (h : Owns W B [.bool b, .slice p n c] [.bool b, .ints z] f) : f.Nodup := by
  obtain ⟨f1, f2, rfl, ⟨_, rfl⟩, f3, f4, rfl, ⟨p', n', c', e, _, rfl⟩, rfl⟩ := h
  simp only [List.nil_append, List.append_nil]
  exact nodup_opt p'
theorem own_nat {W : World} {B : Nat} {p : Option Addr} {n c x : Nat} (h : Sx.Own W B T_int 1 p n c ((digs x).map (Value.int .i64))) : Owns W B [.bool false, .slice p n c] (enc (x : Int)) (p.map (·.block)).toList := by
  rw [enc_nat]
  exact Owns.int2 h
theorem enc_open {W : World} {B : Nat} {vs : List Value} {x : Nat} {f : List Nat} (h : Owns W B vs (enc (x : Int)) f) : ∃ p n c, vs = [.bool false, .slice p n c] /\ IntsR W p n c (digs x) := by
  rw [enc_nat] at h
  obtain ⟨b, p, n, c, z, rfl, hd, hi⟩ := open_Signed h.reps rfl
  simp only [List.cons.injEq, D0.bool.injEq, D0.ints.injEq, and_true] at hd
  obtain ⟨rfl, rfl⟩ := hd
  exact ⟨p, n, c, rfl, hi⟩
theorem leastT_no {c : ByteArray} {b : Bool} {z : List Int} {b2 : Bool} {z2 : List Int} {s n m : Int} (h : leastOk [.str c, .bool b, .ints z] [.bool b2, .ints z2, .int s] n m = false) : leastT [.str c, .bool b, .ints z] [.bool b2, .ints z2, .int s] n m = (false, zeroMoney) := by
  rw [leastT_eq, h]; rfl
theorem impl_LeastPay_o {w : World} {xs ys : List Value} {dx dr : List D0} (h : Reps w xs dx) (hc : dx.map D0.code = [.str, .bool, .ints]) (g : Reps w ys dr) (gc : dr.map D0.code = [.bool, .ints, .int]) (n mode : Int) (ht : Tab w) :
    Ret P n_impl_LeastPay [.agg ⟨xs⟩, .agg ⟨ys⟩, .int .i64 n, .int .i64 mode] w fun v w' => ∃ vs f, v = .tuple #[.agg ⟨vs⟩, .bool (leastT dx dr n mode).1] /\ Owns w' w.heap.size vs (leastT dx dr n mode).2 f /\ f.Nodup /\ Ext w w' := by
  have hr := h; have gr := g
  obtain ⟨c0, b0, ap, an, ac, z0, rfl, rfl, ha⟩ := open_Money h hc
  obtain ⟨d0, dp', dn, dc, dz, ds, rfl, rfl, hd⟩ := open_Dec g gc
  refine impl_LeastPay_ret ?_
  unfold impl_LeastPay
  intro r w1 hn1 r1 w2 hn2 r2 w3 hn3
  have e1 := hn1.r_eq; have e2 := hn2.r_eq; have e3 := hn3.r_eq; have s1 := hn1.size; have s2 := hn2.size; have s3 := hn3.size
  have X := (hn1.ext.trans hn2.ext).trans hn3.ext
  have q0 := (hn1.blk.ext hn2.ext).ext hn3.ext; have q1 := hn2.blk.ext hn3.ext; have q2 := hn3.blk
  have zero : ∀ W, Ext w3 W -> leastOk [.str c0, .bool b0, .ints z0] [.bool d0, .ints dz, .int ds] n mode = false -> ∃ W', Stores P T_impl_Money ⟨r2, 0, none⟩ (.agg #[.string ByteArray.empty, .bool false, .slice none 0 0]) W W' /\ ∃ (x0 : ByteArray) (x1 : Bool) (x2p : Option Addr) (x2n x2c : Nat), Loads P T_impl_Money ⟨r2, 0, none⟩ (.agg #[.string x0, .bool x1, .slice x2p x2n x2c]) W' /\
      ∃ vs f, Value.tuple #[.agg #[.string x0, .bool x1, .slice x2p x2n x2c], .bool false] = .tuple #[.agg ⟨vs⟩, .bool (leastT [.str c0, .bool b0, .ints z0] [.bool d0, .ints dz, .int ds] n mode).1] /\ Owns W' w.heap.size vs (leastT [.str c0, .bool b0, .ints z0] [.bool d0, .ints dz, .int ds] n mode).2 f /\ f.Nodup /\ Ext w W' := by
    intro W hW hno
    obtain ⟨W', st, ld, ow, xx, _, _⟩ := agg_end (t := T_impl_Money) (q2.ext hW) (X.trans hW) (by omega) (own_money0 W (r2 + 1)) (by kernel_rfl) rfl (by omega) (by omega)
    rw [leastT_no hno]
    exact ⟨W', st, _, _, _, _, _, ld, _, [], rfl, ow, List.nodup_nil, xx⟩
  refine ⟨_, _, _, _, _, q0.loadA0 (by kernel_rfl), ?_⟩
  refine Ret.at (impl_MoneyOk_c (ht.ext X) (hr.ext X) rfl) ?_
  rintro v w4 ⟨hv, y4⟩
  subst hv
  refine ⟨_, rfl, ifN (fun hno => by
    (repeat refine ifT ?_)
    exact zero w4 y4 (by rw [leastOk_eq, hno]; rfl)) (fun hmk => ?_)⟩
  refine ⟨_, (q0.ext y4).loadAt 1 (by rw [addr_add, addr_add]) (by kernel_rfl) rfl, fun hneg => by
    (repeat refine ifT ?_)
    exact zero w4 y4 (by rw [leastOk_eq, hneg]; simp), fun hpos => ?_⟩
  have hz0 := ha.1
  refine ⟨_, _, _, (q0.ext y4).loadAt 2 (by rw [addr_add, addr_add]) (by kernel_rfl) rfl, ifD (fun hlen => by
    (repeat refine ifT ?_)
    exact zero w4 y4 (by rw [leastOk_eq, decide_eq_false (show ¬ z0.length <= 2 by omega)]; simp)) (fun hlen => ?_)⟩
  refine ⟨_, _, _, _, _, (q1.ext y4).loadA0 (by kernel_rfl), ?_⟩
  have X4 := X.trans y4
  refine Ret.at (impl_TaxRateOk_c (gr.ext X4) rfl) ?_
  rintro v w5 ⟨hv, y5⟩
  subst hv
  have Y5 := y4.trans y5
  refine ⟨_, rfl, ifN (fun hno => by
    (repeat refine ifT ?_)
    exact zero w5 Y5 (by rw [leastOk_eq, hno]; simp)) (fun htx => ?_)⟩
  refine ifD (fun hn1' => by
    (repeat refine ifT ?_)
    exact zero w5 Y5 (by rw [leastOk_eq, decide_eq_false (show ¬ (1 <= n /\ n <= 24) by omega)]; simp)) (fun hn1' => ifD (fun hn2' => by
    (repeat refine ifT ?_)
    exact zero w5 Y5 (by rw [leastOk_eq, decide_eq_false (show ¬ (1 <= n /\ n <= 24) by omega)]; simp)) (fun hn2' => ?_))
  refine Ret.at (impl_isMode_c mode w5) ?_
  rintro v w6 ⟨hv, hw⟩
  subst hv; subst hw
  refine ⟨_, rfl, ifN (fun hno => zero w6 Y5 (by rw [leastOk_eq, hno]; simp)) (fun hmo => ?_)⟩
  -- all is in order
  have hok : leastOk [.str c0, .bool b0, .ints z0] [.bool d0, .ints dz, .int ds] n mode = true := by
    rw [leastOk_eq, hmk, hpos, decide_eq_true (show z0.length <= 2 by omega), htx, decide_eq_true (show 1 <= n /\ n <= 24 by omega), hmo]; rfl
  have hlt : leastT [.str c0, .bool b0, .ints z0] [.bool d0, .ints dz, .int ds] n mode = (true, .str c0 :: enc ((leastP (txF (val dz).toNat ds.toNat mode) n.toNat (val z0).toNat : Nat) : Int)) := by
    rw [leastT_eq, hok]; rfl
  obtain ⟨m, t, rfl, rfl, rfl, ht30, em, et, hm9⟩ := taxOk_nn htx
  obtain ⟨N, rfl⟩ : ∃ N : Nat, n = N := ⟨n.toNat, by omega⟩
  subst hpos
  have hcur : curKnown c0 = true := by
    have h' : (curKnown c0 && intOk [.bool false, .ints z0] && decide (z0.length <= 4)) = true := hmk
    rw [Bool.and_eq_true, Bool.and_eq_true] at h'
    exact h'.1.1
  obtain ⟨henc, bb, zz, he, hcan, _⟩ := intOk_enc (moneyOk_int hmk)
  simp only [List.cons.injEq, D0.bool.injEq, D0.ints.injEq, and_true] at he
  obtain ⟨rfl, rfl⟩ := he
  obtain ⟨L, hLz⟩ : ∃ L : Nat, z0 = digs L := ⟨(val z0).toNat, (digs_val hcan).symm⟩
  subst hLz
  have hL : L < 1000000000000000000 := by
    have := val_lt (digs_limbs L)
    rw [val_digs] at this
    have h3 : (digs L).length = 0 ∨ (digs L).length = 1 ∨ (digs L).length = 2 := by omega
    rcases h3 with h3 | h3 | h3 <;> rw [h3] at this <;> omega
  rw [em, et, Int.toNat_natCast, val_digs, Int.toNat_natCast] at hlt
  have hmon : [D0.str c0, .bool false, .ints (digs L)] = .str c0 :: enc (L : Int) := by rw [enc_nat]
  have htle := txF_le (mode := mode) (taxOk_le htx) L
  generalize hT : txF m t mode = T at hlt htle
  have hTm : ∀ a b, a <= b -> T a <= T b := by rw [<- hT]; exact txF_mono
  have hT0 : T 0 = 0 := by rw [<- hT]; exact txF_zero
  rw [hlt]
  clear zero
  have X6 := X.trans Y5
  have l6 := Y5.le
  unfold impl_LeastPay_j0
  intro r3 w7 hn7
  have e7 := hn7.r_eq; have s7 := hn7.size
  obtain ⟨w8, st8, hb8, y8⟩ := hn7.fill (P := P) (t := T_impl_Signed) (xs := [.bool false, .slice none 0 0]) (by simp [Value.oneCell']) (by kernel_rfl) rfl
  have Y8 := Y5.trans y8
  have X8 := X.trans Y8
  have lr3 := hb8.lt
  refine ⟨w8, st8, _, _, _, _, _, (q0.ext Y8).loadA0 (by kernel_rfl), ?_⟩
  refine Ret.at (impl_isZero_c (hr.ext X8)) ?_
  rintro v w9 ⟨hv, y9⟩
  subst hv
  have hzM : (intOk [.bool false, .ints (digs L)] && decide (isign [.bool false, .ints (digs L)] = 0)) = decide (L = 0) := by
    have := zeroM_nat (c := c0) (L := L) (by omega)
    rw [enc_nat] at this
    exact this
  rw [hzM]
  have Y9 := Y8.trans y9
  have X9 := X.trans Y9
  refine ⟨_, rfl, fun hz => ?_, fun hnz => ?_⟩
  · -- nothing is left: nothing is to be paid
    have hL0 := of_decide_eq_true hz
    obtain ⟨W', st, ld, ow, xx, _, _⟩ := agg_end (t := T_impl_Money) (xs := [.string c0, .bool false, .slice none 0 0]) (d := .str c0 :: enc ((0 : Nat) : Int)) (f := []) (q2.ext Y9) X9 (by omega) (Owns.append (Owns.str _ (r2 + 1) c0) (own_nat (x := 0) (by rw [digs_zero]; exact Own.nil _ _ _ _))) (by kernel_rfl) rfl (by omega) (by omega)
    have hle0 : leastP T N L = 0 := by
      refine leastP_eq ⟨?_, fun q hq => by omega⟩ (by omega)
      rw [hL0]; exact it_zero hT0 _ _
    rw [hle0]
    exact ⟨_, (q0.ext Y9).loadAt 0 (by rw [addr_add]) (by kernel_rfl) rfl, _, _, _, _, (hb8.ext y9).loadA0 (by kernel_rfl), W', st, _, _, _, _, _, ld, _, [], rfl, ow, List.nodup_nil, xx⟩
  have hL0 := of_decide_eq_false hnz
  refine ⟨_, _, _, _, _, (q0.ext Y9).loadA0 (by kernel_rfl), _, _, _, _, _, (q1.ext Y9).loadA0 (by kernel_rfl), ?_⟩
  refine Ret.at (impl_TaxOn_o (hr.ext X9) (gr.ext X9) rfl rfl mode (ht.ext X9)) ?_
  rintro v w10 ⟨vs0, f0, vs1, f1, hv, o0, nd0, o1, nd1, _, y10⟩
  subst hv
  have htax := taxOn_tx (c := c0) (L := L) (mode := mode) hcur (by omega) htx hmo
  rw [<- hmon, hT] at htax
  rw [htax.2] at o0
  rw [htax.1]
  have o0l := o0.lt
  obtain ⟨i0, i1, ip, in_, ic, iz, rfl, hid, hii⟩ := open_Money o0.reps rfl
  have o1r := o1.reps
  obtain ⟨j0, jp, jn, jc, jz, kp, kn, kc, kz, rfl, hjd, hj1, hj2⟩ := open_Rat o1r (taxOnT_facts _ _ _).2.2.1
  refine ⟨_, _, _, _, _, _, _, _, _, _, _, _, _, rfl, ?_⟩
  intro r4 w11 hn11 r5 w12 hn12
  have e11 := hn11.r_eq; have e12 := hn12.r_eq; have s11 := hn11.size; have s12 := hn12.size
  have l10 := y10.le
  obtain ⟨w13, st13, hb13, cg13, sz13⟩ := (hn11.blk.ext hn12.ext).storeA0 (P := P) (t := T_impl_Money) (xs := [.string i0, .bool i1, .slice ip in_ ic]) (by kernel_rfl) rfl (by simp [Value.oneCell'])
  obtain ⟨w14, st14, hb14, cg14, sz14⟩ := (hn12.blk.chg cg13 (by simp; omega)).storeA0 (P := P) (t := T_impl_Rat) (xs := [.bool j0, .slice jp jn jc, .slice kp kn kc]) (by kernel_rfl) rfl (by simp [Value.oneCell'])
  have Z14 : Ext w10 w14 := ((hn11.ext.trans hn12.ext).chg cg13 (by simp; omega)).chg cg14 (by simp; omega)
  have Y14 := (Y9.trans y10).trans Z14
  have X14 := X.trans Y14
  refine ⟨w13, st13, w14, st14, ifN (fun hno => by cases hno) (fun _ => ?_)⟩
  have hb4 := hb13.chg cg14 (by simp; omega)
  refine ⟨_, _, _, _, (q0.ext Y14).loadAAt 1 [.bool false, .slice ap an ac] (by rw [addr_add]) (by kernel_rfl) rfl, _, _, _, _, hb4.loadAAt 1 [.bool i1, .slice ip in_ ic] (by rw [addr_add]) (by kernel_rfl) rfl, ?_⟩
  have hu : Reps w14 [.bool false, .slice ap an ac] (enc (L : Int)) := by rw [enc_nat]; exact (hr.ext X14).2
  have hi14 : Reps w14 [.bool i1, .slice ip in_ ic] (enc ((T L : Nat) : Int)) := (o0.reps.ext Z14).2
  refine Ret.at (impl_intAdd_n hu hi14 (by omega) (by omega)) ?_
  rintro v w15 ⟨vsH, fH, hv, oH, ndH, y15⟩
  subst hv
  have hsum : ((L : Int) + ((T L : Nat) : Int)) = ((L + T L : Nat) : Int) := by omega
  rw [hsum] at oH
  obtain ⟨hp0, hn0, hc0, rfl, hHi⟩ := enc_open oH
  refine ⟨_, _, _, _, rfl, ?_⟩
  intro r6 w16 hn16
  have e16 := hn16.r_eq
  obtain ⟨w17, st17, hb17, y17⟩ := hn16.fill (P := P) (t := T_impl_Signed) (xs := [.bool false, .slice hp0 hn0 hc0]) (by simp [Value.oneCell']) (by kernel_rfl) rfl
  have l14 := Z14.le; have l15 := y15.le; have l9 := y9.le
  have Y17 := (Y14.trans y15).trans y17
  have X17 := X.trans Y17
  have lr6 := hb17.lt
  have oHl := oH.lt
  obtain ⟨mu, hmu⟩ := gap_ex r3 r6
  have hb817 : Blk w17 r3 T_impl_Signed [.bool false, .slice none 0 0] := hb8.ext ((((y9.trans y10).trans Z14).trans y15).trans y17)
  have lw := X9.le
  refine ⟨w17, st17, fun W => ∃ (lo hi : Nat) (pl : Option Addr) (nl cl : Nat) (ph : Option Addr) (nh ch : Nat) (fl fh : List Nat), Blk W r3 T_impl_Signed [.bool false, .slice pl nl cl] /\ Owns W w.heap.size [.bool false, .slice pl nl cl] (enc (lo : Int)) fl /\ (∀ q ∈ fl, q ≠ r3 /\ q ≠ r6) /\
      Blk W r6 T_impl_Signed [.bool false, .slice ph nh ch] /\ Owns W w.heap.size [.bool false, .slice ph nh ch] (enc (hi : Int)) fh /\ (∀ q ∈ fh, q ≠ r3 /\ q ≠ r6 /\ r2 < q) /\ lo <= hi /\ hi <= L + T L /\ it T N hi L = 0 /\ (lo = 0 ∨ 0 < lo /\ it T N (lo - 1) L ≠ 0) /\
      Blk W r T_impl_Money [.string c0, .bool false, .slice ap an ac] /\ Blk W r1 T_impl_Dec [.bool false, .slice dp' dn dc, .int .i64 (t : Int)] /\ Blk W r2 T_impl_Money [.string ByteArray.empty, .bool false, .slice none 0 0] /\ Ext w W, mu,
    ⟨0, L + T L, none, 0, 0, hp0, hn0, hc0, [], fH, hb817, own_nat (x := 0) (by rw [digs_zero]; exact Own.nil _ _ _ _), by simp, hb17, (oH.ext y17).mono (by omega), fun q hq => by have := oHl q hq; omega, by omega, by omega, it_top hT0 (by omega) (Nat.le_refl _), .inl rfl, q0.ext Y17, q1.ext Y17, q2.ext Y17, X17⟩, ?_⟩
  rintro junk W ⟨lo, hi, pl, nl, cl, ph, nh, ch, fl, fh, hbl, ol, hfl, hbh, oh, hfh, hlh, hhi, hith, hitl, k0, k1, k2, hX⟩
  have hrl : RdN W r3 lo := by
    have := ol.reps; rw [enc_nat] at this
    obtain ⟨_, _, _, e, hi'⟩ := this.2.1
    cases e
    exact ⟨_, _, _, _, hbl, hi'⟩
  have hrh : RdN W r6 hi := by
    have := oh.reps; rw [enc_nat] at this
    obtain ⟨_, _, _, e, hi'⟩ := this.2.1
    cases e
    exact ⟨_, _, _, _, hbh, hi'⟩
  have hmuW := hmu W lo hi hrl hrh
  have dlo : (digs ((lo : Int)).natAbs).length <= 6 := by rw [Int.natAbs_natCast]; exact digs_len_le (by omega)
  have dhi : (digs ((hi : Int)).natAbs).length <= 6 := by rw [Int.natAbs_natCast]; exact digs_len_le (by omega)
  refine ⟨_, _, _, _, hbl.loadA0 (by kernel_rfl), _, _, _, _, hbh.loadA0 (by kernel_rfl), ?_⟩
  refine Ret.at (impl_intCmp_c ol.reps oh.reps (by omega) (by omega)) ?_
  rintro v W1 ⟨hv, y1⟩
  subst hv
  have XW1 := hX.trans y1
  refine ⟨_, rfl, ifD (fun hlt' => ?_) (fun hge' => ?_)⟩
  · have hltn : lo < hi := by have := sgn_neg.1 hlt'; omega
    refine ⟨_, _, _, (hbl.ext y1).loadAt 1 (by rw [addr_add]) (by kernel_rfl) rfl, _, _, _, (hbh.ext y1).loadAt 1 (by rw [addr_add]) (by kernel_rfl) rfl, ?_⟩
    have il : IntsR W1 pl nl cl (digs lo) := by
      have := (ol.ext y1).reps; rw [enc_nat] at this
      obtain ⟨_, _, _, e, hi'⟩ := this.2.1
      cases e; exact hi'
    have ih : IntsR W1 ph nh ch (digs hi) := by
      have := (oh.ext y1).reps; rw [enc_nat] at this
      obtain ⟨_, _, _, e, hi'⟩ := this.2.1
      cases e; exact hi'
    rw [Int.natAbs_natCast] at dlo dhi
    have il1 := il.1; have ih1 := ih.1
    refine Ret.at (impl_natAdd_c il ih (digs_limbs _) (digs_limbs _) (by omega) (by omega)) ?_
    rintro v W2 ⟨ps, ns, cs, hv, os, y2⟩
    subst hv
    rw [val_add'] at os
    refine ⟨_, _, _, rfl, ?_⟩
    have is := os.ints
    have is1 := is.1
    have dsum : (digs (lo + hi)).length <= 6 := digs_len_le (by omega)
    refine Ret.at (impl_natSmall_c is (digs_limbs _) (by omega) (by omega)) ?_
    rintro v W3 ⟨pm, nm, cm, hv, om, y3⟩
    subst hv
    obtain ⟨mid, hmid⟩ : ∃ x : Nat, x = (lo + hi) / 2 := ⟨_, rfl⟩
    have hdiv : (val (digs (lo + hi)) / 2).toNat = mid := by rw [val_digs]; omega
    rw [hdiv] at om
    refine ⟨_, _, _, _, rfl, ?_⟩
    intro r7 W4 hn4
    have e4 := hn4.r_eq
    obtain ⟨W5, st5, hb5, y5'⟩ := hn4.fill (P := P) (t := T_impl_Signed) (xs := [.bool false, .slice pm nm cm]) (by simp [Value.oneCell']) (by kernel_rfl) rfl
    have Y5' := ((y1.trans y2).trans y3).trans y5'
    have XW5 := hX.trans Y5'
    have l1 := y1.le; have l2 := y2.le; have l3 := y3.le; have l5 := y5'.le
    have omo := own_nat (om.ext y5')
    have oml := omo.lt
    have bl := hbl.lt; have bh := hbh.lt; have bk2 := k2.lt; have bk0 := k0.lt; have bk1 := k1.lt
    refine ⟨W5, st5, _, _, _, _, _, (k0.ext Y5').loadA0 (by kernel_rfl), _, _, _, _, _, (k1.ext Y5').loadA0 (by kernel_rfl), _, (k0.ext Y5').loadAt 0 (by rw [addr_add]) (by kernel_rfl) rfl, _, _, _, _, hb5.loadA0 (by kernel_rfl), ?_⟩
    have hpay : Reps W5 [.string c0, .bool false, .slice pm nm cm] (.str c0 :: enc (mid : Int)) := ⟨rfl, omo.reps⟩
    have hr5 := hr.ext XW5
    rw [hmon] at hr5
    refine Ret.at (impl_Plan_c hr5 rfl (gr.ext XW5) rfl hpay rfl N mode (ht.ext XW5)) ?_
    rintro v W6 ⟨pr, nr, cr, fr, hv, orr, hcr, _, y6⟩
    subst hv
    obtain ⟨hp1, hp2⟩ := planT_it (c := c0) (n := N) (p := mid) (L := L) (m := m) (t := t) (mode := mode) hcur (by omega) (by omega) (by omega) (by omega) htx hmo
    rw [hp1]
    have hp2 := hp2 hL0
    rw [hT] at hp2
    refine ⟨_, _, _, _, rfl, ifT ?_⟩
    refine Ret.at (impl_PlanDone_c orr.rows hcr) ?_
    rintro v W7 ⟨hv, y7⟩
    subst hv
    rw [hp2]
    have Y7 := (y6.trans y7)
    have YY7 := Y5'.trans Y7
    have XW7 := hX.trans YY7
    have l7 := Y7.le
    refine ⟨_, rfl, ifD (fun hdo => ?_) (fun hdo => ?_)⟩
    · obtain ⟨W8, st8', hb8', cg8, sz8⟩ := (hbh.ext YY7).storeA0 (P := P) (t := T_impl_Signed) (xs := [.bool false, .slice pm nm cm]) (by kernel_rfl) rfl (by simp [Value.oneCell'])
      have o8 : Owns W8 w.heap.size [.bool false, .slice pm nm cm] (enc (mid : Int)) _ := ((omo.ext Y7).mono (B' := w.heap.size) (by have := XW1.le; omega)).chg cg8 (fun q hq => by have := oml q hq; simp; omega)
      have ol8 := (ol.ext YY7).chg cg8 (fun q hq => by have := hfl q hq; simp; omega)
      have bl8 := (hbl.ext YY7).chg cg8 (by simp; omega)
      refine ⟨_, _, _, _, (hb5.ext Y7).loadA0 (by kernel_rfl), W8, st8', ⟨lo, mid, pl, nl, cl, pm, nm, cm, fl, _, bl8, ol8, hfl, hb8', o8, fun q hq => by have := oml q hq; omega, by omega, by omega, hdo, hitl, (k0.ext YY7).chg cg8 (by simp; omega), (k1.ext YY7).chg cg8 (by simp; omega), (k2.ext YY7).chg cg8 (by simp; omega), XW7.chg cg8 (by simp; omega)⟩, ?_⟩
      have hrl8 : RdN W8 r3 lo := by
        have := ol8.reps; rw [enc_nat] at this
        obtain ⟨_, _, _, e, hi'⟩ := this.2.1
        cases e; exact ⟨_, _, _, _, bl8, hi'⟩
      have hrh8 : RdN W8 r6 mid := by
        have := o8.reps; rw [enc_nat] at this
        obtain ⟨_, _, _, e, hi'⟩ := this.2.1
        cases e; exact ⟨_, _, _, _, hb8', hi'⟩
      rw [hmu W8 lo mid hrl8 hrh8, hmuW]; omega
    · have D := Ext.drew W7
      have hb5d := (hb5.ext Y7).ext D
      refine ⟨_, _, _, _, fun W hW => (hb5d.ext hW).loadA0 (by kernel_rfl), ?_⟩
      refine Ret.at (impl_IntOf_c (by omega) (by omega)) ?_
      rintro v W8 ⟨vs8, f8, hv, o8, nd8, y8'⟩
      subst hv
      obtain ⟨p8, n8, c8, rfl, hi8⟩ := enc_open (x := 1) o8
      refine ⟨_, _, _, _, rfl, y8', ?_⟩
      have hm8 : Reps W8 [.bool false, .slice pm nm cm] (enc (mid : Int)) := (omo.ext ((Y7.trans D).trans y8')).reps
      refine Ret.at (impl_intAdd_n hm8 o8.reps (by omega) (by omega)) ?_
      rintro v W9 ⟨vs9, f9, hv, o9, nd9, y9'⟩
      subst hv
      have hs9 : ((mid : Int) + 1) = ((mid + 1 : Nat) : Int) := by omega
      rw [hs9] at o9
      obtain ⟨p9, n9, c9, rfl, hi9⟩ := enc_open o9
      have o9l := o9.lt
      have l8 := D.le; have l8' := y8'.le
      have YY9 := ((YY7.trans D).trans y8').trans y9'
      have XW9 := hX.trans YY9
      obtain ⟨W10, st10, hb10, cg10, sz10⟩ := (hbl.ext YY9).storeA0 (P := P) (t := T_impl_Signed) (xs := [.bool false, .slice p9 n9 c9]) (by kernel_rfl) rfl (by simp [Value.oneCell'])
      have o10 := (o9.mono (B' := w.heap.size) (by have := XW1.le; omega)).chg cg10 (fun q hq => by have := o9l q hq; simp; omega)
      have oh10 := (oh.ext YY9).chg cg10 (fun q hq => by have := hfh q hq; simp; omega)
      have bh10 := (hbh.ext YY9).chg cg10 (by simp; omega)
      refine ⟨_, _, _, _, rfl, W10, st10, ⟨mid + 1, hi, p9, n9, c9, ph, nh, ch, f9, fh, hb10, o10, fun q hq => by have := o9l q hq; omega, bh10, oh10, hfh, by omega, hhi, hith, .inr ⟨by omega, by rw [Nat.add_sub_cancel]; exact hdo⟩, (k0.ext YY9).chg cg10 (by simp; omega), (k1.ext YY9).chg cg10 (by simp; omega), (k2.ext YY9).chg cg10 (by simp; omega), XW9.chg cg10 (by simp; omega)⟩, ?_⟩
      have hrl8 : RdN W10 r3 (mid + 1) := by
        have := o10.reps; rw [enc_nat] at this
        obtain ⟨_, _, _, e, hi'⟩ := this.2.1
        cases e; exact ⟨_, _, _, _, hb10, hi'⟩
      have hrh8 : RdN W10 r6 hi := by
        have := oh10.reps; rw [enc_nat] at this
        obtain ⟨_, _, _, e, hi'⟩ := this.2.1
        cases e; exact ⟨_, _, _, _, bh10, hi'⟩
      rw [hmu W10 (mid + 1) hi hrl8 hrh8, hmuW]; omega
  · have heq : lo = hi := by
      have h1 : ¬ ((lo : Int) - hi < 0) := fun hh => hge' (sgn_neg.2 hh)
      omega
    have hres : leastP T N L = hi := leastP_eq (IsLeast.of_search hTm hith (by rw [<- heq]; exact hitl)) hhi
    obtain ⟨W2, st2, hb2, cg2, sz2⟩ := (k2.ext y1).storeA0 (P := P) (t := T_impl_Money) (xs := [.string c0, .bool false, .slice ph nh ch]) (by kernel_rfl) rfl (by simp [Value.oneCell'])
    have o2 := (oh.ext y1).chg cg2 (fun q hq => by have := hfh q hq; simp; omega)
    rw [hres]
    refine ⟨_, (k0.ext y1).loadAt 0 (by rw [addr_add]) (by kernel_rfl) rfl, _, _, _, _, (hbh.ext y1).loadA0 (by kernel_rfl), W2, st2, _, _, _, _, _, hb2.loadA0 (by kernel_rfl), _, fh, rfl, ?_, ?_, XW1.chg cg2 (by simp; omega)⟩
    · have := Owns.append (Owns.str W2 w.heap.size c0) o2
      simpa using this
    · rw [enc_nat] at o2; exact owns_nd o2
end Go.Proofs.YtfehpaekbbmkcaaGreatDoor
namespace Go.Proofs.YtfehpaekbbmkcaaGreatDoor
open Go Go.Proofs.YtfehpaekbbmkcaaGreatDoor.Sx
theorem spec_NatDiv_o {w : World} {p q : Option Addr} {n c n2 c2 x y : Nat} (h : IntsR w p n c (digs x)) (g : IntsR w q n2 c2 (digs y)) (hx : n <= 50) (hy : n2 <= 50) (hy0 : 0 < y) :
    Ret P n_spec_NatDiv [.slice p n c, .slice q n2 c2] w fun v w' => ∃ p1 m1 c1 p2 m2 c2, v = .tuple #[.slice p1 m1 c1, .slice p2 m2 c2] /\ Own w' w.heap.size T_int 1 p1 m1 c1 ((digs (x / y)).map (Value.int .i64)) /\ IntsR w' p2 m2 c2 (digs (x % y)) /\ Ext w w' := by
  have l1 := h.1; have l2 := g.1
  have l3 : 0 < (digs y).length := digs_pos_len.2 (by omega)
  refine spec_NatDiv_ret ?_
  unfold spec_NatDiv
  refine Ret.at (spec_NatOk_c h) ?_
  rintro v w1 ⟨hv, y1⟩
  subst hv
  rw [natOk_spec.2 ⟨digs_canon x, by omega⟩]
  refine ⟨_, rfl, ifN (fun hh => absurd hh (by simp)) (fun _ => ?_)⟩
  refine Ret.at (spec_NatOk_c (g.ext y1)) ?_
  rintro v w2 ⟨hv, y2⟩
  subst hv
  rw [natOk_spec.2 ⟨digs_canon y, by omega⟩]
  refine ⟨_, rfl, ifN (fun hh => absurd hh (by simp)) (fun _ => ifD (fun hh => absurd hh (by omega)) (fun _ => ?_))⟩
  have X := y1.trans y2
  refine Ret.at (spec_l03Div_o (h.ext X) (g.ext X) (digs_limbs x) (digs_canon y) (by omega) (by omega) (by omega)) ?_
  rintro v w3 ⟨p1, m1, c1, p2, m2, c2, hv, i1, i2, y3⟩
  subst hv
  rw [val_div] at i1
  rw [val_mod] at i2
  exact ⟨_, _, _, _, _, _, rfl, _, _, _, _, _, _, rfl, i1.mono X.le, i2, X.trans y3⟩
end Go.Proofs.YtfehpaekbbmkcaaGreatDoor
namespace Go.Proofs.YtfehpaekbbmkcaaGreatDoor.Sx
open Go Go.RowKit
theorem Fl.trans {os : List Obj} {ss : List (Option Nat)} {w : World} {s1 : List (Option Nat)} {w1 : World} {s2 : List (Option Nat)} {w2 : World} (h : Fl os ss w s1 w1) (g : Fl os s1 w1 s2 w2) : Fl os ss w s2 w2 := by
  induction h with
  | refl => exact g
  | step h1 h2 _ ih => exact .step h1 h2 (ih g)
theorem Fl.old {os : List Obj} {ss : List (Option Nat)} {w : World} {s1 : List (Option Nat)} {w1 : World} (h : Fl os ss w s1 w1) {k r : Nat} (hk : s1[k]? = some (some r)) : ss[k]? = some (some r) ∨ w.heap.size <= r := by
  induction h with
  | refl => exact .inl hk
  | step h1 h2 h3 ih =>
    rename_i ss w k' o s' w'
    have hs : (w.alloc o).heap.size = w.heap.size + 1 := by simp
    rcases ih hk with h | h
    · by_cases e : k' = k
      · subst e
        have hl : k' < ss.length := by
          rcases Nat.lt_or_ge k' ss.length with h | h
          · exact h
          · rw [List.getElem?_eq_none h] at h1; cases h1
        rw [List.getElem?_set_self hl] at h
        simp at h
        exact .inr (by omega)
      · rw [List.getElem?_set_ne e] at h
        exact .inl h
    · exact .inr (by omega)
def FlS (os : List Obj) (w0 : World) (ss : List (Option Nat)) (w : World) : Prop :=
 Ext w0 w /\ (∀ (k r : Nat), ss[k]? = some (some r) -> w0.heap.size <= r /\ r < w.heap.size /\ w.heap[r]? = os[k]?) /\ (∀ (k l r : Nat), ss[k]? = some (some r) -> ss[l]? = some (some r) -> k = l)
theorem FlS.ext {os : List Obj} {w0 w w' : World} {ss : List (Option Nat)} (h : FlS os w0 ss w) (y : Ext w w') : FlS os w0 ss w' :=
  ⟨h.1.trans y, fun k r hk => by
    obtain ⟨a, b, c⟩ := h.2.1 k r hk
    exact ⟨a, Nat.lt_of_lt_of_le b y.le, (y.block r b).trans c⟩, h.2.2⟩
theorem FlS.step {os : List Obj} {w0 w w' : World} {ss ss' : List (Option Nat)} (h : FlS os w0 ss w) (f : Fl os ss w ss' w') : FlS os w0 ss' w' := by
  induction f with
  | refl => exact h
  | step h1 h2 h3 ih =>
    rename_i ss w k' o s' w'
    refine ih ?_
    have y : Ext w (w.alloc o) := (Below.refl _ _).alloc (Nat.le_refl _) _
    have hs : (w.alloc o).heap.size = w.heap.size + 1 := by simp
    have hg : (w.alloc o).heap[w.heap.size]? = some o := heap_alloc_new w _
    have hl : k' < ss.length := by
      rcases Nat.lt_or_ge k' ss.length with h | h
      · exact h
      · rw [List.getElem?_eq_none h] at h1; cases h1
    have hx := h.ext y
    have hle := h.1.le
    refine ⟨hx.1, fun k r hk => ?_, fun k l r hk hl' => ?_⟩
    · by_cases e : k' = k
      · subst e
        rw [List.getElem?_set_self hl] at hk
        simp at hk
        subst hk
        exact ⟨hle, by omega, hg.trans h2.symm⟩
      · rw [List.getElem?_set_ne e] at hk
        exact hx.2.1 k r hk
    · by_cases e : k' = k
      · by_cases e2 : k' = l
        · omega
        · subst e
          rw [List.getElem?_set_self hl] at hk
          simp at hk
          subst hk
          rw [List.getElem?_set_ne e2] at hl'
          have := (h.2.1 l _ hl').2.1
          omega
      · rw [List.getElem?_set_ne e] at hk
        by_cases e2 : k' = l
        · subst e2
          rw [List.getElem?_set_self hl] at hl'
          simp at hl'
          subst hl'
          have := (h.2.1 k _ hk).2.1
          omega
        · rw [List.getElem?_set_ne e2] at hl'
          exact h.2.2 k l r hk hl'
theorem FlS.first {os : List Obj} {w0 w : World} {ss0 ss : List (Option Nat)} (f : Fl os ss0 w0 ss w) (h : ss0.all Option.isNone = true) : FlS os w0 ss w := by
  refine FlS.step ⟨Ext.refl _, fun k r hk => ?_, fun k l r hk _ => ?_⟩ f <;>
  · have hm := List.mem_of_getElem? hk
    have := List.all_eq_true.1 h _ hm
    simp at this
theorem FlS.blk {os : List Obj} {w0 w : World} {ss : List (Option Nat)} {k r : Nat} {cs : List Value} {e : TypeId} (h : FlS os w0 ss w) (hk : ss[k]? = some (some r)) (ho : os[k]? = some (.cells ⟨cs⟩ e (0, 0))) : w0.heap.size <= r /\ r < w.heap.size /\ Blk w r e cs := by
  obtain ⟨a, b, c⟩ := h.2.1 k r hk
  exact ⟨a, b, c.trans ho⟩
theorem FlS.ne {os : List Obj} {w0 w : World} {ss : List (Option Nat)} {k l r s : Nat} (h : FlS os w0 ss w) (hk : ss[k]? = some (some r)) (hl : ss[l]? = some (some s)) (e : k ≠ l) : r ≠ s := fun hh => e (h.2.2 k l r hk (hh ▸ hl))
theorem FlS.apart {os : List Obj} {w0 wc we w' : World} {ss ss' : List (Option Nat)} {k r : Nat} (h : FlS os w0 ss wc) (f : Fl os ss we ss' w') (hk : ss'[k]? = some (some r)) : r < wc.heap.size ∨ we.heap.size <= r := by
  rcases f.old hk with a | a
  · exact .inl (h.2.1 k r a).2.1
  · exact .inr a
end Go.Proofs.YtfehpaekbbmkcaaGreatDoor.Sx
namespace Go.Proofs.YtfehpaekbbmkcaaGreatDoor
open Go Go.Conc Go.Proofs.YtfehpaekbbmkcaaGreatDoor.Sx
theorem planT_none {c : ByteArray} {n : Int} {dr dp : List D0} {m : Int} : (planT n (.str c :: enc ((0 : Nat) : Int)) dr dp m).2 = [] := by
  unfold planT
  have : perL n.toNat (.str c :: enc ((0 : Nat) : Int)) dr dp m = [] := by
    cases n.toNat with
    | zero => rfl
    | succ k => rw [perL_succ, zeroM_nat (by omega)]; rfl
  rw [this]
  split <;> rfl
theorem digs_two : digs 2 = [2] := by rw [digs_pos (by omega), show 2 / 1000000000 = 0 from rfl, digs_zero]; rfl
theorem capL_fit {n : Nat} (h : (digs n).length <= 50) : capL (digs n) = digs n := if_pos h
theorem enc_nat_ok {x : Nat} (h : x < 1000000000000000000000000000000000000) : intOk (enc (x : Int)) = true := enc_ok (by
  have : (digs (x : Int).natAbs).length <= 4 := by rw [Int.natAbs_natCast]; exact digs_len 4 (by omega)
  omega)
theorem spec_l15Does_c {w : World} {c : ByteArray} {b : Bool} {p : Option Addr} {n' c' : Nat} {xs ys : List Value} {L N q m t : Nat} {mode : Int} (h : Reps w xs (.str c :: enc (L : Int))) (g : Reps w ys [.bool false, .ints (digs m), .int (t : Int)]) (k : Reps w [.bool b, .slice p n' c'] (enc (q : Int)))
    (hcur : curKnown c = true) (hN : 1 <= N) (hN2 : N <= 24) (hq : q < 1000000000000000000000000000000000000) (hL : L < 1000000000000000000000000000) (htx : taxOk [.bool false, .ints (digs m), .int (t : Int)] = true) (hmo : modeOk mode = true) :
    Ret P n_spec_l15Does [.agg ⟨xs⟩, .agg ⟨ys⟩, .agg ⟨[.bool b, .slice p n' c']⟩, .int .i64 N, .int .i64 mode] w fun v w' => v = .bool (decide (it (txF m t mode) N q L = 0)) /\ Ext w w' := by
  have hr := h; have gr := g; have kr := k
  obtain ⟨c0, b0, ap, an, ac, z0, rfl, hdx, ha⟩ := open_Money h rfl
  simp only [enc, List.cons.injEq, D0.str.injEq, D0.bool.injEq, D0.ints.injEq, and_true] at hdx
  obtain ⟨rfl, hb0, hz0⟩ := hdx
  obtain ⟨d0, dp', dn, dc, dz, ds, rfl, hdr, hd⟩ := open_Dec g rfl
  refine spec_l15Does_ret ?_
  unfold spec_l15Does
  intro r w1 hn1 r1 w2 hn2 r2 w3 hn3
  have X := (hn1.ext.trans hn2.ext).trans hn3.ext
  have q0 := (hn1.blk.ext hn2.ext).ext hn3.ext; have q1 := hn2.blk.ext hn3.ext; have q2 := hn3.blk
  refine ⟨_, _, _, _, _, q0.loadA0 (by kernel_rfl), _, _, _, _, _, q1.loadA0 (by kernel_rfl), _, q0.loadAt 0 (by rw [addr_add]) (by kernel_rfl) rfl, _, _, _, _, q2.loadA0 (by kernel_rfl), ?_⟩
  have hpay : Reps w3 [.string c, .bool b, .slice p n' c'] (.str c :: enc (q : Int)) := ⟨rfl, kr.ext X⟩
  refine Ret.at (spec_Plan_o (hr.ext X) rfl (gr.ext X) rfl hpay rfl N mode) ?_
  rintro v w4 ⟨pr, nr, cr, fr, hv, orr, y4⟩
  subst hv
  obtain ⟨hp1, hp2⟩ := planT_it (c := c) (n := N) (p := q) (L := L) (m := m) (t := t) (mode := mode) hcur hN hN2 hq hL htx hmo
  rw [hp1]
  refine ⟨_, _, _, _, rfl, ifT ?_⟩
  refine Ret.at (spec_PlanDone_c orr.rows (planT_code _ _ _ _ _)) ?_
  rintro v w5 ⟨hv, y5⟩
  subst hv
  have Y5 := y4.trans y5
  have X5 := X.trans Y5
  by_cases hL0 : L = 0
  · subst hL0
    rw [planT_none]
    refine ⟨_, rfl, (fun e => by cases e), fun _ => ?_⟩
    refine ⟨_, _, _, _, (q0.ext Y5).loadAAt 1 [.bool b0, .slice ap an ac] (by rw [addr_add]) (by kernel_rfl) rfl, ?_⟩
    refine Ret.at (spec_IntSign_c (dx := enc ((0 : Nat) : Int)) (hr.ext X5).2 rfl) ?_
    rintro v w6 ⟨hv, y6⟩
    subst hv
    refine ⟨_, rfl, ?_, X5.trans y6⟩
    rw [it_zero txF_zero, isign_enc (enc_nat_ok (by omega))]
    rfl
  · rw [hp2 hL0]
    refine ⟨_, rfl, fun e => ⟨by rw [e], X5⟩, fun e => ?_⟩
    refine ⟨_, _, _, _, (q0.ext Y5).loadAAt 1 [.bool b0, .slice ap an ac] (by rw [addr_add]) (by kernel_rfl) rfl, ?_⟩
    refine Ret.at (spec_IntSign_c (dx := enc (L : Int)) (hr.ext X5).2 rfl) ?_
    rintro v w6 ⟨hv, y6⟩
    subst hv
    refine ⟨_, rfl, ?_, X5.trans y6⟩
    rw [e, isign_enc (enc_nat_ok (by omega)), if_neg (by omega), if_neg (by omega)]
    rfl
theorem spec_LeastPay_o {w : World} {xs ys : List Value} {dx dr : List D0} (h : Reps w xs dx) (hc : dx.map D0.code = [.str, .bool, .ints]) (g : Reps w ys dr) (gc : dr.map D0.code = [.bool, .ints, .int]) (n mode : Int) :
    Ret P n_spec_LeastPay [.agg ⟨xs⟩, .agg ⟨ys⟩, .int .i64 n, .int .i64 mode] w fun v w' => ∃ vs f, v = .tuple #[.agg ⟨vs⟩, .bool (leastT dx dr n mode).1] /\ Owns w' w.heap.size vs (leastT dx dr n mode).2 f /\ f.Nodup /\ Ext w w' := by
  have hr := h; have gr := g
  obtain ⟨c0, b0, ap, an, ac, z0, rfl, rfl, ha⟩ := open_Money h hc
  obtain ⟨d0, dp', dn, dc, dz, ds, rfl, rfl, hd⟩ := open_Dec g gc
  refine spec_LeastPay_ret ?_
  unfold spec_LeastPay
  intro r w1 hn1 r1 w2 hn2 r2 w3 hn3
  have e1 := hn1.r_eq; have e2 := hn2.r_eq; have e3 := hn3.r_eq; have s1 := hn1.size; have s2 := hn2.size; have s3 := hn3.size
  have X := (hn1.ext.trans hn2.ext).trans hn3.ext
  have q0 := (hn1.blk.ext hn2.ext).ext hn3.ext; have q1 := hn2.blk.ext hn3.ext; have q2 := hn3.blk
  have zero : ∀ W, Ext w3 W -> leastOk [.str c0, .bool b0, .ints z0] [.bool d0, .ints dz, .int ds] n mode = false -> ∃ W', Stores P T_impl_Money ⟨r2, 0, none⟩ (.agg #[.string ByteArray.empty, .bool false, .slice none 0 0]) W W' /\ ∃ (x0 : ByteArray) (x1 : Bool) (x2p : Option Addr) (x2n x2c : Nat), Loads P T_impl_Money ⟨r2, 0, none⟩ (.agg #[.string x0, .bool x1, .slice x2p x2n x2c]) W' /\
      ∃ vs f, Value.tuple #[.agg #[.string x0, .bool x1, .slice x2p x2n x2c], .bool false] = .tuple #[.agg ⟨vs⟩, .bool (leastT [.str c0, .bool b0, .ints z0] [.bool d0, .ints dz, .int ds] n mode).1] /\ Owns W' w.heap.size vs (leastT [.str c0, .bool b0, .ints z0] [.bool d0, .ints dz, .int ds] n mode).2 f /\ f.Nodup /\ Ext w W' := by
    intro W hW hno
    obtain ⟨W', st, ld, ow, xx, _, _⟩ := agg_end (t := T_impl_Money) (q2.ext hW) (X.trans hW) (by omega) (own_money0 W (r2 + 1)) (by kernel_rfl) rfl (by omega) (by omega)
    rw [leastT_no hno]
    exact ⟨W', st, _, _, _, _, _, ld, _, [], rfl, ow, List.nodup_nil, xx⟩
  refine ⟨_, _, _, _, _, q0.loadA0 (by kernel_rfl), ?_⟩
  refine Ret.at (spec_MoneyOk_c (hr.ext X) rfl) ?_
  rintro v w4 ⟨hv, y4⟩
  subst hv
  refine ⟨_, rfl, ifN (fun hno => by
    (repeat refine ifT ?_)
    exact zero w4 y4 (by rw [leastOk_eq, hno]; rfl)) (fun hmk => ?_)⟩
  refine ⟨_, (q0.ext y4).loadAt 1 (by rw [addr_add, addr_add]) (by kernel_rfl) rfl, fun hneg => by
    (repeat refine ifT ?_)
    exact zero w4 y4 (by rw [leastOk_eq, hneg]; simp), fun hpos => ?_⟩
  have hz0 := ha.1
  refine ⟨_, _, _, (q0.ext y4).loadAt 2 (by rw [addr_add, addr_add]) (by kernel_rfl) rfl, ifD (fun hlen => by
    (repeat refine ifT ?_)
    exact zero w4 y4 (by rw [leastOk_eq, decide_eq_false (show ¬ z0.length <= 2 by omega)]; simp)) (fun hlen => ?_)⟩
  refine ⟨_, _, _, _, _, (q1.ext y4).loadA0 (by kernel_rfl), ?_⟩
  have X4 := X.trans y4
  refine Ret.at (spec_TaxRateOk_c (gr.ext X4) rfl) ?_
  rintro v w5 ⟨hv, y5⟩
  subst hv
  have Y5 := y4.trans y5
  refine ⟨_, rfl, ifN (fun hno => by
    (repeat refine ifT ?_)
    exact zero w5 Y5 (by rw [leastOk_eq, hno]; simp)) (fun htx => ?_)⟩
  refine Ret.at (spec_l01In_c n 1 24 w5) ?_
  rintro v w5' ⟨hv, hw⟩
  subst hv; subst hw
  refine ⟨_, rfl, ifN (fun hno => by
    (repeat refine ifT ?_)
    exact zero w5' Y5 (by rw [leastOk_eq, hno]; simp)) (fun hnn => ?_)⟩
  have hnn := of_decide_eq_true hnn
  refine Ret.at (spec_l06Mode_c mode w5') ?_
  rintro v w6 ⟨hv, hw⟩
  subst hv; subst hw
  refine ⟨_, rfl, ifN (fun hno => zero w6 Y5 (by rw [leastOk_eq, hno]; simp)) (fun hmo => ?_)⟩
  -- all is in order
  have hok : leastOk [.str c0, .bool b0, .ints z0] [.bool d0, .ints dz, .int ds] n mode = true := by
    rw [leastOk_eq, hmk, hpos, decide_eq_true (show z0.length <= 2 by omega), htx, decide_eq_true hnn, hmo]; rfl
  have hlt : leastT [.str c0, .bool b0, .ints z0] [.bool d0, .ints dz, .int ds] n mode = (true, .str c0 :: enc ((leastP (txF (val dz).toNat ds.toNat mode) n.toNat (val z0).toNat : Nat) : Int)) := by
    rw [leastT_eq, hok]; rfl
  obtain ⟨m, t, rfl, rfl, rfl, ht30, em, et, hm9⟩ := taxOk_nn htx
  obtain ⟨N, rfl⟩ : ∃ N : Nat, n = N := ⟨n.toNat, by omega⟩
  subst hpos
  have hcur : curKnown c0 = true := by
    have h' : (curKnown c0 && intOk [.bool false, .ints z0] && decide (z0.length <= 4)) = true := hmk
    rw [Bool.and_eq_true, Bool.and_eq_true] at h'
    exact h'.1.1
  obtain ⟨henc, bb, zz, he, hcan, _⟩ := intOk_enc (moneyOk_int hmk)
  simp only [List.cons.injEq, D0.bool.injEq, D0.ints.injEq, and_true] at he
  obtain ⟨rfl, rfl⟩ := he
  obtain ⟨L, hLz⟩ : ∃ L : Nat, z0 = digs L := ⟨(val z0).toNat, (digs_val hcan).symm⟩
  subst hLz
  have hL : L < 1000000000000000000 := by
    have := val_lt (digs_limbs L)
    rw [val_digs] at this
    have h3 : (digs L).length = 0 ∨ (digs L).length = 1 ∨ (digs L).length = 2 := by omega
    rcases h3 with h3 | h3 | h3 <;> rw [h3] at this <;> omega
  rw [em, et, Int.toNat_natCast, val_digs, Int.toNat_natCast] at hlt
  have hmon : [D0.str c0, .bool false, .ints (digs L)] = .str c0 :: enc (L : Int) := by rw [enc_nat]
  have htle := txF_le (mode := mode) (taxOk_le htx) L
  generalize hT : txF m t mode = T at hlt htle
  have hTm : ∀ a b, a <= b -> T a <= T b := by rw [<- hT]; exact txF_mono
  have hT0 : T 0 = 0 := by rw [<- hT]; exact txF_zero
  rw [hlt]
  clear zero
  have X6 := X.trans Y5
  have l6 := Y5.le
  unfold spec_LeastPay_j0
  intro r3 w7 hn7
  have e7 := hn7.r_eq; have s7 := hn7.size
  obtain ⟨w8, st8, hb8, y8⟩ := hn7.fill (P := P) (t := T_impl_Signed) (xs := [.bool false, .slice none 0 0]) (by simp [Value.oneCell']) (by kernel_rfl) rfl
  have Y8 := Y5.trans y8
  have X8 := X.trans Y8
  have lr3 := hb8.lt
  have D8 := Ext.drew w8
  refine ⟨w8, st8, _, _, _, _, fun W hW => (((q0.ext Y8).ext D8).ext hW).loadAAt 1 [.bool false, .slice ap an ac] (by rw [addr_add]) (by kernel_rfl) rfl, ?_⟩
  intro ss w9 F1
  have S1 := FlS.first F1 rfl
  refine Ret.at (spec_IntOf_c (n := 3) (by omega) (by omega)) ?_
  rintro v w10 ⟨vs3, f3, hv, o3, nd3, y10⟩
  subst hv
  obtain ⟨p3, n3, c3, rfl, hi3⟩ := enc_open (x := 3) o3
  refine ⟨_, _, _, _, rfl, y10, ?_⟩
  intro ss1 w11 F2
  have S2 := (S1.ext y10).step F2
  have Z11 := ((D8.trans F1.ext).trans y10).trans F2.ext
  have X11 := X8.trans Z11
  have hu : Reps w11 [.bool false, .slice ap an ac] (enc (L : Int)) := by rw [enc_nat]; exact (hr.ext X11).2
  refine Ret.at (spec_IntMul_c hu (o3.reps.ext F2.ext) rfl rfl) ?_
  rintro v w12 ⟨vsH, fH, hv, oH, ndH, y12⟩
  subst hv
  have d50 : ∀ x : Nat, x < 1000000000000000000000000000000000000 -> (digs x).length <= 50 := fun x hx => by have := digs_len 4 (n := x) (by omega); omega
  have hmul : imul (enc (L : Int)) (enc (3 : Int)) = enc ((L * 3 : Nat) : Int) := by
    have := imul_nn (m := L) (k := 3) (d50 _ (by omega)) (d50 _ (by omega)) (d50 _ (by omega))
    rw [enc_nat, enc_nat]
    rw [<- this]
    congr 1
  rw [hmul] at oH
  obtain ⟨hp0, hn0, hc0, rfl, hHi⟩ := enc_open oH
  refine ⟨_, _, _, _, rfl, ?_⟩
  intro ss2 w13 r4 F3 G3
  have S3 := (S2.ext y12).step F3
  obtain ⟨hr41, hr42, hbk4⟩ := S3.blk G3 rfl
  have hap := FlS.apart S2 F3 G3
  have d8s : w8.drew.heap.size = w8.heap.size := rfl
  obtain ⟨w14, st14, hb14, cg14, sz14⟩ := hbk4.storeA0 (P := P) (t := T_impl_Signed) (xs := [.bool false, .slice hp0 hn0 hc0]) (by kernel_rfl) rfl (by simp [Value.oneCell'])
  have Z13 := (Z11.trans y12).trans F3.ext
  have Z14 : Ext w8 w14 := Z13.chg cg14 (by simp; omega)
  have Y14 := Y8.trans Z14
  have X14 := X.trans Y14
  have oHl := oH.lt
  have l11 := Z11.le; have l12 := y12.le; have lF3 := F3.ext.le; have lw8 := X8.le; have ly8 := y8.le
  have oH14 := (oH.ext F3.ext).chg cg14 (fun q hq => by have := oHl q hq; simp; omega)
  obtain ⟨mu, hmu⟩ := gap_ex r3 r4
  refine ⟨w14, st14, fun W => ∃ (lo hi : Nat) (pl : Option Addr) (nl cl : Nat) (ph : Option Addr) (nh ch : Nat) (fl fh : List Nat), Blk W r3 T_impl_Signed [.bool false, .slice pl nl cl] /\ Owns W w.heap.size [.bool false, .slice pl nl cl] (enc (lo : Int)) fl /\ (∀ q ∈ fl, q ≠ r3 /\ q ≠ r4) /\
      Blk W r4 T_impl_Signed [.bool false, .slice ph nh ch] /\ Owns W w.heap.size [.bool false, .slice ph nh ch] (enc (hi : Int)) fh /\ (∀ q ∈ fh, q ≠ r3 /\ q ≠ r4) /\ lo <= hi /\ hi <= L * 3 /\ it T N hi L = 0 /\ (lo = 0 ∨ 0 < lo /\ it T N (lo - 1) L ≠ 0) /\
      Blk W r T_impl_Money [.string c0, .bool false, .slice ap an ac] /\ Blk W r1 T_impl_Dec [.bool false, .slice dp' dn dc, .int .i64 (t : Int)] /\ Blk W r2 T_impl_Money [.string ByteArray.empty, .bool false, .slice none 0 0] /\ Ext w W, mu,
    ⟨0, L * 3, none, 0, 0, hp0, hn0, hc0, [], fH, hb8.ext Z14, own_nat (x := 0) (by rw [digs_zero]; exact Own.nil _ _ _ _), by simp, hb14, oH14.mono (by omega), fun q hq => by have := oHl q hq; omega, by omega, by omega, it_top hT0 (by omega) (by omega), .inl rfl, q0.ext Y14, q1.ext Y14, q2.ext Y14, X14⟩, ?_⟩
  rintro junk W ⟨lo, hi, pl, nl, cl, ph, nh, ch, fl, fh, hbl, ol, hfl, hbh, oh, hfh, hlh, hhi, hith, hitl, k0, k1, k2, hX⟩
  have hrl : RdN W r3 lo := by
    have := ol.reps; rw [enc_nat] at this
    obtain ⟨_, _, _, e, hi'⟩ := this.2.1
    cases e
    exact ⟨_, _, _, _, hbl, hi'⟩
  have hrh : RdN W r4 hi := by
    have := oh.reps; rw [enc_nat] at this
    obtain ⟨_, _, _, e, hi'⟩ := this.2.1
    cases e
    exact ⟨_, _, _, _, hbh, hi'⟩
  have hmuW := hmu W lo hi hrl hrh
  refine ⟨_, _, _, _, hbl.loadA0 (by kernel_rfl), _, _, _, _, hbh.loadA0 (by kernel_rfl), ?_⟩
  refine Ret.at (spec_IntCmp_c ol.reps oh.reps rfl rfl) ?_
  rintro v W1 ⟨hv, y1⟩
  subst hv
  have XW1 := hX.trans y1
  rw [icmp_enc (enc_nat_ok (by omega)) (enc_nat_ok (by omega))]
  have l1 := y1.le
  have bl := hbl.lt; have bh := hbh.lt; have bk2 := k2.lt; have bk0 := k0.lt; have bk1 := k1.lt
  refine ⟨_, rfl, ifD (fun hlt' => ?_) (fun hge' => ?_)⟩
  · have hltn : lo < hi := by have := sgn_neg.1 hlt'; omega
    refine ⟨_, _, _, _, (hbl.ext y1).loadA0 (by kernel_rfl), _, _, _, _, (hbh.ext y1).loadA0 (by kernel_rfl), ?_⟩
    refine Ret.at (spec_IntAdd_n (ol.ext y1).reps (oh.ext y1).reps (by omega) (by omega)) ?_
    rintro v W2 ⟨vsS, fS, hv, oS, ndS, y2⟩
    subst hv
    rw [show ((lo : Int) + (hi : Int)) = ((lo + hi : Nat) : Int) by omega] at oS
    obtain ⟨ps, ns, cs, rfl, iS⟩ := enc_open oS
    refine ⟨_, _, _, _, rfl, ?_⟩
    intro r5 W3 hn3'
    have hi2 : IntsR W3 (some ⟨r5, 0, none⟩) 1 1 (digs 2) := by
      rw [digs_two]
      exact ⟨rfl, by omega, by omega, fun _ => ⟨r5, 0, rfl, hn3'.blk.seg⟩⟩
    have iS3 := iS.ext hn3'.ext
    have iS1 := iS3.1
    have dsum := d50 (lo + hi) (by omega)
    refine Ret.at (spec_NatDiv_o iS3 hi2 (by omega) (by omega) (by omega)) ?_
    rintro v W4 ⟨pm, nm, cm, pq, nq, cq, hv, om, _, y4'⟩
    subst hv
    obtain ⟨mid, hmid⟩ : ∃ x : Nat, x = (lo + hi) / 2 := ⟨_, rfl⟩
    rw [<- hmid] at om
    refine ⟨_, _, _, _, _, _, rfl, ?_⟩
    intro r6 W4' hn6
    have e6 := hn6.r_eq
    obtain ⟨W5, st5, hb5, y5'⟩ := hn6.fill (P := P) (t := T_impl_Signed) (xs := [.bool false, .slice pm nm cm]) (by simp [Value.oneCell']) (by kernel_rfl) rfl
    have Y5' := ((y1.trans y2).trans (hn3'.ext.trans y4')).trans y5'
    have XW5 := hX.trans Y5'
    have l2 := y2.le; have l3 := hn3'.ext.le; have l4 := y4'.le; have l5 := y5'.le
    have omo := own_nat (om.ext y5')
    have oml := omo.lt
    refine ⟨W5, st5, _, _, _, _, _, (k0.ext Y5').loadA0 (by kernel_rfl), _, _, _, _, _, (k1.ext Y5').loadA0 (by kernel_rfl), _, _, _, _, hb5.loadA0 (by kernel_rfl), ?_⟩
    have hr5 := hr.ext XW5
    rw [hmon] at hr5
    refine Ret.at (spec_l15Does_c (c := c0) (L := L) (N := N) (q := mid) (m := m) (t := t) (mode := mode) hr5 (gr.ext XW5) omo.reps hcur (by omega) (by omega) (by omega) (by omega) htx hmo) ?_
    rintro v W7 ⟨hv, Y7⟩
    subst hv
    rw [hT]
    have YY7 := Y5'.trans Y7
    have XW7 := hX.trans YY7
    have l7 := Y7.le
    refine ⟨_, rfl, ifD (fun hdo => ?_) (fun hdo => ?_)⟩
    · obtain ⟨W8, st8', hb8', cg8, sz8⟩ := (hbh.ext YY7).storeA0 (P := P) (t := T_impl_Signed) (xs := [.bool false, .slice pm nm cm]) (by kernel_rfl) rfl (by simp [Value.oneCell'])
      have o8 : Owns W8 w.heap.size [.bool false, .slice pm nm cm] (enc (mid : Int)) _ := ((omo.ext Y7).mono (B' := w.heap.size) (by have := XW1.le; omega)).chg cg8 (fun q hq => by have := oml q hq; simp; omega)
      have ol8 := (ol.ext YY7).chg cg8 (fun q hq => by have := hfl q hq; simp; omega)
      have bl8 := (hbl.ext YY7).chg cg8 (by simp; omega)
      refine ⟨_, _, _, _, (hb5.ext Y7).loadA0 (by kernel_rfl), W8, st8', ⟨lo, mid, pl, nl, cl, pm, nm, cm, fl, _, bl8, ol8, hfl, hb8', o8, fun q hq => by have := oml q hq; omega, by omega, by omega, hdo, hitl, (k0.ext YY7).chg cg8 (by simp; omega), (k1.ext YY7).chg cg8 (by simp; omega), (k2.ext YY7).chg cg8 (by simp; omega), XW7.chg cg8 (by simp; omega)⟩, ?_⟩
      have hrl8 : RdN W8 r3 lo := by
        have := ol8.reps; rw [enc_nat] at this
        obtain ⟨_, _, _, e, hi'⟩ := this.2.1
        cases e; exact ⟨_, _, _, _, bl8, hi'⟩
      have hrh8 : RdN W8 r4 mid := by
        have := o8.reps; rw [enc_nat] at this
        obtain ⟨_, _, _, e, hi'⟩ := this.2.1
        cases e; exact ⟨_, _, _, _, hb8', hi'⟩
      rw [hmu W8 lo mid hrl8 hrh8, hmuW]; omega
    · have D := Ext.drew W7
      have hb5d := (hb5.ext Y7).ext D
      refine ⟨_, _, _, _, fun W hW => (hb5d.ext hW).loadA0 (by kernel_rfl), ?_⟩
      refine Ret.at (spec_IntOf_c (n := 1) (by omega) (by omega)) ?_
      rintro v W8 ⟨vs8, f8, hv, o8, nd8, y8'⟩
      subst hv
      obtain ⟨p8, n8, c8, rfl, hi8⟩ := enc_open (x := 1) o8
      refine ⟨_, _, _, _, rfl, y8', ?_⟩
      have hm8 : Reps W8 [.bool false, .slice pm nm cm] (enc (mid : Int)) := (omo.ext ((Y7.trans D).trans y8')).reps
      refine Ret.at (spec_IntAdd_n hm8 o8.reps (by omega) (by omega)) ?_
      rintro v W9 ⟨vs9, f9, hv, o9, nd9, y9'⟩
      subst hv
      have hs9 : ((mid : Int) + 1) = ((mid + 1 : Nat) : Int) := by omega
      rw [hs9] at o9
      obtain ⟨p9, n9, c9, rfl, hi9⟩ := enc_open o9
      have o9l := o9.lt
      have l8 := D.le; have l8' := y8'.le
      have YY9 := ((YY7.trans D).trans y8').trans y9'
      have XW9 := hX.trans YY9
      obtain ⟨W10, st10, hb10, cg10, sz10⟩ := (hbl.ext YY9).storeA0 (P := P) (t := T_impl_Signed) (xs := [.bool false, .slice p9 n9 c9]) (by kernel_rfl) rfl (by simp [Value.oneCell'])
      have o10 := (o9.mono (B' := w.heap.size) (by have := XW1.le; omega)).chg cg10 (fun q hq => by have := o9l q hq; simp; omega)
      have oh10 := (oh.ext YY9).chg cg10 (fun q hq => by have := hfh q hq; simp; omega)
      have bh10 := (hbh.ext YY9).chg cg10 (by simp; omega)
      refine ⟨_, _, _, _, rfl, W10, st10, ⟨mid + 1, hi, p9, n9, c9, ph, nh, ch, f9, fh, hb10, o10, fun q hq => by have := o9l q hq; omega, bh10, oh10, hfh, by omega, hhi, hith, .inr ⟨by omega, by rw [Nat.add_sub_cancel]; exact hdo⟩, (k0.ext YY9).chg cg10 (by simp; omega), (k1.ext YY9).chg cg10 (by simp; omega), (k2.ext YY9).chg cg10 (by simp; omega), XW9.chg cg10 (by simp; omega)⟩, ?_⟩
      have hrl8 : RdN W10 r3 (mid + 1) := by
        have := o10.reps; rw [enc_nat] at this
        obtain ⟨_, _, _, e, hi'⟩ := this.2.1
        cases e; exact ⟨_, _, _, _, hb10, hi'⟩
      have hrh8 : RdN W10 r4 hi := by
        have := oh10.reps; rw [enc_nat] at this
        obtain ⟨_, _, _, e, hi'⟩ := this.2.1
        cases e; exact ⟨_, _, _, _, bh10, hi'⟩
      rw [hmu W10 (mid + 1) hi hrl8 hrh8, hmuW]; omega
  · have heq : lo = hi := by
      have h1 : ¬ ((lo : Int) - hi < 0) := fun hh => hge' (sgn_neg.2 hh)
      omega
    have hleast : IsLeast T N L lo := IsLeast.of_search hTm (by rw [heq]; exact hith) hitl
    have hlole : lo <= L + T L := by
      rcases Nat.lt_or_ge (L + T L) lo with c | c
      · exact absurd (it_top hT0 (by omega) (Nat.le_refl _)) (hleast.2 _ c)
      · exact c
    have hres : leastP T N L = lo := leastP_eq hleast hlole
    have D := Ext.drew W1
    have YD := y1.trans D
    have il : IntsR W1.drew pl nl cl (digs lo) := by
      have := (ol.ext YD).reps; rw [enc_nat] at this
      obtain ⟨_, _, _, e, hi'⟩ := this.2.1
      cases e; exact hi'
    refine ⟨_, fun V hV => ((k0.ext YD).ext hV).loadAt 0 (by rw [addr_add]) (by kernel_rfl) rfl, _, _, _, fun V hV => ((hbl.ext YD).ext hV).loadAt 1 (by rw [addr_add]) (by kernel_rfl) rfl, ?_⟩
    refine Ret.at (spec_l04Make_c il (digs_limbs _)) ?_
    rintro v W2 ⟨bx, px, nx', cx, hv, hbx, ox, y2⟩
    subst hv
    rw [val_digs, Int.toNat_natCast, capL_fit (d50 lo (by omega))] at ox
    have hbx' : bx = false := by rw [hbx]; rfl
    subst hbx'
    have oxx := own_nat ox
    refine ⟨_, _, _, _, rfl, y2, ?_⟩
    refine Ret.at (spec_l09Make_c c0 oxx (nodup_opt _) (by have := y2.le; omega)) ?_
    rintro v W3 ⟨vs, f', hv, ow, ndw, y3⟩
    subst hv
    have hmk2 : moneyOk (.str c0 :: enc ((lo : Nat) : Int)) = true := money_nat hcur (by omega)
    have hmm : moneyMk c0 ((lo : Nat) : Int) = .str c0 :: enc ((lo : Nat) : Int) := by unfold moneyMk; rw [if_pos hmk2]
    rw [hmm] at ow
    obtain ⟨g0, g1, gp, gn, gc', gz, rfl, hgd, hgi⟩ := open_Money ow.reps rfl
    have YY := (YD.trans y2).trans y3
    have owl := ow.lt
    have lD := D.le
    have l2 := y2.le; have l3 := y3.le
    have XX3 := hX.trans YY
    obtain ⟨W4, st4, hb4, cg4, sz4⟩ := (k2.ext YY).storeA0 (P := P) (t := T_impl_Money) (xs := [.string g0, .bool g1, .slice gp gn gc']) (by kernel_rfl) rfl (by simp [Value.oneCell'])
    have ow4 := (ow.mono (B' := w.heap.size) (by have := XW1.le; omega)).chg cg4 (fun q hq => by have := owl q hq; simp; omega)
    rw [hres, hmk2]
    exact ⟨_, _, _, _, _, _, rfl, W4, st4, _, _, _, _, _, hb4.loadA0 (by kernel_rfl), _, f', rfl, ow4, ndw, XX3.chg cg4 (by simp; omega)⟩
end Go.Proofs.YtfehpaekbbmkcaaGreatDoor
namespace Go.Proofs.YtfehpaekbbmkcaaGreatDoor
open Go Go.Proofs.YtfehpaekbbmkcaaGreatDoor.Sx
theorem leastT_code (dx dr : List D0) (n m : Int) : (leastT dx dr n m).2.map D0.code = [.str, .bool, .ints] := by
  unfold leastT
  split
  · split
    · rfl
    · rfl
  · rfl
theorem leastP_le (tx : Nat -> Nat) (n L : Nat) : leastP tx n L <= L + tx L := by
  unfold leastP
  cases h : (List.range (L + tx L + 1)).find? (fun p => decide (it tx n p L = 0)) with
  | none => exact Nat.zero_le _
  | some p =>
    have := List.mem_of_find?_eq_some h
    rw [List.mem_range] at this
    show p <= _
    omega
theorem leastT_cnt (dx dr : List D0) (n m : Int) : tcnts (leastT dx dr n m).2 <= 1000000000 := by
  unfold leastT
  split
  · split
    · rename_i c b z b2 z2 s h
      rw [leastOk_eq] at h
      simp only [Bool.and_eq_true, decide_eq_true_eq, Bool.not_eq_true'] at h
      obtain ⟨⟨h1, h2, h3⟩, h4, h5, h6⟩ := h
      obtain ⟨mm, t, rfl, rfl, rfl, ht30, em, et, hm9⟩ := taxOk_nn h4
      obtain ⟨_, bb, zz, he, hcan, _⟩ := intOk_enc (moneyOk_int h1)
      simp only [List.cons.injEq, D0.bool.injEq, D0.ints.injEq, and_true] at he
      obtain ⟨rfl, rfl⟩ := he
      have hle := leastP_le (txF (val (digs mm)).toNat ((t : Int)).toNat m) n.toNat (val z).toNat
      have h7 := txF_le (mode := m) (taxOk_le h4) (val z).toNat
      have h8 : (val (digs mm)).toNat = mm := by rw [val_digs]; omega
      rw [h8, Int.toNat_natCast] at hle ⊢
      have hv := val_lt hcan.1
      have hv0 := val_nonneg hcan.1
      have h9 : val z < 1000000000000000000 := by
        have h3' : z.length = 0 ∨ z.length = 1 ∨ z.length = 2 := by omega
        rcases h3' with h3' | h3' | h3' <;> rw [h3'] at hv <;> omega
      have := digs_len 4 (n := leastP (txF mm t m) n.toNat (val z).toNat) (by omega)
      show tcnts (.str c :: enc _) <= _
      simp only [enc, tcnts, Int.natAbs_natCast]
      omega
    · decide
  · decide
theorem impl_LeastPay_c {w : World} {xs ys : List Value} {dx dr : List D0} (h : Reps w xs dx) (hc : dx.map D0.code = [.str, .bool, .ints]) (g : Reps w ys dr) (gc : dr.map D0.code = [.bool, .ints, .int]) (n mode : Int) (ht : Tab w) :
    Ret P n_impl_LeastPay [.agg ⟨xs⟩, .agg ⟨ys⟩, .int .i64 n, .int .i64 mode] w fun v w' => ∃ vs f, v = .tuple #[.agg ⟨vs⟩, .bool (leastT dx dr n mode).1] /\ Owns w' w.heap.size vs (leastT dx dr n mode).2 f /\ f.Nodup /\ (leastT dx dr n mode).2.map D0.code = [.str, .bool, .ints] /\ tcnts (leastT dx dr n mode).2 <= 1000000000 /\ Ext w w' :=
  (impl_LeastPay_o h hc g gc n mode ht).mono fun v w' ⟨vs, f, hv, ho, hn, hx⟩ => ⟨vs, f, hv, ho, hn, leastT_code _ _ _ _, leastT_cnt _ _ _ _, hx⟩
theorem spec_LeastPay_c {w : World} {xs ys : List Value} {dx dr : List D0} (h : Reps w xs dx) (hc : dx.map D0.code = [.str, .bool, .ints]) (g : Reps w ys dr) (gc : dr.map D0.code = [.bool, .ints, .int]) (n mode : Int) :
    Ret P n_spec_LeastPay [.agg ⟨xs⟩, .agg ⟨ys⟩, .int .i64 n, .int .i64 mode] w fun v w' => ∃ vs f, v = .tuple #[.agg ⟨vs⟩, .bool (leastT dx dr n mode).1] /\ Owns w' w.heap.size vs (leastT dx dr n mode).2 f /\ f.Nodup /\ (leastT dx dr n mode).2.map D0.code = [.str, .bool, .ints] /\ tcnts (leastT dx dr n mode).2 <= 1000000000 /\ Ext w w' :=
  (spec_LeastPay_o h hc g gc n mode).mono fun v w' ⟨vs, f, hv, ho, hn, hx⟩ => ⟨vs, f, hv, ho, hn, leastT_code _ _ _ _, leastT_cnt _ _ _ _, hx⟩
end Go.Proofs.YtfehpaekbbmkcaaGreatDoor
namespace Go.Proofs.YtfehpaekbbmkcaaGreatDoor
open Go Go.Proofs.YtfehpaekbbmkcaaGreatDoor.Sx
set_option maxHeartbeats 4000000
theorem laws_FnExactLeastPay_c {w : World} {vs0 : List Value} {d0 : List D0} (h0 : Reps w vs0 d0) (hc0 : d0.map D0.code = [.str, .bool, .ints]) (hk0 : ∀ x ∈ d0, x.ok) {vs1 : List Value} {d1 : List D0} (h1 : Reps w vs1 d1) (hc1 : d1.map D0.code = [.bool, .ints, .int]) (hk1 : ∀ x ∈ d1, x.ok) (a2 : Int) (a3 : Int) (ht : Tab w) :
    Ret P n_laws_FnExactLeastPay [.agg ⟨vs0⟩, .agg ⟨vs1⟩, .int .i64 a2, .int .i64 a3] w fun v w' => v = .bool true /\ Ext w w' := by
  have hr0 := h0
  obtain ⟨u00, u01, u02p, u02n, u02c, u02z, rfl, rfl, u02h⟩ := open_Money h0 hc0
  have hr1 := h1
  obtain ⟨u10, u11p, u11n, u11c, u11z, u12, rfl, rfl, u11h⟩ := open_Dec h1 hc1
  refine laws_FnExactLeastPay_ret ?_
  unfold laws_FnExactLeastPay
  have x : Ext w w := Ext.refl w
  intro r_a0 W1 hn
  have er_a0 := hn.r_eq; have sr_a0 := hn.size
  have y := hn.ext
  replace x := x.trans y
  have ll1 := y.le
  have bk_a0 := hn.blk; clear hn
  intro r_a1 W2 hn
  have er_a1 := hn.r_eq; have sr_a1 := hn.size
  have y := hn.ext
  replace x := x.trans y
  replace bk_a0 := bk_a0.ext y
  have ll2 := y.le
  have bk_a1 := hn.blk; clear hn
  refine ⟨_, _, _, _, _, bk_a0.loadA0 (by kernel_rfl), ?_⟩
  refine Ret.at (laws_szMoney_c (hr0.ext x) rfl hk0 (by omega) (by omega)) ?_
  rintro v W3 ⟨k0, hv, hs0, hm0, y⟩
  subst hv
  replace x := x.trans y
  replace bk_a0 := bk_a0.ext y
  replace bk_a1 := bk_a1.ext y
  have ll3 := y.le
  refine ⟨_, rfl, ifD (fun _ => ⟨rfl, x⟩) (fun hp0 => ?_)⟩
  refine ⟨_, _, _, _, _, bk_a1.loadA0 (by kernel_rfl), ?_⟩
  refine Ret.at (laws_szDec_c (hr1.ext x) rfl hk1 (by omega) (by omega)) ?_
  rintro v W4 ⟨k1, hv, hs1, hm1, y⟩
  subst hv
  replace x := x.trans y
  replace bk_a0 := bk_a0.ext y
  replace bk_a1 := bk_a1.ext y
  have ll4 := y.le
  refine ⟨_, rfl, ifD (fun _ => ⟨rfl, x⟩) (fun hp1 => ?_)⟩
  have hs0 := hs0 (by omega)
  have hs1 := hs1 (by omega)
  simp only [bulks, D0.bulk, List.map_cons, List.map_nil, List.sum_cons, List.sum_nil] at hs0
  simp only [bulks, D0.bulk, List.map_cons, List.map_nil, List.sum_cons, List.sum_nil] at hs1
  have y := Ext.drew W4
  replace x := x.trans y
  replace bk_a0 := bk_a0.ext y
  replace bk_a1 := bk_a1.ext y
  have ll5 := y.le
  have bd0 := bk_a0
  have bd1 := bk_a1
  refine ⟨_, _, _, _, _, fun W' hW => (bd0.ext hW).loadA0 (by kernel_rfl), ?_⟩
  intro ssx W5 F
  have S := FlS.first F rfl
  have y := F.ext
  replace x := x.trans y
  replace bk_a0 := bk_a0.ext y
  replace bk_a1 := bk_a1.ext y
  have ll6 := y.le
  refine Ret.at (laws_toMoney_c (hr0.ext x) rfl (by simp only [bulks, D0.bulk, List.map_cons, List.map_nil, List.sum_cons, List.sum_nil]; omega)) ?_
  rintro v W6 ⟨vs, f_s0, hv, o_s0, nd_s0, y⟩
  subst hv
  obtain ⟨ts00, ts01, ts02p, ts02n, ts02c, ts02z, rfl, hds0, ts02h⟩ := open_Money o_s0.reps rfl
  have lt_o_s0 : ∀ k ∈ f_s0, W5.heap.size <= k /\ k < W6.heap.size := o_s0.lt
  have yy := y
  replace x := x.trans y
  replace bk_a0 := bk_a0.ext y
  replace bk_a1 := bk_a1.ext y
  replace S := S.ext y
  have ll7 := y.le
  refine ⟨_, _, _, _, _, rfl, yy, ?_⟩
  refine ⟨_, _, _, _, _, fun W' hW => (bd1.ext hW).loadA0 (by kernel_rfl), ?_⟩
  intro ssx W7 F
  have S := S.step F
  have y := F.ext
  replace x := x.trans y
  replace bk_a0 := bk_a0.ext y
  replace bk_a1 := bk_a1.ext y
  replace o_s0 := o_s0.ext y
  have ll8 := y.le
  refine Ret.at (laws_toDec_c (hr1.ext x) rfl (by simp only [bulks, D0.bulk, List.map_cons, List.map_nil, List.sum_cons, List.sum_nil]; omega)) ?_
  rintro v W8 ⟨vs, f_s1, hv, o_s1, nd_s1, y⟩
  subst hv
  obtain ⟨ts10, ts11p, ts11n, ts11c, ts11z, ts12, rfl, hds1, ts11h⟩ := open_Dec o_s1.reps rfl
  have lt_o_s1 : ∀ k ∈ f_s1, W7.heap.size <= k /\ k < W8.heap.size := o_s1.lt
  have yy := y
  replace x := x.trans y
  replace bk_a0 := bk_a0.ext y
  replace bk_a1 := bk_a1.ext y
  replace o_s0 := o_s0.ext y
  replace S := S.ext y
  have ll9 := y.le
  refine ⟨_, _, _, _, _, rfl, ?_⟩
  intro ssx W9 F
  have S := S.step F
  have y := F.ext
  replace x := x.trans y
  replace bk_a0 := bk_a0.ext y
  replace bk_a1 := bk_a1.ext y
  replace o_s0 := o_s0.ext y
  replace o_s1 := o_s1.ext y
  have ll10 := y.le
  have Sc := S
  refine Ret.at (spec_LeastPay_c o_s0.reps rfl o_s1.reps rfl a2 a3) ?_
  rintro v W10 ⟨vs_w0, f_w0, hv, o_w0, nd_w0, co_w0, ct_w0, y⟩
  subst hv
  have tn_w0 := tcnts_nn ct_w0
  have lt_o_w0 : ∀ k ∈ f_w0, W9.heap.size <= k /\ k < W10.heap.size := o_w0.lt
  replace x := x.trans y
  replace bk_a0 := bk_a0.ext y
  replace bk_a1 := bk_a1.ext y
  replace S := S.ext y
  have ll11 := y.le
  obtain ⟨gw00, gw01, gw02p, gw02n, gw02c, gw02z, rfl, hd_w0, gw02h⟩ := open_Money o_w0.reps co_w0
  refine ⟨_, _, _, _, _, _, rfl, ?_⟩
  intro ssx W11 r_w0 F G_w0
  have S := S.step F
  have y := F.ext
  replace x := x.trans y
  replace bk_a0 := bk_a0.ext y
  replace bk_a1 := bk_a1.ext y
  replace o_w0 := o_w0.ext y
  have ll12 := y.le
  have FF := F
  obtain ⟨sr_w0, lr_w0, bk_w0⟩ := S.blk G_w0 rfl
  have ap_w0 := Sc.apart FF G_w0
  obtain ⟨W12, st, bq, ch, sz⟩ := bk_w0.storeA0 (P := P) (t := T_impl_Money) (xs := [.string gw00, .bool gw01, .slice gw02p gw02n gw02c]) (by kernel_rfl) rfl o_w0.reps.cells1
  replace x := x.chg ch (by simp; omega)
  replace bk_a0 := bk_a0.chg ch (by simp; omega)
  replace bk_a1 := bk_a1.chg ch (by simp; omega)
  replace o_w0 := o_w0.chg ch (fun k hk hm => by have h1 := lt_o_w0 k hk; simp at hm; omega)
  have bk_w0 := bq; clear bq
  have ll13 := ch.size
  refine ⟨_, st, ?_⟩
  refine ⟨_, _, _, _, _, bk_a0.loadA0 (by kernel_rfl), ?_⟩
  refine Ret.at (laws_toMoney_c (hr0.ext x) rfl (by simp only [bulks, D0.bulk, List.map_cons, List.map_nil, List.sum_cons, List.sum_nil]; omega)) ?_
  rintro v W13 ⟨vs, f_x0, hv, o_x0, nd_x0, y⟩
  subst hv
  obtain ⟨tx00, tx01, tx02p, tx02n, tx02c, tx02z, rfl, hdx0, tx02h⟩ := open_Money o_x0.reps rfl
  have lt_o_x0 : ∀ k ∈ f_x0, W12.heap.size <= k /\ k < W13.heap.size := o_x0.lt
  replace x := x.trans y
  replace bk_a0 := bk_a0.ext y
  replace bk_a1 := bk_a1.ext y
  replace bk_w0 := bk_w0.ext y
  replace o_w0 := o_w0.ext y
  have ll14 := y.le
  refine ⟨_, _, _, _, _, rfl, ?_⟩
  intro r_x0 W14 hn
  have er_x0 := hn.r_eq; have sr_x0 := hn.size
  have y := hn.ext
  replace x := x.trans y
  replace bk_a0 := bk_a0.ext y
  replace bk_a1 := bk_a1.ext y
  replace bk_w0 := bk_w0.ext y
  replace o_w0 := o_w0.ext y
  replace o_x0 := o_x0.ext y
  have ll15 := y.le
  have bk_x0 := hn.blk; clear hn
  obtain ⟨W15, st, bq, ch, sz⟩ := bk_x0.storeA0 (P := P) (t := T_impl_Money) (xs := [.string tx00, .bool tx01, .slice tx02p tx02n tx02c]) (by kernel_rfl) rfl o_x0.reps.cells1
  replace x := x.chg ch (by simp; omega)
  replace bk_a0 := bk_a0.chg ch (by simp; omega)
  replace bk_a1 := bk_a1.chg ch (by simp; omega)
  replace bk_w0 := bk_w0.chg ch (by simp; omega)
  replace o_w0 := o_w0.chg ch (fun k hk hm => by have h1 := lt_o_w0 k hk; simp at hm; omega)
  replace o_x0 := o_x0.chg ch (fun k hk hm => by have h1 := lt_o_x0 k hk; simp at hm; omega)
  have bk_x0 := bq; clear bq
  have ll16 := ch.size
  refine ⟨_, st, ?_⟩
  refine ⟨_, _, _, _, _, bk_a1.loadA0 (by kernel_rfl), ?_⟩
  refine Ret.at (laws_toDec_c (hr1.ext x) rfl (by simp only [bulks, D0.bulk, List.map_cons, List.map_nil, List.sum_cons, List.sum_nil]; omega)) ?_
  rintro v W16 ⟨vs, f_x1, hv, o_x1, nd_x1, y⟩
  subst hv
  obtain ⟨tx10, tx11p, tx11n, tx11c, tx11z, tx12, rfl, hdx1, tx11h⟩ := open_Dec o_x1.reps rfl
  have lt_o_x1 : ∀ k ∈ f_x1, W15.heap.size <= k /\ k < W16.heap.size := o_x1.lt
  replace x := x.trans y
  replace bk_a0 := bk_a0.ext y
  replace bk_a1 := bk_a1.ext y
  replace bk_w0 := bk_w0.ext y
  replace bk_x0 := bk_x0.ext y
  replace o_w0 := o_w0.ext y
  replace o_x0 := o_x0.ext y
  have ll17 := y.le
  refine ⟨_, _, _, _, _, rfl, ?_⟩
  intro r_x1 W17 hn
  have er_x1 := hn.r_eq; have sr_x1 := hn.size
  have y := hn.ext
  replace x := x.trans y
  replace bk_a0 := bk_a0.ext y
  replace bk_a1 := bk_a1.ext y
  replace bk_w0 := bk_w0.ext y
  replace bk_x0 := bk_x0.ext y
  replace o_w0 := o_w0.ext y
  replace o_x0 := o_x0.ext y
  replace o_x1 := o_x1.ext y
  have ll18 := y.le
  have bk_x1 := hn.blk; clear hn
  obtain ⟨W18, st, bq, ch, sz⟩ := bk_x1.storeA0 (P := P) (t := T_impl_Dec) (xs := [.bool tx10, .slice tx11p tx11n tx11c, .int .i64 tx12]) (by kernel_rfl) rfl o_x1.reps.cells1
  replace x := x.chg ch (by simp; omega)
  replace bk_a0 := bk_a0.chg ch (by simp; omega)
  replace bk_a1 := bk_a1.chg ch (by simp; omega)
  replace bk_w0 := bk_w0.chg ch (by simp; omega)
  replace bk_x0 := bk_x0.chg ch (by simp; omega)
  replace o_w0 := o_w0.chg ch (fun k hk hm => by have h1 := lt_o_w0 k hk; simp at hm; omega)
  replace o_x0 := o_x0.chg ch (fun k hk hm => by have h1 := lt_o_x0 k hk; simp at hm; omega)
  replace o_x1 := o_x1.chg ch (fun k hk hm => by have h1 := lt_o_x1 k hk; simp at hm; omega)
  have bk_x1 := bq; clear bq
  have ll19 := ch.size
  refine ⟨_, st, ?_⟩
  refine ⟨_, _, _, _, _, bk_x0.loadA0 (by kernel_rfl), ?_⟩
  refine ⟨_, _, _, _, _, bk_x1.loadA0 (by kernel_rfl), ?_⟩
  refine Ret.at (impl_LeastPay_c o_x0.reps rfl o_x1.reps rfl a2 a3 (ht.ext x)) ?_
  rintro v W19 ⟨vs_g0, f_g0, hv, o_g0, nd_g0, co_g0, ct_g0, y⟩
  subst hv
  have tn_g0 := tcnts_nn ct_g0
  have lt_o_g0 : ∀ k ∈ f_g0, W18.heap.size <= k /\ k < W19.heap.size := o_g0.lt
  replace x := x.trans y
  replace bk_a0 := bk_a0.ext y
  replace bk_a1 := bk_a1.ext y
  replace bk_w0 := bk_w0.ext y
  replace bk_x0 := bk_x0.ext y
  replace bk_x1 := bk_x1.ext y
  replace o_w0 := o_w0.ext y
  replace o_x0 := o_x0.ext y
  replace o_x1 := o_x1.ext y
  have ll20 := y.le
  obtain ⟨gg00, gg01, gg02p, gg02n, gg02c, gg02z, rfl, hd_g0, gg02h⟩ := open_Money o_g0.reps co_g0
  refine ⟨_, _, _, _, _, _, rfl, ?_⟩
  intro r_g0 W20 hn
  have er_g0 := hn.r_eq; have sr_g0 := hn.size
  have y := hn.ext
  replace x := x.trans y
  replace bk_a0 := bk_a0.ext y
  replace bk_a1 := bk_a1.ext y
  replace bk_w0 := bk_w0.ext y
  replace bk_x0 := bk_x0.ext y
  replace bk_x1 := bk_x1.ext y
  replace o_w0 := o_w0.ext y
  replace o_x0 := o_x0.ext y
  replace o_x1 := o_x1.ext y
  replace o_g0 := o_g0.ext y
  have ll21 := y.le
  have bk_g0 := hn.blk; clear hn
  obtain ⟨W21, st, bq, ch, sz⟩ := bk_g0.storeA0 (P := P) (t := T_impl_Money) (xs := [.string gg00, .bool gg01, .slice gg02p gg02n gg02c]) (by kernel_rfl) rfl o_g0.reps.cells1
  replace x := x.chg ch (by simp; omega)
  replace bk_a0 := bk_a0.chg ch (by simp; omega)
  replace bk_a1 := bk_a1.chg ch (by simp; omega)
  replace bk_w0 := bk_w0.chg ch (by simp; omega)
  replace bk_x0 := bk_x0.chg ch (by simp; omega)
  replace bk_x1 := bk_x1.chg ch (by simp; omega)
  replace o_w0 := o_w0.chg ch (fun k hk hm => by have h1 := lt_o_w0 k hk; simp at hm; omega)
  replace o_x0 := o_x0.chg ch (fun k hk hm => by have h1 := lt_o_x0 k hk; simp at hm; omega)
  replace o_x1 := o_x1.chg ch (fun k hk hm => by have h1 := lt_o_x1 k hk; simp at hm; omega)
  replace o_g0 := o_g0.chg ch (fun k hk hm => by have h1 := lt_o_g0 k hk; simp at hm; omega)
  have bk_g0 := bq; clear bq
  have ll22 := ch.size
  refine ⟨_, st, ?_⟩
  refine ⟨_, _, _, _, _, bk_g0.loadA0 (by kernel_rfl), _, _, _, _, _, bk_w0.loadA0 (by kernel_rfl), ?_⟩
  refine Ret.at (laws_eqMoney_c o_g0.reps o_w0.reps co_g0 co_w0) ?_
  rintro v W22 ⟨hv, y⟩
  subst hv
  replace x := x.trans y
  replace bk_a0 := bk_a0.ext y
  replace bk_a1 := bk_a1.ext y
  replace bk_w0 := bk_w0.ext y
  replace bk_x0 := bk_x0.ext y
  replace bk_x1 := bk_x1.ext y
  replace bk_g0 := bk_g0.ext y
  replace o_w0 := o_w0.ext y
  replace o_x0 := o_x0.ext y
  replace o_x1 := o_x1.ext y
  replace o_g0 := o_g0.ext y
  have ll23 := y.le
  refine ⟨_, rfl, ifN (fun h => absurd h (by simp)) (fun _ => ?_)⟩
  refine ⟨fun h => absurd h (bne_no rfl), fun _ => ?_⟩
  unfold laws_FnExactLeastPay_j0
  refine ⟨_, _, _, _, _, fun W' hW => (bk_x0.ext ((Ext.drew _).trans hW)).loadA0 (by kernel_rfl), _, _, _, _, _, fun W' hW => (bk_a0.ext ((Ext.drew _).trans hW)).loadA0 (by kernel_rfl), ?_⟩
  have y := Ext.drew W22
  replace x := x.trans y
  replace bk_a0 := bk_a0.ext y
  replace bk_a1 := bk_a1.ext y
  replace bk_w0 := bk_w0.ext y
  replace bk_x0 := bk_x0.ext y
  replace bk_x1 := bk_x1.ext y
  replace bk_g0 := bk_g0.ext y
  replace o_w0 := o_w0.ext y
  replace o_x0 := o_x0.ext y
  replace o_x1 := o_x1.ext y
  replace o_g0 := o_g0.ext y
  have ll24 := y.le
  refine Ret.at (laws_toMoney_c (hr0.ext x) rfl (by simp only [bulks, D0.bulk, List.map_cons, List.map_nil, List.sum_cons, List.sum_nil]; omega)) ?_
  rintro v W23 ⟨vs, f_y0, hv, o_y0, nd_y0, y⟩
  subst hv
  obtain ⟨ty00, ty01, ty02p, ty02n, ty02c, ty02z, rfl, hdy0, ty02h⟩ := open_Money o_y0.reps rfl
  have lt_o_y0 : ∀ k ∈ f_y0, W22.heap.size <= k /\ k < W23.heap.size := o_y0.lt
  have y2 := y
  replace x := x.trans y
  replace bk_a0 := bk_a0.ext y
  replace bk_a1 := bk_a1.ext y
  replace bk_w0 := bk_w0.ext y
  replace bk_x0 := bk_x0.ext y
  replace bk_x1 := bk_x1.ext y
  replace bk_g0 := bk_g0.ext y
  replace o_w0 := o_w0.ext y
  replace o_x0 := o_x0.ext y
  replace o_x1 := o_x1.ext y
  replace o_g0 := o_g0.ext y
  have ll25 := y.le
  refine ⟨_, _, _, _, _, rfl, y, ?_⟩
  refine Ret.at (laws_eqMoney_c o_x0.reps o_y0.reps rfl rfl) ?_
  rintro v W24 ⟨hv, y⟩
  subst hv
  replace x := x.trans y
  replace bk_a0 := bk_a0.ext y
  replace bk_a1 := bk_a1.ext y
  replace bk_w0 := bk_w0.ext y
  replace bk_x0 := bk_x0.ext y
  replace bk_x1 := bk_x1.ext y
  replace bk_g0 := bk_g0.ext y
  replace o_w0 := o_w0.ext y
  replace o_x0 := o_x0.ext y
  replace o_x1 := o_x1.ext y
  replace o_g0 := o_g0.ext y
  have ll26 := y.le
  refine ⟨_, rfl, ifN (fun h => absurd h (by simp)) (fun _ => ?_)⟩
  refine ⟨_, _, _, _, _, fun W' hW => (bk_x1.ext ((Ext.drew _).trans hW)).loadA0 (by kernel_rfl), _, _, _, _, _, fun W' hW => (bk_a1.ext ((Ext.drew _).trans hW)).loadA0 (by kernel_rfl), ?_⟩
  have y := Ext.drew W24
  replace x := x.trans y
  replace bk_a0 := bk_a0.ext y
  replace bk_a1 := bk_a1.ext y
  replace bk_w0 := bk_w0.ext y
  replace bk_x0 := bk_x0.ext y
  replace bk_x1 := bk_x1.ext y
  replace bk_g0 := bk_g0.ext y
  replace o_w0 := o_w0.ext y
  replace o_x0 := o_x0.ext y
  replace o_x1 := o_x1.ext y
  replace o_g0 := o_g0.ext y
  have ll27 := y.le
  refine Ret.at (laws_toDec_c (hr1.ext x) rfl (by simp only [bulks, D0.bulk, List.map_cons, List.map_nil, List.sum_cons, List.sum_nil]; omega)) ?_
  rintro v W25 ⟨vs, f_y1, hv, o_y1, nd_y1, y⟩
  subst hv
  obtain ⟨ty10, ty11p, ty11n, ty11c, ty11z, ty12, rfl, hdy1, ty11h⟩ := open_Dec o_y1.reps rfl
  have lt_o_y1 : ∀ k ∈ f_y1, W24.heap.size <= k /\ k < W25.heap.size := o_y1.lt
  have y2 := y
  replace x := x.trans y
  replace bk_a0 := bk_a0.ext y
  replace bk_a1 := bk_a1.ext y
  replace bk_w0 := bk_w0.ext y
  replace bk_x0 := bk_x0.ext y
  replace bk_x1 := bk_x1.ext y
  replace bk_g0 := bk_g0.ext y
  replace o_w0 := o_w0.ext y
  replace o_x0 := o_x0.ext y
  replace o_x1 := o_x1.ext y
  replace o_g0 := o_g0.ext y
  have ll28 := y.le
  refine ⟨_, _, _, _, _, rfl, y, ?_⟩
  refine Ret.at (laws_eqDec_c o_x1.reps o_y1.reps rfl rfl) ?_
  rintro v W26 ⟨hv, y⟩
  subst hv
  replace x := x.trans y
  replace bk_a0 := bk_a0.ext y
  replace bk_a1 := bk_a1.ext y
  replace bk_w0 := bk_w0.ext y
  replace bk_x0 := bk_x0.ext y
  replace bk_x1 := bk_x1.ext y
  replace bk_g0 := bk_g0.ext y
  replace o_w0 := o_w0.ext y
  replace o_x0 := o_x0.ext y
  replace o_x1 := o_x1.ext y
  replace o_g0 := o_g0.ext y
  have ll29 := y.le
  refine ⟨_, rfl, ifN (fun h => absurd h (by simp)) (fun _ => ?_)⟩
  refine ⟨_, _, _, _, _, bk_x0.loadA0 (by kernel_rfl), ?_⟩
  refine Ret.at (laws_markMoney_c o_x0 nd_x0 rfl (by first | omega | (simp only [tcnts]; omega)) (by simp only [tcnts]; omega)) ?_
  rintro v W27 ⟨hv, on, ch⟩
  simp only [tcnts] at hv
  subst hv
  replace x := x.chg ch (fun k hk => by have := lt_o_x0 k hk; omega)
  replace bk_a0 := bk_a0.chg ch (fun hm => by have := lt_o_x0 _ hm; omega)
  replace bk_a1 := bk_a1.chg ch (fun hm => by have := lt_o_x0 _ hm; omega)
  replace bk_w0 := bk_w0.chg ch (fun hm => by have := lt_o_x0 _ hm; omega)
  replace bk_x0 := bk_x0.chg ch (fun hm => by have := lt_o_x0 _ hm; omega)
  replace bk_x1 := bk_x1.chg ch (fun hm => by have := lt_o_x0 _ hm; omega)
  replace bk_g0 := bk_g0.chg ch (fun hm => by have := lt_o_x0 _ hm; omega)
  replace o_w0 := o_w0.chg ch (fun k hk hm => by have h1 := lt_o_w0 k hk; have h2 := lt_o_x0 k hm; omega)
  replace o_x1 := o_x1.chg ch (fun k hk hm => by have h1 := lt_o_x1 k hk; have h2 := lt_o_x0 k hm; omega)
  replace o_g0 := o_g0.chg ch (fun k hk hm => by have h1 := lt_o_g0 k hk; have h2 := lt_o_x0 k hm; omega)
  have ll30 := ch.size
  replace o_x0 := on; clear on
  refine ⟨_, rfl, ?_⟩
  refine ⟨_, _, _, _, _, bk_x1.loadA0 (by kernel_rfl), ?_⟩
  refine Ret.at (laws_markDec_c o_x1 nd_x1 rfl (by first | omega | (simp only [tcnts]; omega)) (by simp only [tcnts]; omega)) ?_
  rintro v W28 ⟨hv, on, ch⟩
  simp only [tcnts] at hv
  subst hv
  replace x := x.chg ch (fun k hk => by have := lt_o_x1 k hk; omega)
  replace bk_a0 := bk_a0.chg ch (fun hm => by have := lt_o_x1 _ hm; omega)
  replace bk_a1 := bk_a1.chg ch (fun hm => by have := lt_o_x1 _ hm; omega)
  replace bk_w0 := bk_w0.chg ch (fun hm => by have := lt_o_x1 _ hm; omega)
  replace bk_x0 := bk_x0.chg ch (fun hm => by have := lt_o_x1 _ hm; omega)
  replace bk_x1 := bk_x1.chg ch (fun hm => by have := lt_o_x1 _ hm; omega)
  replace bk_g0 := bk_g0.chg ch (fun hm => by have := lt_o_x1 _ hm; omega)
  replace o_w0 := o_w0.chg ch (fun k hk hm => by have h1 := lt_o_w0 k hk; have h2 := lt_o_x1 k hm; omega)
  replace o_x0 := o_x0.chg ch (fun k hk hm => by have h1 := lt_o_x0 k hk; have h2 := lt_o_x1 k hm; omega)
  replace o_g0 := o_g0.chg ch (fun k hk hm => by have h1 := lt_o_g0 k hk; have h2 := lt_o_x1 k hm; omega)
  have ll31 := ch.size
  replace o_x1 := on; clear on
  refine ⟨_, rfl, ?_⟩
  refine ifD (fun h => absurd h (by omega)) (fun _ => ?_)
  refine ⟨_, _, _, _, _, bk_g0.loadA0 (by kernel_rfl), _, _, _, _, _, bk_w0.loadA0 (by kernel_rfl), ?_⟩
  refine Ret.at (laws_eqMoney_c o_g0.reps o_w0.reps co_g0 co_w0) ?_
  rintro v W29 ⟨hv, y⟩
  subst hv
  replace x := x.trans y
  replace bk_a0 := bk_a0.ext y
  replace bk_a1 := bk_a1.ext y
  replace bk_w0 := bk_w0.ext y
  replace bk_x0 := bk_x0.ext y
  replace bk_x1 := bk_x1.ext y
  replace bk_g0 := bk_g0.ext y
  replace o_w0 := o_w0.ext y
  replace o_x0 := o_x0.ext y
  replace o_x1 := o_x1.ext y
  replace o_g0 := o_g0.ext y
  have ll32 := y.le
  refine ⟨_, rfl, ifN (fun h => absurd h (by simp)) (fun _ => ?_)⟩
  refine ⟨fun h => absurd h (bne_no rfl), fun _ => ?_⟩
  unfold laws_FnExactLeastPay_j1
  refine ⟨_, _, _, _, _, bk_g0.loadA0 (by kernel_rfl), ?_⟩
  refine Ret.at (laws_markMoney_c o_g0 nd_g0 co_g0 (by omega) (by omega)) ?_
  rintro v W30 ⟨hv, on, ch⟩
  subst hv
  replace x := x.chg ch (fun k hk => by have := lt_o_g0 k hk; omega)
  replace bk_a0 := bk_a0.chg ch (fun hm => by have := lt_o_g0 _ hm; omega)
  replace bk_a1 := bk_a1.chg ch (fun hm => by have := lt_o_g0 _ hm; omega)
  replace bk_w0 := bk_w0.chg ch (fun hm => by have := lt_o_g0 _ hm; omega)
  replace bk_x0 := bk_x0.chg ch (fun hm => by have := lt_o_g0 _ hm; omega)
  replace bk_x1 := bk_x1.chg ch (fun hm => by have := lt_o_g0 _ hm; omega)
  replace bk_g0 := bk_g0.chg ch (fun hm => by have := lt_o_g0 _ hm; omega)
  replace o_w0 := o_w0.chg ch (fun k hk hm => by have h1 := lt_o_w0 k hk; have h2 := lt_o_g0 k hm; omega)
  replace o_x0 := o_x0.chg ch (fun k hk hm => by have h1 := lt_o_x0 k hk; have h2 := lt_o_g0 k hm; omega)
  replace o_x1 := o_x1.chg ch (fun k hk hm => by have h1 := lt_o_x1 k hk; have h2 := lt_o_g0 k hm; omega)
  have ll33 := ch.size
  replace o_g0 := on; clear on
  refine ⟨_, rfl, ?_⟩
  refine ⟨_, _, _, _, _, bk_g0.loadA0 (by kernel_rfl), ?_⟩
  refine Ret.at (laws_heldMoney_c o_g0.reps co_g0 (by omega) (by omega)) ?_
  rintro v W31 ⟨hv, y⟩
  subst hv
  replace x := x.trans y
  replace bk_a0 := bk_a0.ext y
  replace bk_a1 := bk_a1.ext y
  replace bk_w0 := bk_w0.ext y
  replace bk_x0 := bk_x0.ext y
  replace bk_x1 := bk_x1.ext y
  replace bk_g0 := bk_g0.ext y
  replace o_w0 := o_w0.ext y
  replace o_x0 := o_x0.ext y
  replace o_x1 := o_x1.ext y
  replace o_g0 := o_g0.ext y
  have ll34 := y.le
  refine ⟨_, rfl, ifD (fun h => absurd h (by omega)) (fun _ => ?_)⟩
  refine ifD (fun h => absurd rfl h) (fun _ => ?_)
  have y := Ext.drew W31
  replace x := x.trans y
  replace bk_a0 := bk_a0.ext y
  replace bk_a1 := bk_a1.ext y
  replace bk_w0 := bk_w0.ext y
  replace bk_x0 := bk_x0.ext y
  replace bk_x1 := bk_x1.ext y
  replace bk_g0 := bk_g0.ext y
  replace o_w0 := o_w0.ext y
  replace o_x0 := o_x0.ext y
  replace o_x1 := o_x1.ext y
  replace o_g0 := o_g0.ext y
  have ll35 := y.le
  have bd0 := bk_a0
  have bd1 := bk_a1
  refine ⟨_, _, _, _, _, fun W' hW => (bd0.ext hW).loadA0 (by kernel_rfl), ?_⟩
  intro ssx W32 F
  have S := FlS.first F rfl
  have y := F.ext
  replace x := x.trans y
  replace bk_a0 := bk_a0.ext y
  replace bk_a1 := bk_a1.ext y
  replace bk_w0 := bk_w0.ext y
  replace bk_x0 := bk_x0.ext y
  replace bk_x1 := bk_x1.ext y
  replace bk_g0 := bk_g0.ext y
  replace o_w0 := o_w0.ext y
  replace o_x0 := o_x0.ext y
  replace o_x1 := o_x1.ext y
  replace o_g0 := o_g0.ext y
  have ll36 := y.le
  refine Ret.at (laws_toMoney_c (hr0.ext x) rfl (by simp only [bulks, D0.bulk, List.map_cons, List.map_nil, List.sum_cons, List.sum_nil]; omega)) ?_
  rintro v W33 ⟨vs, f_h0, hv, o_h0, nd_h0, y⟩
  subst hv
  obtain ⟨th00, th01, th02p, th02n, th02c, th02z, rfl, hdh0, th02h⟩ := open_Money o_h0.reps rfl
  have lt_o_h0 : ∀ k ∈ f_h0, W32.heap.size <= k /\ k < W33.heap.size := o_h0.lt
  have yy := y
  replace x := x.trans y
  replace bk_a0 := bk_a0.ext y
  replace bk_a1 := bk_a1.ext y
  replace bk_w0 := bk_w0.ext y
  replace bk_x0 := bk_x0.ext y
  replace bk_x1 := bk_x1.ext y
  replace bk_g0 := bk_g0.ext y
  replace o_w0 := o_w0.ext y
  replace o_x0 := o_x0.ext y
  replace o_x1 := o_x1.ext y
  replace o_g0 := o_g0.ext y
  replace S := S.ext y
  have ll37 := y.le
  refine ⟨_, _, _, _, _, rfl, yy, ?_⟩
  refine ⟨_, _, _, _, _, fun W' hW => (bd1.ext hW).loadA0 (by kernel_rfl), ?_⟩
  intro ssx W34 F
  have S := S.step F
  have y := F.ext
  replace x := x.trans y
  replace bk_a0 := bk_a0.ext y
  replace bk_a1 := bk_a1.ext y
  replace bk_w0 := bk_w0.ext y
  replace bk_x0 := bk_x0.ext y
  replace bk_x1 := bk_x1.ext y
  replace bk_g0 := bk_g0.ext y
  replace o_w0 := o_w0.ext y
  replace o_x0 := o_x0.ext y
  replace o_x1 := o_x1.ext y
  replace o_g0 := o_g0.ext y
  replace o_h0 := o_h0.ext y
  have ll38 := y.le
  refine Ret.at (laws_toDec_c (hr1.ext x) rfl (by simp only [bulks, D0.bulk, List.map_cons, List.map_nil, List.sum_cons, List.sum_nil]; omega)) ?_
  rintro v W35 ⟨vs, f_h1, hv, o_h1, nd_h1, y⟩
  subst hv
  obtain ⟨th10, th11p, th11n, th11c, th11z, th12, rfl, hdh1, th11h⟩ := open_Dec o_h1.reps rfl
  have lt_o_h1 : ∀ k ∈ f_h1, W34.heap.size <= k /\ k < W35.heap.size := o_h1.lt
  have yy := y
  replace x := x.trans y
  replace bk_a0 := bk_a0.ext y
  replace bk_a1 := bk_a1.ext y
  replace bk_w0 := bk_w0.ext y
  replace bk_x0 := bk_x0.ext y
  replace bk_x1 := bk_x1.ext y
  replace bk_g0 := bk_g0.ext y
  replace o_w0 := o_w0.ext y
  replace o_x0 := o_x0.ext y
  replace o_x1 := o_x1.ext y
  replace o_g0 := o_g0.ext y
  replace o_h0 := o_h0.ext y
  replace S := S.ext y
  have ll39 := y.le
  refine ⟨_, _, _, _, _, rfl, ?_⟩
  intro ssx W36 F
  have S := S.step F
  have y := F.ext
  replace x := x.trans y
  replace bk_a0 := bk_a0.ext y
  replace bk_a1 := bk_a1.ext y
  replace bk_w0 := bk_w0.ext y
  replace bk_x0 := bk_x0.ext y
  replace bk_x1 := bk_x1.ext y
  replace bk_g0 := bk_g0.ext y
  replace o_w0 := o_w0.ext y
  replace o_x0 := o_x0.ext y
  replace o_x1 := o_x1.ext y
  replace o_g0 := o_g0.ext y
  replace o_h0 := o_h0.ext y
  replace o_h1 := o_h1.ext y
  have ll40 := y.le
  have Sc := S
  refine Ret.at (impl_LeastPay_c o_h0.reps rfl o_h1.reps rfl a2 a3 (ht.ext x)) ?_
  rintro v W37 ⟨vs_h0, f_h0, hv, o_h0, nd_h0, co_h0, ct_h0, y⟩
  subst hv
  have tn_h0 := tcnts_nn ct_h0
  have lt_o_h0 : ∀ k ∈ f_h0, W36.heap.size <= k /\ k < W37.heap.size := o_h0.lt
  replace x := x.trans y
  replace bk_a0 := bk_a0.ext y
  replace bk_a1 := bk_a1.ext y
  replace bk_w0 := bk_w0.ext y
  replace bk_x0 := bk_x0.ext y
  replace bk_x1 := bk_x1.ext y
  replace bk_g0 := bk_g0.ext y
  replace o_w0 := o_w0.ext y
  replace o_x0 := o_x0.ext y
  replace o_x1 := o_x1.ext y
  replace o_g0 := o_g0.ext y
  replace S := S.ext y
  have ll41 := y.le
  obtain ⟨gh00, gh01, gh02p, gh02n, gh02c, gh02z, rfl, hd_h0, gh02h⟩ := open_Money o_h0.reps co_h0
  refine ⟨_, _, _, _, _, _, rfl, ?_⟩
  intro ssx W38 r_h0 F G_h0
  have S := S.step F
  have y := F.ext
  replace x := x.trans y
  replace bk_a0 := bk_a0.ext y
  replace bk_a1 := bk_a1.ext y
  replace bk_w0 := bk_w0.ext y
  replace bk_x0 := bk_x0.ext y
  replace bk_x1 := bk_x1.ext y
  replace bk_g0 := bk_g0.ext y
  replace o_w0 := o_w0.ext y
  replace o_x0 := o_x0.ext y
  replace o_x1 := o_x1.ext y
  replace o_g0 := o_g0.ext y
  replace o_h0 := o_h0.ext y
  have ll42 := y.le
  have FF := F
  obtain ⟨sr_h0, lr_h0, bk_h0⟩ := S.blk G_h0 rfl
  have ap_h0 := Sc.apart FF G_h0
  obtain ⟨W39, st, bq, ch, sz⟩ := bk_h0.storeA0 (P := P) (t := T_impl_Money) (xs := [.string gh00, .bool gh01, .slice gh02p gh02n gh02c]) (by kernel_rfl) rfl o_h0.reps.cells1
  replace x := x.chg ch (by simp; omega)
  replace bk_a0 := bk_a0.chg ch (by simp; omega)
  replace bk_a1 := bk_a1.chg ch (by simp; omega)
  replace bk_w0 := bk_w0.chg ch (by simp; omega)
  replace bk_x0 := bk_x0.chg ch (by simp; omega)
  replace bk_x1 := bk_x1.chg ch (by simp; omega)
  replace bk_g0 := bk_g0.chg ch (by simp; omega)
  replace o_w0 := o_w0.chg ch (fun k hk hm => by have h1 := lt_o_w0 k hk; simp at hm; omega)
  replace o_x0 := o_x0.chg ch (fun k hk hm => by have h1 := lt_o_x0 k hk; simp at hm; omega)
  replace o_x1 := o_x1.chg ch (fun k hk hm => by have h1 := lt_o_x1 k hk; simp at hm; omega)
  replace o_g0 := o_g0.chg ch (fun k hk hm => by have h1 := lt_o_g0 k hk; simp at hm; omega)
  replace o_h0 := o_h0.chg ch (fun k hk hm => by have h1 := lt_o_h0 k hk; simp at hm; omega)
  have bk_h0 := bq; clear bq
  have ll43 := ch.size
  refine ⟨_, st, ?_⟩
  refine ⟨_, _, _, _, _, bk_h0.loadA0 (by kernel_rfl), _, _, _, _, _, bk_w0.loadA0 (by kernel_rfl), ?_⟩
  refine Ret.at (laws_eqMoney_c o_h0.reps o_w0.reps co_h0 co_w0) ?_
  rintro v W40 ⟨hv, y⟩
  subst hv
  replace x := x.trans y
  replace bk_a0 := bk_a0.ext y
  replace bk_a1 := bk_a1.ext y
  replace bk_w0 := bk_w0.ext y
  replace bk_x0 := bk_x0.ext y
  replace bk_x1 := bk_x1.ext y
  replace bk_g0 := bk_g0.ext y
  replace bk_h0 := bk_h0.ext y
  replace o_w0 := o_w0.ext y
  replace o_x0 := o_x0.ext y
  replace o_x1 := o_x1.ext y
  replace o_g0 := o_g0.ext y
  replace o_h0 := o_h0.ext y
  have ll44 := y.le
  refine ⟨_, rfl, ifN (fun h => absurd h (by simp)) (fun _ => ?_)⟩
  refine ⟨fun h => absurd h (bne_no rfl), fun _ => ?_⟩
  unfold laws_FnExactLeastPay_j2
  refine ⟨_, _, _, _, _, bk_g0.loadA0 (by kernel_rfl), ?_⟩
  refine Ret.at (laws_heldMoney_c o_g0.reps co_g0 (by omega) (by omega)) ?_
  rintro v W41 ⟨hv, y⟩
  subst hv
  replace x := x.trans y
  replace bk_a0 := bk_a0.ext y
  replace bk_a1 := bk_a1.ext y
  replace bk_w0 := bk_w0.ext y
  replace bk_x0 := bk_x0.ext y
  replace bk_x1 := bk_x1.ext y
  replace bk_g0 := bk_g0.ext y
  replace bk_h0 := bk_h0.ext y
  replace o_w0 := o_w0.ext y
  replace o_x0 := o_x0.ext y
  replace o_x1 := o_x1.ext y
  replace o_g0 := o_g0.ext y
  replace o_h0 := o_h0.ext y
  have ll45 := y.le
  refine ⟨_, rfl, ifD (fun h => absurd h (by omega)) (fun _ => ?_)⟩
  refine ifD (fun h => absurd rfl h) (fun _ => ?_)
  exact ⟨rfl, x⟩
end Go.Proofs.YtfehpaekbbmkcaaGreatDoor
namespace Go.Proofs.YtfehpaekbbmkcaaGreatDoor.Sx
open Go Go.RowKit Go.ChangeShapes Go.WideShapes
def rowedV (P : Program) (ns : List String) : Bool := ns.all fun n => ((P.globalNamed n).bind (P.globals[·]?)).all fun gl => P.readableRec gl.type && decide (gl.type < P.types.size)
section
variable {H : Type} {enc : TypeId × Value -> H} {P : Program}
theorem trodAll_ext (hl : laidOutB P = true) {W W' : World} (hb : Ext W W') (sp' : Nat -> Bool) : ∀ {ts : List TypeId} {vs : List Value} {ds : List (DataW H)} {ps : List MemPlace},
    (∀ t ∈ ts, P.readableRec t = true /\ t < P.types.size) -> (∀ p ∈ ps, p.block < W.heap.size) -> (∀ p ∈ ps, sp' p.block = true) ->
    DataW.TrodAll enc P W 0 (fun _ => true) true ts vs ds ps -> DataW.TrodAll enc P W' 0 sp' true ts vs ds ps
  | [], _, _, _, _, _, _, h => by
    obtain ⟨rfl, rfl, rfl⟩ := trodAll_nil h
    exact rfl
  | t :: ts, _, _, _, hr, hlt, hsp, h => by
    obtain ⟨v, vs1, d, ds1, a, b, rfl, rfl, rfl, h1, h2⟩ := trodAll_cons h
    have hrt := hr t (by simp)
    exact ⟨a, b, WideElems.Trod_stays hl hrt.1 hrt.2 h1 (fun x hx => Below.same hb (hlt x (by simp [hx]))) (fun x hx => hsp x (by simp [hx])),
      trodAll_ext hl hb sp' (fun u hu => hr u (by simp [hu])) (fun x hx => hlt x (by simp [hx])) (fun x hx => hsp x (by simp [hx])) h2, rfl⟩
theorem trodVars_sp (hl : laidOutB P = true) {W W' : World} (hb : Ext W W') (sp' : Nat -> Bool) :
    ∀ {ns : List String} {gs : List (DataW H)} {ps : List MemPlace}, rowedV P ns = true -> (∀ p ∈ ps, sp' p.block = true) -> DataW.TrodVars enc P W (fun _ => true) ns gs ps -> DataW.TrodVars enc P W' sp' ns gs ps
  | [], [], _, _, _, h => h
  | [], _ :: _, _, _, _, h => h.elim
  | _ :: _, [], _, _, _, h => h.elim
  | n :: ns, d :: ds, ps, hv, hsp, h => by
    have hlt := h.lt
    obtain ⟨g, t, cs, fuel, p, q, h1, h2, h3, h4, hs, e⟩ := h
    simp only [rowedV, List.all_cons, Bool.and_eq_true] at hv
    have ht : P.readableRec t = true /\ t < P.types.size := by
      have := hv.1
      rw [h1] at this
      cases hg : P.globals[g]? with
      | none => rw [hg] at h2; cases h2
      | some gl =>
        rw [hg] at h2
        obtain rfl : gl.type = t := Option.some.inj h2
        simpa [hg] using this
    have hp : ∀ x ∈ p, x.block < W.heap.size := fun x hx => hlt x (by rw [e]; simp [hx])
    have h3' : W'.var? P n = some cs := by
      unfold World.var? at h3 ⊢
      rw [h1] at h3 ⊢
      simp only [Option.bind_some] at h3 ⊢
      have hg : g < W.heap.size := by
        cases hh : W.heap[g]? with
        | none => rw [hh] at h3; cases h3
        | some o => exact (Array.getElem?_eq_some_iff.1 hh).1
      rw [hb.block g hg]; exact h3
    exact ⟨g, t, cs, fuel, p, q, h1, h2, h3', DataW.trod_stays (kids_book hl ht.1) (book_sized ht.1) (fun h => by cases h) ⟨ht.2, book_self t⟩ h4 (fun x hx => Below.same hb (hp x hx)) (fun x hx => hsp x (by rw [e]; simp [hx])),
      trodVars_sp hl hb sp' (by simpa [rowedV] using hv.2) (fun x hx => hsp x (by rw [e]; simp [hx])) hs, e⟩
theorem post_of_ext {f : Func} {s : ChangeSpec} {apart fresh handsOn again : Bool} {W W' : World} {args : Array Value} {ds gs : List (DataW H)} {before : List MemPlace} {tb : TypeId}
    (hl : laidOutB P = true) (hpar : ∀ t ∈ f.params.toList, P.readableRec t = true /\ t < P.types.size) (hvr : rowedV P s.vars = true)
    (hrt : f.resultTypes = #[tb]) (htb : P.underlying tb = some .bool)
    (hW : DataW.Whole enc P f.params.toList s.vars apart W args.toList ds gs before) (hx : Ext W W')
    (hfn : s.fn H (ds ++ gs) = { results := [.lit (.bool true)], args := ds, vars := gs }) :
    s.post enc P f apart fresh handsOn again W args (.bool true) W' := by
  have hW0 := hW
  have hlt : ∀ p ∈ before, p.block < W.heap.size := hW.lt
  obtain ⟨pa, pv, hA, hV, rfl, hz, hn⟩ := hW
  have hlta : ∀ p ∈ pa, p.block < W.heap.size := fun p hp => hlt p (by simp [hp])
  have hltv : ∀ p ∈ pv, p.block < W.heap.size := fun p hp => hlt p (by simp [hp])
  have hr : (Value.bool true).resultList f.resultTypes.size = [Value.bool true] := by rw [hrt]; rfl
  refine ⟨ds, gs, pa ++ pv, [], pa, pv, hW0, ?_, ?_, ?_, Below.frame hx _, fun _ => ?_⟩
  · rw [hfn, hr, hrt]
    exact trodAll_mk1 (shut_bool htb _)
  · rw [hfn]
    exact trodAll_ext hl hx _ hpar hlta (fun p hp => by simpa using hlta p hp) hA
  · rw [hfn]
    exact trodVars_sp hl hx _ hvr (fun p hp => by simpa using hltv p hp) hV
  · refine ⟨?_, (.lit (.bool true)) :: ds, gs, pa ++ pv, ⟨[] ++ pa, pv, ?_, ?_, by simp, ?_, ?_⟩, fun p hp _ => hp⟩
    · rw [hr, hrt]
      exact ok_one (f := { f with resultTypes := #[tb] }) rfl rfl (okWide_bool_mk htb _)
    · rw [hr, hrt]
      exact trodAll_append (trodAll_ext hl hx _ hpar hlta (fun _ _ => rfl) hA) (trodAll_mk1 (shut_bool htb _))
    · exact trodVars_sp hl hx _ hvr (fun _ _ => rfl) hV
    · intro b off hp
      have := hlt _ hp
      rw [Below.frozen hx (p := ⟨b, off, none⟩) this]
      exact hz b off hp
    · exact hn
end
end Go.Proofs.YtfehpaekbbmkcaaGreatDoor.Sx
namespace Go.Proofs.YtfehpaekbbmkcaaGreatDoor.Sx
open Go Go.RowKit Go.ChangeShapes Go.WideShapes
def flatF (P : Program) (g : TypeId -> Option (List C0)) : Nat -> List Field -> Option (List C0)
  | _, [] => some []
  | o, f :: r => match Nat.beq f.offset o, g f.type with
    | true, some a => match Nat.beq (P.cellsOf f.type) a.length, flatF P g (o + a.length) r with
      | true, some b => some (a ++ b)
      | _, _ => none
    | _, _ => none
def flatC (P : Program) : Nat -> TypeId -> Option (List C0)
  | 0, _ => none
  | n + 1, t => match P.underlying t with
    | some .bool => some [.bool]
    | some (.int .i64) => some [.int]
    | some .string => some [.str]
    | some (.slice e) => match P.underlying e, P.cellsOf e with
      | some (.int .i64), 1 => some [.ints]
      | _, _ => none
    | some (.struct fs) => match flatF P (flatC P n) 0 fs.toList with
      | some a => if Nat.beq (P.cellsOf t) a.length then some a else none
      | none => none
    | _ => none
section
variable {H : Type} {enc : TypeId × Value -> H} {P : Program} {w : World}
theorem spot_none {a : Addr} {v : Value} (h : w.cell? a = some v) : a = ⟨a.block, a.off, none⟩ := by
  obtain ⟨b, o, spot⟩ := a
  have : spot = none := by simpa using World.cell?_spot h
  subst this; rfl
theorem ints_of_trod {t e : TypeId} {fuel : Nat} {sp : Nat -> Bool} {hd : Bool} {cs : List Value} {x : DataW H × List MemPlace} (ht : P.underlying t = some (.slice e)) (he : P.underlying e = some (.int .i64)) (hc : P.cellsOf e = 1)
    (h : DataW.trod enc P w 0 sp hd fuel t cs = some x) : ∃ p n c zs, cs = [.slice p n c] /\ IntsR w p n c zs /\ zs.length <= 9223372036854775807 := by
  rcases Go.ChangeShapes.open_ints ht he hc h with ⟨rfl, _⟩ | ⟨a, len, cap, zs, rfl, _, hl, hm, hz, _, hcell, _⟩
  · exact ⟨none, 0, 0, [], rfl, ⟨rfl, Nat.le_refl _, by omega, fun h => absurd h (by omega)⟩, by simp⟩
  · have hlz : len <= zs.length := by rw [hz]; split <;> omega
    refine ⟨some a, len, cap, zs.take len, rfl, ⟨by simp; omega, hl, by simpa [maxLen] using hm, fun hpos => ?_⟩, by simp only [maxLen] at hm; simp; omega⟩
    have h0 := hcell 0 (by omega)
    have hs := spot_none h0
    have ha : a = ⟨a.block, a.off, none⟩ := by
      obtain ⟨b, o, s⟩ := a
      simp [Addr.add] at hs
      simp [hs]
    refine ⟨a.block, a.off, by rw [<- ha], fun j v hj => ?_⟩
    simp only [List.getElem?_map, List.getElem?_take] at hj
    split at hj
    · rename_i hjl
      have hjz : j < zs.length := by omega
      have := hcell j hjz
      rw [ha, addr_add] at this
      rw [this]
      rw [List.getElem?_eq_getElem hjz] at hj
      simp at hj
      rw [<- hj]
      simp [hjz]
    · simp at hj
theorem flatF_open {g : TypeId -> Option (List C0)} {n : Nat} {sp : Nat -> Bool} {hd : Bool}
    (ih : ∀ {t : TypeId} {ks : List C0} {cs : List Value} {x : DataW H × List MemPlace}, g t = some ks -> DataW.trod enc P w 0 sp hd n t cs = some x -> ∃ ds, Reps w cs ds /\ ds.map D0.code = ks /\ ∀ d ∈ ds, d.ok) :
    ∀ (fs : List Field) (o : Nat) (ks : List C0) (cs : List Value), flatF P g o fs = some ks -> cs.length = o + ks.length ->
      (∀ f ∈ fs, ∃ x, DataW.trod enc P w 0 sp hd n f.type ((cs.drop f.offset).take (P.cellsOf f.type)) = some x) -> ∃ ds, Reps w (cs.drop o) ds /\ ds.map D0.code = ks /\ ∀ d ∈ ds, d.ok
  | [], o, ks, cs, hf, hl, _ => by
    simp only [flatF, Option.some.injEq] at hf
    subst hf
    rw [List.drop_of_length_le (by simp at hl; omega)]
    exact ⟨[], trivial, rfl, by simp⟩
  | f :: r, o, ks, cs, hf, hl, hx => by
    simp only [flatF] at hf
    split at hf
    · rename_i a h1 h2
      split at hf
      · rename_i b h3 h4
        have h1' := Nat.eq_of_beq_eq_true h1
        have h3' := Nat.eq_of_beq_eq_true h3
        cases hf
        rw [List.length_append] at hl
        obtain ⟨x, hx0⟩ := hx f (by simp)
        obtain ⟨ds, r1, c1, k1⟩ := ih h2 hx0
        obtain ⟨es, r2, c2, k2⟩ := flatF_open ih r (o + a.length) b cs h4 (by omega) (fun f' hf' => hx f' (by simp [hf']))
        refine ⟨ds ++ es, ?_, by simp [c1, c2], fun d hd => ?_⟩
        · rw [h1', h3'] at r1
          have : cs.drop o = (cs.drop o).take a.length ++ cs.drop (o + a.length) := by
            rw [<- List.drop_drop, List.take_append_drop]
          rw [this]
          exact r1.append r2
        · rcases List.mem_append.1 hd with h | h
          · exact k1 d h
          · exact k2 d h
      · cases hf
    · cases hf
theorem flat_open {sp : Nat -> Bool} {hd : Bool} : ∀ (m : Nat) {fuel : Nat} {t : TypeId} {ks : List C0} {cs : List Value} {x : DataW H × List MemPlace}, flatC P m t = some ks -> DataW.trod enc P w 0 sp hd fuel t cs = some x ->
    ∃ ds, Reps w cs ds /\ ds.map D0.code = ks /\ ∀ d ∈ ds, d.ok
  | 0, _, _, _, _, _, h, _ => by cases h
  | m + 1, fuel, t, ks, cs, x, h, ht => by
    simp only [flatC] at h
    split at h
    · rename_i hu
      obtain ⟨b, rfl, _⟩ := DataW.trod_bool hu ht
      cases h
      exact ⟨[.bool b], ⟨rfl, trivial⟩, rfl, by simp [D0.ok]⟩
    · rename_i hu
      obtain ⟨b, rfl, _, hw⟩ := DataW.trod_int hu ht
      cases h
      refine ⟨[.int b], ⟨rfl, trivial⟩, rfl, ?_⟩
      simp only [List.mem_singleton, forall_eq, D0.ok]
      simp [Lit.wf, IntKind.min, IntKind.max, IntKind.bits, IntKind.signed] at hw
      omega
    · rename_i hu
      obtain ⟨s, rfl, _, hw⟩ := DataW.trod_string hu ht
      cases h
      exact ⟨[.str s], ⟨rfl, trivial⟩, rfl, by simpa [D0.ok, maxLen] using hw⟩
    · rename_i e hu
      split at h
      · rename_i he hc
        cases h
        obtain ⟨p, n, c, zs, rfl, hr, hz⟩ := ints_of_trod hu he hc ht
        exact ⟨[.ints zs], ⟨⟨p, n, c, rfl, hr⟩, trivial⟩, rfl, by simpa [D0.ok] using hz⟩
      · cases h
    · rename_i fs hu
      split at h
      · rename_i a hf
        split at h
        · rename_i hsz
          cases h
          obtain ⟨xs, n, rfl, _, hlen, hxl, hfs⟩ := DataW.trod_struct hu ht
          have hsz' := Nat.eq_of_beq_eq_true hsz
          have := flatF_open (fun h1 h2 => flat_open m h1 h2) fs.toList 0 ks cs hf (by omega) (fun f hf => by
            obtain ⟨i, hi⟩ := List.getElem?_of_mem hf
            have hil : i < fs.size := by simpa using (List.getElem?_eq_some_iff.1 hi).1
            have := hfs i f (by simpa using hi)
            rw [List.getElem?_eq_getElem (by omega)] at this
            exact ⟨_, this⟩)
          simpa using this
        · cases h
      · cases h
    · cases h
end
end Go.Proofs.YtfehpaekbbmkcaaGreatDoor.Sx
namespace Go.Proofs.YtfehpaekbbmkcaaGreatDoor
open Go Go.Proofs.YtfehpaekbbmkcaaGreatDoor.Sx
def curData {H : Type} (r : CurRow) : DataW H := .agg [.lit (.string r.1.data.toList), .lit (.string r.2.1.data.toList), .lit (.int .i64 r.2.2.1), .lit (.int .i64 r.2.2.2)]
theorem bytes_eq {a b : ByteArray} (h : a.data.toList = b.data.toList) : a = b := by
  obtain ⟨⟨x⟩⟩ := a; obtain ⟨⟨y⟩⟩ := b
  simp at h; subst h; rfl
set_option maxRecDepth 100000 in
theorem cur_cells {H : Type} {enc : TypeId × Value -> H} {w : World} {sp : Nat -> Bool} {hd : Bool} {fuel : Nat} {cs : List Value} {r : CurRow} {p : List MemPlace}
    (h : DataW.trod enc P w 0 sp hd fuel T_impl_currency cs = some (curData r, p)) : cs = curCells r := by
  obtain ⟨fs, hu, hsz, ⟨f0, e0, t0, o0⟩, ⟨f1, e1, t1, o1⟩, ⟨f2, e2, t2, o2⟩, ⟨f3, e3, t3, o3⟩⟩ := cur_fields
  have hu : P.underlying T_impl_currency = some (.struct fs) := hu
  have hs : P.underlying T_string = some .string := by kernel_rfl
  have hi : P.underlying T_int = some (.int .i64) := by kernel_rfl
  have cS : P.cellsOf T_string = 1 := by kernel_rfl
  have cI : P.cellsOf T_int = 1 := by kernel_rfl
  have cC : P.cellsOf T_impl_currency = 4 := by kernel_rfl
  obtain ⟨xs, n, rfl, hx, hlen, hxl, hf⟩ := DataW.trod_struct hu h
  rw [cC] at hlen
  rw [hsz] at hxl
  have h0 := hf 0 f0 e0; have h1 := hf 1 f1 e1; have h2 := hf 2 f2 e2; have h3 := hf 3 f3 e3
  rw [t0, o0, cS] at h0; rw [t1, o1, cS] at h1; rw [t2, o2, cI] at h2; rw [t3, o3, cI] at h3
  match cs, hlen, xs, hxl, hx, h0, h1, h2, h3 with
  | [c0, c1, c2, c3], _, [x0, x1, x2, x3], _, hx, h0, h1, h2, h3 =>
    simp only [List.drop_succ_cons, List.drop_zero, List.take_succ_cons, List.take_zero, List.getElem?_cons_zero, List.getElem?_cons_succ] at h0 h1 h2 h3
    obtain ⟨s0, a0, b0, _⟩ := DataW.trod_string hs h0
    obtain ⟨s1, a1, b1, _⟩ := DataW.trod_string hs h1
    obtain ⟨z2, a2, b2, _⟩ := DataW.trod_int hi h2
    obtain ⟨z3, a3, b3, _⟩ := DataW.trod_int hi h3
    simp only [Prod.mk.injEq, curData, DataW.agg.injEq, List.map_cons, List.map_nil, List.cons.injEq, b0, b1, b2, b3, DataW.lit.injEq, Lit.string.injEq, Lit.int.injEq, true_and, and_true] at hx
    simp only [List.cons.injEq, and_true] at a0 a1 a2 a3
    obtain ⟨⟨q0, q1, q2, q3⟩, _⟩ := hx
    rw [a0, a1, a2, a3, <- bytes_eq q0, <- bytes_eq q1, <- q2, <- q3]
    rfl
theorem flat_of_rows : ∀ (l : List CurRow) (cs : List Value), cs.length = l.length * 4 -> (∀ i (hi : i < l.length), (cs.drop (i * 4)).take 4 = curCells (l[i]'hi)) -> cs = l.flatMap curCells
  | [], cs, h, _ => by simpa using h
  | r :: l, cs, h, hr => by
    have h0 := hr 0 (by simp)
    simp only [Nat.zero_mul, List.drop_zero, List.getElem_cons_zero] at h0
    rw [List.flatMap_cons, <- h0, <- flat_of_rows l (cs.drop 4) (by simp at h ⊢; omega) (fun i hi => by
      have := hr (i + 1) (by simpa using hi)
      rw [List.drop_drop, show 4 + i * 4 = (i + 1) * 4 by omega]
      simpa using this), List.take_append_drop]
def curVar : String := "loop.example/g00793/impl.currencies"
set_option maxRecDepth 100000 in
theorem tab_of_head {W : World} {rest : List (String × DataW Unit)} (h : laidMet P ((curVar, Rows.laid_loop_example_g00793_impl_currencies) :: rest) W) : Tab W := by
  obtain ⟨ps, ⟨g, t, cs, fuel, p, q, hg, ht, hvar, hd, _, _⟩, _⟩ := h
  have hg0 : P.globalNamed curVar = some 0 := by kernel_rfl
  have ht0 : (P.globals[0]?).map (·.type) = some T_20_impl_currency := by kernel_rfl
  obtain rfl := Option.some.inj (hg0.symm.trans hg)
  obtain rfl := Option.some.inj (ht0.symm.trans ht)
  have hu : P.underlying T_20_impl_currency = some (.array 20 T_impl_currency) := und_T_20_impl_currency
  have cC : P.cellsOf T_impl_currency = 4 := by kernel_rfl
  have cA : P.cellsOf T_20_impl_currency = 80 := by kernel_rfl
  obtain ⟨xs, m, rfl, hx, hlen, hxl, hf⟩ := DataW.trod_array hu hd
  rw [cA] at hlen
  have hdat : (Rows.laid_loop_example_g00793_impl_currencies : DataW Unit) = .agg (implTab.map curData) := by rfl
  rw [hdat] at hx
  simp only [Prod.mk.injEq, DataW.agg.injEq] at hx
  have hl := impl_length
  have hcs : cs.toList = implTab.flatMap curCells := by
    refine flat_of_rows implTab _ (by omega) fun i hi => ?_
    have h1 := hf i (by omega)
    rw [cC] at h1
    have h2 : (xs.map (·.1))[i]? = some (curData (implTab[i]'hi)) := by rw [<- hx.1]; simp [hi]
    rw [List.getElem?_map] at h2
    cases h3 : xs[i]? with
    | none => rw [h3] at h2; cases h2
    | some x =>
      rw [h3] at h1 h2
      simp only [Option.map_some, Option.some.injEq] at h2
      obtain ⟨d, pp⟩ := x
      simp only at h2
      subst h2
      exact cur_cells h1
  intro i v hv
  have := World.var?_cell hg0 hvar i
  rw [Nat.zero_add, this, <- hv, <- hcs]
  simp
theorem tab_of_laid {W : World} (h : laidMetH P [(curVar, Rows.laid_loop_example_g00793_impl_currencies)] W) : Tab W := tab_of_head (rest := []) h
noncomputable def laidWorld (os : Os) (args : Array Value) : World :=
  { World.holding P os ⟨#[], args, []⟩ with heap := (World.holding P os ⟨#[], args, []⟩).heap.modify 0 fun
      | .cells _ t frozen => .cells ⟨implTab.flatMap curCells⟩ t frozen
      | o => o }
theorem trodVars_one {H : Type} {enc : TypeId × Value -> H} {w : World} {sp : Nat -> Bool} {n : String} {gs : List (DataW H)} {ps : List MemPlace} (h : DataW.TrodVars enc P w sp [n] gs ps) : ∃ g, gs = [g] := by
  match gs, h with
  | [g], _ => exact ⟨g, rfl⟩
  | g :: g2 :: r, h =>
    obtain ⟨_, _, _, _, _, _, _, _, _, _, h2, _⟩ := h
    exact h2.elim
end Go.Proofs.YtfehpaekbbmkcaaGreatDoor
