/-
  Parts of the proof of fnTaxIn_holds: CFnTaxIn, CTab, CTabP, CTabX.
  Conditions: none.
-/
import Derived.ProofKit
import Derived.Test.YtbgokfhcgcoipaaGreatDoorRows
import Derived.OpenShut
import Derived.Lib.LaidTab
import Derived.Test.YtbgokfhcgcoipaaGreatDoorTi5
set_option linter.unusedVariables false
set_option linter.unusedSimpArgs false

namespace Go.Proofs.YtbgokfhcgcoipaaGreatDoor
open Go Go.Proofs.YtbgokfhcgcoipaaGreatDoor.Sx
set_option maxRecDepth 20000
set_option maxHeartbeats 1000000
theorem mon_codeT (c : ByteArray) (z : Int) : (.str c :: enc z : List D0).map D0.code = [.str, .bool, .ints] := rfl
theorem Sx.Blk.putA {W : World} {r : Nat} {e t : TypeId} {cs xs : List Value} (B : Blk W r e cs) (hn : NoInt cs) (ht : aggT P t xs.length = true) (hk : xs.length = cs.length) (hv : ∀ v ∈ xs, v.oneCell' = true) :
    ∃ W', Stores P t ⟨r, 0, none⟩ (.agg ⟨xs⟩) W W' /\ Blk W' r e xs /\ Chg [r] W W' /\ ∀ {vs : List Value} {ds : List D0}, Reps W vs ds -> Reps W' vs ds := by
  obtain ⟨W', a, b, c, _⟩ := B.storeA0 (P := P) (t := t) ht hk hv
  exact ⟨W', a, b, c, fun h => reps_keep B hn c h⟩
theorem ne_sing {a b : Nat} (h : a ≠ b) : a ∉ [b] := fun hm => h (List.mem_singleton.1 hm)
theorem le_sing {a b : Nat} (h : a <= b) : ∀ q ∈ [b], a <= q := fun q hq => by have := List.mem_singleton.1 hq; omega
theorem one18 : (digs (1 : Int).natAbs).length <= 18 := Nat.le_trans one_len1 (by decide)
theorem addN {X net : Int} {Y : Nat} : net * (Y : Int) + (X - net * Y) * ((1 : Nat) : Int) = X := by
  show net * (Y : Int) + (X - net * Y) * 1 = X
  omega
theorem laws_FnTaxIn_c {w : World} {p0 : Option Addr} {n0 c0 : Nat} (h0 : ByR w p0 n0) (ht : Tab w) (hp : TabP w) : Ret P n_laws_FnTaxIn [.slice p0 n0 c0] w fun v w' => v = .bool true /\ Ext w w' := by
  have h := h0
  refine laws_FnTaxIn_s_ret ?_
  unfold laws_FnTaxIn_s
  refine ifD (fun _ => ⟨rfl, Ext.refl w⟩) (fun hs => ?_)
  have hn : n0 <= 1048576 := by omega
  refine Ret.at (spec_MakeMoneys_c h hn) ?_
  rintro v w1 ⟨cur, u, u2, vs, vs2, rfl, hck, hu, rM, rM2, y1⟩
  have rMc := rM; have rM2c := rM2
  obtain ⟨m0, m1, mp, mn, mc, mz, rfl, _, _⟩ := open_Money rM (mon_codeT _ _)
  obtain ⟨k0, k1, kp, kn, kc, kz, rfl, _, _⟩ := open_Money rM2 (mon_codeT _ _)
  refine ⟨_, _, _, _, _, _, _, _, _, _, rfl, ?_⟩
  intro r w2 hn2 r1 w3 hn3
  have e2 := hn2.r_eq; have e3 := hn3.r_eq; have s2 := hn2.size; have s3 := hn3.size
  obtain ⟨w4, st4, bM, ch4, kp4⟩ := (hn2.blk.ext hn3.ext).putA (t := T_impl_Money) (xs := [.string m0, .bool m1, .slice mp mn mc]) (noInt_money _ _ _ _ _) (by kernel_rfl) rfl rMc.cells1
  obtain ⟨w5, st5, _, ch5, kp5⟩ := (hn3.blk.chg ch4 (ne_sing (by omega))).putA (t := T_impl_Money) (xs := [.string k0, .bool k1, .slice kp kn kc]) (noInt_money _ _ _ _ _) (by kernel_rfl) rfl rM2c.cells1
  have bM := bM.chg ch5 (ne_sing (by omega))
  have x23 := hn2.ext.trans hn3.ext
  have rM := kp5 (kp4 (rMc.ext x23))
  have x := ((y1.trans x23).chg ch4 (le_sing (by have := y1.le; omega))).chg ch5 (le_sing (by have := y1.le; omega))
  refine ⟨w4, st4, w5, st5, ?_⟩
  refine Ret.at (spec_MakeRate_c (h.ext x) hn) ?_
  rintro v w6 ⟨num, sc, vs4, f4, rfl, hnum, hsc, ho4, _, y6⟩
  obtain ⟨m, t, RF⟩ := rate_facts hnum hsc
  obtain ⟨dr, hdr⟩ : ∃ dr, enc num ++ [D0.int sc] = dr := ⟨_, rfl⟩
  rw [hdr] at RF
  have rR := ho4.reps
  rw [hdr] at rR
  have hcR : dr.map D0.code = [.bool, .ints, .int] := by rw [RF.form]; rfl
  have rRc := rR
  obtain ⟨b0, bp, bn, bc, bz, bs, rfl, _, _⟩ := open_Dec rR hcR
  refine ⟨_, _, _, _, _, rfl, ?_⟩
  intro r2 w7 hn7
  obtain ⟨w8, st8, bR, y8⟩ := hn7.fill (P := P) (t := T_impl_Dec) rRc.cells1 (by kernel_rfl) rfl
  have rR := rRc.ext y8
  have bM := bM.ext (y6.trans y8); have rM := rM.ext (y6.trans y8)
  have x := x.trans (y6.trans y8)
  have D8 := Ext.drew w8
  refine ⟨w8, st8, _, _, _, _, _, fun W hW => (bM.ext (D8.trans hW)).loadA0 (by kernel_rfl), _, _, _, _, _, fun W hW => (bR.ext (D8.trans hW)).loadA0 (by kernel_rfl), ?_⟩
  -- the tax in the amount
  have bM := bM.ext D8; have rM := rM.ext D8; have bR := bR.ext D8; have rR := rR.ext D8
  have x := x.trans D8
  intro ss w10 F1
  have S := FlS.first F1 rfl
  refine Ret.at (spec_MakeMode_c (h.ext (x.trans F1.ext)) hn) ?_
  rintro v w11 ⟨mode, rfl, hm0, hm1, y11⟩
  have hmo := mode_form hm0 hm1
  refine ⟨_, rfl, y11, ?_⟩
  intro ss1 w12 F2
  have S := (S.ext y11).step F2
  have z := F1.ext.trans (y11.trans F2.ext)
  refine Ret.at (impl_TaxIn_c (rM.ext z) (mon_codeT _ _) (rR.ext z) hcR mode (ht.ext (x.trans z))) ?_
  rintro v w13 ⟨va, fa, vb, fb, vc, fc, hv, oa, _, ca, _, ob, _, cb, _, oc, _, cc, _, _, _, _, y13⟩
  have IFc := in_facts' (u := u) mode RF
  have hT := taxIn_draw hck hu RF hmo
  obtain ⟨X, hX⟩ : ∃ X, inN u m t = X := ⟨_, rfl⟩
  obtain ⟨Y, hY⟩ : ∃ Y, inD u m t = Y := ⟨_, rfl⟩
  rw [hX, hY] at hT IFc
  obtain ⟨net, hnet⟩ : ∃ net, rround X Y mode = net := ⟨_, rfl⟩
  have vT := rest_rv (mode := mode) IFc.pos IFc.Yle IFc.near
  obtain ⟨dT, hdT⟩ : ∃ dT, restR X Y mode = dT := ⟨_, rfl⟩
  rw [hnet] at hT IFc vT
  rw [hdT] at hT vT
  rw [hT] at hv oa ob oc
  subst hv
  have ra := oa.reps; have rb := ob.reps; have rc := oc.reps
  have rac := ra; have rbc := rb; have rcc := rc
  obtain ⟨a0, a1, ap, an, ac, az, rfl, _, _⟩ := open_Money ra (mon_codeT _ _)
  obtain ⟨g0, g1, gp, gn, gc, gz, rfl, _, _⟩ := open_Money rb (mon_codeT _ _)
  obtain ⟨i0, ip, inn, ic, iz, jp, jn, jc, jz, rfl, _, _, _⟩ := open_Rat rc vT.code
  refine ⟨_, _, _, _, _, _, _, _, _, _, _, _, _, _, _, _, _, _, rfl, ?_⟩
  intro ss2 w14 r3 F3 G3 ss3 w15 r4 F4 G4 ss4 w16 r5 F5 G5
  have S := (((S.ext y13).step F3).step F4).step F5
  have G3' := F5.keeps (F4.keeps G3)
  have G4' := F5.keeps G4
  obtain ⟨q3, l3, B3⟩ := S.blk G3' rfl
  obtain ⟨q4, l4, B4⟩ := S.blk G4' rfl
  obtain ⟨q5, l5, B5⟩ := S.blk G5 rfl
  have n34 := S.ne G3' G4' (by decide)
  have n35 := S.ne G3' G5 (by decide)
  have n45 := S.ne G4' G5 (by decide)
  have fx := F3.ext.trans (F4.ext.trans F5.ext)
  obtain ⟨w17, st17, B3, ch17, kp17⟩ := B3.putA (t := T_impl_Money) (xs := [.string a0, .bool a1, .slice ap an ac]) (noInt_money _ _ _ _ _) (by kernel_rfl) rfl rac.cells1
  obtain ⟨w18, st18, B4, ch18, kp18⟩ := (B4.chg ch17 (ne_sing (by omega))).putA (t := T_impl_Money) (xs := [.string g0, .bool g1, .slice gp gn gc]) (noInt_money _ _ _ _ _) (by kernel_rfl) rfl rbc.cells1
  obtain ⟨w19, st19, bT, ch19, kp19⟩ := ((B5.chg ch17 (ne_sing (by omega))).chg ch18 (ne_sing (by omega))).putA (t := T_impl_Rat) (xs := [.bool i0, .slice ip inn ic, .slice jp jn jc]) (noInt_rat _ _ _ _ _ _ _) (by kernel_rfl) rfl rcc.cells1
  have bN := (B3.chg ch18 (ne_sing (by omega))).chg ch19 (ne_sing (by omega))
  have bA := B4.chg ch19 (ne_sing (by omega))
  have rN := kp19 (kp18 (kp17 (rac.ext fx)))
  have rA := kp19 (kp18 (kp17 (rbc.ext fx)))
  have rT := kp19 (kp18 (kp17 (rcc.ext fx)))
  have Z := ((S.1.chg ch17 (le_sing (by omega))).chg ch18 (le_sing (by omega))).chg ch19 (le_sing (by omega))
  have bM := bM.ext Z; have rM := rM.ext Z; have bR := bR.ext Z; have rR := rR.ext Z
  have x := x.trans Z
  refine ⟨w17, st17, w18, st18, w19, st19, _, _, _, _, _, bN.loadA0 (by kernel_rfl), _, _, _, _, _, bA.loadA0 (by kernel_rfl), ?_⟩
  have hnl := IFc.nle
  have hsum : net + (u - net) = u := by omega
  refine Ret.at (impl_MoneyAdd_e rN rA (money_mid hck (by omega)) (money_mid hck (by omega)) (ht.ext x)) ?_
  rintro v w20 ⟨vs20, f20, hv, o20, _, y20⟩
  have okM := money_mid hck (z := u) (by omega)
  rw [hsum, okM] at hv
  rw [hsum, moneyMk_ok okM] at o20
  subst hv
  have rS := o20.reps
  have rSc := rS
  obtain ⟨s0, s1, sp, sn, scc, sz, rfl, _, _⟩ := open_Money rS (mon_codeT _ _)
  refine ⟨_, _, _, _, _, _, rfl, ?_⟩
  intro r6 w21 hn21
  obtain ⟨w22, st22, bS, y22⟩ := hn21.fill (P := P) (t := T_impl_Money) rSc.cells1 (by kernel_rfl) rfl
  refine ⟨w22, st22, ?_⟩
  -- one and the rate
  have D22 := Ext.drew w22
  have rS := rSc.ext (y22.trans D22)
  have bS := bS.ext D22
  have bM := bM.ext (y20.trans (y22.trans D22)); have rM := rM.ext (y20.trans (y22.trans D22)); have bR := bR.ext (y20.trans (y22.trans D22)); have rR := rR.ext (y20.trans (y22.trans D22)); have bN := bN.ext (y20.trans (y22.trans D22)); have rN := rN.ext (y20.trans (y22.trans D22)); have bT := bT.ext (y20.trans (y22.trans D22)); have rT := rT.ext (y20.trans (y22.trans D22))
  have x := x.trans (y20.trans (y22.trans D22))
  intro ss5 w23 F6
  have S := FlS.first F6 rfl
  refine Ret.at (impl_IntOf_c (n := 1) (by decide) (by decide)) ?_
  rintro v w24 ⟨vs24, f24, rfl, o24, _, y24⟩
  have r24 := o24.reps; have r24c := r24
  obtain ⟨c0, cp, cn, cc', cz, rfl, _, _⟩ := open_Signed r24 (enc_code _)
  refine ⟨_, _, _, _, rfl, y24, ?_⟩
  intro ss6 w25 F7
  have S := (S.ext y24).step F7
  refine Ret.at (impl_RatInt_v (r24c.ext F7.ext) one18) ?_
  rintro v w26 ⟨vs26, d26, rfl, r26, v26, y26⟩
  have r26c := r26
  obtain ⟨e0, ep, en, ec, ez, fp, fn, fcc, fz, rfl, _, _, _⟩ := open_Rat r26 v26.code
  refine ⟨_, _, _, _, _, _, _, _, rfl, y26, ?_⟩
  intro ss7 w27 F8
  have S := (S.ext y26).step F8
  have r26 := r26c.ext F8.ext
  refine Ret.at (laws_must_c r26 v26.code) ?_
  rintro v w28 ⟨hv, y28⟩
  cases hv
  have S := S.ext y28
  refine ⟨_, _, _, _, _, _, _, rfl, y28, _, _, _, _, _, fun W hW => (bR.ext hW).loadA0 (by kernel_rfl), ?_⟩
  intro ss8 w30 F9
  have S := S.step F9
  have rR' : Reps w30 [.bool b0, .slice bp bn bc, .int .i64 bs] [.bool false, .ints (digs m), .int (t : Int)] := by rw [<- RF.form]; exact rR.ext S.1
  have hml : (digs m).length <= 6 := Nat.le_trans (digs_len 1 (by have := RF.num; omega)) (by decide)
  have r26 := r26.ext (y28.trans F9.ext)
  refine Ret.at (impl_DecRat_v rR' hml (by have := RF.sc; omega)) ?_
  rintro v w31 ⟨vs31, d31, rfl, r31, v31, y31⟩
  have r31c := r31
  obtain ⟨h0', hp', hn', hc', hz', ip', in', ic', iz', rfl, _, _, _⟩ := open_Rat r31 v31.code
  refine ⟨_, _, _, _, _, _, _, rfl, ?_⟩
  intro ss9 w32 F10
  have S := (S.ext y31).step F10
  have tl := ten_le RF.sc
  have tp : 0 < 10 ^ t := Nat.pow_pos (by decide)
  have ml := RF.num
  have hBy : ((1 : Int) * ((10 ^ t : Nat) : Int) + (m : Int) * ((1 : Nat) : Int)) = ((10 ^ t + m : Nat) : Int) := by
    show 1 * ((10 ^ t : Nat) : Int) + (m : Int) * 1 = _
    rw [Int.natCast_add]; omega
  refine Ret.at (impl_RatAdd_v (r26.ext (y31.trans F10.ext)) (r31c.ext F10.ext) v26 v31 (by rw [hBy, Int.natAbs_natCast]; exact len18 (by omega)) (by rw [Nat.one_mul]; exact len18 (by omega))) ?_
  rintro v w33 ⟨vs33, d33, rfl, r33, v33, y33⟩
  have r33c := r33
  obtain ⟨j0, jp', jn', jc', jz', lp, ln, lc, lz, rfl, _, _, _⟩ := open_Rat r33 v33.code
  refine ⟨_, _, _, _, _, _, _, _, rfl, ?_⟩
  intro ss10 w34 F11
  have S := (S.ext y33).step F11
  have r33 := r33c.ext F11.ext
  refine Ret.at (laws_must_c r33 v33.code) ?_
  rintro v w35 ⟨hv, y35⟩
  cases hv
  refine ⟨_, _, _, _, _, _, _, rfl, ?_⟩
  intro ss11 w36 r7 F12 G12
  have S := (S.ext y35).step F12
  obtain ⟨q7, l7, B7⟩ := S.blk G12 rfl
  obtain ⟨w37, st37, bB, ch37, kp37⟩ := B7.putA (t := T_impl_Rat) (xs := [.bool j0, .slice jp' jn' jc', .slice lp ln lc]) (noInt_rat _ _ _ _ _ _ _) (by kernel_rfl) rfl r33c.cells1
  have D37 := Ext.drew w37
  have rB := (kp37 (r33.ext (y35.trans F12.ext))).ext D37
  have bB := bB.ext D37
  have Z := (S.1.chg ch37 (le_sing (by omega))).trans D37
  have bM := bM.ext Z; have rM := rM.ext Z; have bR := bR.ext Z; have rR := rR.ext Z; have bN := bN.ext Z; have rN := rN.ext Z; have bT := bT.ext Z; have rT := rT.ext Z; have bS := bS.ext Z; have rS := rS.ext Z
  have x := x.trans Z
  refine ⟨w37, st37, _, _, _, _, _, fun W hW => (bN.ext hW).loadA0 (by kernel_rfl), ?_⟩
  -- the amount again
  intro ss12 w39 F13
  have S := FlS.first F13 rfl
  refine Ret.at (impl_MoneyRat_v (rN.ext S.1) (money_mid hck (by omega)) (ht.ext (x.trans S.1))) ?_
  rintro v w40 ⟨vs40, d40, rfl, r40, v40, y40⟩
  have r40c := r40
  obtain ⟨o0', op', on', oc', oz', pp', pn', pc', pz', rfl, _, _, _⟩ := open_Rat r40 v40.code
  refine ⟨_, _, _, _, _, _, _, rfl, y40, _, _, _, _, _, _, _, fun W hW => (bT.ext hW).loadA0 (by kernel_rfl), ?_⟩
  intro ss13 w42 F14
  have S := (S.ext y40).step F14
  have hXl := IFc.Xle
  have hYl := IFc.Yle
  refine Ret.at (impl_RatAdd_v (r40c.ext F14.ext) (rT.ext S.1) v40 vT (by rw [addN]; exact len18 (by omega)) (by rw [Nat.one_mul]; exact len18 (by omega))) ?_
  rintro v w43 ⟨vs43, d43, rfl, r43, v43, y43⟩
  have r43c := r43
  obtain ⟨t0', tp', tn', tc', tz', up', un', uc', uz', rfl, _, _, _⟩ := open_Rat r43 v43.code
  refine ⟨_, _, _, _, _, _, _, _, rfl, y43, ?_⟩
  intro ss14 w44 F15
  have S := (S.ext y43).step F15
  have r43 := r43c.ext F15.ext
  refine Ret.at (laws_must_c r43 v43.code) ?_
  rintro v w45 ⟨hv, y45⟩
  cases hv
  have S := S.ext y45
  refine ⟨_, _, _, _, _, _, _, rfl, y45, _, _, _, _, _, _, _, fun W hW => (bB.ext hW).loadA0 (by kernel_rfl), ?_⟩
  intro ss15 w47 F16
  have S := S.step F16
  have hMul : ((net * (Y : Int) + (X - net * Y) * ((1 : Nat) : Int)) * ((1 : Int) * ((10 ^ t : Nat) : Int) + (m : Int) * ((1 : Nat) : Int))).natAbs <= X.natAbs * 11000 := by
    rw [addN, hBy, Int.natAbs_mul, Int.natAbs_natCast]
    exact Nat.mul_le_mul_left _ (by omega)
  have hDen : 1 * Y * (1 * 10 ^ t) <= 11000 * 10000 := by
    rw [Nat.one_mul, Nat.one_mul]
    exact Nat.mul_le_mul hYl tl
  refine Ret.at (impl_RatMul_v (r43.ext (y45.trans F16.ext)) (rB.ext S.1) v43 v33 (len18 (by omega)) (len18 (by omega))) ?_
  rintro v w48 ⟨vs48, d48, rfl, r48, v48, y48⟩
  have r48c := r48
  obtain ⟨A0, Ap, An, Ac, Az, Bp, Bn, Bc, Bz, rfl, _, _, _⟩ := open_Rat r48 v48.code
  refine ⟨_, _, _, _, _, _, _, _, rfl, ?_⟩
  intro ss16 w49 F17
  have S := (S.ext y48).step F17
  have r48 := r48c.ext F17.ext
  refine Ret.at (laws_must_c r48 v48.code) ?_
  rintro v w50 ⟨hv, y50⟩
  cases hv
  refine ⟨_, _, _, _, _, _, _, rfl, ?_⟩
  intro ss17 w51 r8 F18 G18
  have S := (S.ext y50).step F18
  obtain ⟨q8, l8, B8⟩ := S.blk G18 rfl
  obtain ⟨w52, st52, bX, ch52, kp52⟩ := B8.putA (t := T_impl_Rat) (xs := [.bool A0, .slice Ap An Ac, .slice Bp Bn Bc]) (noInt_rat _ _ _ _ _ _ _) (by kernel_rfl) rfl r48c.cells1
  have D52 := Ext.drew w52
  have rX := (kp52 (r48.ext (y50.trans F18.ext))).ext D52
  have bX := bX.ext D52
  have Z := (S.1.chg ch52 (le_sing (by omega))).trans D52
  have bM := bM.ext Z; have rM := rM.ext Z; have bR := bR.ext Z; have rR := rR.ext Z; have bT := bT.ext Z; have rT := rT.ext Z; have bS := bS.ext Z; have rS := rS.ext Z
  have x := x.trans Z
  refine ⟨w52, st52, _, _, _, _, _, fun W hW => (bM.ext hW).loadA0 (by kernel_rfl), _, _, _, _, _, fun W hW => (bR.ext hW).loadA0 (by kernel_rfl), ?_⟩
  -- the tax on the amount
  intro ss18 w55 F19
  have S := FlS.first F19 rfl
  refine Ret.at (spec_MakeMode_c (h.ext (x.trans S.1)) hn) ?_
  rintro v w56 ⟨mode2, rfl, hm20, hm21, y56⟩
  have hmo2 := mode_form hm20 hm21
  refine ⟨_, rfl, y56, ?_⟩
  intro ss19 w57 F20
  have S := (S.ext y56).step F20
  refine Ret.at (impl_TaxOn_c (rM.ext S.1) (mon_codeT _ _) (rR.ext S.1) hcR mode2 (ht.ext (x.trans S.1))) ?_
  rintro v w58 ⟨va, fa, vb, fb, hv, oa, _, ca, _, ob, _, cb, _, _, y58⟩
  have OFc := on_facts (u := u) mode2 RF
  have hT := taxOn_draw hck hu RF hmo2
  obtain ⟨X2, hX2⟩ : ∃ X, exN u m t = X := ⟨_, rfl⟩
  obtain ⟨Y2, hY2⟩ : ∃ Y, exD u m t = Y := ⟨_, rfl⟩
  rw [hX2, hY2] at hT OFc
  obtain ⟨on, hon⟩ : ∃ on, rround X2 Y2 mode2 = on := ⟨_, rfl⟩
  have vL := rest_rv (mode := mode2) OFc.pos (Nat.le_trans OFc.Yle (by decide)) OFc.near
  obtain ⟨dL, hdL⟩ : ∃ dL, restR X2 Y2 mode2 = dL := ⟨_, rfl⟩
  rw [hon] at hT OFc vL
  rw [hdL] at hT vL
  rw [hT] at hv oa ob
  subst hv
  have ra := oa.reps; have rb := ob.reps
  have rac := ra; have rbc := rb
  obtain ⟨C0, C1, Cp, Cn, Cc, Cz, rfl, _, _⟩ := open_Money ra (mon_codeT _ _)
  obtain ⟨D0', Dp, Dn, Dc, Dz, Ep, En, Ec, Ez, rfl, _, _, _⟩ := open_Rat rb vL.code
  refine ⟨_, _, _, _, _, _, _, _, _, _, _, _, _, rfl, ?_⟩
  intro ss20 w59 r9 F21 G21 ss21 w60 r10 F22 G22
  have S := ((S.ext y58).step F21).step F22
  have G21' := F22.keeps G21
  obtain ⟨q9, l9, B9⟩ := S.blk G21' rfl
  obtain ⟨q10, l10, B10⟩ := S.blk G22 rfl
  have n9 := S.ne G21' G22 (by decide)
  have fx := F21.ext.trans F22.ext
  obtain ⟨w61, st61, B9, ch61, kp61⟩ := B9.putA (t := T_impl_Money) (xs := [.string C0, .bool C1, .slice Cp Cn Cc]) (noInt_money _ _ _ _ _) (by kernel_rfl) rfl rac.cells1
  obtain ⟨w62, st62, bL, ch62, kp62⟩ := (B10.chg ch61 (ne_sing (by omega))).putA (t := T_impl_Rat) (xs := [.bool D0', .slice Dp Dn Dc, .slice Ep En Ec]) (noInt_rat _ _ _ _ _ _ _) (by kernel_rfl) rfl rbc.cells1
  have D62 := Ext.drew w62
  have bO := (B9.chg ch62 (ne_sing (by omega))).ext D62
  have rO := (kp62 (kp61 (rac.ext fx))).ext D62
  have rL := (kp62 (kp61 (rbc.ext fx))).ext D62
  have bL := bL.ext D62
  have Z := ((S.1.chg ch61 (le_sing (by omega))).chg ch62 (le_sing (by omega))).trans D62
  have bM := bM.ext Z; have rM := rM.ext Z; have bR := bR.ext Z; have rR := rR.ext Z; have bT := bT.ext Z; have rT := rT.ext Z; have bS := bS.ext Z; have rS := rS.ext Z; have bX := bX.ext Z; have rX := rX.ext Z
  have x := x.trans Z
  refine ⟨w61, st61, w62, st62, _, _, _, _, _, fun W hW => (bO.ext hW).loadA0 (by kernel_rfl), ?_⟩
  intro ss22 w64 F23
  have S := FlS.first F23 rfl
  have honl := OFc.nle
  refine Ret.at (impl_MoneyRat_v (rO.ext S.1) (money_mid hck (by omega)) (ht.ext (x.trans S.1))) ?_
  rintro v w65 ⟨vs65, d65, rfl, r65, v65, y65⟩
  have r65c := r65
  obtain ⟨H0, Hp, Hn, Hc, Hz, Ip, In, Ic, Iz, rfl, _, _, _⟩ := open_Rat r65 v65.code
  refine ⟨_, _, _, _, _, _, _, rfl, y65, _, _, _, _, _, _, _, fun W hW => (bL.ext hW).loadA0 (by kernel_rfl), ?_⟩
  intro ss23 w67 F24
  have S := (S.ext y65).step F24
  have hX2l := OFc.Xle
  have hY2l := OFc.Yle
  refine Ret.at (impl_RatAdd_v (r65c.ext F24.ext) (rL.ext S.1) v65 vL (by rw [addN]; exact len18 (by omega)) (by rw [Nat.one_mul]; exact len18 (by omega))) ?_
  rintro v w68 ⟨vs68, d68, rfl, r68, v68, y68⟩
  have r68c := r68
  obtain ⟨J0, Jp, Jn, Jc, Jz, Kp, Kn, Kc, Kz, rfl, _, _, _⟩ := open_Rat r68 v68.code
  refine ⟨_, _, _, _, _, _, _, _, rfl, ?_⟩
  intro ss24 w69 F25
  have S := (S.ext y68).step F25
  have r68 := r68c.ext F25.ext
  refine Ret.at (laws_must_c r68 v68.code) ?_
  rintro v w70 ⟨hv, y70⟩
  cases hv
  refine ⟨_, _, _, _, _, _, _, rfl, ?_⟩
  intro ss25 w71 r11 F26 G26
  have S := (S.ext y70).step F26
  obtain ⟨q11, l11, B11⟩ := S.blk G26 rfl
  obtain ⟨w72, st72, bY, ch72, kp72⟩ := B11.putA (t := T_impl_Rat) (xs := [.bool J0, .slice Jp Jn Jc, .slice Kp Kn Kc]) (noInt_rat _ _ _ _ _ _ _) (by kernel_rfl) rfl r68c.cells1
  have rY := kp72 (r68.ext (y70.trans F26.ext))
  have Z := S.1.chg ch72 (le_sing (by omega))
  have bM := bM.ext Z; have rM := rM.ext Z; have bR := bR.ext Z; have rR := rR.ext Z; have bT := bT.ext Z; have rT := rT.ext Z; have bS := bS.ext Z; have rS := rS.ext Z; have bX := bX.ext Z; have rX := rX.ext Z; have bL := bL.ext Z; have rL := rL.ext Z
  have x := x.trans Z
  refine ⟨w72, st72, _, _, _, _, _, bR.loadA0 (by kernel_rfl), ?_⟩
  -- the rate in words
  refine Ret.at (impl_Percent_c rR hcR (hp.ext x)) ?_
  rintro v w73 ⟨rfl, y73⟩
  refine ⟨_, rfl, ?_⟩
  refine Ret.at (impl_TextPercent_c (percentT dr) RF.pct.2.2 (hp.ext (x.trans y73))) ?_
  rintro v w74 ⟨vs74, f74, hv, o74, _, c74, _, y74⟩
  rw [RF.pct.1] at hv
  subst hv
  have rP := o74.reps
  have rPc := rP
  obtain ⟨L0, Lp, Ln, Lc, Lz, Ls, rfl, _, _⟩ := open_Dec rP c74
  refine ⟨_, _, _, _, _, _, rfl, ?_⟩
  intro r12 w75 hn75
  obtain ⟨w76, st76, bP, y76⟩ := hn75.fill (P := P) (t := T_impl_Dec) rPc.cells1 (by kernel_rfl) rfl
  have D76 := Ext.drew w76
  have rP := rPc.ext (y76.trans D76)
  have bP := bP.ext D76
  have Z := (y73.trans y74).trans (y76.trans D76)
  have bM := bM.ext Z; have rM := rM.ext Z; have bR := bR.ext Z; have rR := rR.ext Z; have bT := bT.ext Z; have rT := rT.ext Z; have bS := bS.ext Z; have rS := rS.ext Z; have bX := bX.ext Z; have rX := rX.ext Z; have bL := bL.ext Z; have rL := rL.ext Z; have bY := bY.ext Z; have rY := rY.ext Z
  have x := x.trans Z
  refine ⟨w76, st76, fun _ => ?_, fun e => absurd e (by simp)⟩
  unfold laws_FnTaxIn_s_j0
  refine ⟨fun _ => ?_, fun e => absurd e (by simp)⟩
  refine ⟨_, _, _, _, _, fun W hW => (bS.ext hW).loadA0 (by kernel_rfl), _, _, _, _, _, fun W hW => (bM.ext hW).loadA0 (by kernel_rfl), ?_⟩
  refine Ret.at (impl_MoneySame_c rS rM (mon_codeT _ _) (mon_codeT _ _)) ?_
  rintro v w79 ⟨hv, y79⟩
  rw [decide_eq_true rfl] at hv
  subst hv
  refine ⟨_, rfl, ?_⟩
  unfold laws_FnTaxIn_s_j1
  refine ⟨fun _ => ?_, fun e => absurd e (by simp)⟩
  refine ⟨_, _, _, _, _, _, _, fun W hW => (bX.ext (y79.trans hW)).loadA0 (by kernel_rfl), _, _, _, _, _, fun W hW => (bM.ext (y79.trans hW)).loadA0 (by kernel_rfl), ?_⟩
  refine Ret.at (impl_MoneyRat_v (rM.ext y79) okM (ht.ext (x.trans y79))) ?_
  rintro v w82 ⟨vs82, d82, rfl, r82, v82, y82⟩
  have r82c := r82
  obtain ⟨M0, Mp, Mn, Mc, Mz, Np, Nn, Nc, Nz, rfl, _, _, _⟩ := open_Rat r82 v82.code
  refine ⟨_, _, _, _, _, _, _, rfl, y82, ?_⟩
  refine Ret.at (impl_RatCmp_v (rX.ext (y79.trans y82)) r82c v48 v82) ?_
  rintro v w83 ⟨hv, y83⟩
  rw [cmp_in IFc] at hv
  subst hv
  have z := y79.trans (y82.trans y83)
  refine ⟨_, rfl, ?_⟩
  unfold laws_FnTaxIn_s_j2
  refine ⟨fun _ => ?_, fun e => absurd e (by simp)⟩
  refine ⟨_, _, _, _, _, _, _, fun W hW => (bT.ext (z.trans hW)).loadA0 (by kernel_rfl), ?_⟩
  refine Ret.at (laws_small_c (rT.ext z) vT IFc.near) ?_
  rintro v w85 ⟨rfl, y85⟩
  have z := z.trans y85
  refine ⟨_, rfl, ?_⟩
  unfold laws_FnTaxIn_s_j3
  refine ⟨fun _ => ?_, fun e => absurd e (by simp)⟩
  unfold laws_FnTaxIn_s_j4
  refine ⟨fun _ => ?_, fun e => absurd e (by simp)⟩
  refine ⟨_, _, _, _, _, _, _, fun W hW => (bL.ext (z.trans hW)).loadA0 (by kernel_rfl), ?_⟩
  refine Ret.at (laws_small_c (rL.ext z) vL OFc.near) ?_
  rintro v w87 ⟨rfl, y87⟩
  have z := z.trans y87
  refine ⟨_, rfl, ?_⟩
  unfold laws_FnTaxIn_s_j5
  refine ⟨fun _ => ?_, fun e => absurd e (by simp)⟩
  refine ⟨_, _, _, _, _, _, _, fun W hW => (bY.ext (z.trans hW)).loadA0 (by kernel_rfl), _, _, _, _, _, fun W hW => (bM.ext (z.trans hW)).loadA0 (by kernel_rfl), ?_⟩
  refine Ret.at (impl_MoneyRat_v (rM.ext z) okM (ht.ext (x.trans z))) ?_
  rintro v w90 ⟨vs90, d90, rfl, r90, v90, y90⟩
  have r90c := r90
  obtain ⟨O0, Op, On, Oc, Oz, Pp, Pn, Pc, Pz, rfl, _, _, _⟩ := open_Rat r90 v90.code
  refine ⟨_, _, _, _, _, _, _, rfl, y90, _, _, _, _, _, fun W hW => (bR.ext (z.trans hW)).loadA0 (by kernel_rfl), ?_⟩
  have z := z.trans y90
  have rR' : Reps w90 [.bool b0, .slice bp bn bc, .int .i64 bs] [.bool false, .ints (digs m), .int (t : Int)] := by rw [<- RF.form]; exact rR.ext z
  refine Ret.at (impl_DecRat_v rR' hml (by have := RF.sc; omega)) ?_
  rintro v w92 ⟨vs92, d92, rfl, r92, v92, y92⟩
  have r92c := r92
  obtain ⟨Q0, Qp, Qn, Qc, Qz, Rp, Rn, Rc, Rz, rfl, _, _, _⟩ := open_Rat r92 v92.code
  refine ⟨_, _, _, _, _, _, _, rfl, y92, ?_⟩
  have z := z.trans y92
  have hum : (u * (m : Int)).natAbs <= u.natAbs * 1000 := by
    rw [Int.natAbs_mul, Int.natAbs_natCast]
    exact Nat.mul_le_mul_left _ ml
  refine Ret.at (impl_RatMul_v (r90c.ext y92) r92c v90 v92 (len18 (by omega)) (by rw [Nat.one_mul]; exact len18 (by omega))) ?_
  rintro v w93 ⟨vs93, d93, rfl, r93, v93, y93⟩
  have r93c := r93
  obtain ⟨S0, Sp, Sn, Sc, Sz, Tp, Tn, Tc, Tz, rfl, _, _, _⟩ := open_Rat r93 v93.code
  refine ⟨_, _, _, _, _, _, _, _, rfl, y93, ?_⟩
  refine Ret.at (laws_must_c r93c v93.code) ?_
  rintro v w94 ⟨hv, y94⟩
  cases hv
  have z := z.trans (y93.trans y94)
  refine ⟨_, _, _, _, _, _, _, rfl, y94, ?_⟩
  refine Ret.at (impl_RatCmp_v (rY.ext z) (r93c.ext y94) v68 v93) ?_
  rintro v w95 ⟨hv, y95⟩
  rw [cmp_on OFc] at hv
  subst hv
  have z := z.trans y95
  refine ⟨_, rfl, ?_⟩
  unfold laws_FnTaxIn_s_j6
  refine ⟨fun _ => ?_, fun e => absurd e (by simp)⟩
  unfold laws_FnTaxIn_s_j7
  refine ⟨fun _ => ?_, fun e => absurd e (by simp)⟩
  refine ⟨_, _, _, _, _, fun W hW => (bP.ext (z.trans hW)).loadA0 (by kernel_rfl), _, _, _, _, _, fun W hW => (bR.ext (z.trans hW)).loadA0 (by kernel_rfl), ?_⟩
  refine Ret.at (impl_DecCmp_c (rP.ext z) (rR.ext z) c74 hcR) ?_
  rintro v w98 ⟨hv, y98⟩
  rw [RF.pct.2.1] at hv
  subst hv
  exact ⟨_, rfl, rfl, x.trans (z.trans y98)⟩
end Go.Proofs.YtbgokfhcgcoipaaGreatDoor
namespace Go.Proofs.YtbgokfhcgcoipaaGreatDoor
open Go Go.Proofs.YtbgokfhcgcoipaaGreatDoor.Sx
def curData {H : Type} (r : CurRow) : DataW H := .agg [.lit (.string r.1.data.toList), .lit (.string r.2.1.data.toList), .lit (.int .i64 r.2.2.1), .lit (.int .i64 r.2.2.2)]
theorem bytes_eq {a b : ByteArray} (h : a.data.toList = b.data.toList) : a = b := by
  obtain ⟨⟨x⟩⟩ := a; obtain ⟨⟨y⟩⟩ := b
  simp at h; subst h; rfl
set_option maxRecDepth 100000 in
theorem cur_cells {H : Type} {enc : TypeId × Value -> H} {w : World} {sp : Nat -> Bool} {hd : Bool} {fuel : Nat} {cs : List Value} {r : CurRow} {p : List MemPlace}
    (h : DataW.trod enc P w 0 sp hd fuel T_impl_currency cs = some (curData r, p)) : cs = curCells r := by
  obtain ⟨fs, hu, hsz, ⟨f0, e0, t0, o0⟩, ⟨f1, e1, t1, o1⟩, ⟨f2, e2, t2, o2⟩, ⟨f3, e3, t3, o3⟩⟩ := cur_fields
  have hu : P.underlying T_impl_currency = some (.struct fs) := hu
  have hs : P.underlying T_string = some .string := by kernel_rfl
  have hi : P.underlying T_int = some (.int .i64) := by kernel_rfl
  have cS : P.cellsOf T_string = 1 := by kernel_rfl
  have cI : P.cellsOf T_int = 1 := by kernel_rfl
  have cC : P.cellsOf T_impl_currency = 4 := by kernel_rfl
  obtain ⟨xs, n, rfl, hx, hlen, hxl, hf⟩ := DataW.trod_struct hu h
  rw [cC] at hlen
  rw [hsz] at hxl
  have h0 := hf 0 f0 e0; have h1 := hf 1 f1 e1; have h2 := hf 2 f2 e2; have h3 := hf 3 f3 e3
  rw [t0, o0, cS] at h0; rw [t1, o1, cS] at h1; rw [t2, o2, cI] at h2; rw [t3, o3, cI] at h3
  match cs, hlen, xs, hxl, hx, h0, h1, h2, h3 with
  | [c0, c1, c2, c3], _, [x0, x1, x2, x3], _, hx, h0, h1, h2, h3 =>
    simp only [List.drop_succ_cons, List.drop_zero, List.take_succ_cons, List.take_zero, List.getElem?_cons_zero, List.getElem?_cons_succ] at h0 h1 h2 h3
    obtain ⟨s0, a0, b0, _⟩ := DataW.trod_string hs h0
    obtain ⟨s1, a1, b1, _⟩ := DataW.trod_string hs h1
    obtain ⟨z2, a2, b2, _⟩ := DataW.trod_int hi h2
    obtain ⟨z3, a3, b3, _⟩ := DataW.trod_int hi h3
    simp only [Prod.mk.injEq, curData, DataW.agg.injEq, List.map_cons, List.map_nil, List.cons.injEq, b0, b1, b2, b3, DataW.lit.injEq, Lit.string.injEq, Lit.int.injEq, true_and, and_true] at hx
    simp only [List.cons.injEq, and_true] at a0 a1 a2 a3
    obtain ⟨⟨q0, q1, q2, q3⟩, _⟩ := hx
    rw [a0, a1, a2, a3, <- bytes_eq q0, <- bytes_eq q1, <- q2, <- q3]
    rfl
theorem flat_of_rows : ∀ (l : List CurRow) (cs : List Value), cs.length = l.length * 4 -> (∀ i (hi : i < l.length), (cs.drop (i * 4)).take 4 = curCells (l[i]'hi)) -> cs = l.flatMap curCells
  | [], cs, h, _ => by simpa using h
  | r :: l, cs, h, hr => by
    have h0 := hr 0 (by simp)
    simp only [Nat.zero_mul, List.drop_zero, List.getElem_cons_zero] at h0
    rw [List.flatMap_cons, <- h0, <- flat_of_rows l (cs.drop 4) (by simp at h ⊢; omega) (fun i hi => by
      have := hr (i + 1) (by simpa using hi)
      rw [List.drop_drop, show 4 + i * 4 = (i + 1) * 4 by omega]
      simpa using this), List.take_append_drop]
def curVar : String := "loop.example/g00793/impl.currencies"
set_option maxRecDepth 100000 in
theorem tab_of_head {W : World} {rest : List (String × DataW Unit)} (h : laidMet P ((curVar, Rows.laid_loop_example_g00793_impl_currencies) :: rest) W) : Tab W := by
  obtain ⟨ps, ⟨g, t, cs, fuel, p, q, hg, ht, hvar, hd, _, _⟩, _⟩ := h
  have hg0 : P.globalNamed curVar = some 0 := by kernel_rfl
  have ht0 : (P.globals[0]?).map (·.type) = some T_20_impl_currency := by kernel_rfl
  obtain rfl := Option.some.inj (hg0.symm.trans hg)
  obtain rfl := Option.some.inj (ht0.symm.trans ht)
  have hu : P.underlying T_20_impl_currency = some (.array 20 T_impl_currency) := und_T_20_impl_currency
  have cC : P.cellsOf T_impl_currency = 4 := by kernel_rfl
  have cA : P.cellsOf T_20_impl_currency = 80 := by kernel_rfl
  obtain ⟨xs, m, rfl, hx, hlen, hxl, hf⟩ := DataW.trod_array hu hd
  rw [cA] at hlen
  have hdat : (Rows.laid_loop_example_g00793_impl_currencies : DataW Unit) = .agg (implTab.map curData) := by rfl
  rw [hdat] at hx
  simp only [Prod.mk.injEq, DataW.agg.injEq] at hx
  have hl := impl_length
  have hcs : cs.toList = implTab.flatMap curCells := by
    refine flat_of_rows implTab _ (by omega) fun i hi => ?_
    have h1 := hf i (by omega)
    rw [cC] at h1
    have h2 : (xs.map (·.1))[i]? = some (curData (implTab[i]'hi)) := by rw [<- hx.1]; simp [hi]
    rw [List.getElem?_map] at h2
    cases h3 : xs[i]? with
    | none => rw [h3] at h2; cases h2
    | some x =>
      rw [h3] at h1 h2
      simp only [Option.map_some, Option.some.injEq] at h2
      obtain ⟨d, pp⟩ := x
      simp only at h2
      subst h2
      exact cur_cells h1
  intro i v hv
  have := World.var?_cell hg0 hvar i
  rw [Nat.zero_add, this, <- hv, <- hcs]
  simp
theorem trodVars_one {H : Type} {enc : TypeId × Value -> H} {w : World} {sp : Nat -> Bool} {n : String} {gs : List (DataW H)} {ps : List MemPlace} (h : DataW.TrodVars enc P w sp [n] gs ps) : ∃ g, gs = [g] := by
  match gs, h with
  | [g], _ => exact ⟨g, rfl⟩
  | g :: g2 :: r, h =>
    obtain ⟨_, _, _, _, _, _, _, _, _, _, h2, _⟩ := h
    exact h2.elim
end Go.Proofs.YtbgokfhcgcoipaaGreatDoor
namespace Go.Proofs.YtbgokfhcgcoipaaGreatDoor
open Go Go.Proofs.YtbgokfhcgcoipaaGreatDoor.Sx
theorem laidMet_tail {W : World} {x : String × DataW Unit} {rest : List (String × DataW Unit)} (h : laidMet P (x :: rest) W) : laidMet P rest W := by
  obtain ⟨ps, hv, hn, hr⟩ := h
  obtain ⟨n, d⟩ := x
  obtain ⟨g, t, cs, fuel, p, q, _, _, _, _, hrest, rfl⟩ := hv
  exact ⟨q, hrest, (List.nodup_append.1 hn).2.1, fun b off hm => hr b off (List.mem_append_right _ hm)⟩
theorem pow_data : (Rows.laid_internal_strconv_uint64pow10 : DataW Unit) = Lib.tabData .u64 Lib.pow10Tab := by kernel_rfl
set_option maxRecDepth 100000 in
theorem tabP_of_head {W : World} {rest : List (String × DataW Unit)} (h : laidMet P (("internal/strconv.uint64pow10", Rows.laid_internal_strconv_uint64pow10) :: rest) W) : TabP W := by
  rw [pow_data] at h
  exact Lib.tabIs_of_head (g := G_pow) (t := TA_pow) (e := TE_pow) (n := 20) (by kernel_rfl) (by kernel_rfl) und_A_pow und_E_pow (by kernel_rfl) (by kernel_rfl) h
def layAt (cs : List Value) : Obj -> Obj
  | .cells _ t frozen => .cells ⟨cs⟩ t frozen
  | o => o
end Go.Proofs.YtbgokfhcgcoipaaGreatDoor
namespace Go.Proofs.YtbgokfhcgcoipaaGreatDoor
open Go Go.Proofs.YtbgokfhcgcoipaaGreatDoor.Sx
theorem tabs_of_laid {W : World} (h : laidMetH P [("math/bits.deBruijn32tab", Rows.laid_math_bits_deBruijn32tab), ("math/bits.deBruijn64tab", Rows.laid_math_bits_deBruijn64tab), ("internal/strconv.uint64pow10", Rows.laid_internal_strconv_uint64pow10), (curVar, Rows.laid_loop_example_g00793_impl_currencies)] W) : Tab W /\ TabP W := by
  have h : laidMet P [("math/bits.deBruijn32tab", Rows.laid_math_bits_deBruijn32tab), ("math/bits.deBruijn64tab", Rows.laid_math_bits_deBruijn64tab), ("internal/strconv.uint64pow10", Rows.laid_internal_strconv_uint64pow10), (curVar, Rows.laid_loop_example_g00793_impl_currencies)] W := h
  have h2 := laidMet_tail (laidMet_tail h)
  exact ⟨tab_of_head (laidMet_tail h2), tabP_of_head h2⟩
noncomputable def laidWorldX (os : Os) (args : Array Value) : World :=
 { World.holding P os ⟨#[], args, []⟩ with heap := (((((World.holding P os ⟨#[], args, []⟩).heap.modify G_cur (layAt (implTab.flatMap curCells))).modify G_pow (layAt (L_pow.map (Value.int .u64)))).modify G_d32 (layAt (L_d32.map (Value.int .u8)))).modify G_d64 (layAt (L_d64.map (Value.int .u8)))) }
end Go.Proofs.YtbgokfhcgcoipaaGreatDoor
