/-
  Parts of the proof of taxOn_holds: CRatM, CTaxRateOk, CRatMoney, CPercentL, CTaxOn, SxFlS, WTaxOn, SxRow, SxOpen, CTab.
  Conditions: none.
-/
import Derived.ProofKit
import Derived.Deep.Slices
import Derived.Test.YtfemmmbkhhemaaaGreatDoorRows
import Derived.OpenShut
import Derived.Lib.LaidTab
import Derived.Test.YtfemmmbkhhemaaaGreatDoorTOn5

namespace Go.Proofs.YtfemmmbkhhemaaaGreatDoor
open Go Go.Proofs.YtfemmmbkhhemaaaGreatDoor.Sx
set_option linter.unusedVariables false
set_option linter.unusedSimpArgs false
/-- two structs of one's own stored into two older blocks, and read again -/
theorem two_end {t1 t2 : TypeId} {w W : World} {r1 r2 : Nat} {e1 e2 : TypeId} {o1 o2 xs1 xs2 : List Value} {d1 d2 : List D0} {f1 f2 : List Nat} {B : Nat} (hb1 : Blk W r1 e1 o1) (hb2 : Blk W r2 e2 o2) (X : Ext w W)
    (ho1 : Owns W B xs1 d1 f1) (ho2 : Owns W B xs2 d2 f2) (ht1 : aggT P t1 xs1.length = true) (hl1 : xs1.length = o1.length) (ht2 : aggT P t2 xs2.length = true) (hl2 : xs2.length = o2.length) (hne : r1 ≠ r2) (hr1 : w.heap.size ≤ r1) (hr2 : w.heap.size ≤ r2) (hB1 : r1 < B) (hB2 : r2 < B) (hwB : w.heap.size ≤ B) :
    ∃ W1 W2, Stores P t1 ⟨r1, 0, none⟩ (.agg ⟨xs1⟩) W W1 ∧ Chg [r1] W W1 ∧ Stores P t2 ⟨r2, 0, none⟩ (.agg ⟨xs2⟩) W1 W2 ∧ Loads P t1 ⟨r1, 0, none⟩ (.agg ⟨xs1⟩) W2 ∧ Loads P t2 ⟨r2, 0, none⟩ (.agg ⟨xs2⟩) W2 ∧ Owns W2 w.heap.size xs1 d1 f1 ∧ Owns W2 w.heap.size xs2 d2 f2 ∧ Ext w W2 := by
  obtain ⟨W1, st1, hb1', ch1, _⟩ := hb1.storeA0 (P := P) (t := t1) (xs := xs1) ht1 hl1 ho1.reps.cells1
  obtain ⟨W2, st2, hb2', ch2, _⟩ := (hb2.chg ch1 (by simp; omega)).storeA0 (P := P) (t := t2) (xs := xs2) ht2 hl2 ho2.reps.cells1
  exact ⟨W1, W2, st1, ch1, st2, (hb1'.chg ch2 (by simp; omega)).loadA0 ht1, hb2'.loadA0 ht2, ((ho1.chg1 ch1 hB1).chg1 ch2 hB2).mono hwB, ((ho2.chg1 ch1 hB1).chg1 ch2 hB2).mono hwB, (X.chg ch1 (by simp; exact hr1)).chg ch2 (by simp; exact hr2)⟩
theorem own_money0 (W : World) (B : Nat) : Owns W B [.string ByteArray.empty, .bool false, .slice none 0 0] zeroMoney [] :=
  Owns.append (Owns.str _ _ _) (Owns.append (Owns.bool _ _ false) (Owns.ints (zs := []) (Own.nil W B T_int 1)))
/-- what is one's own lies in blocks of numbers -/
theorem Owns.notin {w : World} {B : Nat} {r : Nat} {e : TypeId} {cs : List Value} (hb : Blk w r e cs) (he : e ≠ T_int) : ∀ {vs : List Value} {ds : List D0} {f : List Nat}, Owns w B vs ds f → r ∉ f
  | [], [], f, h => by rw [show f = [] from h]; simp
  | [], _ :: _, _, h => h.elim
  | _ :: _, [], _, h => h.elim
  | v :: vs, d :: ds, _, h => by
    obtain ⟨f1, f2, rfl, h1, h2⟩ := h
    have ih := Owns.notin hb he h2
    intro hm
    rcases List.mem_append.1 hm with hm | hm
    · cases d <;> simp only [Own0] at h1
      case ints zs =>
        obtain ⟨p, n, c, _, ho, hf⟩ := h1
        rw [hf] at hm
        have hm := opt_mem hm
        rcases ho.2 with k1 | ⟨g, cap, cur, k1, k2, k3, k4⟩
        · simp only [Value.slice.injEq] at k1
          rw [k1.1.1] at hm
          simp at hm
        · simp only [Value.slice.injEq] at k1
          rw [k1.1] at hm
          simp at hm
          subst hm
          rw [show w.heap[g]? = _ from hb] at k3
          simp only [Option.some.injEq, Obj.cells.injEq] at k3
          exact he k3.2.1
      all_goals (rw [h1.2] at hm; simp at hm)
    · exact ih hm
def rr (N : Int) (D : Nat) (m : Int) : Int := if modeOk m then rround N D m else 0
def restR (N : Int) (D : Nat) (m : Int) : List D0 := redR (N * ((1 : Nat) : Int) + -(rround N D m) * (D : Int)) (D * 1)
def rs (N : Int) (D : Nat) (m : Int) : List D0 := if modeOk m then restR N D m else rat0
def rmOk (cur : ByteArray) (N : Int) (D : Nat) (m : Int) : Bool := modeOk m && moneyOk (.str cur :: enc (rround N D m))
def rmMoney (cur : ByteArray) (N : Int) (D : Nat) (m : Int) : List D0 := if rmOk cur N D m then .str cur :: enc (rround N D m) else zeroMoney
def rmRest (cur : ByteArray) (N : Int) (D : Nat) (m : Int) : List D0 := if rmOk cur N D m then restR N D m else rat0
theorem one_len1 : (digs 1).length ≤ 1 := by rw [digs_one]; decide
theorem redR_int {z : Int} (h : (digs z.natAbs).length ≤ 18) : redR z 1 = rmk z 1 := by
  have h1 : redN z 1 = z := by
    have h2 : Nat.gcd z.natAbs 1 = 1 := Nat.gcd_one_right _
    unfold redN
    rw [h2, Nat.div_one]
    split <;> omega
  have h2 : redD z 1 = 1 := by
    have h2 : Nat.gcd z.natAbs 1 = 1 := Nat.gcd_one_right _
    unfold redD
    rw [h2]
  rw [redR_small h (Nat.le_trans one_len1 (by decide)), h1, h2]
theorem rmk_int_ok {z : Int} (h : (digs z.natAbs).length ≤ 18) : ratOk (rmk z 1) = true := ratOk_rmk (by decide) (Nat.gcd_one_right _) h (Nat.le_trans one_len1 (by decide))
theorem rr_len {N : Int} {D : Nat} {m : Int} (hd : 0 < D) (h : (digs N.natAbs).length ≤ 10) : (digs (rr N D m).natAbs).length ≤ 11 := by
  unfold rr
  split
  · rw [rround_abs]; exact roundM_len hd h
  · rw [Int.natAbs_zero, digs_zero]; simp
theorem rest_len {N z : Int} {D : Nat} (hN : (digs N.natAbs).length ≤ 10) (hD : (digs D).length ≤ 6) (hz : (digs z.natAbs).length ≤ 11) : redOk (N * ((1 : Nat) : Int) + -z * (D : Int)) (D * 1) = true := by
  have h1 : (digs (-z * (D : Int)).natAbs).length ≤ 17 := by
    rw [Int.natAbs_mul, Int.natAbs_natCast, Int.natAbs_neg]
    exact prod_len hz hD
  have h2 : (digs (N * ((1 : Nat) : Int)).natAbs).length ≤ 17 := by
    rw [Int.natCast_one, Int.mul_one]; omega
  exact redOk_small (sum_len h2 h1) (by rw [Nat.mul_one]; omega)
theorem spec_l09Make_s {w : World} {B : Nat} {xs : List Value} {z : Int} {f : List Nat} (cur : ByteArray) (h : Owns w B xs (enc z) f) (hnd : f.Nodup) (hB : B ≤ w.heap.size) :
    Ret P n_spec_l09Make [.string cur, .agg ⟨xs⟩] w fun v w' => ∃ vs f', v = .tuple #[.agg ⟨vs⟩, .bool (moneyOk (.str cur :: enc z))] ∧ Owns w' B vs (moneyMk cur z) f' ∧ f'.Nodup ∧ (∀ k ∈ f', k ∈ f) ∧ Ext w w' := by
  have ho := h
  obtain ⟨a0, a1p, a1n, a1c, a1z, rfl, hd, ha⟩ := open_Signed h.reps (enc_code _)
  refine spec_l09Make_ret ?_
  unfold spec_l09Make
  intro r w1 hn1 r1 w2 hn2
  refine ⟨_, _, _, _, (hn1.blk.ext hn2.ext).loadA0 (by kernel_rfl), ?_⟩
  intro r2 w3 hn3
  have e1 := hn1.r_eq; have e2 := hn2.r_eq; have e3 := hn3.r_eq; have s1 := hn1.size; have s2 := hn2.size; have s3 := hn3.size
  obtain ⟨w4, st4, hb4, y4⟩ := hn3.fill (P := P) (t := T_impl_Money) (xs := [.string cur, .bool a0, .slice a1p a1n a1c]) (by simp [Value.oneCell']) (by kernel_rfl) rfl
  have X := (hn1.ext.trans hn2.ext).trans y4
  have k1 := hn2.blk.ext y4
  refine ⟨w4, st4, _, _, _, _, _, hb4.loadA0 (by kernel_rfl), ?_⟩
  have hm : Reps w4 [.string cur, .bool a0, .slice a1p a1n a1c] (.str cur :: enc z) := ⟨rfl, h.reps.ext X⟩
  refine Ret.at (spec_MoneyOk_c hm rfl) ?_
  rintro v w5 ⟨hv, y5⟩
  subst hv
  have X5 := X.trans y5
  refine ⟨_, rfl, ifN (fun hno => ?_) (fun hyes => ?_)⟩
  · obtain ⟨w6, st6, hb6, ch, sz⟩ := (k1.ext y5).storeA0 (P := P) (t := T_impl_Money) (xs := [.string ByteArray.empty, .bool false, .slice none 0 0]) (by kernel_rfl) rfl (by simp [Value.oneCell'])
    refine ⟨w6, st6, _, _, _, _, _, hb6.loadA0 (by kernel_rfl), [.string ByteArray.empty, .bool false, .slice none 0 0], [], by rw [hno], ?_, List.nodup_nil, fun _ hh => by simp at hh, X5.chg ch (by simp; omega)⟩
    unfold moneyMk
    rw [hno]
    exact Owns.append (Owns.str _ _ _) (Owns.append (Owns.bool _ _ false) (Owns.ints (zs := []) (Own.nil w6 B T_int 1)))
  · obtain ⟨w6, st6, hb6, ch, sz⟩ := (k1.ext y5).storeA0 (P := P) (t := T_impl_Money) (xs := [.string cur, .bool a0, .slice a1p a1n a1c]) (by kernel_rfl) rfl (by simp [Value.oneCell'])
    refine ⟨_, _, _, _, _, (hb4.ext y5).loadA0 (by kernel_rfl), w6, st6, _, _, _, _, _, hb6.loadA0 (by kernel_rfl), [.string cur, .bool a0, .slice a1p a1n a1c], f, by rw [hyes], ?_, hnd, fun _ hh => hh, X5.chg ch (by simp; omega)⟩
    unfold moneyMk
    rw [hyes]
    have h5 := ((ho.ext X5).chg ch fun k hk hm => by
      have := (ho.lt k hk).2
      simp at hm; omega)
    exact Owns.append (Owns.str _ _ cur) h5
theorem impl_moneyOf_s {w : World} (ht : Tab w) {B : Nat} {xs : List Value} {z : Int} {f : List Nat} (cur : ByteArray) (h : Owns w B xs (enc z) f) (hnd : f.Nodup) (hB : B ≤ w.heap.size) :
    Ret P n_impl_moneyOf [.string cur, .agg ⟨xs⟩] w fun v w' => ∃ vs f', v = .tuple #[.agg ⟨vs⟩, .bool (moneyOk (.str cur :: enc z))] ∧ Owns w' B vs (moneyMk cur z) f' ∧ f'.Nodup ∧ (∀ k ∈ f', k ∈ f) ∧ Ext w w' := by
  have ho := h
  obtain ⟨a0, a1p, a1n, a1c, a1z, rfl, hd, ha⟩ := open_Signed h.reps (enc_code _)
  refine impl_moneyOf_ret ?_
  unfold impl_moneyOf
  intro r w1 hn1 r1 w2 hn2
  refine ⟨_, _, _, _, (hn1.blk.ext hn2.ext).loadA0 (by kernel_rfl), ?_⟩
  intro r2 w3 hn3
  have e1 := hn1.r_eq; have e2 := hn2.r_eq; have e3 := hn3.r_eq; have s1 := hn1.size; have s2 := hn2.size; have s3 := hn3.size
  obtain ⟨w4, st4, hb4, y4⟩ := hn3.fill (P := P) (t := T_impl_Money) (xs := [.string cur, .bool a0, .slice a1p a1n a1c]) (by simp [Value.oneCell']) (by kernel_rfl) rfl
  have X := (hn1.ext.trans hn2.ext).trans y4
  have k1 := hn2.blk.ext y4
  refine ⟨w4, st4, _, _, _, _, _, hb4.loadA0 (by kernel_rfl), ?_⟩
  have hm : Reps w4 [.string cur, .bool a0, .slice a1p a1n a1c] (.str cur :: enc z) := ⟨rfl, h.reps.ext X⟩
  refine Ret.at (impl_MoneyOk_c (ht.ext X) hm rfl) ?_
  rintro v w5 ⟨hv, y5⟩
  subst hv
  have X5 := X.trans y5
  refine ⟨_, rfl, fun hyes => ?_, fun hno => ?_⟩
  · obtain ⟨w6, st6, hb6, ch, sz⟩ := (k1.ext y5).storeA0 (P := P) (t := T_impl_Money) (xs := [.string cur, .bool a0, .slice a1p a1n a1c]) (by kernel_rfl) rfl (by simp [Value.oneCell'])
    refine ⟨_, _, _, _, _, (hb4.ext y5).loadA0 (by kernel_rfl), w6, st6, _, _, _, _, _, hb6.loadA0 (by kernel_rfl), [.string cur, .bool a0, .slice a1p a1n a1c], f, by rw [hyes], ?_, hnd, fun _ hh => hh, X5.chg ch (by simp; omega)⟩
    unfold moneyMk
    rw [hyes]
    have h5 := ((ho.ext X5).chg ch fun k hk hm => by
      have := (ho.lt k hk).2
      simp at hm; omega)
    exact Owns.append (Owns.str _ _ cur) h5
  · obtain ⟨w6, st6, hb6, ch, sz⟩ := (k1.ext y5).storeA0 (P := P) (t := T_impl_Money) (xs := [.string ByteArray.empty, .bool false, .slice none 0 0]) (by kernel_rfl) rfl (by simp [Value.oneCell'])
    refine ⟨w6, st6, _, _, _, _, _, hb6.loadA0 (by kernel_rfl), [.string ByteArray.empty, .bool false, .slice none 0 0], [], by rw [hno], ?_, List.nodup_nil, fun _ hh => by simp at hh, X5.chg ch (by simp; omega)⟩
    unfold moneyMk
    rw [hno]
    exact Owns.append (Owns.str _ _ _) (Owns.append (Owns.bool _ _ false) (Owns.ints (zs := []) (Own.nil w6 B T_int 1)))
theorem impl_RatRest_n {w : World} {xs : List Value} {N : Int} {D : Nat} {m : Int} (h : Reps w xs (rmk N D)) (hok : ratOk (rmk N D) = true) (hN : (digs N.natAbs).length ≤ 10) (hD : (digs D).length ≤ 6) :
    Ret P n_impl_RatRest [.agg ⟨xs⟩, .int .i64 m] w fun v w' => ∃ vs1 f1 vs2 f2, v = .tuple #[.agg ⟨vs1⟩, .agg ⟨vs2⟩, .bool (modeOk m)] ∧ Owns w' w.heap.size vs1 (enc (rr N D m)) f1 ∧ f1.Nodup ∧ Owns w' w.heap.size vs2 (rs N D m) f2 ∧ f2.Nodup ∧ (∀ k ∈ f1, k ∉ f2) ∧ Ext w w' := by
  have hr := h
  obtain ⟨p1, n1, c1, p2, n2, c2, rfl, i1, i2, li1, li2, he, hd⟩ := rmk_open h hok
  refine impl_RatRest_ret ?_
  unfold impl_RatRest
  intro r w1 hn1 r1 w2 hn2 r2 w3 hn3
  have e1 := hn1.r_eq; have e2 := hn2.r_eq; have e3 := hn3.r_eq; have z1 := hn1.size; have z2 := hn2.size; have z3 := hn3.size
  have X := (hn1.ext.trans hn2.ext).trans hn3.ext
  have b0 := (hn1.blk.ext hn2.ext).ext hn3.ext; have b1 := hn2.blk.ext hn3.ext; have b2 := hn3.blk
  have zlen := rr_len (m := m) hd hN
  have zok := rmk_int_ok (show (digs (rr N D m).natAbs).length ≤ 18 by omega)
  have zred := redR_int (show (digs (rr N D m).natAbs).length ≤ 18 by omega)
  have zrok := redOk_small (n := rr N D m) (d := 1) (by omega) (Nat.le_trans one_len1 (by decide))
  have dok := rest_len (z := rr N D m) hN hD zlen
  refine ⟨_, _, _, _, _, _, _, b0.loadA0 (by kernel_rfl), ?_⟩
  refine Ret.at (impl_RatRound_n (m := m) (hr.ext X) hok) ?_
  rintro v w4 ⟨vs4, f4, hv, ho4, nd4, y4⟩
  subst hv
  have ho4 : Owns w4 w3.heap.size vs4 (enc (rr N D m)) f4 := ho4
  have hr4 := ho4.reps
  obtain ⟨s0, sp, sn, sc, sz, rfl, _, _⟩ := open_Signed hr4 (enc_code _)
  refine ⟨_, _, _, _, _, rfl, ?_⟩
  intro r3 w5 hn5
  have e5 := hn5.r_eq; have z5 := hn5.size; have l4 := y4.le
  obtain ⟨w6, st6, hb6, y6⟩ := hn5.fill (P := P) (t := T_impl_Signed) (xs := [.bool s0, .slice sp sn sc]) (by simp [Value.oneCell']) (by kernel_rfl) rfl
  have Y6 := y4.trans y6
  have l6 := y6.le
  have zero : ∀ W, Ext w6 W → modeOk m = false → ∃ W1, Stores P T_impl_Signed ⟨r1, 0, none⟩ (.agg ⟨[.bool false, .slice none 0 0]⟩) W W1 ∧ ∃ W2, Stores P T_impl_Rat ⟨r2, 0, none⟩ (.agg ⟨[.bool false, .slice none 0 0, .slice none 0 0]⟩) W1 W2 ∧ Loads P T_impl_Signed ⟨r1, 0, none⟩ (.agg ⟨[.bool false, .slice none 0 0]⟩) W2 ∧ Loads P T_impl_Rat ⟨r2, 0, none⟩ (.agg ⟨[.bool false, .slice none 0 0, .slice none 0 0]⟩) W2 ∧ Owns W2 w.heap.size [.bool false, .slice none 0 0] (enc (rr N D m)) [] ∧ Owns W2 w.heap.size [.bool false, .slice none 0 0, .slice none 0 0] (rs N D m) [] ∧ Ext w W2 := by
    intro W hW hno
    have q1 := (b1.ext Y6).ext hW; have q2 := (b2.ext Y6).ext hW
    obtain ⟨W1, W2, a1, _, a2, a3, a4, a5, a6, a7⟩ := two_end (t1 := T_impl_Signed) (t2 := T_impl_Rat) q1 q2 ((X.trans Y6).trans hW) (own_sgn0 W (r2 + 1)) (own_rat0 W (r2 + 1)) (by kernel_rfl) rfl (by kernel_rfl) rfl (by omega) (by omega) (by omega) (by omega) (by omega) (by omega)
    have z1' : rr N D m = 0 := by rw [rr, hno]; rfl
    have z2' : rs N D m = rat0 := by rw [rs, hno]; rfl
    rw [z1', z2']
    exact ⟨W1, a1, W2, a2, a3, a4, a5, a6, a7⟩
  refine ⟨w6, st6, ifN (fun hno => ?_) (fun hyes => ?_)⟩
  · obtain ⟨W1, a1, W2, a2, a3, a4, a5, a6, a7⟩ := zero _ (Ext.refl _) hno
    exact ⟨W1, a1, W2, a2, _, _, _, _, a3, _, _, _, _, _, _, _, a4, _, [], _, [], by rw [hno], a5, List.nodup_nil, a6, List.nodup_nil, fun k hk => by simp at hk, a7⟩
  ·
    have hr6 : Reps w6 [.bool s0, .slice sp sn sc] (enc (rr N D m)) := hr4.ext y6
    refine ⟨_, _, _, _, hb6.loadA0 (by kernel_rfl), ?_⟩
    refine Ret.at (impl_RatInt_n hr6 (by omega)) ?_
    rintro v w7 ⟨vs7, f7, hv, ho7, _, y7⟩
    subst hv
    rw [zred] at ho7
    rw [zrok]
    have hr7 := ho7.reps
    obtain ⟨u0, up, un, uc, uz, up2, un2, uc2, uz2, rfl, _, _, _⟩ := open_Rat hr7 (rmk_code _ _)
    refine ⟨_, _, _, _, _, _, _, _, rfl, ?_⟩
    intro r4 w8 hn8
    have e8 := hn8.r_eq; have z8 := hn8.size; have l7 := y7.le
    obtain ⟨w9, st9, hb9, y9⟩ := hn8.fill (P := P) (t := T_impl_Rat) (xs := [.bool u0, .slice up un uc, .slice up2 un2 uc2]) (by simp [Value.oneCell']) (by kernel_rfl) rfl
    have l9 := y9.le
    have Y9 := (Y6.trans y7).trans y9
    refine ⟨w9, st9, _, _, _, _, _, _, _, (b0.ext Y9).loadA0 (by kernel_rfl), _, _, _, _, _, _, _, hb9.loadA0 (by kernel_rfl), ?_⟩
    refine Ret.at (impl_RatSub_n (hr.ext (X.trans Y9)) (hr7.ext y9) hok zok) ?_
    rintro v w10 ⟨vs10, f10, hv, ho10, nd10, y10⟩
    subst hv
    rw [dok]
    have hr10 := ho10.reps
    obtain ⟨g0, gp, gn, gc, gz, gp2, gn2, gc2, gz2, rfl, _, _, _⟩ := open_Rat hr10 (redR_code _ _)
    refine ⟨_, _, _, _, _, _, _, _, rfl, ?_⟩
    intro r5 w11 hn11
    have e11 := hn11.r_eq; have z11 := hn11.size; have l10 := y10.le
    obtain ⟨w12, st12, hb12, y12⟩ := hn11.fill (P := P) (t := T_impl_Rat) (xs := [.bool g0, .slice gp gn gc, .slice gp2 gn2 gc2]) (by simp [Value.oneCell']) (by kernel_rfl) rfl
    have D' := Ext.drew w12
    have Y12 := ((Y9.trans y10).trans y12).trans D'
    have T12 := (((y7.trans y9).trans y10).trans y12).trans D'
    have q1 := b1.ext Y12; have q2 := b2.ext Y12
    have k3 := hb6.ext T12; have k5 := hb12.ext D'
    have o1 := (ho4.ext y6).ext T12
    have o2 := ((ho10.ext y12).ext D').mono (show w3.heap.size ≤ w9.heap.size by omega)
    have dis : ∀ k ∈ f4, k ∉ f10 := fun k hk hm => by
      have a := (ho4.lt k hk).2
      have b := (ho10.lt k hm).1
      omega
    refine ⟨w12, st12, ?_⟩
    refine ifN (fun hh => absurd hh (by simp)) (fun _ => ifN (fun hh => absurd hh (by simp)) (fun _ => ?_))
    obtain ⟨W1, W2, a1, ch1, a2, a3, a4, a5, a6, a7⟩ := two_end (t1 := T_impl_Signed) (t2 := T_impl_Rat) q1 q2 (X.trans Y12) o1 o2 (by kernel_rfl) rfl (by kernel_rfl) rfl (by omega) (by omega) (by omega) (by omega) (by omega) (by omega)
    have z1' : rr N D m = rround N D m := by rw [rr, hyes]; rfl
    have z2' : rs N D m = restR N D m := by rw [rs, hyes]; rfl
    refine ⟨[r1], _, _, _, _, fun W hW => (k3.chg (show Chg [r1] w12.drew W from hW) (by simp; omega)).loadA0 (by kernel_rfl), _, _, _, _, _, _, _, fun W hW => (k5.chg (show Chg [r1] w12.drew W from hW) (by simp; omega)).loadA0 (by kernel_rfl), W1, a1, show Chg [r1] w12.drew W1 from ch1, W2, a2, _, _, _, _, a3, _, _, _, _, _, _, _, a4, _, f4, _, f10, by rw [hyes], a5, nd4, ?_, nd10, dis, a7⟩
    rw [z2', restR, ← z1']
    exact a6
theorem spec_RatRest_n {w : World} {xs : List Value} {N : Int} {D : Nat} {m : Int} (h : Reps w xs (rmk N D)) (hok : ratOk (rmk N D) = true) (hN : (digs N.natAbs).length ≤ 10) (hD : (digs D).length ≤ 6) :
    Ret P n_spec_RatRest [.agg ⟨xs⟩, .int .i64 m] w fun v w' => ∃ vs1 f1 vs2 f2, v = .tuple #[.agg ⟨vs1⟩, .agg ⟨vs2⟩, .bool (modeOk m)] ∧ Owns w' w.heap.size vs1 (enc (rr N D m)) f1 ∧ f1.Nodup ∧ Owns w' w.heap.size vs2 (rs N D m) f2 ∧ f2.Nodup ∧ (∀ k ∈ f1, k ∉ f2) ∧ Ext w w' := by
  have hr := h
  obtain ⟨p1, n1, c1, p2, n2, c2, rfl, i1, i2, li1, li2, he, hd⟩ := rmk_open h hok
  refine spec_RatRest_ret ?_
  unfold spec_RatRest
  intro r w1 hn1 r1 w2 hn2 r2 w3 hn3
  have e1 := hn1.r_eq; have e2 := hn2.r_eq; have e3 := hn3.r_eq; have z1 := hn1.size; have z2 := hn2.size; have z3 := hn3.size
  have X := (hn1.ext.trans hn2.ext).trans hn3.ext
  have b0 := (hn1.blk.ext hn2.ext).ext hn3.ext; have b1 := hn2.blk.ext hn3.ext; have b2 := hn3.blk
  have zlen := rr_len (m := m) hd hN
  have zok := rmk_int_ok (show (digs (rr N D m).natAbs).length ≤ 18 by omega)
  have zred := redR_int (show (digs (rr N D m).natAbs).length ≤ 18 by omega)
  have zrok := redOk_small (n := rr N D m) (d := 1) (by omega) (Nat.le_trans one_len1 (by decide))
  have dok := rest_len (z := rr N D m) hN hD zlen
  refine ⟨_, _, _, _, _, _, _, b0.loadA0 (by kernel_rfl), ?_⟩
  refine Ret.at (spec_RatRound_n (m := m) (hr.ext X) hok) ?_
  rintro v w4 ⟨vs4, f4, hv, ho4, nd4, y4⟩
  subst hv
  have ho4 : Owns w4 w3.heap.size vs4 (enc (rr N D m)) f4 := ho4
  have hr4 := ho4.reps
  obtain ⟨s0, sp, sn, sc, sz, rfl, _, _⟩ := open_Signed hr4 (enc_code _)
  refine ⟨_, _, _, _, _, rfl, ?_⟩
  intro r3 w5 hn5
  have e5 := hn5.r_eq; have z5 := hn5.size; have l4 := y4.le
  obtain ⟨w6, st6, hb6, y6⟩ := hn5.fill (P := P) (t := T_impl_Signed) (xs := [.bool s0, .slice sp sn sc]) (by simp [Value.oneCell']) (by kernel_rfl) rfl
  have Y6 := y4.trans y6
  have l6 := y6.le
  have zero : ∀ W, Ext w6 W → modeOk m = false → ∃ W1, Stores P T_impl_Signed ⟨r1, 0, none⟩ (.agg ⟨[.bool false, .slice none 0 0]⟩) W W1 ∧ ∃ W2, Stores P T_impl_Rat ⟨r2, 0, none⟩ (.agg ⟨[.bool false, .slice none 0 0, .slice none 0 0]⟩) W1 W2 ∧ Loads P T_impl_Signed ⟨r1, 0, none⟩ (.agg ⟨[.bool false, .slice none 0 0]⟩) W2 ∧ Loads P T_impl_Rat ⟨r2, 0, none⟩ (.agg ⟨[.bool false, .slice none 0 0, .slice none 0 0]⟩) W2 ∧ Owns W2 w.heap.size [.bool false, .slice none 0 0] (enc (rr N D m)) [] ∧ Owns W2 w.heap.size [.bool false, .slice none 0 0, .slice none 0 0] (rs N D m) [] ∧ Ext w W2 := by
    intro W hW hno
    have q1 := (b1.ext Y6).ext hW; have q2 := (b2.ext Y6).ext hW
    obtain ⟨W1, W2, a1, _, a2, a3, a4, a5, a6, a7⟩ := two_end (t1 := T_impl_Signed) (t2 := T_impl_Rat) q1 q2 ((X.trans Y6).trans hW) (own_sgn0 W (r2 + 1)) (own_rat0 W (r2 + 1)) (by kernel_rfl) rfl (by kernel_rfl) rfl (by omega) (by omega) (by omega) (by omega) (by omega) (by omega)
    have z1' : rr N D m = 0 := by rw [rr, hno]; rfl
    have z2' : rs N D m = rat0 := by rw [rs, hno]; rfl
    rw [z1', z2']
    exact ⟨W1, a1, W2, a2, a3, a4, a5, a6, a7⟩
  refine ⟨w6, st6, ?_⟩
  have hr6 : Reps w6 [.bool s0, .slice sp sn sc] (enc (rr N D m)) := hr4.ext y6
  refine ⟨_, _, _, _, hb6.loadA0 (by kernel_rfl), ?_⟩
  refine Ret.at (spec_RatInt_n hr6 (by omega)) ?_
  rintro v w7 ⟨vs7, f7, hv, ho7, _, y7⟩
  subst hv
  rw [zred] at ho7
  rw [zrok]
  have hr7 := ho7.reps
  obtain ⟨u0, up, un, uc, uz, up2, un2, uc2, uz2, rfl, _, _, _⟩ := open_Rat hr7 (rmk_code _ _)
  refine ⟨_, _, _, _, _, _, _, _, rfl, ?_⟩
  intro r4 w8 hn8
  have e8 := hn8.r_eq; have z8 := hn8.size; have l7 := y7.le
  obtain ⟨w9, st9, hb9, y9⟩ := hn8.fill (P := P) (t := T_impl_Rat) (xs := [.bool u0, .slice up un uc, .slice up2 un2 uc2]) (by simp [Value.oneCell']) (by kernel_rfl) rfl
  have l9 := y9.le
  have Y9 := (Y6.trans y7).trans y9
  refine ⟨w9, st9, _, _, _, _, _, _, _, (b0.ext Y9).loadA0 (by kernel_rfl), _, _, _, _, _, _, _, hb9.loadA0 (by kernel_rfl), ?_⟩
  refine Ret.at (spec_RatSub_n (hr.ext (X.trans Y9)) (hr7.ext y9) hok zok) ?_
  rintro v w10 ⟨vs10, f10, hv, ho10, nd10, y10⟩
  subst hv
  rw [dok]
  have hr10 := ho10.reps
  obtain ⟨g0, gp, gn, gc, gz, gp2, gn2, gc2, gz2, rfl, _, _, _⟩ := open_Rat hr10 (redR_code _ _)
  refine ⟨_, _, _, _, _, _, _, _, rfl, ?_⟩
  intro r5 w11 hn11
  have e11 := hn11.r_eq; have z11 := hn11.size; have l10 := y10.le
  obtain ⟨w12, st12, hb12, y12⟩ := hn11.fill (P := P) (t := T_impl_Rat) (xs := [.bool g0, .slice gp gn gc, .slice gp2 gn2 gc2]) (by simp [Value.oneCell']) (by kernel_rfl) rfl
  have D' := Ext.drew w12
  have Y12 := ((Y9.trans y10).trans y12).trans D'
  have T12 := (((y7.trans y9).trans y10).trans y12).trans D'
  have q1 := b1.ext Y12; have q2 := b2.ext Y12
  have k3 := hb6.ext T12; have k5 := hb12.ext D'
  have o1 := (ho4.ext y6).ext T12
  have o2 := ((ho10.ext y12).ext D').mono (show w3.heap.size ≤ w9.heap.size by omega)
  have dis : ∀ k ∈ f4, k ∉ f10 := fun k hk hm => by
    have a := (ho4.lt k hk).2
    have b := (ho10.lt k hm).1
    omega
  refine ⟨w12, st12, ?_⟩
  refine ifN (fun hno => ifT (ifT ?_)) (fun hyes => ifN (fun hh => absurd hh (by simp)) (fun _ => ifN (fun hh => absurd hh (by simp)) (fun _ => ?_)))
  · obtain ⟨W1, a1, W2, a2, a3, a4, a5, a6, a7⟩ := zero _ (((y7.trans y9).trans y10).trans y12) hno
    exact ⟨W1, a1, W2, a2, _, _, _, _, a3, _, _, _, _, _, _, _, a4, _, [], _, [], by rw [hno], a5, List.nodup_nil, a6, List.nodup_nil, fun k hk => by simp at hk, a7⟩
  obtain ⟨W1, W2, a1, ch1, a2, a3, a4, a5, a6, a7⟩ := two_end (t1 := T_impl_Signed) (t2 := T_impl_Rat) q1 q2 (X.trans Y12) o1 o2 (by kernel_rfl) rfl (by kernel_rfl) rfl (by omega) (by omega) (by omega) (by omega) (by omega) (by omega)
  have z1' : rr N D m = rround N D m := by rw [rr, hyes]; rfl
  have z2' : rs N D m = restR N D m := by rw [rs, hyes]; rfl
  refine ⟨[r1], _, _, _, _, fun W hW => (k3.chg (show Chg [r1] w12.drew W from hW) (by simp; omega)).loadA0 (by kernel_rfl), _, _, _, _, _, _, _, fun W hW => (k5.chg (show Chg [r1] w12.drew W from hW) (by simp; omega)).loadA0 (by kernel_rfl), W1, a1, show Chg [r1] w12.drew W1 from ch1, W2, a2, _, _, _, _, a3, _, _, _, _, _, _, _, a4, _, f4, _, f10, by rw [hyes], a5, nd4, ?_, nd10, dis, a7⟩
  rw [z2', restR, ← z1']
  exact a6
end Go.Proofs.YtfemmmbkhhemaaaGreatDoor

namespace Go.Proofs.YtfemmmbkhhemaaaGreatDoor
open Go Go.Proofs.YtfemmmbkhhemaaaGreatDoor.Sx
set_option linter.unusedVariables false
set_option linter.unusedSimpArgs false
def taxOk : List D0 → Bool
  | [.bool b, .ints z, .int s] => decOk [.bool b, .ints z, .int s] && decide (z.length ≤ 1) && !b && decide (dcmp [.bool b, .ints z, .int s] (enc 1 ++ [.int 0]) ≤ 0)
  | _ => false
theorem spec_TaxRateOk_c {w : World} {xs : List Value} {dx : List D0} (h : Reps w xs dx) (hc : dx.map D0.code = [.bool, .ints, .int]) :
    Ret P n_spec_TaxRateOk [.agg ⟨xs⟩] w fun v w' => v = .bool (taxOk dx) ∧ Ext w w' := by
  have hr := h
  obtain ⟨a0, a1p, a1n, a1c, a1z, a2, rfl, rfl, ha⟩ := open_Dec h hc
  refine spec_TaxRateOk_ret ?_
  unfold spec_TaxRateOk
  intro r w1 hn1
  have D := Ext.drew w1
  have X := hn1.ext.trans D
  have hl := ha.1
  refine ⟨_, _, _, _, _, fun W hW => (hn1.blk.ext (D.trans hW)).loadA0 (by kernel_rfl), ?_⟩
  refine Ret.at (spec_DecOk_c (hr.ext X) rfl) ?_
  rintro v w2 ⟨hv, y2⟩
  subst hv
  have X2 := X.trans y2
  have b := (hn1.blk.ext D).ext y2
  refine ⟨_, rfl, fun e1 => ⟨_, fun W hW => (b.ext hW).loadAt 0 rfl (by kernel_rfl) rfl, fun e2 => ⟨_, _, _, fun W hW => (b.ext hW).loadAt 1 rfl (by kernel_rfl) rfl, ifD (fun hle => ?_) (fun hgt => ⟨?_, X2⟩)⟩, fun e2 => ifF ⟨?_, X2⟩⟩, fun e1 => ifF (ifF ⟨?_, X2⟩)⟩
  · refine ⟨_, _, _, _, _, fun W hW => (b.ext hW).loadA0 (by kernel_rfl), ?_⟩
    refine Ret.at (spec_IntOf_c (n := 1) (by omega) (by omega)) ?_
    rintro v w3 ⟨vs, f, hv, ho, _, y3⟩
    subst hv
    obtain ⟨g0, gp, gn, gc, gz, rfl, hg, hgi⟩ := open_Signed ho.reps (enc_code _)
    refine ⟨_, _, _, _, rfl, y3, ?_⟩
    have hone : Reps w3 [.bool g0, .slice gp gn gc, .int .i64 0] (enc 1 ++ [.int 0]) := by
      rw [hg]; exact ⟨rfl, ⟨_, _, _, rfl, hgi⟩, rfl, trivial⟩
    refine Ret.at (spec_DecCmp_c (hr.ext (X2.trans y3)) hone rfl rfl) ?_
    rintro v w4 ⟨hv, y4⟩
    subst hv
    refine ⟨_, rfl, ?_, (X2.trans y3).trans y4⟩
    have e2 : a0 = false := by simpa using e2
    subst e2
    simp only [taxOk, e1, show decide (a1z.length ≤ 1) = true by simp; omega, Bool.and_self, Bool.not_false, Bool.true_and]
  · simp only [taxOk, show decide (a1z.length ≤ 1) = false by simp; omega, Bool.and_false, Bool.false_and]
  · have e2 : a0 = true := by simpa using e2
    simp only [taxOk, e2, Bool.not_true, Bool.and_false, Bool.false_and]
  · simp only [taxOk, e1, Bool.false_and]
theorem impl_TaxRateOk_c {w : World} {xs : List Value} {dx : List D0} (h : Reps w xs dx) (hc : dx.map D0.code = [.bool, .ints, .int]) :
    Ret P n_impl_TaxRateOk [.agg ⟨xs⟩] w fun v w' => v = .bool (taxOk dx) ∧ Ext w w' := by
  have hr := h
  obtain ⟨a0, a1p, a1n, a1c, a1z, a2, rfl, rfl, ha⟩ := open_Dec h hc
  refine impl_TaxRateOk_ret ?_
  unfold impl_TaxRateOk
  intro r w1 hn1
  have D := Ext.drew w1
  have X := hn1.ext.trans D
  have hl := ha.1
  refine ⟨_, _, _, _, _, fun W hW => (hn1.blk.ext (D.trans hW)).loadA0 (by kernel_rfl), ?_⟩
  refine Ret.at (impl_DecOk_c (hr.ext X) rfl) ?_
  rintro v w2 ⟨hv, y2⟩
  subst hv
  have X2 := X.trans y2
  have b := (hn1.blk.ext D).ext y2
  refine ⟨_, rfl, fun e1 => ⟨_, _, _, fun W hW => (b.ext hW).loadAt 1 rfl (by kernel_rfl) rfl, ifD (fun hle => ⟨_, fun W hW => (b.ext hW).loadAt 0 rfl (by kernel_rfl) rfl, fun e2 => ?_, fun e2 => ⟨?_, X2⟩⟩) (fun hgt => ifF ⟨?_, X2⟩)⟩, fun e1 => ifF (ifF ⟨?_, X2⟩)⟩
  · refine ⟨_, _, _, _, _, fun W hW => (b.ext hW).loadA0 (by kernel_rfl), ?_⟩
    refine Ret.at (impl_IntOf_c (n := 1) (by omega) (by omega)) ?_
    rintro v w3 ⟨vs, f, hv, ho, _, y3⟩
    subst hv
    obtain ⟨g0, gp, gn, gc, gz, rfl, hg, hgi⟩ := open_Signed ho.reps (enc_code _)
    refine ⟨_, _, _, _, rfl, y3, ?_⟩
    have hone : Reps w3 [.bool g0, .slice gp gn gc, .int .i64 0] (enc 1 ++ [.int 0]) := by
      rw [hg]; exact ⟨rfl, ⟨_, _, _, rfl, hgi⟩, rfl, trivial⟩
    refine Ret.at (impl_DecCmp_c (hr.ext (X2.trans y3)) hone rfl rfl) ?_
    rintro v w4 ⟨hv, y4⟩
    subst hv
    refine ⟨_, rfl, ?_, (X2.trans y3).trans y4⟩
    have e2 : a0 = false := by simpa using e2
    subst e2
    simp only [taxOk, e1, show decide (a1z.length ≤ 1) = true by simp; omega, Bool.and_self, Bool.not_false, Bool.true_and]
  · have e2 : a0 = true := by simpa using e2
    simp only [taxOk, e2, Bool.not_true, Bool.and_false, Bool.false_and]
  · simp only [taxOk, show decide (a1z.length ≤ 1) = false by simp; omega, Bool.and_false, Bool.false_and]
  · simp only [taxOk, e1, Bool.false_and]
end Go.Proofs.YtfemmmbkhhemaaaGreatDoor

namespace Go.Proofs.YtfemmmbkhhemaaaGreatDoor
open Go Go.Proofs.YtfemmmbkhhemaaaGreatDoor.Sx
set_option linter.unusedVariables false
set_option linter.unusedSimpArgs false
theorem impl_RatMoney_n {w : World} {xs : List Value} {N : Int} {D : Nat} {m : Int} (cur : ByteArray) (h : Reps w xs (rmk N D)) (hok : ratOk (rmk N D) = true) (hN : (digs N.natAbs).length ≤ 10) (hD : (digs D).length ≤ 6) (ht : Tab w) :
    Ret P n_impl_RatMoney [.string cur, .agg ⟨xs⟩, .int .i64 m] w fun v w' => ∃ vs1 f1 vs2 f2, v = .tuple #[.agg ⟨vs1⟩, .agg ⟨vs2⟩, .bool (rmOk cur N D m)] ∧ Owns w' w.heap.size vs1 (rmMoney cur N D m) f1 ∧ f1.Nodup ∧ Owns w' w.heap.size vs2 (rmRest cur N D m) f2 ∧ f2.Nodup ∧ (∀ k ∈ f1, k ∉ f2) ∧ Ext w w' := by
  have hr := h
  obtain ⟨p1, n1, c1, p2, n2, c2, rfl, i1, i2, li1, li2, he, hd⟩ := rmk_open h hok
  refine impl_RatMoney_ret ?_
  unfold impl_RatMoney
  intro r w1 hn1 r1 w2 hn2 r2 w3 hn3
  have e1 := hn1.r_eq; have e2 := hn2.r_eq; have e3 := hn3.r_eq; have z1 := hn1.size; have z2 := hn2.size; have z3 := hn3.size
  have X := (hn1.ext.trans hn2.ext).trans hn3.ext
  have b0 := (hn1.blk.ext hn2.ext).ext hn3.ext; have b1 := hn2.blk.ext hn3.ext; have b2 := hn3.blk
  refine ⟨_, _, _, _, _, _, _, b0.loadA0 (by kernel_rfl), ?_⟩
  refine Ret.at (impl_RatRest_n (m := m) (hr.ext X) hok hN hD) ?_
  rintro v w4 ⟨vs4, f4, vsr, fr, hv, ho4, nd4, hor, ndr, dis, y4⟩
  subst hv
  have l4 := y4.le
  have hr4 := ho4.reps; have hrr := hor.reps
  obtain ⟨s0, sp, sn, sc, sz, rfl, _, _⟩ := open_Signed hr4 (enc_code _)
  have rcode : (rs N D m).map D0.code = [.bool, .ints, .ints] := by
    unfold rs
    split
    · exact redR_code _ _
    · rfl
  obtain ⟨g0, gp, gn, gc, gz, gp2, gn2, gc2, gz2, rfl, _, _, _⟩ := open_Rat hrr rcode
  refine ⟨_, _, _, _, _, _, _, _, _, _, _, _, rfl, ?_⟩
  intro r3 w5 hn5 r4 w6 hn6
  have e5 := hn5.r_eq; have z5 := hn5.size; have e6 := hn6.r_eq; have z6 := hn6.size
  obtain ⟨w7, st7, hb7, ch7, sz7⟩ := (hn5.blk.ext hn6.ext).storeA0 (P := P) (t := T_impl_Signed) (xs := [.bool s0, .slice sp sn sc]) (by kernel_rfl) rfl (by simp [Value.oneCell'])
  obtain ⟨w8, st8, hb8, ch8, sz8⟩ := (hn6.blk.chg ch7 (by simp; omega)).storeA0 (P := P) (t := T_impl_Rat) (xs := [.bool g0, .slice gp gn gc, .slice gp2 gn2 gc2]) (by kernel_rfl) rfl (by simp [Value.oneCell'])
  have Z : Ext w4 w8 := ((hn5.ext.trans hn6.ext).chg ch7 (by simp; omega)).chg ch8 (by simp; omega)
  have k3 := hb7.chg ch8 (by simp; omega)
  have lZ := Z.le
  have Y8 := y4.trans Z
  refine ⟨w7, st7, w8, st8, ?_⟩
  refine ifN (fun hm1 => ?_) (fun hm1 => ?_)
  · obtain ⟨W1, W2, a1, _, a2, a3, a4, a5, a6, a7⟩ := two_end (t1 := T_impl_Money) (t2 := T_impl_Rat) (b1.ext Y8) (b2.ext Y8) (X.trans Y8) (own_money0 _ (r2 + 1)) (own_rat0 _ (r2 + 1)) (by kernel_rfl) rfl (by kernel_rfl) rfl (by omega) (by omega) (by omega) (by omega) (by omega) (by omega)
    have hno : rmOk cur N D m = false := by rw [rmOk, hm1]; rfl
    exact ⟨W1, a1, W2, a2, _, _, _, _, _, a3, _, _, _, _, _, _, _, a4, _, [], _, [], by rw [hno], by rw [rmMoney, hno]; exact a5, List.nodup_nil, by rw [rmRest, hno]; exact a6, List.nodup_nil, fun k hk => by simp at hk, a7⟩
  ·
    refine ⟨_, _, _, _, k3.loadA0 (by kernel_rfl), ?_⟩
    refine Ret.at (impl_moneyOf_s (ht.ext (X.trans Y8)) cur (ho4.ext Z) nd4 (show w3.heap.size ≤ w8.heap.size by omega)) ?_
    rintro v w9 ⟨vs9, f9, hv, ho9, nd9, sub9, y9⟩
    subst hv
    have hr9 := ho9.reps
    obtain ⟨m0, m1, mp, mn, mc, mz, rfl, _, _⟩ := open_Money hr9 (moneyMk_code _ _)
    refine ⟨_, _, _, _, _, _, rfl, ?_⟩
    intro r5 w10 hn10
    have e10 := hn10.r_eq; have z10 := hn10.size; have l9 := y9.le
    obtain ⟨w11, st11, hb11, y11⟩ := hn10.fill (P := P) (t := T_impl_Money) (xs := [.string m0, .bool m1, .slice mp mn mc]) (by simp [Value.oneCell']) (by kernel_rfl) rfl
    have Y11 := (Y8.trans y9).trans y11
    refine ⟨w11, st11, ?_⟩
    refine ifN (fun hm2 => ?_) (fun hm2 => ?_)
    · obtain ⟨W1, W2, a1, _, a2, a3, a4, a5, a6, a7⟩ := two_end (t1 := T_impl_Money) (t2 := T_impl_Rat) (b1.ext Y11) (b2.ext Y11) (X.trans Y11) (own_money0 _ (r2 + 1)) (own_rat0 _ (r2 + 1)) (by kernel_rfl) rfl (by kernel_rfl) rfl (by omega) (by omega) (by omega) (by omega) (by omega) (by omega)
      have hno : rmOk cur N D m = false := by
        have z1' : rr N D m = rround N D m := by rw [rr, hm1]; rfl
        rw [z1'] at hm2
        rw [rmOk, hm1, hm2]; rfl
      exact ⟨W1, a1, W2, a2, _, _, _, _, _, a3, _, _, _, _, _, _, _, a4, _, [], _, [], by rw [hno], by rw [rmMoney, hno]; exact a5, List.nodup_nil, by rw [rmRest, hno]; exact a6, List.nodup_nil, fun k hk => by simp at hk, a7⟩
    have D' := Ext.drew w11
    have Y12 := Y11.trans D'
    have q1 := b1.ext Y12; have q2 := b2.ext Y12
    have k4 := hb8.ext ((y9.trans y11).trans D'); have k5 := hb11.ext D'
    have o1 := (ho9.ext y11).ext D'
    have o2 := (hor.ext Z).ext ((y9.trans y11).trans D')
    have l11 := y11.le
    obtain ⟨W1, W2, a1, ch1, a2, a3, a4, a5, a6, a7⟩ := two_end (t1 := T_impl_Money) (t2 := T_impl_Rat) q1 q2 (X.trans Y12) o1 o2 (by kernel_rfl) rfl (by kernel_rfl) rfl (by omega) (by omega) (by omega) (by omega) (by omega) (by omega)
    have z1' : rr N D m = rround N D m := by rw [rr, hm1]; rfl
    rw [z1'] at hm2 a5
    have hyes : rmOk cur N D m = true := by rw [rmOk, hm1, hm2]; rfl
    refine ⟨[r1], _, _, _, _, _, fun W hW => (k5.chg (show Chg [r1] w11.drew W from hW) (by simp; omega)).loadA0 (by kernel_rfl), _, _, _, _, _, _, _, fun W hW => (k4.chg (show Chg [r1] w11.drew W from hW) (by simp; omega)).loadA0 (by kernel_rfl), W1, a1, show Chg [r1] w11.drew W1 from ch1, W2, a2, _, _, _, _, _, a3, _, _, _, _, _, _, _, a4, _, f9, _, fr, by rw [hyes], ?_, nd9, ?_, ndr, fun k hk => dis k (sub9 k hk), a7⟩
    · rw [rmMoney, hyes]
      rw [moneyMk, hm2] at a5
      exact a5
    · rw [rmRest, hyes]
      rw [rs, hm1] at a6
      exact a6
theorem spec_RatMoney_n {w : World} {xs : List Value} {N : Int} {D : Nat} {m : Int} (cur : ByteArray) (h : Reps w xs (rmk N D)) (hok : ratOk (rmk N D) = true) (hN : (digs N.natAbs).length ≤ 10) (hD : (digs D).length ≤ 6) :
    Ret P n_spec_RatMoney [.string cur, .agg ⟨xs⟩, .int .i64 m] w fun v w' => ∃ vs1 f1 vs2 f2, v = .tuple #[.agg ⟨vs1⟩, .agg ⟨vs2⟩, .bool (rmOk cur N D m)] ∧ Owns w' w.heap.size vs1 (rmMoney cur N D m) f1 ∧ f1.Nodup ∧ Owns w' w.heap.size vs2 (rmRest cur N D m) f2 ∧ f2.Nodup ∧ (∀ k ∈ f1, k ∉ f2) ∧ Ext w w' := by
  have hr := h
  obtain ⟨p1, n1, c1, p2, n2, c2, rfl, i1, i2, li1, li2, he, hd⟩ := rmk_open h hok
  refine spec_RatMoney_ret ?_
  unfold spec_RatMoney
  intro r w1 hn1 r1 w2 hn2 r2 w3 hn3
  have e1 := hn1.r_eq; have e2 := hn2.r_eq; have e3 := hn3.r_eq; have z1 := hn1.size; have z2 := hn2.size; have z3 := hn3.size
  have X := (hn1.ext.trans hn2.ext).trans hn3.ext
  have b0 := (hn1.blk.ext hn2.ext).ext hn3.ext; have b1 := hn2.blk.ext hn3.ext; have b2 := hn3.blk
  refine ⟨_, _, _, _, _, _, _, b0.loadA0 (by kernel_rfl), ?_⟩
  refine Ret.at (spec_RatRest_n (m := m) (hr.ext X) hok hN hD) ?_
  rintro v w4 ⟨vs4, f4, vsr, fr, hv, ho4, nd4, hor, ndr, dis, y4⟩
  subst hv
  have l4 := y4.le
  have hr4 := ho4.reps; have hrr := hor.reps
  obtain ⟨s0, sp, sn, sc, sz, rfl, _, _⟩ := open_Signed hr4 (enc_code _)
  have rcode : (rs N D m).map D0.code = [.bool, .ints, .ints] := by
    unfold rs
    split
    · exact redR_code _ _
    · rfl
  obtain ⟨g0, gp, gn, gc, gz, gp2, gn2, gc2, gz2, rfl, _, _, _⟩ := open_Rat hrr rcode
  refine ⟨_, _, _, _, _, _, _, _, _, _, _, _, rfl, ?_⟩
  intro r3 w5 hn5 r4 w6 hn6
  have e5 := hn5.r_eq; have z5 := hn5.size; have e6 := hn6.r_eq; have z6 := hn6.size
  obtain ⟨w7, st7, hb7, ch7, sz7⟩ := (hn5.blk.ext hn6.ext).storeA0 (P := P) (t := T_impl_Signed) (xs := [.bool s0, .slice sp sn sc]) (by kernel_rfl) rfl (by simp [Value.oneCell'])
  obtain ⟨w8, st8, hb8, ch8, sz8⟩ := (hn6.blk.chg ch7 (by simp; omega)).storeA0 (P := P) (t := T_impl_Rat) (xs := [.bool g0, .slice gp gn gc, .slice gp2 gn2 gc2]) (by kernel_rfl) rfl (by simp [Value.oneCell'])
  have Z : Ext w4 w8 := ((hn5.ext.trans hn6.ext).chg ch7 (by simp; omega)).chg ch8 (by simp; omega)
  have k3 := hb7.chg ch8 (by simp; omega)
  have lZ := Z.le
  have Y8 := y4.trans Z
  refine ⟨w7, st7, w8, st8, ?_⟩
  refine ⟨_, _, _, _, k3.loadA0 (by kernel_rfl), ?_⟩
  refine Ret.at (spec_l09Make_s cur (ho4.ext Z) nd4 (show w3.heap.size ≤ w8.heap.size by omega)) ?_
  rintro v w9 ⟨vs9, f9, hv, ho9, nd9, sub9, y9⟩
  subst hv
  have hr9 := ho9.reps
  obtain ⟨m0, m1, mp, mn, mc, mz, rfl, _, _⟩ := open_Money hr9 (moneyMk_code _ _)
  refine ⟨_, _, _, _, _, _, rfl, ?_⟩
  intro r5 w10 hn10
  have e10 := hn10.r_eq; have z10 := hn10.size; have l9 := y9.le
  obtain ⟨w11, st11, hb11, y11⟩ := hn10.fill (P := P) (t := T_impl_Money) (xs := [.string m0, .bool m1, .slice mp mn mc]) (by simp [Value.oneCell']) (by kernel_rfl) rfl
  have Y11 := (Y8.trans y9).trans y11
  refine ⟨w11, st11, ?_⟩
  refine ifN (fun hm1 => ifT ?_) (fun hm1 => ifN (fun hm2 => ?_) (fun hm2 => ?_))
  · obtain ⟨W1, W2, a1, _, a2, a3, a4, a5, a6, a7⟩ := two_end (t1 := T_impl_Money) (t2 := T_impl_Rat) (b1.ext Y11) (b2.ext Y11) (X.trans Y11) (own_money0 _ (r2 + 1)) (own_rat0 _ (r2 + 1)) (by kernel_rfl) rfl (by kernel_rfl) rfl (by omega) (by omega) (by omega) (by omega) (by omega) (by omega)
    have hno : rmOk cur N D m = false := by rw [rmOk, hm1]; rfl
    exact ⟨W1, a1, W2, a2, _, _, _, _, _, a3, _, _, _, _, _, _, _, a4, _, [], _, [], by rw [hno], by rw [rmMoney, hno]; exact a5, List.nodup_nil, by rw [rmRest, hno]; exact a6, List.nodup_nil, fun k hk => by simp at hk, a7⟩
  · obtain ⟨W1, W2, a1, _, a2, a3, a4, a5, a6, a7⟩ := two_end (t1 := T_impl_Money) (t2 := T_impl_Rat) (b1.ext Y11) (b2.ext Y11) (X.trans Y11) (own_money0 _ (r2 + 1)) (own_rat0 _ (r2 + 1)) (by kernel_rfl) rfl (by kernel_rfl) rfl (by omega) (by omega) (by omega) (by omega) (by omega) (by omega)
    have hno : rmOk cur N D m = false := by
      have z1' : rr N D m = rround N D m := by rw [rr, hm1]; rfl
      rw [z1'] at hm2
      rw [rmOk, hm1, hm2]; rfl
    exact ⟨W1, a1, W2, a2, _, _, _, _, _, a3, _, _, _, _, _, _, _, a4, _, [], _, [], by rw [hno], by rw [rmMoney, hno]; exact a5, List.nodup_nil, by rw [rmRest, hno]; exact a6, List.nodup_nil, fun k hk => by simp at hk, a7⟩
  have D' := Ext.drew w11
  have Y12 := Y11.trans D'
  have q1 := b1.ext Y12; have q2 := b2.ext Y12
  have k4 := hb8.ext ((y9.trans y11).trans D'); have k5 := hb11.ext D'
  have o1 := (ho9.ext y11).ext D'
  have o2 := (hor.ext Z).ext ((y9.trans y11).trans D')
  have l11 := y11.le
  obtain ⟨W1, W2, a1, ch1, a2, a3, a4, a5, a6, a7⟩ := two_end (t1 := T_impl_Money) (t2 := T_impl_Rat) q1 q2 (X.trans Y12) o1 o2 (by kernel_rfl) rfl (by kernel_rfl) rfl (by omega) (by omega) (by omega) (by omega) (by omega) (by omega)
  have z1' : rr N D m = rround N D m := by rw [rr, hm1]; rfl
  rw [z1'] at hm2 a5
  have hyes : rmOk cur N D m = true := by rw [rmOk, hm1, hm2]; rfl
  refine ⟨[r1], _, _, _, _, _, fun W hW => (k5.chg (show Chg [r1] w11.drew W from hW) (by simp; omega)).loadA0 (by kernel_rfl), _, _, _, _, _, _, _, fun W hW => (k4.chg (show Chg [r1] w11.drew W from hW) (by simp; omega)).loadA0 (by kernel_rfl), W1, a1, show Chg [r1] w11.drew W1 from ch1, W2, a2, _, _, _, _, _, a3, _, _, _, _, _, _, _, a4, _, f9, _, fr, by rw [hyes], ?_, nd9, ?_, ndr, fun k hk => dis k (sub9 k hk), a7⟩
  · rw [rmMoney, hyes]
    rw [moneyMk, hm2] at a5
    exact a5
  · rw [rmRest, hyes]
    rw [rs, hm1] at a6
    exact a6
theorem impl_DecRat_n {w : World} {xs : List Value} {m t : Nat} (h : Reps w xs (dnn m (t : Int))) (hm : (digs m).length ≤ 6) (ht : t ≤ 30) :
    Ret P n_impl_DecRat [.agg ⟨xs⟩] w fun v w' => ∃ vs f, v = .agg ⟨vs⟩ ∧ Owns w' w.heap.size vs (redR (m : Int) (10 ^ t)) f ∧ f.Nodup ∧ Ext w w' := by
  have hr := h
  obtain ⟨a0, ap, an, ac, az, a2, rfl, hd, ha⟩ := open_Dec h rfl
  simp only [dnn, List.cons.injEq, D0.bool.injEq, D0.ints.injEq, D0.int.injEq, and_true] at hd
  obtain ⟨rfl, rfl, rfl⟩ := hd
  have hla := ha.1
  have hpow : 0 < 10 ^ t := Nat.pow_pos (by decide)
  have hten := ten_len ht
  refine impl_DecRat_ret ?_
  unfold impl_DecRat
  intro r w1 hn1 r1 w2 hn2
  have e1 := hn1.r_eq; have e2 := hn2.r_eq; have z1 := hn1.size; have z2 := hn2.size
  have X := hn1.ext.trans hn2.ext
  have b0 := hn1.blk.ext hn2.ext; have b1 := hn2.blk
  refine ⟨_, _, _, _, _, b0.loadA0 (by kernel_rfl), ?_⟩
  refine Ret.at (impl_DecOk_c (hr.ext X) rfl) ?_
  rintro v w3 ⟨hv, y3⟩
  subst hv
  rw [dnn_ok hm ⟨by omega, by omega⟩]
  refine ⟨_, rfl, ifN (fun hh => absurd hh (by simp)) (fun _ => ?_)⟩
  have D := Ext.drew w3
  have Y := y3.trans D
  have X4 := X.trans Y
  have lY := Y.le
  have b0 := b0.ext Y; have b1 := b1.ext Y
  refine ⟨_, _, _, _, fun W hW => (b0.ext hW).loadAAt 0 [.bool false, .slice ap an ac] rfl (by kernel_rfl) rfl, _, fun W hW => (b0.ext hW).loadAt 2 rfl (by kernel_rfl) rfl, ?_⟩
  intro ss w4 F1
  have S1 := (FlSt.start (o := .cells ⟨[.bool false, .slice none 0 0, .slice none 0 0]⟩ T_impl_Rat (0, 0)) w3.drew).step F1
  refine Ret.at (impl_natTen_c (k := (t : Int)) (by omega) (by omega)) ?_
  rintro v w5 ⟨p5, n5, c5, hv, o5, y5⟩
  subst hv
  rw [Int.toNat_natCast] at o5
  have l5 := o5.ints.1
  refine ⟨_, _, _, rfl, y5, ?_⟩
  intro ss1 w6 F2
  have S2 := (S1.ext y5).step F2
  have hs : Reps w6 [.bool false, .slice ap an ac] (enc (m : Int)) := by
    rw [natCast_enc]
    exact ⟨rfl, ⟨_, _, _, rfl, ha.ext (X4.trans S2.1)⟩, trivial⟩
  refine Ret.at (impl_reduce_c hs (o5.ints.ext F2.ext) hpow (by rw [Int.natAbs_natCast]; omega) (by omega)) ?_
  rintro v w7 ⟨vs7, f7, hv, ho7, nd7, y7⟩
  subst hv
  have hr7 := ho7.reps
  obtain ⟨g0, gp, gn, gc, gz, gp2, gn2, gc2, gz2, rfl, _, _, _⟩ := open_Rat hr7 (redR_code _ _)
  refine ⟨_, _, _, _, _, _, _, _, rfl, ?_⟩
  intro ss2 w8 r8 F3 G
  have S3 := (S2.ext y7).step F3
  obtain ⟨hr8, hbk⟩ := S3.get G
  have B8 : Blk w8 r8 T_impl_Rat [.bool false, .slice none 0 0, .slice none 0 0] := hbk
  obtain ⟨w9, st9, hb9, ch9, sz9⟩ := B8.storeA0 (P := P) (t := T_impl_Rat) (xs := [.bool g0, .slice gp gn gc, .slice gp2 gn2 gc2]) (by kernel_rfl) rfl (by simp [Value.oneCell'])
  have hni := Owns.notin B8 (by decide) (ho7.ext F3.ext)
  have ho9 := (ho7.ext F3.ext).chg ch9 (fun k hk hm' => hni (by simp at hm'; rwa [← hm']))
  have Z9 : Ext w3.drew w9 := S3.1.chg ch9 (by simp; exact hr8)
  have lZ := S2.1.le
  obtain ⟨W', st, ld, ow, xx, _, _⟩ := agg_end (t := T_impl_Rat) (b1.ext Z9) (X4.trans Z9) (by omega) ho9 (by kernel_rfl) rfl (by omega) (by omega)
  exact ⟨w9, st9, _, _, _, _, _, _, _, hb9.loadA0 (by kernel_rfl), W', st, _, _, _, _, _, _, _, ld, _, f7, rfl, ow, nd7, xx⟩
theorem spec_DecRat_n {w : World} {xs : List Value} {m t : Nat} (h : Reps w xs (dnn m (t : Int))) (hm : (digs m).length ≤ 6) (ht : t ≤ 30) :
    Ret P n_spec_DecRat [.agg ⟨xs⟩] w fun v w' => ∃ vs f, v = .agg ⟨vs⟩ ∧ Owns w' w.heap.size vs (redR (m : Int) (10 ^ t)) f ∧ f.Nodup ∧ Ext w w' := by
  have hr := h
  obtain ⟨a0, ap, an, ac, az, a2, rfl, hd, ha⟩ := open_Dec h rfl
  simp only [dnn, List.cons.injEq, D0.bool.injEq, D0.ints.injEq, D0.int.injEq, and_true] at hd
  obtain ⟨rfl, rfl, rfl⟩ := hd
  have hla := ha.1
  have hpow : 0 < 10 ^ t := Nat.pow_pos (by decide)
  have hten := ten_len ht
  refine spec_DecRat_ret ?_
  unfold spec_DecRat
  intro r w1 hn1 r1 w2 hn2
  have e1 := hn1.r_eq; have e2 := hn2.r_eq; have z1 := hn1.size; have z2 := hn2.size
  have X := hn1.ext.trans hn2.ext
  have b0 := hn1.blk.ext hn2.ext; have b1 := hn2.blk
  refine ⟨_, _, _, _, _, b0.loadA0 (by kernel_rfl), ?_⟩
  refine Ret.at (spec_DecOk_c (hr.ext X) rfl) ?_
  rintro v w3 ⟨hv, y3⟩
  subst hv
  rw [dnn_ok hm ⟨by omega, by omega⟩]
  refine ⟨_, rfl, ifN (fun hh => absurd hh (by simp)) (fun _ => ?_)⟩
  have D := Ext.drew w3
  have Y := y3.trans D
  have X4 := X.trans Y
  have lY := Y.le
  have b0 := b0.ext Y; have b1 := b1.ext Y
  refine ⟨_, _, _, _, fun W hW => (b0.ext hW).loadAAt 0 [.bool false, .slice ap an ac] rfl (by kernel_rfl) rfl, _, fun W hW => (b0.ext hW).loadAt 2 rfl (by kernel_rfl) rfl, ?_⟩
  intro ss w4 F1
  have S1 := (FlSt.start (o := .cells ⟨[.bool false, .slice none 0 0, .slice none 0 0]⟩ T_impl_Rat (0, 0)) w3.drew).step F1
  refine Ret.at (spec_l07Ten_c (k := (t : Int)) (by omega) (by omega)) ?_
  rintro v w5 ⟨vs5, f5, hv, o5, _, y5⟩
  subst hv
  rw [Int.toNat_natCast] at o5
  have hr5 := o5.reps
  obtain ⟨s0, sp, sn, sc, sz, rfl, _, _⟩ := open_Signed hr5 (enc_code _)
  refine ⟨_, _, _, _, rfl, y5, ?_⟩
  intro ss1 w6 F2
  have S2 := (S1.ext y5).step F2
  have hs : Reps w6 [.bool false, .slice ap an ac] (enc (m : Int)) := by
    rw [natCast_enc]
    exact ⟨rfl, ⟨_, _, _, rfl, ha.ext (X4.trans S2.1)⟩, trivial⟩
  refine Ret.at (spec_RatMake_n hs (hr5.ext F2.ext) (by rw [Int.natAbs_natCast]; omega) (by omega) hpow) ?_
  rintro v w7 ⟨vs7, f7, hv, ho7, nd7, y7⟩
  subst hv
  have hr7 := ho7.reps
  obtain ⟨g0, gp, gn, gc, gz, gp2, gn2, gc2, gz2, rfl, _, _, _⟩ := open_Rat hr7 (redR_code _ _)
  refine ⟨_, _, _, _, _, _, _, _, rfl, ?_⟩
  intro ss2 w8 r8 F3 G
  have S3 := (S2.ext y7).step F3
  obtain ⟨hr8, hbk⟩ := S3.get G
  have B8 : Blk w8 r8 T_impl_Rat [.bool false, .slice none 0 0, .slice none 0 0] := hbk
  obtain ⟨w9, st9, hb9, ch9, sz9⟩ := B8.storeA0 (P := P) (t := T_impl_Rat) (xs := [.bool g0, .slice gp gn gc, .slice gp2 gn2 gc2]) (by kernel_rfl) rfl (by simp [Value.oneCell'])
  have hni := Owns.notin B8 (by decide) (ho7.ext F3.ext)
  have ho9 := (ho7.ext F3.ext).chg ch9 (fun k hk hm' => hni (by simp at hm'; rwa [← hm']))
  have Z9 : Ext w3.drew w9 := S3.1.chg ch9 (by simp; exact hr8)
  have lZ := S2.1.le
  obtain ⟨W', st, ld, ow, xx, _, _⟩ := agg_end (t := T_impl_Rat) (b1.ext Z9) (X4.trans Z9) (by omega) ho9 (by kernel_rfl) rfl (by omega) (by omega)
  exact ⟨w9, st9, _, _, _, _, _, _, _, hb9.loadA0 (by kernel_rfl), W', st, _, _, _, _, _, _, _, ld, _, f7, rfl, ow, nd7, xx⟩
theorem impl_MoneyRat_n {w : World} {xs : List Value} {c : ByteArray} {N : Int} (h : Reps w xs (.str c :: enc N)) (hok : moneyOk (.str c :: enc N) = true) (ht : Tab w) :
    Ret P n_impl_MoneyRat [.agg ⟨xs⟩] w fun v w' => ∃ vs f, v = .agg ⟨vs⟩ ∧ Owns w' w.heap.size vs (rmk N 1) f ∧ f.Nodup ∧ Ext w w' := by
  have hr := h
  obtain ⟨t0, a0, ap, an, ac, az, rfl, hd, ha⟩ := open_Money h rfl
  simp only [enc, List.cons.injEq, D0.str.injEq, D0.bool.injEq, D0.ints.injEq, and_true] at hd
  obtain ⟨rfl, rfl, rfl⟩ := hd
  have hla := ha.1
  have h4 : (digs N.natAbs).length ≤ 4 := by
    simp only [moneyOk, enc, Bool.and_eq_true, decide_eq_true_eq] at hok
    exact hok.2
  refine impl_MoneyRat_ret ?_
  unfold impl_MoneyRat
  intro r w1 hn1 r1 w2 hn2
  have e1 := hn1.r_eq; have e2 := hn2.r_eq; have z1 := hn1.size; have z2 := hn2.size
  have X := hn1.ext.trans hn2.ext
  have b0 := hn1.blk.ext hn2.ext; have b1 := hn2.blk
  refine ⟨_, _, _, _, _, b0.loadA0 (by kernel_rfl), ?_⟩
  refine Ret.at (impl_MoneyOk_c (ht.ext X) (hr.ext X) rfl) ?_
  rintro v w3 ⟨hv, y3⟩
  subst hv
  rw [hok]
  refine ⟨_, rfl, ifN (fun hh => absurd hh (by simp)) (fun _ => ?_)⟩
  have l3 := y3.le
  have X3 := X.trans y3
  have hs : Reps w3 [.bool (decide (N < 0)), .slice ap an ac] (enc N) := ⟨rfl, ⟨_, _, _, rfl, ha.ext X3⟩, trivial⟩
  refine ⟨_, _, _, _, (b0.ext y3).loadAAt 1 [.bool (decide (N < 0)), .slice ap an ac] rfl (by kernel_rfl) rfl, ?_⟩
  refine Ret.at (impl_intCopy_c hs (enc_code _) (by simp only [bulks, enc, D0.bulk, List.map_cons, List.map_nil, List.sum_cons, List.sum_nil]; omega)) ?_
  rintro v w4 ⟨vs4, f4, hv, ho4, nd4, y4⟩
  subst hv
  have hr4 := ho4.reps
  obtain ⟨s0, sp, sn, sc, sz, rfl, _, _⟩ := open_Signed hr4 (enc_code _)
  refine ⟨_, _, _, _, rfl, ?_⟩
  intro r5 w5 hn5
  have e5 := hn5.r_eq; have z5 := hn5.size; have l4 := y4.le
  have hone : Own w5 w3.heap.size T_int 1 (some ⟨r5, 0, none⟩) 1 1 ((digs 1).map (Value.int .i64)) := by
    rw [digs_one]
    exact Own.of_blk hn5.blk (by omega) rfl (by decide)
  have ho5 := own_rmk (ho4.ext hn5.ext) hone
  obtain ⟨W', st, ld, ow, xx, _, _⟩ := agg_end (t := T_impl_Rat) ((b1.ext y3).ext (y4.trans hn5.ext)) (X3.trans (y4.trans hn5.ext)) (by omega) ho5 (by kernel_rfl) rfl (by omega) (by omega)
  refine ⟨W', st, _, _, _, _, _, _, _, ld, _, _, rfl, ow, ?_, xx⟩
  exact nodup_append nd4 (by simp) (m := w4.heap.size) (fun k hk => (ho4.lt k hk).2) (fun k hk => by simp at hk; omega)
theorem spec_MoneyRat_n {w : World} {xs : List Value} {c : ByteArray} {N : Int} (h : Reps w xs (.str c :: enc N)) (hok : moneyOk (.str c :: enc N) = true) :
    Ret P n_spec_MoneyRat [.agg ⟨xs⟩] w fun v w' => ∃ vs f, v = .agg ⟨vs⟩ ∧ Owns w' w.heap.size vs (rmk N 1) f ∧ f.Nodup ∧ Ext w w' := by
  have hr := h
  obtain ⟨t0, a0, ap, an, ac, az, rfl, hd, ha⟩ := open_Money h rfl
  simp only [enc, List.cons.injEq, D0.str.injEq, D0.bool.injEq, D0.ints.injEq, and_true] at hd
  obtain ⟨rfl, rfl, rfl⟩ := hd
  have hla := ha.1
  have h4 : (digs N.natAbs).length ≤ 4 := by
    simp only [moneyOk, enc, Bool.and_eq_true, decide_eq_true_eq] at hok
    exact hok.2
  refine spec_MoneyRat_ret ?_
  unfold spec_MoneyRat
  intro r w1 hn1 r1 w2 hn2
  have e1 := hn1.r_eq; have e2 := hn2.r_eq; have z1 := hn1.size; have z2 := hn2.size
  have X := hn1.ext.trans hn2.ext
  have b0 := hn1.blk.ext hn2.ext; have b1 := hn2.blk
  refine ⟨_, _, _, _, _, b0.loadA0 (by kernel_rfl), ?_⟩
  refine Ret.at (spec_MoneyOk_c (hr.ext X) rfl) ?_
  rintro v w3 ⟨hv, y3⟩
  subst hv
  rw [hok]
  refine ⟨_, rfl, ifN (fun hh => absurd hh (by simp)) (fun _ => ?_)⟩
  have l3 := y3.le
  have X3 := X.trans y3
  have hs : Reps w3 [.bool (decide (N < 0)), .slice ap an ac] (enc N) := ⟨rfl, ⟨_, _, _, rfl, ha.ext X3⟩, trivial⟩
  refine ⟨_, _, _, _, (b0.ext y3).loadAAt 1 [.bool (decide (N < 0)), .slice ap an ac] rfl (by kernel_rfl) rfl, ?_⟩
  refine Ret.at (spec_RatInt_n hs (by omega)) ?_
  rintro v w4 ⟨vs4, f4, hv, ho4, nd4, y4⟩
  subst hv
  rw [redR_int (by omega)] at ho4
  have hr4 := ho4.reps
  obtain ⟨g0, gp, gn, gc, gz, gp2, gn2, gc2, gz2, rfl, _, _, _⟩ := open_Rat hr4 (rmk_code _ _)
  refine ⟨_, _, _, _, _, _, _, _, rfl, ?_⟩
  intro r5 w5 hn5
  have e5 := hn5.r_eq; have z5 := hn5.size; have l4 := y4.le
  obtain ⟨w6, st6, hb6, y6⟩ := hn5.fill (P := P) (t := T_impl_Rat) (xs := [.bool g0, .slice gp gn gc, .slice gp2 gn2 gc2]) (by simp [Value.oneCell']) (by kernel_rfl) rfl
  obtain ⟨W', st, ld, ow, xx, _, _⟩ := agg_end (t := T_impl_Rat) ((b1.ext y3).ext (y4.trans y6)) (X3.trans (y4.trans y6)) (by omega) (ho4.ext y6) (by kernel_rfl) rfl (by omega) (by omega)
  exact ⟨w6, st6, _, _, _, _, _, _, _, hb6.loadA0 (by kernel_rfl), W', st, _, _, _, _, _, _, _, ld, _, _, rfl, ow, nd4, xx⟩
end Go.Proofs.YtfemmmbkhhemaaaGreatDoor

namespace Go.Proofs.YtfemmmbkhhemaaaGreatDoor
open Go Go.Proofs.YtfemmmbkhhemaaaGreatDoor.Sx
set_option linter.unusedVariables false
set_option linter.unusedSimpArgs false
theorem decOk_parts {b : Bool} {z : List Int} {s : Int} (h : decOk [.bool b, .ints z, .int s] = true) : intOk [.bool b, .ints z] = true ∧ natOk z = true ∧ Limbs z ∧ z.length ≤ 6 ∧ 0 ≤ s ∧ s ≤ 30 := by
  simp only [decOk, Bool.and_eq_true, decide_eq_true_eq] at h
  obtain ⟨⟨h1, h2⟩, h3⟩ := h
  have h4 : natOk z = true := by
    have := h1
    simp only [intOk, Bool.and_eq_true] at this
    exact this.1
  exact ⟨h1, h4, (natOk_spec.1 h4).1.1, h2, h3⟩
/-- a tax rate, as a number that is not negative -/
theorem taxOk_nn {b : Bool} {z : List Int} {s : Int} (h : taxOk [.bool b, .ints z, .int s] = true) : ∃ m t : Nat, b = false ∧ z = digs m ∧ s = (t : Int) ∧ t ≤ 30 ∧ (val z).toNat = m ∧ s.toNat = t ∧ m < 1000000000 := by
  simp only [taxOk, Bool.and_eq_true, decide_eq_true_eq, Bool.not_eq_true'] at h
  obtain ⟨⟨⟨h1, h2⟩, h3⟩, _⟩ := h
  obtain ⟨_, hno, hz, _, h4, h5⟩ := decOk_parts h1
  have hc := (natOk_spec.1 hno).1
  refine ⟨(val z).toNat, s.toNat, h3, (digs_val hc).symm, by omega, by omega, rfl, rfl, ?_⟩
  have hlt := val_lt hz
  have hp : (1000000000 : Int) ^ z.length ≤ 1000000000 := by
    match z, h2 with
    | [], _ => decide
    | [x], _ =>
      show (1000000000 : Int) ^ 1 ≤ 1000000000
      decide
    | _ :: _ :: _, h2 => simp at h2
  have := val_nonneg hz
  omega
theorem one_len {m : Nat} (h : m < 1000000000) : (digs m).length ≤ 1 := digs_len 1 (by simpa using h)
end Go.Proofs.YtfemmmbkhhemaaaGreatDoor

namespace Go.Proofs.YtfemmmbkhhemaaaGreatDoor
open Go Go.Proofs.YtfemmmbkhhemaaaGreatDoor.Sx
set_option linter.unusedVariables false
set_option linter.unusedSimpArgs false
def exN (u : Int) (m t : Nat) : Int := redN (u * redN (m : Int) (10 ^ t)) (1 * redD (m : Int) (10 ^ t))
def exD (u : Int) (m t : Nat) : Nat := redD (u * redN (m : Int) (10 ^ t)) (1 * redD (m : Int) (10 ^ t))
def taxOnT : List D0 → List D0 → Int → Bool × List D0 × List D0
  | [.str c, .bool b, .ints z], [.bool b2, .ints z2, .int s], mode =>
    if moneyOk [.str c, .bool b, .ints z] && taxOk [.bool b2, .ints z2, .int s] then
      (rmOk c (exN (ival [.bool b, .ints z]) (val z2).toNat s.toNat) (exD (ival [.bool b, .ints z]) (val z2).toNat s.toNat) mode,
       rmMoney c (exN (ival [.bool b, .ints z]) (val z2).toNat s.toNat) (exD (ival [.bool b, .ints z]) (val z2).toNat s.toNat) mode,
       rmRest c (exN (ival [.bool b, .ints z]) (val z2).toNat s.toNat) (exD (ival [.bool b, .ints z]) (val z2).toNat s.toNat) mode)
    else (false, zeroMoney, rat0)
  | _, _, _ => (false, zeroMoney, rat0)
theorem rmMoney_code (c : ByteArray) (N : Int) (D : Nat) (m : Int) : (rmMoney c N D m).map D0.code = [.str, .bool, .ints] := by unfold rmMoney; split <;> rfl
theorem restR_code (N : Int) (D : Nat) (m : Int) : (restR N D m).map D0.code = [.bool, .ints, .ints] := redR_code _ _
theorem rmRest_code (c : ByteArray) (N : Int) (D : Nat) (m : Int) : (rmRest c N D m).map D0.code = [.bool, .ints, .ints] := by
  unfold rmRest
  split
  · exact restR_code _ _ _
  · rfl
theorem redR_cnt (n : Int) (d : Nat) : tcnts (redR n d) ≤ 100 := by
  unfold redR
  split
  · rename_i h
    simp only [redOk, Bool.and_eq_true, decide_eq_true_eq] at h
    simp only [rmk, tcnts, redN_abs]
    have : redD n d = d / Nat.gcd n.natAbs d := rfl
    rw [this]
    omega
  · decide
theorem rmMoney_cnt (c : ByteArray) (N : Int) (D : Nat) (m : Int) : tcnts (rmMoney c N D m) ≤ 1000000000 := by
  unfold rmMoney
  split
  · rename_i h
    simp only [rmOk, Bool.and_eq_true] at h
    have h2 := h.2
    simp only [moneyOk, enc, Bool.and_eq_true, decide_eq_true_eq] at h2
    simp only [enc, tcnts]
    omega
  · decide
theorem rmRest_cnt (c : ByteArray) (N : Int) (D : Nat) (m : Int) : tcnts (rmRest c N D m) ≤ 1000000000 := by
  unfold rmRest
  split
  · have := redR_cnt (N * ((1 : Nat) : Int) + -(rround N D m) * (D : Int)) (D * 1)
    unfold restR
    omega
  · decide
theorem taxOnT_facts (d0 d1 : List D0) (m : Int) : ((taxOnT d0 d1 m).2.1).map D0.code = [.str, .bool, .ints] ∧ tcnts (taxOnT d0 d1 m).2.1 ≤ 1000000000 ∧ ((taxOnT d0 d1 m).2.2).map D0.code = [.bool, .ints, .ints] ∧ tcnts (taxOnT d0 d1 m).2.2 ≤ 1000000000 := by
  unfold taxOnT
  split
  · split
    · exact ⟨rmMoney_code _ _ _ _, rmMoney_cnt _ _ _ _, rmRest_code _ _ _ _, rmRest_cnt _ _ _ _⟩
    · exact ⟨rfl, by decide, rfl, by decide⟩
  · exact ⟨rfl, by decide, rfl, by decide⟩
/-- the exact tax is a valid fraction, and short -/
theorem ex_facts {u : Int} {m t : Nat} (hu : (digs u.natAbs).length ≤ 4) (hm : (digs m).length ≤ 1) (ht : t ≤ 30) :
    redOk (u * redN (m : Int) (10 ^ t)) (1 * redD (m : Int) (10 ^ t)) = true ∧ redR (u * redN (m : Int) (10 ^ t)) (1 * redD (m : Int) (10 ^ t)) = rmk (exN u m t) (exD u m t) ∧ ratOk (rmk (exN u m t) (exD u m t)) = true ∧ (digs (exN u m t).natAbs).length ≤ 10 ∧ (digs (exD u m t)).length ≤ 6 ∧
    redR (m : Int) (10 ^ t) = rmk (redN (m : Int) (10 ^ t)) (redD (m : Int) (10 ^ t)) ∧ ratOk (rmk (redN (m : Int) (10 ^ t)) (redD (m : Int) (10 ^ t))) = true := by
  have hpow : 0 < 10 ^ t := Nat.pow_pos (by decide)
  have hten := ten_len ht
  have h1 : (digs (redN (m : Int) (10 ^ t)).natAbs).length ≤ 1 := Nat.le_trans redN_len (by rw [Int.natAbs_natCast]; exact hm)
  have h2 : (digs (redD (m : Int) (10 ^ t))).length ≤ 4 := Nat.le_trans redD_len hten
  have h3 : (digs (u * redN (m : Int) (10 ^ t)).natAbs).length ≤ 5 := by rw [Int.natAbs_mul]; exact prod_len hu h1
  have h4 : (digs (1 * redD (m : Int) (10 ^ t))).length ≤ 4 := by rw [Nat.one_mul]; exact h2
  have hd : 0 < redD (m : Int) (10 ^ t) := redD_pos hpow
  have k1 := redOk_small (n := u * redN (m : Int) (10 ^ t)) (d := 1 * redD (m : Int) (10 ^ t)) (by omega) (by omega)
  have k2 := redR_yes k1
  have k3 := redR_ok (n := u * redN (m : Int) (10 ^ t)) (d := 1 * redD (m : Int) (10 ^ t)) (by omega) k1
  have k4 := redOk_small (n := (m : Int)) (d := 10 ^ t) (by rw [Int.natAbs_natCast]; omega) (by omega)
  have k5 := redR_yes k4
  have k6 := redR_ok hpow k4
  have k7 : (digs (exN u m t).natAbs).length ≤ 5 := Nat.le_trans redN_len h3
  have k8 : (digs (exD u m t)).length ≤ 4 := Nat.le_trans redD_len h4
  exact ⟨k1, k2, by rw [k2] at k3; exact k3, by omega, by omega, k5, by rw [k5] at k6; exact k6⟩
theorem impl_TaxOn_o {w : World} {xs ys : List Value} {dx dy : List D0} (h : Reps w xs dx) (g : Reps w ys dy) (hc : dx.map D0.code = [.str, .bool, .ints]) (gc : dy.map D0.code = [.bool, .ints, .int]) (mode : Int) (ht : Tab w) :
    Ret P n_impl_TaxOn [.agg ⟨xs⟩, .agg ⟨ys⟩, .int .i64 mode] w fun v w' => ∃ vs0 f0 vs1 f1, v = .tuple #[.agg ⟨vs0⟩, .agg ⟨vs1⟩, .bool (taxOnT dx dy mode).1] ∧ Owns w' w.heap.size vs0 (taxOnT dx dy mode).2.1 f0 ∧ f0.Nodup ∧ Owns w' w.heap.size vs1 (taxOnT dx dy mode).2.2 f1 ∧ f1.Nodup ∧ (∀ k ∈ f0, k ∉ f1) ∧ Ext w w' := by
  have hr := h; have gr := g; have htb := ht
  obtain ⟨cur, a0, ap, an, ac, az, rfl, rfl, ha⟩ := open_Money h hc
  obtain ⟨b0', bp, bn, bc, bz, b2', rfl, rfl, hb⟩ := open_Dec g gc
  refine impl_TaxOn_ret ?_
  unfold impl_TaxOn
  intro r w1 hn1 r1 w2 hn2 r2 w3 hn3 r3 w4 hn4
  have e1 := hn1.r_eq; have e2 := hn2.r_eq; have e3 := hn3.r_eq; have e4 := hn4.r_eq; have z1 := hn1.size; have z2 := hn2.size; have z3 := hn3.size; have z4 := hn4.size
  have X := ((hn1.ext.trans hn2.ext).trans hn3.ext).trans hn4.ext
  have b0 := ((hn1.blk.ext hn2.ext).ext hn3.ext).ext hn4.ext; have b1 := (hn2.blk.ext hn3.ext).ext hn4.ext; have b2 := hn3.blk.ext hn4.ext; have b3 := hn4.blk
  have zero : ∀ W, Ext w4 W → (moneyOk [.str cur, .bool a0, .ints az] && taxOk [.bool b0', .ints bz, .int b2']) = false → ∃ W1, Stores P T_impl_Money ⟨r2, 0, none⟩ (.agg ⟨[.string ByteArray.empty, .bool false, .slice none 0 0]⟩) W W1 ∧ ∃ W2, Stores P T_impl_Rat ⟨r3, 0, none⟩ (.agg ⟨[.bool false, .slice none 0 0, .slice none 0 0]⟩) W1 W2 ∧ Loads P T_impl_Money ⟨r2, 0, none⟩ (.agg ⟨[.string ByteArray.empty, .bool false, .slice none 0 0]⟩) W2 ∧ Loads P T_impl_Rat ⟨r3, 0, none⟩ (.agg ⟨[.bool false, .slice none 0 0, .slice none 0 0]⟩) W2 ∧ Owns W2 w.heap.size [.string ByteArray.empty, .bool false, .slice none 0 0] zeroMoney [] ∧ Owns W2 w.heap.size [.bool false, .slice none 0 0, .slice none 0 0] rat0 [] ∧ Ext w W2 ∧ taxOnT [.str cur, .bool a0, .ints az] [.bool b0', .ints bz, .int b2'] mode = (false, zeroMoney, rat0) := by
    intro W hW hno
    obtain ⟨W1, W2, a1, _, a2, a3, a4, a5, a6, a7⟩ := two_end (t1 := T_impl_Money) (t2 := T_impl_Rat) (b2.ext hW) (b3.ext hW) (X.trans hW) (own_money0 W (r3 + 1)) (own_rat0 W (r3 + 1)) (by kernel_rfl) rfl (by kernel_rfl) rfl (by omega) (by omega) (by omega) (by omega) (by omega) (by omega)
    exact ⟨W1, a1, W2, a2, a3, a4, a5, a6, a7, by simp only [taxOnT, hno, Bool.false_eq_true, if_false]⟩
  refine ⟨_, _, _, _, _, b0.loadA0 (by kernel_rfl), ?_⟩
  refine Ret.at (impl_MoneyOk_c (ht.ext X) (hr.ext X) rfl) ?_
  rintro v w5 ⟨hv, y5⟩
  subst hv
  refine ⟨_, rfl, ifN (fun hno => ifT ?_) (fun hm => ⟨_, _, _, _, _, (b1.ext y5).loadA0 (by kernel_rfl), ?_⟩)⟩
  · obtain ⟨W1, a1, W2, a2, a3, a4, a5, a6, a7, a8⟩ := zero _ y5 (by rw [hno]; rfl)
    rw [a8]
    exact ⟨W1, a1, W2, a2, _, _, _, _, _, a3, _, _, _, _, _, _, _, a4, _, [], _, [], rfl, a5, List.nodup_nil, a6, List.nodup_nil, fun k hk => by simp at hk, a7⟩
  refine Ret.at (impl_TaxRateOk_c (gr.ext (X.trans y5)) rfl) ?_
  rintro v w6 ⟨hv, y6⟩
  subst hv
  have Y6 := y5.trans y6
  refine ⟨_, rfl, ifN (fun hno => ?_) (fun ht => ?_)⟩
  · obtain ⟨W1, a1, W2, a2, a3, a4, a5, a6, a7, a8⟩ := zero _ Y6 (by rw [hno, Bool.and_false])
    rw [a8]
    exact ⟨W1, a1, W2, a2, _, _, _, _, _, a3, _, _, _, _, _, _, _, a4, _, [], _, [], rfl, a5, List.nodup_nil, a6, List.nodup_nil, fun k hk => by simp at hk, a7⟩
  have hres : taxOnT [.str cur, .bool a0, .ints az] [.bool b0', .ints bz, .int b2'] mode = (rmOk cur (exN (ival [.bool a0, .ints az]) (val bz).toNat b2'.toNat) (exD (ival [.bool a0, .ints az]) (val bz).toNat b2'.toNat) mode, rmMoney cur (exN (ival [.bool a0, .ints az]) (val bz).toNat b2'.toNat) (exD (ival [.bool a0, .ints az]) (val bz).toNat b2'.toNat) mode, rmRest cur (exN (ival [.bool a0, .ints az]) (val bz).toNat b2'.toNat) (exD (ival [.bool a0, .ints az]) (val bz).toNat b2'.toNat) mode) := by
    simp only [taxOnT, hm, ht, Bool.and_self, if_true]
  rw [hres]
  obtain ⟨m, t, rfl, rfl, rfl, ht30, em, et, hm9⟩ := taxOk_nn ht
  rw [em, et]
  have henc := (intOk_enc (moneyOk_int hm)).1
  generalize ival [.bool a0, .ints az] = U at henc
  have hm' : moneyOk (.str cur :: enc U) = true := by rw [← henc]; exact hm
  have hl4 : (digs U.natAbs).length ≤ 4 := by
    simp only [moneyOk, enc, Bool.and_eq_true, decide_eq_true_eq] at hm'
    exact hm'.2
  obtain ⟨k1, k2, k3, k4, k5, k6, k7⟩ := ex_facts hl4 (one_len hm9) ht30
  unfold impl_TaxOn_j0
  have D := Ext.drew w6
  have Y := Y6.trans D
  have X7 := X.trans Y
  have lY := Y.le
  have b0 := b0.ext Y; have b1 := b1.ext Y; have b2 := b2.ext Y; have b3 := b3.ext Y
  refine ⟨_, _, _, _, _, fun W hW => (b0.ext hW).loadA0 (by kernel_rfl), ?_⟩
  intro ss w8 F1
  have S1 := (FlSt.start (o := .cells ⟨[.bool false, .slice none 0 0, .slice none 0 0]⟩ T_impl_Rat (0, 0)) w6.drew).step F1
  have hmr : Reps w8 [.string cur, .bool a0, .slice ap an ac] (.str cur :: enc U) := by
    rw [← henc]
    exact hr.ext (X7.trans S1.1)
  refine Ret.at (impl_MoneyRat_n hmr hm' (htb.ext (X7.trans S1.1))) ?_
  rintro v w9 ⟨vs9, f9, hv, ho9, _, y9⟩
  subst hv
  have hr9 := ho9.reps
  obtain ⟨s0, sp, sn, sc, sz, sp2, sn2, sc2, sz2, rfl, _, _, _⟩ := open_Rat hr9 (rmk_code _ _)
  refine ⟨_, _, _, _, _, _, _, rfl, y9, _, _, _, _, _, fun W hW => (b1.ext hW).loadA0 (by kernel_rfl), ?_⟩
  intro ss1 w10 F2
  have S2 := (S1.ext y9).step F2
  have hdr : Reps w10 [.bool false, .slice bp bn bc, .int .i64 (t : Int)] (dnn m (t : Int)) := gr.ext (X7.trans S2.1)
  refine Ret.at (impl_DecRat_n hdr (Nat.le_trans (one_len hm9) (by decide)) ht30) ?_
  rintro v w11 ⟨vs11, f11, hv, ho11, _, y11⟩
  subst hv
  rw [k6] at ho11
  have hr11 := ho11.reps
  obtain ⟨u0, up, un, uc, uz, up2, un2, uc2, uz2, rfl, _, _, _⟩ := open_Rat hr11 (rmk_code _ _)
  refine ⟨_, _, _, _, _, _, _, rfl, ?_⟩
  intro ss2 w12 F3
  have S3 := (S2.ext y11).step F3
  refine Ret.at (impl_RatMul_n (hr9.ext ((F2.ext.trans y11).trans F3.ext)) (hr11.ext F3.ext) (rmk_int_ok (by omega)) k7) ?_
  rintro v w13 ⟨vs13, f13, hv, ho13, _, y13⟩
  subst hv
  rw [k2] at ho13
  rw [k1]
  have hr13 := ho13.reps
  obtain ⟨g0, gp, gn, gc', gz, gp2, gn2, gc2, gz2, rfl, _, _, _⟩ := open_Rat hr13 (rmk_code _ _)
  refine ⟨_, _, _, _, _, _, _, _, rfl, ?_⟩
  intro ss3 w14 r8 F4 G
  have S4 := (S3.ext y13).step F4
  obtain ⟨hr8, hbk⟩ := S4.get G
  have B8 : Blk w14 r8 T_impl_Rat [.bool false, .slice none 0 0, .slice none 0 0] := hbk
  obtain ⟨w15, st15, hb15, ch15, sz15⟩ := B8.storeA0 (P := P) (t := T_impl_Rat) (xs := [.bool g0, .slice gp gn gc', .slice gp2 gn2 gc2]) (by kernel_rfl) rfl (by simp [Value.oneCell'])
  have hni := Owns.notin B8 (by decide) (ho13.ext F4.ext)
  have ho15 := (ho13.ext F4.ext).chg ch15 (fun k hk hm' => hni (by simp at hm'; rwa [← hm']))
  have Z : Ext w6.drew w15 := S4.1.chg ch15 (by simp; exact hr8)
  have X15 := X7.trans Z
  have lZ := Z.le
  refine ⟨w15, st15, ?_⟩
  refine ifN (fun hh => absurd hh (by simp)) (fun _ => ?_)
  refine ⟨_, (b0.ext Z).loadAt 0 rfl (by kernel_rfl) rfl, _, _, _, _, _, _, _, hb15.loadA0 (by kernel_rfl), ?_⟩
  refine Ret.at (impl_RatMoney_n (m := mode) cur ho15.reps k3 k4 k5 (htb.ext X15)) ?_
  rintro v w16 ⟨vs16, f16, vsr, fr, hv, ho16, nd16, hor, ndr, dis, y16⟩
  subst hv
  have hr16 := ho16.reps; have hrr := hor.reps
  obtain ⟨m0, m1, mp, mn, mc, mz, rfl, _, _⟩ := open_Money hr16 (rmMoney_code _ _ _ _)
  obtain ⟨v0, vp, vn, vc, vz, vp2, vn2, vc2, vz2, rfl, _, _, _⟩ := open_Rat hrr (rmRest_code _ _ _ _)
  have Y16 := Z.trans y16
  obtain ⟨W1, W2, a1, _, a2, a3, a4, a5, a6, a7⟩ := two_end (t1 := T_impl_Money) (t2 := T_impl_Rat) (b2.ext Y16) (b3.ext Y16) (X7.trans Y16) ho16 hor (by kernel_rfl) rfl (by kernel_rfl) rfl (by omega) (by omega) (by omega) (by omega) (by omega) (by omega)
  exact ⟨_, _, _, _, _, _, _, _, _, _, _, _, _, rfl, W1, a1, W2, a2, _, _, _, _, _, a3, _, _, _, _, _, _, _, a4, _, f16, _, fr, rfl, a5, nd16, a6, ndr, dis, a7⟩
theorem spec_TaxOn_o {w : World} {xs ys : List Value} {dx dy : List D0} (h : Reps w xs dx) (g : Reps w ys dy) (hc : dx.map D0.code = [.str, .bool, .ints]) (gc : dy.map D0.code = [.bool, .ints, .int]) (mode : Int) :
    Ret P n_spec_TaxOn [.agg ⟨xs⟩, .agg ⟨ys⟩, .int .i64 mode] w fun v w' => ∃ vs0 f0 vs1 f1, v = .tuple #[.agg ⟨vs0⟩, .agg ⟨vs1⟩, .bool (taxOnT dx dy mode).1] ∧ Owns w' w.heap.size vs0 (taxOnT dx dy mode).2.1 f0 ∧ f0.Nodup ∧ Owns w' w.heap.size vs1 (taxOnT dx dy mode).2.2 f1 ∧ f1.Nodup ∧ (∀ k ∈ f0, k ∉ f1) ∧ Ext w w' := by
  have hr := h; have gr := g
  obtain ⟨cur, a0, ap, an, ac, az, rfl, rfl, ha⟩ := open_Money h hc
  obtain ⟨b0', bp, bn, bc, bz, b2', rfl, rfl, hb⟩ := open_Dec g gc
  refine spec_TaxOn_ret ?_
  unfold spec_TaxOn
  intro r w1 hn1 r1 w2 hn2 r2 w3 hn3 r3 w4 hn4
  have e1 := hn1.r_eq; have e2 := hn2.r_eq; have e3 := hn3.r_eq; have e4 := hn4.r_eq; have z1 := hn1.size; have z2 := hn2.size; have z3 := hn3.size; have z4 := hn4.size
  have X := ((hn1.ext.trans hn2.ext).trans hn3.ext).trans hn4.ext
  have b0 := ((hn1.blk.ext hn2.ext).ext hn3.ext).ext hn4.ext; have b1 := (hn2.blk.ext hn3.ext).ext hn4.ext; have b2 := hn3.blk.ext hn4.ext; have b3 := hn4.blk
  have zero : ∀ W, Ext w4 W → (moneyOk [.str cur, .bool a0, .ints az] && taxOk [.bool b0', .ints bz, .int b2']) = false → ∃ W1, Stores P T_impl_Money ⟨r2, 0, none⟩ (.agg ⟨[.string ByteArray.empty, .bool false, .slice none 0 0]⟩) W W1 ∧ ∃ W2, Stores P T_impl_Rat ⟨r3, 0, none⟩ (.agg ⟨[.bool false, .slice none 0 0, .slice none 0 0]⟩) W1 W2 ∧ Loads P T_impl_Money ⟨r2, 0, none⟩ (.agg ⟨[.string ByteArray.empty, .bool false, .slice none 0 0]⟩) W2 ∧ Loads P T_impl_Rat ⟨r3, 0, none⟩ (.agg ⟨[.bool false, .slice none 0 0, .slice none 0 0]⟩) W2 ∧ Owns W2 w.heap.size [.string ByteArray.empty, .bool false, .slice none 0 0] zeroMoney [] ∧ Owns W2 w.heap.size [.bool false, .slice none 0 0, .slice none 0 0] rat0 [] ∧ Ext w W2 ∧ taxOnT [.str cur, .bool a0, .ints az] [.bool b0', .ints bz, .int b2'] mode = (false, zeroMoney, rat0) := by
    intro W hW hno
    obtain ⟨W1, W2, a1, _, a2, a3, a4, a5, a6, a7⟩ := two_end (t1 := T_impl_Money) (t2 := T_impl_Rat) (b2.ext hW) (b3.ext hW) (X.trans hW) (own_money0 W (r3 + 1)) (own_rat0 W (r3 + 1)) (by kernel_rfl) rfl (by kernel_rfl) rfl (by omega) (by omega) (by omega) (by omega) (by omega) (by omega)
    exact ⟨W1, a1, W2, a2, a3, a4, a5, a6, a7, by simp only [taxOnT, hno, Bool.false_eq_true, if_false]⟩
  refine ⟨_, _, _, _, _, b0.loadA0 (by kernel_rfl), ?_⟩
  refine Ret.at (spec_MoneyOk_c (hr.ext X) rfl) ?_
  rintro v w5 ⟨hv, y5⟩
  subst hv
  refine ⟨_, rfl, ifN (fun hno => ifT ?_) (fun hm => ⟨_, _, _, _, _, (b1.ext y5).loadA0 (by kernel_rfl), ?_⟩)⟩
  · obtain ⟨W1, a1, W2, a2, a3, a4, a5, a6, a7, a8⟩ := zero _ y5 (by rw [hno]; rfl)
    rw [a8]
    exact ⟨W1, a1, W2, a2, _, _, _, _, _, a3, _, _, _, _, _, _, _, a4, _, [], _, [], rfl, a5, List.nodup_nil, a6, List.nodup_nil, fun k hk => by simp at hk, a7⟩
  refine Ret.at (spec_TaxRateOk_c (gr.ext (X.trans y5)) rfl) ?_
  rintro v w6 ⟨hv, y6⟩
  subst hv
  have Y6 := y5.trans y6
  refine ⟨_, rfl, ifN (fun hno => ?_) (fun ht => ?_)⟩
  · obtain ⟨W1, a1, W2, a2, a3, a4, a5, a6, a7, a8⟩ := zero _ Y6 (by rw [hno, Bool.and_false])
    rw [a8]
    exact ⟨W1, a1, W2, a2, _, _, _, _, _, a3, _, _, _, _, _, _, _, a4, _, [], _, [], rfl, a5, List.nodup_nil, a6, List.nodup_nil, fun k hk => by simp at hk, a7⟩
  have hres : taxOnT [.str cur, .bool a0, .ints az] [.bool b0', .ints bz, .int b2'] mode = (rmOk cur (exN (ival [.bool a0, .ints az]) (val bz).toNat b2'.toNat) (exD (ival [.bool a0, .ints az]) (val bz).toNat b2'.toNat) mode, rmMoney cur (exN (ival [.bool a0, .ints az]) (val bz).toNat b2'.toNat) (exD (ival [.bool a0, .ints az]) (val bz).toNat b2'.toNat) mode, rmRest cur (exN (ival [.bool a0, .ints az]) (val bz).toNat b2'.toNat) (exD (ival [.bool a0, .ints az]) (val bz).toNat b2'.toNat) mode) := by
    simp only [taxOnT, hm, ht, Bool.and_self, if_true]
  rw [hres]
  obtain ⟨m, t, rfl, rfl, rfl, ht30, em, et, hm9⟩ := taxOk_nn ht
  rw [em, et]
  have henc := (intOk_enc (moneyOk_int hm)).1
  generalize ival [.bool a0, .ints az] = U at henc
  have hm' : moneyOk (.str cur :: enc U) = true := by rw [← henc]; exact hm
  have hl4 : (digs U.natAbs).length ≤ 4 := by
    simp only [moneyOk, enc, Bool.and_eq_true, decide_eq_true_eq] at hm'
    exact hm'.2
  obtain ⟨k1, k2, k3, k4, k5, k6, k7⟩ := ex_facts hl4 (one_len hm9) ht30
  unfold spec_TaxOn_j0
  have D := Ext.drew w6
  have Y := Y6.trans D
  have X7 := X.trans Y
  have lY := Y.le
  have b0 := b0.ext Y; have b1 := b1.ext Y; have b2 := b2.ext Y; have b3 := b3.ext Y
  refine ⟨_, _, _, _, _, fun W hW => (b0.ext hW).loadA0 (by kernel_rfl), ?_⟩
  intro ss w8 F1
  have S1 := (FlSt.start (o := .cells ⟨[.bool false, .slice none 0 0, .slice none 0 0]⟩ T_impl_Rat (0, 0)) w6.drew).step F1
  have hmr : Reps w8 [.string cur, .bool a0, .slice ap an ac] (.str cur :: enc U) := by
    rw [← henc]
    exact hr.ext (X7.trans S1.1)
  refine Ret.at (spec_MoneyRat_n hmr hm' ) ?_
  rintro v w9 ⟨vs9, f9, hv, ho9, _, y9⟩
  subst hv
  have hr9 := ho9.reps
  obtain ⟨s0, sp, sn, sc, sz, sp2, sn2, sc2, sz2, rfl, _, _, _⟩ := open_Rat hr9 (rmk_code _ _)
  refine ⟨_, _, _, _, _, _, _, rfl, y9, _, _, _, _, _, fun W hW => (b1.ext hW).loadA0 (by kernel_rfl), ?_⟩
  intro ss1 w10 F2
  have S2 := (S1.ext y9).step F2
  have hdr : Reps w10 [.bool false, .slice bp bn bc, .int .i64 (t : Int)] (dnn m (t : Int)) := gr.ext (X7.trans S2.1)
  refine Ret.at (spec_DecRat_n hdr (Nat.le_trans (one_len hm9) (by decide)) ht30) ?_
  rintro v w11 ⟨vs11, f11, hv, ho11, _, y11⟩
  subst hv
  rw [k6] at ho11
  have hr11 := ho11.reps
  obtain ⟨u0, up, un, uc, uz, up2, un2, uc2, uz2, rfl, _, _, _⟩ := open_Rat hr11 (rmk_code _ _)
  refine ⟨_, _, _, _, _, _, _, rfl, ?_⟩
  intro ss2 w12 F3
  have S3 := (S2.ext y11).step F3
  refine Ret.at (spec_RatMul_n (hr9.ext ((F2.ext.trans y11).trans F3.ext)) (hr11.ext F3.ext) (rmk_int_ok (by omega)) k7) ?_
  rintro v w13 ⟨vs13, f13, hv, ho13, _, y13⟩
  subst hv
  rw [k2] at ho13
  rw [k1]
  have hr13 := ho13.reps
  obtain ⟨g0, gp, gn, gc', gz, gp2, gn2, gc2, gz2, rfl, _, _, _⟩ := open_Rat hr13 (rmk_code _ _)
  refine ⟨_, _, _, _, _, _, _, _, rfl, ?_⟩
  intro ss3 w14 r8 F4 G
  have S4 := (S3.ext y13).step F4
  obtain ⟨hr8, hbk⟩ := S4.get G
  have B8 : Blk w14 r8 T_impl_Rat [.bool false, .slice none 0 0, .slice none 0 0] := hbk
  obtain ⟨w15, st15, hb15, ch15, sz15⟩ := B8.storeA0 (P := P) (t := T_impl_Rat) (xs := [.bool g0, .slice gp gn gc', .slice gp2 gn2 gc2]) (by kernel_rfl) rfl (by simp [Value.oneCell'])
  have hni := Owns.notin B8 (by decide) (ho13.ext F4.ext)
  have ho15 := (ho13.ext F4.ext).chg ch15 (fun k hk hm' => hni (by simp at hm'; rwa [← hm']))
  have Z : Ext w6.drew w15 := S4.1.chg ch15 (by simp; exact hr8)
  have X15 := X7.trans Z
  have lZ := Z.le
  refine ⟨w15, st15, ?_⟩
  refine ⟨_, (b0.ext Z).loadAt 0 rfl (by kernel_rfl) rfl, _, _, _, _, _, _, _, hb15.loadA0 (by kernel_rfl), ?_⟩
  refine Ret.at (spec_RatMoney_n (m := mode) cur ho15.reps k3 k4 k5) ?_
  rintro v w16 ⟨vs16, f16, vsr, fr, hv, ho16, nd16, hor, ndr, dis, y16⟩
  subst hv
  have hr16 := ho16.reps; have hrr := hor.reps
  obtain ⟨m0, m1, mp, mn, mc, mz, rfl, _, _⟩ := open_Money hr16 (rmMoney_code _ _ _ _)
  obtain ⟨v0, vp, vn, vc, vz, vp2, vn2, vc2, vz2, rfl, _, _, _⟩ := open_Rat hrr (rmRest_code _ _ _ _)
  have Y16 := Z.trans y16
  obtain ⟨W1, W2, a1, _, a2, a3, a4, a5, a6, a7⟩ := two_end (t1 := T_impl_Money) (t2 := T_impl_Rat) (b2.ext Y16) (b3.ext Y16) (X7.trans Y16) ho16 hor (by kernel_rfl) rfl (by kernel_rfl) rfl (by omega) (by omega) (by omega) (by omega) (by omega) (by omega)
  exact ⟨_, _, _, _, _, _, _, _, _, _, _, _, _, rfl, W1, a1, W2, a2, _, _, _, _, _, a3, _, _, _, _, _, _, _, a4, _, f16, _, fr, rfl, a5, nd16, a6, ndr, dis, a7⟩
theorem spec_TaxOn_c {w : World} {xs ys : List Value} {dx dy : List D0} (h : Reps w xs dx) (hc : dx.map D0.code = [.str, .bool, .ints]) (g : Reps w ys dy) (gc : dy.map D0.code = [.bool, .ints, .int]) (mode : Int) :
    Ret P n_spec_TaxOn [.agg ⟨xs⟩, .agg ⟨ys⟩, .int .i64 mode] w fun v w' => ∃ vs0 f0 vs1 f1, v = .tuple #[.agg ⟨vs0⟩, .agg ⟨vs1⟩, .bool (taxOnT dx dy mode).1] ∧ Owns w' w.heap.size vs0 (taxOnT dx dy mode).2.1 f0 ∧ f0.Nodup ∧ ((taxOnT dx dy mode).2.1).map D0.code = [.str, .bool, .ints] ∧ tcnts (taxOnT dx dy mode).2.1 ≤ 1000000000 ∧ Owns w' w.heap.size vs1 (taxOnT dx dy mode).2.2 f1 ∧ f1.Nodup ∧ ((taxOnT dx dy mode).2.2).map D0.code = [.bool, .ints, .ints] ∧ tcnts (taxOnT dx dy mode).2.2 ≤ 1000000000 ∧ (∀ k ∈ f0, k ∉ f1) ∧ Ext w w' :=
  (spec_TaxOn_o h g hc gc mode).mono fun v w' ⟨vs0, f0, vs1, f1, hv, o0, n0, o1, n1, dis, hx⟩ => ⟨vs0, f0, vs1, f1, hv, o0, n0, (taxOnT_facts dx dy mode).1, (taxOnT_facts dx dy mode).2.1, o1, n1, (taxOnT_facts dx dy mode).2.2.1, (taxOnT_facts dx dy mode).2.2.2, dis, hx⟩
theorem impl_TaxOn_c {w : World} {xs ys : List Value} {dx dy : List D0} (h : Reps w xs dx) (hc : dx.map D0.code = [.str, .bool, .ints]) (g : Reps w ys dy) (gc : dy.map D0.code = [.bool, .ints, .int]) (mode : Int) (ht : Tab w) :
    Ret P n_impl_TaxOn [.agg ⟨xs⟩, .agg ⟨ys⟩, .int .i64 mode] w fun v w' => ∃ vs0 f0 vs1 f1, v = .tuple #[.agg ⟨vs0⟩, .agg ⟨vs1⟩, .bool (taxOnT dx dy mode).1] ∧ Owns w' w.heap.size vs0 (taxOnT dx dy mode).2.1 f0 ∧ f0.Nodup ∧ ((taxOnT dx dy mode).2.1).map D0.code = [.str, .bool, .ints] ∧ tcnts (taxOnT dx dy mode).2.1 ≤ 1000000000 ∧ Owns w' w.heap.size vs1 (taxOnT dx dy mode).2.2 f1 ∧ f1.Nodup ∧ ((taxOnT dx dy mode).2.2).map D0.code = [.bool, .ints, .ints] ∧ tcnts (taxOnT dx dy mode).2.2 ≤ 1000000000 ∧ (∀ k ∈ f0, k ∉ f1) ∧ Ext w w' :=
  (impl_TaxOn_o h g hc gc mode ht).mono fun v w' ⟨vs0, f0, vs1, f1, hv, o0, n0, o1, n1, dis, hx⟩ => ⟨vs0, f0, vs1, f1, hv, o0, n0, (taxOnT_facts dx dy mode).1, (taxOnT_facts dx dy mode).2.1, o1, n1, (taxOnT_facts dx dy mode).2.2.1, (taxOnT_facts dx dy mode).2.2.2, dis, hx⟩
end Go.Proofs.YtfemmmbkhhemaaaGreatDoor

namespace Go.Proofs.YtfemmmbkhhemaaaGreatDoor.Sx
open Go Go.RowKit
set_option linter.unusedVariables false
set_option linter.unusedSimpArgs false
theorem Fl.trans {os : List Obj} {ss : List (Option Nat)} {w : World} {s1 : List (Option Nat)} {w1 : World} {s2 : List (Option Nat)} {w2 : World} (h : Fl os ss w s1 w1) (g : Fl os s1 w1 s2 w2) : Fl os ss w s2 w2 := by
  induction h with
  | refl => exact g
  | step h1 h2 _ ih => exact .step h1 h2 (ih g)
theorem Fl.old {os : List Obj} {ss : List (Option Nat)} {w : World} {s1 : List (Option Nat)} {w1 : World} (h : Fl os ss w s1 w1) {k r : Nat} (hk : s1[k]? = some (some r)) : ss[k]? = some (some r) ∨ w.heap.size ≤ r := by
  induction h with
  | refl => exact .inl hk
  | step h1 h2 h3 ih =>
    rename_i ss w k' o s' w'
    have hs : (w.alloc o).heap.size = w.heap.size + 1 := by simp
    rcases ih hk with h | h
    · by_cases e : k' = k
      · subst e
        have hl : k' < ss.length := by
          rcases Nat.lt_or_ge k' ss.length with h | h
          · exact h
          · rw [List.getElem?_eq_none h] at h1; cases h1
        rw [List.getElem?_set_self hl] at h
        simp at h
        exact .inr (by omega)
      · rw [List.getElem?_set_ne e] at h
        exact .inl h
    · exact .inr (by omega)
def FlS (os : List Obj) (w0 : World) (ss : List (Option Nat)) (w : World) : Prop :=
  Ext w0 w ∧ (∀ (k r : Nat), ss[k]? = some (some r) → w0.heap.size ≤ r ∧ r < w.heap.size ∧ w.heap[r]? = os[k]?) ∧ (∀ (k l r : Nat), ss[k]? = some (some r) → ss[l]? = some (some r) → k = l)
theorem FlS.ext {os : List Obj} {w0 w w' : World} {ss : List (Option Nat)} (h : FlS os w0 ss w) (y : Ext w w') : FlS os w0 ss w' :=
  ⟨h.1.trans y, fun k r hk => by
    obtain ⟨a, b, c⟩ := h.2.1 k r hk
    exact ⟨a, Nat.lt_of_lt_of_le b y.le, (y.block r b).trans c⟩, h.2.2⟩
theorem FlS.step {os : List Obj} {w0 w w' : World} {ss ss' : List (Option Nat)} (h : FlS os w0 ss w) (f : Fl os ss w ss' w') : FlS os w0 ss' w' := by
  induction f with
  | refl => exact h
  | step h1 h2 h3 ih =>
    rename_i ss w k' o s' w'
    refine ih ?_
    have y : Ext w (w.alloc o) := (Below.refl _ _).alloc (Nat.le_refl _) _
    have hs : (w.alloc o).heap.size = w.heap.size + 1 := by simp
    have hg : (w.alloc o).heap[w.heap.size]? = some o := heap_alloc_new w _
    have hl : k' < ss.length := by
      rcases Nat.lt_or_ge k' ss.length with h | h
      · exact h
      · rw [List.getElem?_eq_none h] at h1; cases h1
    have hx := h.ext y
    have hle := h.1.le
    refine ⟨hx.1, fun k r hk => ?_, fun k l r hk hl' => ?_⟩
    · by_cases e : k' = k
      · subst e
        rw [List.getElem?_set_self hl] at hk
        simp at hk
        subst hk
        exact ⟨hle, by omega, hg.trans h2.symm⟩
      · rw [List.getElem?_set_ne e] at hk
        exact hx.2.1 k r hk
    · by_cases e : k' = k
      · by_cases e2 : k' = l
        · omega
        · subst e
          rw [List.getElem?_set_self hl] at hk
          simp at hk
          subst hk
          rw [List.getElem?_set_ne e2] at hl'
          have := (h.2.1 l _ hl').2.1
          omega
      · rw [List.getElem?_set_ne e] at hk
        by_cases e2 : k' = l
        · subst e2
          rw [List.getElem?_set_self hl] at hl'
          simp at hl'
          subst hl'
          have := (h.2.1 k _ hk).2.1
          omega
        · rw [List.getElem?_set_ne e2] at hl'
          exact h.2.2 k l r hk hl'
theorem FlS.first {os : List Obj} {w0 w : World} {ss0 ss : List (Option Nat)} (f : Fl os ss0 w0 ss w) (h : ss0.all Option.isNone = true) : FlS os w0 ss w := by
  refine FlS.step ⟨Ext.refl _, fun k r hk => ?_, fun k l r hk _ => ?_⟩ f <;>
  · have hm := List.mem_of_getElem? hk
    have := List.all_eq_true.1 h _ hm
    simp at this
theorem FlS.blk {os : List Obj} {w0 w : World} {ss : List (Option Nat)} {k r : Nat} {cs : List Value} {e : TypeId} (h : FlS os w0 ss w) (hk : ss[k]? = some (some r)) (ho : os[k]? = some (.cells ⟨cs⟩ e (0, 0))) : w0.heap.size ≤ r ∧ r < w.heap.size ∧ Blk w r e cs := by
  obtain ⟨a, b, c⟩ := h.2.1 k r hk
  exact ⟨a, b, c.trans ho⟩
theorem FlS.ne {os : List Obj} {w0 w : World} {ss : List (Option Nat)} {k l r s : Nat} (h : FlS os w0 ss w) (hk : ss[k]? = some (some r)) (hl : ss[l]? = some (some s)) (e : k ≠ l) : r ≠ s := fun hh => e (h.2.2 k l r hk (hh ▸ hl))
theorem FlS.apart {os : List Obj} {w0 wc we w' : World} {ss ss' : List (Option Nat)} {k r : Nat} (h : FlS os w0 ss wc) (f : Fl os ss we ss' w') (hk : ss'[k]? = some (some r)) : r < wc.heap.size ∨ we.heap.size ≤ r := by
  rcases f.old hk with a | a
  · exact .inl (h.2.1 k r a).2.1
  · exact .inr a
end Go.Proofs.YtfemmmbkhhemaaaGreatDoor.Sx

namespace Go.Proofs.YtfemmmbkhhemaaaGreatDoor
open Go Go.Proofs.YtfemmmbkhhemaaaGreatDoor.Sx
set_option linter.unusedVariables false
set_option linter.unusedSimpArgs false
set_option maxHeartbeats 4000000
theorem laws_FnExactTaxOn_c {w : World} {vs0 : List Value} {d0 : List D0} (h0 : Reps w vs0 d0) (hc0 : d0.map D0.code = [.str, .bool, .ints]) (hk0 : ∀ x ∈ d0, x.ok) {vs1 : List Value} {d1 : List D0} (h1 : Reps w vs1 d1) (hc1 : d1.map D0.code = [.bool, .ints, .int]) (hk1 : ∀ x ∈ d1, x.ok) (a2 : Int) (ht : Tab w) :
    Ret P n_laws_FnExactTaxOn [.agg ⟨vs0⟩, .agg ⟨vs1⟩, .int .i64 a2] w fun v w' => v = .bool true ∧ Ext w w' := by
  have hr0 := h0
  obtain ⟨u00, u01, u02p, u02n, u02c, u02z, rfl, rfl, u02h⟩ := open_Money h0 hc0
  have hr1 := h1
  obtain ⟨u10, u11p, u11n, u11c, u11z, u12, rfl, rfl, u11h⟩ := open_Dec h1 hc1
  refine laws_FnExactTaxOn_ret ?_
  unfold laws_FnExactTaxOn
  have x : Ext w w := Ext.refl w
  intro r_a0 W1 hn
  have er_a0 := hn.r_eq; have sr_a0 := hn.size
  have y := hn.ext
  have x := x.trans y
  have ll1 := y.le
  have bk_a0 := hn.blk; clear hn
  intro r_a1 W2 hn
  have er_a1 := hn.r_eq; have sr_a1 := hn.size
  have y := hn.ext
  have x := x.trans y
  have bk_a0 := bk_a0.ext y
  have ll2 := y.le
  have bk_a1 := hn.blk; clear hn
  refine ⟨_, _, _, _, _, bk_a0.loadA0 (by kernel_rfl), ?_⟩
  refine Ret.at (laws_szMoney_c (hr0.ext x) rfl hk0 (by omega) (by omega)) ?_
  rintro v W3 ⟨k0, hv, hs0, hm0, y⟩
  subst hv
  have x := x.trans y
  have bk_a0 := bk_a0.ext y
  have bk_a1 := bk_a1.ext y
  have ll3 := y.le
  refine ⟨_, rfl, ifD (fun _ => ⟨rfl, x⟩) (fun hp0 => ?_)⟩
  refine ⟨_, _, _, _, _, bk_a1.loadA0 (by kernel_rfl), ?_⟩
  refine Ret.at (laws_szDec_c (hr1.ext x) rfl hk1 (by omega) (by omega)) ?_
  rintro v W4 ⟨k1, hv, hs1, hm1, y⟩
  subst hv
  have x := x.trans y
  have bk_a0 := bk_a0.ext y
  have bk_a1 := bk_a1.ext y
  have ll4 := y.le
  refine ⟨_, rfl, ifD (fun _ => ⟨rfl, x⟩) (fun hp1 => ?_)⟩
  have hs0 := hs0 (by omega)
  have hs1 := hs1 (by omega)
  simp only [bulks, D0.bulk, List.map_cons, List.map_nil, List.sum_cons, List.sum_nil] at hs0
  simp only [bulks, D0.bulk, List.map_cons, List.map_nil, List.sum_cons, List.sum_nil] at hs1
  have y := Ext.drew W4
  have x := x.trans y
  have bk_a0 := bk_a0.ext y
  have bk_a1 := bk_a1.ext y
  have ll5 := y.le
  have bd0 := bk_a0
  have bd1 := bk_a1
  refine ⟨_, _, _, _, _, fun W' hW => (bd0.ext hW).loadA0 (by kernel_rfl), ?_⟩
  intro ssx W5 F
  have S := FlS.first F rfl
  have y := F.ext
  have x := x.trans y
  have bk_a0 := bk_a0.ext y
  have bk_a1 := bk_a1.ext y
  have ll6 := y.le
  refine Ret.at (laws_toMoney_c (hr0.ext x) rfl (by simp only [bulks, D0.bulk, List.map_cons, List.map_nil, List.sum_cons, List.sum_nil]; omega)) ?_
  rintro v W6 ⟨vs, f_s0, hv, o_s0, nd_s0, y⟩
  subst hv
  obtain ⟨ts00, ts01, ts02p, ts02n, ts02c, ts02z, rfl, hds0, ts02h⟩ := open_Money o_s0.reps rfl
  have lt_o_s0 : ∀ k ∈ f_s0, W5.heap.size ≤ k ∧ k < W6.heap.size := o_s0.lt
  have yy := y
  have x := x.trans y
  have bk_a0 := bk_a0.ext y
  have bk_a1 := bk_a1.ext y
  have S := S.ext y
  have ll7 := y.le
  refine ⟨_, _, _, _, _, rfl, yy, ?_⟩
  refine ⟨_, _, _, _, _, fun W' hW => (bd1.ext hW).loadA0 (by kernel_rfl), ?_⟩
  intro ssx W7 F
  have S := S.step F
  have y := F.ext
  have x := x.trans y
  have bk_a0 := bk_a0.ext y
  have bk_a1 := bk_a1.ext y
  have o_s0 := o_s0.ext y
  have ll8 := y.le
  refine Ret.at (laws_toDec_c (hr1.ext x) rfl (by simp only [bulks, D0.bulk, List.map_cons, List.map_nil, List.sum_cons, List.sum_nil]; omega)) ?_
  rintro v W8 ⟨vs, f_s1, hv, o_s1, nd_s1, y⟩
  subst hv
  obtain ⟨ts10, ts11p, ts11n, ts11c, ts11z, ts12, rfl, hds1, ts11h⟩ := open_Dec o_s1.reps rfl
  have lt_o_s1 : ∀ k ∈ f_s1, W7.heap.size ≤ k ∧ k < W8.heap.size := o_s1.lt
  have yy := y
  have x := x.trans y
  have bk_a0 := bk_a0.ext y
  have bk_a1 := bk_a1.ext y
  have o_s0 := o_s0.ext y
  have S := S.ext y
  have ll9 := y.le
  refine ⟨_, _, _, _, _, rfl, ?_⟩
  intro ssx W9 F
  have S := S.step F
  have y := F.ext
  have x := x.trans y
  have bk_a0 := bk_a0.ext y
  have bk_a1 := bk_a1.ext y
  have o_s0 := o_s0.ext y
  have o_s1 := o_s1.ext y
  have ll10 := y.le
  have Sc := S
  refine Ret.at (spec_TaxOn_c o_s0.reps rfl o_s1.reps rfl a2) ?_
  rintro v W10 ⟨vs_w0, f_w0, vs_w1, f_w1, hv, o_w0, nd_w0, co_w0, ct_w0, o_w1, nd_w1, co_w1, ct_w1, dis_w, y⟩
  subst hv
  have tn_w0 := tcnts_nn ct_w0
  have lt_o_w0 : ∀ k ∈ f_w0, W9.heap.size ≤ k ∧ k < W10.heap.size := o_w0.lt
  have tn_w1 := tcnts_nn ct_w1
  have lt_o_w1 : ∀ k ∈ f_w1, W9.heap.size ≤ k ∧ k < W10.heap.size := o_w1.lt
  have x := x.trans y
  have bk_a0 := bk_a0.ext y
  have bk_a1 := bk_a1.ext y
  have S := S.ext y
  have ll11 := y.le
  obtain ⟨gw00, gw01, gw02p, gw02n, gw02c, gw02z, rfl, hd_w0, gw02h⟩ := open_Money o_w0.reps co_w0
  obtain ⟨gw10, gw11p, gw11n, gw11c, gw11z, gw12p, gw12n, gw12c, gw12z, rfl, hd_w1, gw11h, gw12h⟩ := open_Rat o_w1.reps co_w1
  refine ⟨_, _, _, _, _, _, _, _, _, _, _, _, _, rfl, ?_⟩
  intro ssx W11 r_w0 F G_w0
  have S := S.step F
  have y := F.ext
  have x := x.trans y
  have bk_a0 := bk_a0.ext y
  have bk_a1 := bk_a1.ext y
  have o_w0 := o_w0.ext y
  have o_w1 := o_w1.ext y
  have ll12 := y.le
  have FF := F
  intro ssx W12 r_w1 F G_w1
  have S := S.step F
  have y := F.ext
  have x := x.trans y
  have bk_a0 := bk_a0.ext y
  have bk_a1 := bk_a1.ext y
  have o_w0 := o_w0.ext y
  have o_w1 := o_w1.ext y
  have ll13 := y.le
  have FF := FF.trans F
  have G_w0 := F.keeps G_w0
  obtain ⟨sr_w0, lr_w0, bk_w0⟩ := S.blk G_w0 rfl
  have ap_w0 := Sc.apart FF G_w0
  obtain ⟨sr_w1, lr_w1, bk_w1⟩ := S.blk G_w1 rfl
  have ap_w1 := Sc.apart FF G_w1
  have ne_w0_w1 := S.ne G_w0 G_w1 (by decide)
  obtain ⟨W13, st, bq, ch, sz⟩ := bk_w0.storeA0 (P := P) (t := T_impl_Money) (xs := [.string gw00, .bool gw01, .slice gw02p gw02n gw02c]) (by kernel_rfl) rfl o_w0.reps.cells1
  have x := x.chg ch (by simp; omega)
  have bk_a0 := bk_a0.chg ch (by simp; omega)
  have bk_a1 := bk_a1.chg ch (by simp; omega)
  have bk_w1 := bk_w1.chg ch (by simp; omega)
  have o_w0 := o_w0.chg ch (fun k hk hm => by have h1 := lt_o_w0 k hk; simp at hm; omega)
  have o_w1 := o_w1.chg ch (fun k hk hm => by have h1 := lt_o_w1 k hk; simp at hm; omega)
  have bk_w0 := bq; clear bq
  have ll14 := ch.size
  refine ⟨_, st, ?_⟩
  obtain ⟨W14, st, bq, ch, sz⟩ := bk_w1.storeA0 (P := P) (t := T_impl_Rat) (xs := [.bool gw10, .slice gw11p gw11n gw11c, .slice gw12p gw12n gw12c]) (by kernel_rfl) rfl o_w1.reps.cells1
  have x := x.chg ch (by simp; omega)
  have bk_a0 := bk_a0.chg ch (by simp; omega)
  have bk_a1 := bk_a1.chg ch (by simp; omega)
  have bk_w0 := bk_w0.chg ch (by simp; omega)
  have o_w0 := o_w0.chg ch (fun k hk hm => by have h1 := lt_o_w0 k hk; simp at hm; omega)
  have o_w1 := o_w1.chg ch (fun k hk hm => by have h1 := lt_o_w1 k hk; simp at hm; omega)
  have bk_w1 := bq; clear bq
  have ll15 := ch.size
  refine ⟨_, st, ?_⟩
  refine ⟨_, _, _, _, _, bk_a0.loadA0 (by kernel_rfl), ?_⟩
  refine Ret.at (laws_toMoney_c (hr0.ext x) rfl (by simp only [bulks, D0.bulk, List.map_cons, List.map_nil, List.sum_cons, List.sum_nil]; omega)) ?_
  rintro v W15 ⟨vs, f_x0, hv, o_x0, nd_x0, y⟩
  subst hv
  obtain ⟨tx00, tx01, tx02p, tx02n, tx02c, tx02z, rfl, hdx0, tx02h⟩ := open_Money o_x0.reps rfl
  have lt_o_x0 : ∀ k ∈ f_x0, W14.heap.size ≤ k ∧ k < W15.heap.size := o_x0.lt
  have x := x.trans y
  have bk_a0 := bk_a0.ext y
  have bk_a1 := bk_a1.ext y
  have bk_w0 := bk_w0.ext y
  have bk_w1 := bk_w1.ext y
  have o_w0 := o_w0.ext y
  have o_w1 := o_w1.ext y
  have ll16 := y.le
  refine ⟨_, _, _, _, _, rfl, ?_⟩
  intro r_x0 W16 hn
  have er_x0 := hn.r_eq; have sr_x0 := hn.size
  have y := hn.ext
  have x := x.trans y
  have bk_a0 := bk_a0.ext y
  have bk_a1 := bk_a1.ext y
  have bk_w0 := bk_w0.ext y
  have bk_w1 := bk_w1.ext y
  have o_w0 := o_w0.ext y
  have o_w1 := o_w1.ext y
  have o_x0 := o_x0.ext y
  have ll17 := y.le
  have bk_x0 := hn.blk; clear hn
  obtain ⟨W17, st, bq, ch, sz⟩ := bk_x0.storeA0 (P := P) (t := T_impl_Money) (xs := [.string tx00, .bool tx01, .slice tx02p tx02n tx02c]) (by kernel_rfl) rfl o_x0.reps.cells1
  have x := x.chg ch (by simp; omega)
  have bk_a0 := bk_a0.chg ch (by simp; omega)
  have bk_a1 := bk_a1.chg ch (by simp; omega)
  have bk_w0 := bk_w0.chg ch (by simp; omega)
  have bk_w1 := bk_w1.chg ch (by simp; omega)
  have o_w0 := o_w0.chg ch (fun k hk hm => by have h1 := lt_o_w0 k hk; simp at hm; omega)
  have o_w1 := o_w1.chg ch (fun k hk hm => by have h1 := lt_o_w1 k hk; simp at hm; omega)
  have o_x0 := o_x0.chg ch (fun k hk hm => by have h1 := lt_o_x0 k hk; simp at hm; omega)
  have bk_x0 := bq; clear bq
  have ll18 := ch.size
  refine ⟨_, st, ?_⟩
  refine ⟨_, _, _, _, _, bk_a1.loadA0 (by kernel_rfl), ?_⟩
  refine Ret.at (laws_toDec_c (hr1.ext x) rfl (by simp only [bulks, D0.bulk, List.map_cons, List.map_nil, List.sum_cons, List.sum_nil]; omega)) ?_
  rintro v W18 ⟨vs, f_x1, hv, o_x1, nd_x1, y⟩
  subst hv
  obtain ⟨tx10, tx11p, tx11n, tx11c, tx11z, tx12, rfl, hdx1, tx11h⟩ := open_Dec o_x1.reps rfl
  have lt_o_x1 : ∀ k ∈ f_x1, W17.heap.size ≤ k ∧ k < W18.heap.size := o_x1.lt
  have x := x.trans y
  have bk_a0 := bk_a0.ext y
  have bk_a1 := bk_a1.ext y
  have bk_w0 := bk_w0.ext y
  have bk_w1 := bk_w1.ext y
  have bk_x0 := bk_x0.ext y
  have o_w0 := o_w0.ext y
  have o_w1 := o_w1.ext y
  have o_x0 := o_x0.ext y
  have ll19 := y.le
  refine ⟨_, _, _, _, _, rfl, ?_⟩
  intro r_x1 W19 hn
  have er_x1 := hn.r_eq; have sr_x1 := hn.size
  have y := hn.ext
  have x := x.trans y
  have bk_a0 := bk_a0.ext y
  have bk_a1 := bk_a1.ext y
  have bk_w0 := bk_w0.ext y
  have bk_w1 := bk_w1.ext y
  have bk_x0 := bk_x0.ext y
  have o_w0 := o_w0.ext y
  have o_w1 := o_w1.ext y
  have o_x0 := o_x0.ext y
  have o_x1 := o_x1.ext y
  have ll20 := y.le
  have bk_x1 := hn.blk; clear hn
  obtain ⟨W20, st, bq, ch, sz⟩ := bk_x1.storeA0 (P := P) (t := T_impl_Dec) (xs := [.bool tx10, .slice tx11p tx11n tx11c, .int .i64 tx12]) (by kernel_rfl) rfl o_x1.reps.cells1
  have x := x.chg ch (by simp; omega)
  have bk_a0 := bk_a0.chg ch (by simp; omega)
  have bk_a1 := bk_a1.chg ch (by simp; omega)
  have bk_w0 := bk_w0.chg ch (by simp; omega)
  have bk_w1 := bk_w1.chg ch (by simp; omega)
  have bk_x0 := bk_x0.chg ch (by simp; omega)
  have o_w0 := o_w0.chg ch (fun k hk hm => by have h1 := lt_o_w0 k hk; simp at hm; omega)
  have o_w1 := o_w1.chg ch (fun k hk hm => by have h1 := lt_o_w1 k hk; simp at hm; omega)
  have o_x0 := o_x0.chg ch (fun k hk hm => by have h1 := lt_o_x0 k hk; simp at hm; omega)
  have o_x1 := o_x1.chg ch (fun k hk hm => by have h1 := lt_o_x1 k hk; simp at hm; omega)
  have bk_x1 := bq; clear bq
  have ll21 := ch.size
  refine ⟨_, st, ?_⟩
  refine ⟨_, _, _, _, _, bk_x0.loadA0 (by kernel_rfl), ?_⟩
  refine ⟨_, _, _, _, _, bk_x1.loadA0 (by kernel_rfl), ?_⟩
  refine Ret.at (impl_TaxOn_c o_x0.reps rfl o_x1.reps rfl a2 (ht.ext x)) ?_
  rintro v W21 ⟨vs_g0, f_g0, vs_g1, f_g1, hv, o_g0, nd_g0, co_g0, ct_g0, o_g1, nd_g1, co_g1, ct_g1, dis_g, y⟩
  subst hv
  have tn_g0 := tcnts_nn ct_g0
  have lt_o_g0 : ∀ k ∈ f_g0, W20.heap.size ≤ k ∧ k < W21.heap.size := o_g0.lt
  have tn_g1 := tcnts_nn ct_g1
  have lt_o_g1 : ∀ k ∈ f_g1, W20.heap.size ≤ k ∧ k < W21.heap.size := o_g1.lt
  have x := x.trans y
  have bk_a0 := bk_a0.ext y
  have bk_a1 := bk_a1.ext y
  have bk_w0 := bk_w0.ext y
  have bk_w1 := bk_w1.ext y
  have bk_x0 := bk_x0.ext y
  have bk_x1 := bk_x1.ext y
  have o_w0 := o_w0.ext y
  have o_w1 := o_w1.ext y
  have o_x0 := o_x0.ext y
  have o_x1 := o_x1.ext y
  have ll22 := y.le
  obtain ⟨gg00, gg01, gg02p, gg02n, gg02c, gg02z, rfl, hd_g0, gg02h⟩ := open_Money o_g0.reps co_g0
  obtain ⟨gg10, gg11p, gg11n, gg11c, gg11z, gg12p, gg12n, gg12c, gg12z, rfl, hd_g1, gg11h, gg12h⟩ := open_Rat o_g1.reps co_g1
  refine ⟨_, _, _, _, _, _, _, _, _, _, _, _, _, rfl, ?_⟩
  intro r_g0 W22 hn
  have er_g0 := hn.r_eq; have sr_g0 := hn.size
  have y := hn.ext
  have x := x.trans y
  have bk_a0 := bk_a0.ext y
  have bk_a1 := bk_a1.ext y
  have bk_w0 := bk_w0.ext y
  have bk_w1 := bk_w1.ext y
  have bk_x0 := bk_x0.ext y
  have bk_x1 := bk_x1.ext y
  have o_w0 := o_w0.ext y
  have o_w1 := o_w1.ext y
  have o_x0 := o_x0.ext y
  have o_x1 := o_x1.ext y
  have o_g0 := o_g0.ext y
  have o_g1 := o_g1.ext y
  have ll23 := y.le
  have bk_g0 := hn.blk; clear hn
  intro r_g1 W23 hn
  have er_g1 := hn.r_eq; have sr_g1 := hn.size
  have y := hn.ext
  have x := x.trans y
  have bk_a0 := bk_a0.ext y
  have bk_a1 := bk_a1.ext y
  have bk_w0 := bk_w0.ext y
  have bk_w1 := bk_w1.ext y
  have bk_x0 := bk_x0.ext y
  have bk_x1 := bk_x1.ext y
  have bk_g0 := bk_g0.ext y
  have o_w0 := o_w0.ext y
  have o_w1 := o_w1.ext y
  have o_x0 := o_x0.ext y
  have o_x1 := o_x1.ext y
  have o_g0 := o_g0.ext y
  have o_g1 := o_g1.ext y
  have ll24 := y.le
  have bk_g1 := hn.blk; clear hn
  obtain ⟨W24, st, bq, ch, sz⟩ := bk_g0.storeA0 (P := P) (t := T_impl_Money) (xs := [.string gg00, .bool gg01, .slice gg02p gg02n gg02c]) (by kernel_rfl) rfl o_g0.reps.cells1
  have x := x.chg ch (by simp; omega)
  have bk_a0 := bk_a0.chg ch (by simp; omega)
  have bk_a1 := bk_a1.chg ch (by simp; omega)
  have bk_w0 := bk_w0.chg ch (by simp; omega)
  have bk_w1 := bk_w1.chg ch (by simp; omega)
  have bk_x0 := bk_x0.chg ch (by simp; omega)
  have bk_x1 := bk_x1.chg ch (by simp; omega)
  have bk_g1 := bk_g1.chg ch (by simp; omega)
  have o_w0 := o_w0.chg ch (fun k hk hm => by have h1 := lt_o_w0 k hk; simp at hm; omega)
  have o_w1 := o_w1.chg ch (fun k hk hm => by have h1 := lt_o_w1 k hk; simp at hm; omega)
  have o_x0 := o_x0.chg ch (fun k hk hm => by have h1 := lt_o_x0 k hk; simp at hm; omega)
  have o_x1 := o_x1.chg ch (fun k hk hm => by have h1 := lt_o_x1 k hk; simp at hm; omega)
  have o_g0 := o_g0.chg ch (fun k hk hm => by have h1 := lt_o_g0 k hk; simp at hm; omega)
  have o_g1 := o_g1.chg ch (fun k hk hm => by have h1 := lt_o_g1 k hk; simp at hm; omega)
  have bk_g0 := bq; clear bq
  have ll25 := ch.size
  refine ⟨_, st, ?_⟩
  obtain ⟨W25, st, bq, ch, sz⟩ := bk_g1.storeA0 (P := P) (t := T_impl_Rat) (xs := [.bool gg10, .slice gg11p gg11n gg11c, .slice gg12p gg12n gg12c]) (by kernel_rfl) rfl o_g1.reps.cells1
  have x := x.chg ch (by simp; omega)
  have bk_a0 := bk_a0.chg ch (by simp; omega)
  have bk_a1 := bk_a1.chg ch (by simp; omega)
  have bk_w0 := bk_w0.chg ch (by simp; omega)
  have bk_w1 := bk_w1.chg ch (by simp; omega)
  have bk_x0 := bk_x0.chg ch (by simp; omega)
  have bk_x1 := bk_x1.chg ch (by simp; omega)
  have bk_g0 := bk_g0.chg ch (by simp; omega)
  have o_w0 := o_w0.chg ch (fun k hk hm => by have h1 := lt_o_w0 k hk; simp at hm; omega)
  have o_w1 := o_w1.chg ch (fun k hk hm => by have h1 := lt_o_w1 k hk; simp at hm; omega)
  have o_x0 := o_x0.chg ch (fun k hk hm => by have h1 := lt_o_x0 k hk; simp at hm; omega)
  have o_x1 := o_x1.chg ch (fun k hk hm => by have h1 := lt_o_x1 k hk; simp at hm; omega)
  have o_g0 := o_g0.chg ch (fun k hk hm => by have h1 := lt_o_g0 k hk; simp at hm; omega)
  have o_g1 := o_g1.chg ch (fun k hk hm => by have h1 := lt_o_g1 k hk; simp at hm; omega)
  have bk_g1 := bq; clear bq
  have ll26 := ch.size
  refine ⟨_, st, ?_⟩
  refine ⟨_, _, _, _, _, bk_g0.loadA0 (by kernel_rfl), _, _, _, _, _, bk_w0.loadA0 (by kernel_rfl), ?_⟩
  refine Ret.at (laws_eqMoney_c o_g0.reps o_w0.reps co_g0 co_w0) ?_
  rintro v W26 ⟨hv, y⟩
  subst hv
  have x := x.trans y
  have bk_a0 := bk_a0.ext y
  have bk_a1 := bk_a1.ext y
  have bk_w0 := bk_w0.ext y
  have bk_w1 := bk_w1.ext y
  have bk_x0 := bk_x0.ext y
  have bk_x1 := bk_x1.ext y
  have bk_g0 := bk_g0.ext y
  have bk_g1 := bk_g1.ext y
  have o_w0 := o_w0.ext y
  have o_w1 := o_w1.ext y
  have o_x0 := o_x0.ext y
  have o_x1 := o_x1.ext y
  have o_g0 := o_g0.ext y
  have o_g1 := o_g1.ext y
  have ll27 := y.le
  refine ⟨_, rfl, ifN (fun h => absurd h (by simp)) (fun _ => ?_)⟩
  refine ⟨_, _, _, _, _, _, _, bk_g1.loadA0 (by kernel_rfl), _, _, _, _, _, _, _, bk_w1.loadA0 (by kernel_rfl), ?_⟩
  refine Ret.at (laws_eqRat_c o_g1.reps o_w1.reps co_g1 co_w1) ?_
  rintro v W27 ⟨hv, y⟩
  subst hv
  have x := x.trans y
  have bk_a0 := bk_a0.ext y
  have bk_a1 := bk_a1.ext y
  have bk_w0 := bk_w0.ext y
  have bk_w1 := bk_w1.ext y
  have bk_x0 := bk_x0.ext y
  have bk_x1 := bk_x1.ext y
  have bk_g0 := bk_g0.ext y
  have bk_g1 := bk_g1.ext y
  have o_w0 := o_w0.ext y
  have o_w1 := o_w1.ext y
  have o_x0 := o_x0.ext y
  have o_x1 := o_x1.ext y
  have o_g0 := o_g0.ext y
  have o_g1 := o_g1.ext y
  have ll28 := y.le
  refine ⟨_, rfl, ifN (fun h => absurd h (by simp)) (fun _ => ?_)⟩
  refine ⟨fun h => absurd h (bne_no rfl), fun _ => ?_⟩
  unfold laws_FnExactTaxOn_j0
  refine ⟨_, _, _, _, _, fun W' hW => (bk_x0.ext ((Ext.drew _).trans hW)).loadA0 (by kernel_rfl), _, _, _, _, _, fun W' hW => (bk_a0.ext ((Ext.drew _).trans hW)).loadA0 (by kernel_rfl), ?_⟩
  have y := Ext.drew W27
  have x := x.trans y
  have bk_a0 := bk_a0.ext y
  have bk_a1 := bk_a1.ext y
  have bk_w0 := bk_w0.ext y
  have bk_w1 := bk_w1.ext y
  have bk_x0 := bk_x0.ext y
  have bk_x1 := bk_x1.ext y
  have bk_g0 := bk_g0.ext y
  have bk_g1 := bk_g1.ext y
  have o_w0 := o_w0.ext y
  have o_w1 := o_w1.ext y
  have o_x0 := o_x0.ext y
  have o_x1 := o_x1.ext y
  have o_g0 := o_g0.ext y
  have o_g1 := o_g1.ext y
  have ll29 := y.le
  refine Ret.at (laws_toMoney_c (hr0.ext x) rfl (by simp only [bulks, D0.bulk, List.map_cons, List.map_nil, List.sum_cons, List.sum_nil]; omega)) ?_
  rintro v W28 ⟨vs, f_y0, hv, o_y0, nd_y0, y⟩
  subst hv
  obtain ⟨ty00, ty01, ty02p, ty02n, ty02c, ty02z, rfl, hdy0, ty02h⟩ := open_Money o_y0.reps rfl
  have lt_o_y0 : ∀ k ∈ f_y0, W27.heap.size ≤ k ∧ k < W28.heap.size := o_y0.lt
  have y2 := y
  have x := x.trans y
  have bk_a0 := bk_a0.ext y
  have bk_a1 := bk_a1.ext y
  have bk_w0 := bk_w0.ext y
  have bk_w1 := bk_w1.ext y
  have bk_x0 := bk_x0.ext y
  have bk_x1 := bk_x1.ext y
  have bk_g0 := bk_g0.ext y
  have bk_g1 := bk_g1.ext y
  have o_w0 := o_w0.ext y
  have o_w1 := o_w1.ext y
  have o_x0 := o_x0.ext y
  have o_x1 := o_x1.ext y
  have o_g0 := o_g0.ext y
  have o_g1 := o_g1.ext y
  have ll30 := y.le
  refine ⟨_, _, _, _, _, rfl, y, ?_⟩
  refine Ret.at (laws_eqMoney_c o_x0.reps o_y0.reps rfl rfl) ?_
  rintro v W29 ⟨hv, y⟩
  subst hv
  have x := x.trans y
  have bk_a0 := bk_a0.ext y
  have bk_a1 := bk_a1.ext y
  have bk_w0 := bk_w0.ext y
  have bk_w1 := bk_w1.ext y
  have bk_x0 := bk_x0.ext y
  have bk_x1 := bk_x1.ext y
  have bk_g0 := bk_g0.ext y
  have bk_g1 := bk_g1.ext y
  have o_w0 := o_w0.ext y
  have o_w1 := o_w1.ext y
  have o_x0 := o_x0.ext y
  have o_x1 := o_x1.ext y
  have o_g0 := o_g0.ext y
  have o_g1 := o_g1.ext y
  have ll31 := y.le
  refine ⟨_, rfl, ifN (fun h => absurd h (by simp)) (fun _ => ?_)⟩
  refine ⟨_, _, _, _, _, fun W' hW => (bk_x1.ext ((Ext.drew _).trans hW)).loadA0 (by kernel_rfl), _, _, _, _, _, fun W' hW => (bk_a1.ext ((Ext.drew _).trans hW)).loadA0 (by kernel_rfl), ?_⟩
  have y := Ext.drew W29
  have x := x.trans y
  have bk_a0 := bk_a0.ext y
  have bk_a1 := bk_a1.ext y
  have bk_w0 := bk_w0.ext y
  have bk_w1 := bk_w1.ext y
  have bk_x0 := bk_x0.ext y
  have bk_x1 := bk_x1.ext y
  have bk_g0 := bk_g0.ext y
  have bk_g1 := bk_g1.ext y
  have o_w0 := o_w0.ext y
  have o_w1 := o_w1.ext y
  have o_x0 := o_x0.ext y
  have o_x1 := o_x1.ext y
  have o_g0 := o_g0.ext y
  have o_g1 := o_g1.ext y
  have ll32 := y.le
  refine Ret.at (laws_toDec_c (hr1.ext x) rfl (by simp only [bulks, D0.bulk, List.map_cons, List.map_nil, List.sum_cons, List.sum_nil]; omega)) ?_
  rintro v W30 ⟨vs, f_y1, hv, o_y1, nd_y1, y⟩
  subst hv
  obtain ⟨ty10, ty11p, ty11n, ty11c, ty11z, ty12, rfl, hdy1, ty11h⟩ := open_Dec o_y1.reps rfl
  have lt_o_y1 : ∀ k ∈ f_y1, W29.heap.size ≤ k ∧ k < W30.heap.size := o_y1.lt
  have y2 := y
  have x := x.trans y
  have bk_a0 := bk_a0.ext y
  have bk_a1 := bk_a1.ext y
  have bk_w0 := bk_w0.ext y
  have bk_w1 := bk_w1.ext y
  have bk_x0 := bk_x0.ext y
  have bk_x1 := bk_x1.ext y
  have bk_g0 := bk_g0.ext y
  have bk_g1 := bk_g1.ext y
  have o_w0 := o_w0.ext y
  have o_w1 := o_w1.ext y
  have o_x0 := o_x0.ext y
  have o_x1 := o_x1.ext y
  have o_g0 := o_g0.ext y
  have o_g1 := o_g1.ext y
  have ll33 := y.le
  refine ⟨_, _, _, _, _, rfl, y, ?_⟩
  refine Ret.at (laws_eqDec_c o_x1.reps o_y1.reps rfl rfl) ?_
  rintro v W31 ⟨hv, y⟩
  subst hv
  have x := x.trans y
  have bk_a0 := bk_a0.ext y
  have bk_a1 := bk_a1.ext y
  have bk_w0 := bk_w0.ext y
  have bk_w1 := bk_w1.ext y
  have bk_x0 := bk_x0.ext y
  have bk_x1 := bk_x1.ext y
  have bk_g0 := bk_g0.ext y
  have bk_g1 := bk_g1.ext y
  have o_w0 := o_w0.ext y
  have o_w1 := o_w1.ext y
  have o_x0 := o_x0.ext y
  have o_x1 := o_x1.ext y
  have o_g0 := o_g0.ext y
  have o_g1 := o_g1.ext y
  have ll34 := y.le
  refine ⟨_, rfl, ifN (fun h => absurd h (by simp)) (fun _ => ?_)⟩
  refine ⟨_, _, _, _, _, bk_x0.loadA0 (by kernel_rfl), ?_⟩
  refine Ret.at (laws_markMoney_c o_x0 nd_x0 rfl (by first | omega | (simp only [tcnts]; omega)) (by simp only [tcnts]; omega)) ?_
  rintro v W32 ⟨hv, on, ch⟩
  simp only [tcnts] at hv
  subst hv
  have x := x.chg ch (fun k hk => by have := lt_o_x0 k hk; omega)
  have bk_a0 := bk_a0.chg ch (fun hm => by have := lt_o_x0 _ hm; omega)
  have bk_a1 := bk_a1.chg ch (fun hm => by have := lt_o_x0 _ hm; omega)
  have bk_w0 := bk_w0.chg ch (fun hm => by have := lt_o_x0 _ hm; omega)
  have bk_w1 := bk_w1.chg ch (fun hm => by have := lt_o_x0 _ hm; omega)
  have bk_x0 := bk_x0.chg ch (fun hm => by have := lt_o_x0 _ hm; omega)
  have bk_x1 := bk_x1.chg ch (fun hm => by have := lt_o_x0 _ hm; omega)
  have bk_g0 := bk_g0.chg ch (fun hm => by have := lt_o_x0 _ hm; omega)
  have bk_g1 := bk_g1.chg ch (fun hm => by have := lt_o_x0 _ hm; omega)
  have o_w0 := o_w0.chg ch (fun k hk hm => by have h1 := lt_o_w0 k hk; have h2 := lt_o_x0 k hm; omega)
  have o_w1 := o_w1.chg ch (fun k hk hm => by have h1 := lt_o_w1 k hk; have h2 := lt_o_x0 k hm; omega)
  have o_x1 := o_x1.chg ch (fun k hk hm => by have h1 := lt_o_x1 k hk; have h2 := lt_o_x0 k hm; omega)
  have o_g0 := o_g0.chg ch (fun k hk hm => by have h1 := lt_o_g0 k hk; have h2 := lt_o_x0 k hm; omega)
  have o_g1 := o_g1.chg ch (fun k hk hm => by have h1 := lt_o_g1 k hk; have h2 := lt_o_x0 k hm; omega)
  have ll35 := ch.size
  have o_x0 := on; clear on
  refine ⟨_, rfl, ?_⟩
  refine ⟨_, _, _, _, _, bk_x1.loadA0 (by kernel_rfl), ?_⟩
  refine Ret.at (laws_markDec_c o_x1 nd_x1 rfl (by first | omega | (simp only [tcnts]; omega)) (by simp only [tcnts]; omega)) ?_
  rintro v W33 ⟨hv, on, ch⟩
  simp only [tcnts] at hv
  subst hv
  have x := x.chg ch (fun k hk => by have := lt_o_x1 k hk; omega)
  have bk_a0 := bk_a0.chg ch (fun hm => by have := lt_o_x1 _ hm; omega)
  have bk_a1 := bk_a1.chg ch (fun hm => by have := lt_o_x1 _ hm; omega)
  have bk_w0 := bk_w0.chg ch (fun hm => by have := lt_o_x1 _ hm; omega)
  have bk_w1 := bk_w1.chg ch (fun hm => by have := lt_o_x1 _ hm; omega)
  have bk_x0 := bk_x0.chg ch (fun hm => by have := lt_o_x1 _ hm; omega)
  have bk_x1 := bk_x1.chg ch (fun hm => by have := lt_o_x1 _ hm; omega)
  have bk_g0 := bk_g0.chg ch (fun hm => by have := lt_o_x1 _ hm; omega)
  have bk_g1 := bk_g1.chg ch (fun hm => by have := lt_o_x1 _ hm; omega)
  have o_w0 := o_w0.chg ch (fun k hk hm => by have h1 := lt_o_w0 k hk; have h2 := lt_o_x1 k hm; omega)
  have o_w1 := o_w1.chg ch (fun k hk hm => by have h1 := lt_o_w1 k hk; have h2 := lt_o_x1 k hm; omega)
  have o_x0 := o_x0.chg ch (fun k hk hm => by have h1 := lt_o_x0 k hk; have h2 := lt_o_x1 k hm; omega)
  have o_g0 := o_g0.chg ch (fun k hk hm => by have h1 := lt_o_g0 k hk; have h2 := lt_o_x1 k hm; omega)
  have o_g1 := o_g1.chg ch (fun k hk hm => by have h1 := lt_o_g1 k hk; have h2 := lt_o_x1 k hm; omega)
  have ll36 := ch.size
  have o_x1 := on; clear on
  refine ⟨_, rfl, ?_⟩
  refine ifD (fun h => absurd h (by omega)) (fun _ => ?_)
  refine ⟨_, _, _, _, _, bk_g0.loadA0 (by kernel_rfl), _, _, _, _, _, bk_w0.loadA0 (by kernel_rfl), ?_⟩
  refine Ret.at (laws_eqMoney_c o_g0.reps o_w0.reps co_g0 co_w0) ?_
  rintro v W34 ⟨hv, y⟩
  subst hv
  have x := x.trans y
  have bk_a0 := bk_a0.ext y
  have bk_a1 := bk_a1.ext y
  have bk_w0 := bk_w0.ext y
  have bk_w1 := bk_w1.ext y
  have bk_x0 := bk_x0.ext y
  have bk_x1 := bk_x1.ext y
  have bk_g0 := bk_g0.ext y
  have bk_g1 := bk_g1.ext y
  have o_w0 := o_w0.ext y
  have o_w1 := o_w1.ext y
  have o_x0 := o_x0.ext y
  have o_x1 := o_x1.ext y
  have o_g0 := o_g0.ext y
  have o_g1 := o_g1.ext y
  have ll37 := y.le
  refine ⟨_, rfl, ifN (fun h => absurd h (by simp)) (fun _ => ?_)⟩
  refine ⟨_, _, _, _, _, _, _, bk_g1.loadA0 (by kernel_rfl), _, _, _, _, _, _, _, bk_w1.loadA0 (by kernel_rfl), ?_⟩
  refine Ret.at (laws_eqRat_c o_g1.reps o_w1.reps co_g1 co_w1) ?_
  rintro v W35 ⟨hv, y⟩
  subst hv
  have x := x.trans y
  have bk_a0 := bk_a0.ext y
  have bk_a1 := bk_a1.ext y
  have bk_w0 := bk_w0.ext y
  have bk_w1 := bk_w1.ext y
  have bk_x0 := bk_x0.ext y
  have bk_x1 := bk_x1.ext y
  have bk_g0 := bk_g0.ext y
  have bk_g1 := bk_g1.ext y
  have o_w0 := o_w0.ext y
  have o_w1 := o_w1.ext y
  have o_x0 := o_x0.ext y
  have o_x1 := o_x1.ext y
  have o_g0 := o_g0.ext y
  have o_g1 := o_g1.ext y
  have ll38 := y.le
  refine ⟨_, rfl, ifN (fun h => absurd h (by simp)) (fun _ => ?_)⟩
  refine ⟨fun h => absurd h (bne_no rfl), fun _ => ?_⟩
  unfold laws_FnExactTaxOn_j1
  refine ⟨_, _, _, _, _, bk_g0.loadA0 (by kernel_rfl), ?_⟩
  refine Ret.at (laws_markMoney_c o_g0 nd_g0 co_g0 (by omega) (by omega)) ?_
  rintro v W36 ⟨hv, on, ch⟩
  subst hv
  have x := x.chg ch (fun k hk => by have := lt_o_g0 k hk; omega)
  have bk_a0 := bk_a0.chg ch (fun hm => by have := lt_o_g0 _ hm; omega)
  have bk_a1 := bk_a1.chg ch (fun hm => by have := lt_o_g0 _ hm; omega)
  have bk_w0 := bk_w0.chg ch (fun hm => by have := lt_o_g0 _ hm; omega)
  have bk_w1 := bk_w1.chg ch (fun hm => by have := lt_o_g0 _ hm; omega)
  have bk_x0 := bk_x0.chg ch (fun hm => by have := lt_o_g0 _ hm; omega)
  have bk_x1 := bk_x1.chg ch (fun hm => by have := lt_o_g0 _ hm; omega)
  have bk_g0 := bk_g0.chg ch (fun hm => by have := lt_o_g0 _ hm; omega)
  have bk_g1 := bk_g1.chg ch (fun hm => by have := lt_o_g0 _ hm; omega)
  have o_w0 := o_w0.chg ch (fun k hk hm => by have h1 := lt_o_w0 k hk; have h2 := lt_o_g0 k hm; omega)
  have o_w1 := o_w1.chg ch (fun k hk hm => by have h1 := lt_o_w1 k hk; have h2 := lt_o_g0 k hm; omega)
  have o_x0 := o_x0.chg ch (fun k hk hm => by have h1 := lt_o_x0 k hk; have h2 := lt_o_g0 k hm; omega)
  have o_x1 := o_x1.chg ch (fun k hk hm => by have h1 := lt_o_x1 k hk; have h2 := lt_o_g0 k hm; omega)
  have o_g1 := o_g1.chg ch (fun k hk hm => dis_g k hm hk)
  have ll39 := ch.size
  have o_g0 := on; clear on
  refine ⟨_, rfl, ?_⟩
  refine ⟨_, _, _, _, _, _, _, bk_g1.loadA0 (by kernel_rfl), ?_⟩
  refine Ret.at (laws_markRat_c o_g1 nd_g1 co_g1 (by omega) (by omega)) ?_
  rintro v W37 ⟨hv, on, ch⟩
  subst hv
  have x := x.chg ch (fun k hk => by have := lt_o_g1 k hk; omega)
  have bk_a0 := bk_a0.chg ch (fun hm => by have := lt_o_g1 _ hm; omega)
  have bk_a1 := bk_a1.chg ch (fun hm => by have := lt_o_g1 _ hm; omega)
  have bk_w0 := bk_w0.chg ch (fun hm => by have := lt_o_g1 _ hm; omega)
  have bk_w1 := bk_w1.chg ch (fun hm => by have := lt_o_g1 _ hm; omega)
  have bk_x0 := bk_x0.chg ch (fun hm => by have := lt_o_g1 _ hm; omega)
  have bk_x1 := bk_x1.chg ch (fun hm => by have := lt_o_g1 _ hm; omega)
  have bk_g0 := bk_g0.chg ch (fun hm => by have := lt_o_g1 _ hm; omega)
  have bk_g1 := bk_g1.chg ch (fun hm => by have := lt_o_g1 _ hm; omega)
  have o_w0 := o_w0.chg ch (fun k hk hm => by have h1 := lt_o_w0 k hk; have h2 := lt_o_g1 k hm; omega)
  have o_w1 := o_w1.chg ch (fun k hk hm => by have h1 := lt_o_w1 k hk; have h2 := lt_o_g1 k hm; omega)
  have o_x0 := o_x0.chg ch (fun k hk hm => by have h1 := lt_o_x0 k hk; have h2 := lt_o_g1 k hm; omega)
  have o_x1 := o_x1.chg ch (fun k hk hm => by have h1 := lt_o_x1 k hk; have h2 := lt_o_g1 k hm; omega)
  have o_g0 := o_g0.chg ch (fun k hk hm => dis_g k hk hm)
  have ll40 := ch.size
  have o_g1 := on; clear on
  refine ⟨_, rfl, ?_⟩
  refine ⟨_, _, _, _, _, bk_g0.loadA0 (by kernel_rfl), ?_⟩
  refine Ret.at (laws_heldMoney_c o_g0.reps co_g0 (by omega) (by omega)) ?_
  rintro v W38 ⟨hv, y⟩
  subst hv
  have x := x.trans y
  have bk_a0 := bk_a0.ext y
  have bk_a1 := bk_a1.ext y
  have bk_w0 := bk_w0.ext y
  have bk_w1 := bk_w1.ext y
  have bk_x0 := bk_x0.ext y
  have bk_x1 := bk_x1.ext y
  have bk_g0 := bk_g0.ext y
  have bk_g1 := bk_g1.ext y
  have o_w0 := o_w0.ext y
  have o_w1 := o_w1.ext y
  have o_x0 := o_x0.ext y
  have o_x1 := o_x1.ext y
  have o_g0 := o_g0.ext y
  have o_g1 := o_g1.ext y
  have ll41 := y.le
  refine ⟨_, rfl, ifD (fun h => absurd h (by omega)) (fun _ => ?_)⟩
  refine ⟨_, _, _, _, _, _, _, bk_g1.loadA0 (by kernel_rfl), ?_⟩
  refine Ret.at (laws_heldRat_c o_g1.reps co_g1 (by omega) (by omega)) ?_
  rintro v W39 ⟨hv, y⟩
  subst hv
  have x := x.trans y
  have bk_a0 := bk_a0.ext y
  have bk_a1 := bk_a1.ext y
  have bk_w0 := bk_w0.ext y
  have bk_w1 := bk_w1.ext y
  have bk_x0 := bk_x0.ext y
  have bk_x1 := bk_x1.ext y
  have bk_g0 := bk_g0.ext y
  have bk_g1 := bk_g1.ext y
  have o_w0 := o_w0.ext y
  have o_w1 := o_w1.ext y
  have o_x0 := o_x0.ext y
  have o_x1 := o_x1.ext y
  have o_g0 := o_g0.ext y
  have o_g1 := o_g1.ext y
  have ll42 := y.le
  refine ⟨_, rfl, ifD (fun h => absurd h (by omega)) (fun _ => ?_)⟩
  refine ifD (fun h => absurd rfl h) (fun _ => ?_)
  have y := Ext.drew W39
  have x := x.trans y
  have bk_a0 := bk_a0.ext y
  have bk_a1 := bk_a1.ext y
  have bk_w0 := bk_w0.ext y
  have bk_w1 := bk_w1.ext y
  have bk_x0 := bk_x0.ext y
  have bk_x1 := bk_x1.ext y
  have bk_g0 := bk_g0.ext y
  have bk_g1 := bk_g1.ext y
  have o_w0 := o_w0.ext y
  have o_w1 := o_w1.ext y
  have o_x0 := o_x0.ext y
  have o_x1 := o_x1.ext y
  have o_g0 := o_g0.ext y
  have o_g1 := o_g1.ext y
  have ll43 := y.le
  have bd0 := bk_a0
  have bd1 := bk_a1
  refine ⟨_, _, _, _, _, fun W' hW => (bd0.ext hW).loadA0 (by kernel_rfl), ?_⟩
  intro ssx W40 F
  have S := FlS.first F rfl
  have y := F.ext
  have x := x.trans y
  have bk_a0 := bk_a0.ext y
  have bk_a1 := bk_a1.ext y
  have bk_w0 := bk_w0.ext y
  have bk_w1 := bk_w1.ext y
  have bk_x0 := bk_x0.ext y
  have bk_x1 := bk_x1.ext y
  have bk_g0 := bk_g0.ext y
  have bk_g1 := bk_g1.ext y
  have o_w0 := o_w0.ext y
  have o_w1 := o_w1.ext y
  have o_x0 := o_x0.ext y
  have o_x1 := o_x1.ext y
  have o_g0 := o_g0.ext y
  have o_g1 := o_g1.ext y
  have ll44 := y.le
  refine Ret.at (laws_toMoney_c (hr0.ext x) rfl (by simp only [bulks, D0.bulk, List.map_cons, List.map_nil, List.sum_cons, List.sum_nil]; omega)) ?_
  rintro v W41 ⟨vs, f_h0, hv, o_h0, nd_h0, y⟩
  subst hv
  obtain ⟨th00, th01, th02p, th02n, th02c, th02z, rfl, hdh0, th02h⟩ := open_Money o_h0.reps rfl
  have lt_o_h0 : ∀ k ∈ f_h0, W40.heap.size ≤ k ∧ k < W41.heap.size := o_h0.lt
  have yy := y
  have x := x.trans y
  have bk_a0 := bk_a0.ext y
  have bk_a1 := bk_a1.ext y
  have bk_w0 := bk_w0.ext y
  have bk_w1 := bk_w1.ext y
  have bk_x0 := bk_x0.ext y
  have bk_x1 := bk_x1.ext y
  have bk_g0 := bk_g0.ext y
  have bk_g1 := bk_g1.ext y
  have o_w0 := o_w0.ext y
  have o_w1 := o_w1.ext y
  have o_x0 := o_x0.ext y
  have o_x1 := o_x1.ext y
  have o_g0 := o_g0.ext y
  have o_g1 := o_g1.ext y
  have S := S.ext y
  have ll45 := y.le
  refine ⟨_, _, _, _, _, rfl, yy, ?_⟩
  refine ⟨_, _, _, _, _, fun W' hW => (bd1.ext hW).loadA0 (by kernel_rfl), ?_⟩
  intro ssx W42 F
  have S := S.step F
  have y := F.ext
  have x := x.trans y
  have bk_a0 := bk_a0.ext y
  have bk_a1 := bk_a1.ext y
  have bk_w0 := bk_w0.ext y
  have bk_w1 := bk_w1.ext y
  have bk_x0 := bk_x0.ext y
  have bk_x1 := bk_x1.ext y
  have bk_g0 := bk_g0.ext y
  have bk_g1 := bk_g1.ext y
  have o_w0 := o_w0.ext y
  have o_w1 := o_w1.ext y
  have o_x0 := o_x0.ext y
  have o_x1 := o_x1.ext y
  have o_g0 := o_g0.ext y
  have o_g1 := o_g1.ext y
  have o_h0 := o_h0.ext y
  have ll46 := y.le
  refine Ret.at (laws_toDec_c (hr1.ext x) rfl (by simp only [bulks, D0.bulk, List.map_cons, List.map_nil, List.sum_cons, List.sum_nil]; omega)) ?_
  rintro v W43 ⟨vs, f_h1, hv, o_h1, nd_h1, y⟩
  subst hv
  obtain ⟨th10, th11p, th11n, th11c, th11z, th12, rfl, hdh1, th11h⟩ := open_Dec o_h1.reps rfl
  have lt_o_h1 : ∀ k ∈ f_h1, W42.heap.size ≤ k ∧ k < W43.heap.size := o_h1.lt
  have yy := y
  have x := x.trans y
  have bk_a0 := bk_a0.ext y
  have bk_a1 := bk_a1.ext y
  have bk_w0 := bk_w0.ext y
  have bk_w1 := bk_w1.ext y
  have bk_x0 := bk_x0.ext y
  have bk_x1 := bk_x1.ext y
  have bk_g0 := bk_g0.ext y
  have bk_g1 := bk_g1.ext y
  have o_w0 := o_w0.ext y
  have o_w1 := o_w1.ext y
  have o_x0 := o_x0.ext y
  have o_x1 := o_x1.ext y
  have o_g0 := o_g0.ext y
  have o_g1 := o_g1.ext y
  have o_h0 := o_h0.ext y
  have S := S.ext y
  have ll47 := y.le
  refine ⟨_, _, _, _, _, rfl, ?_⟩
  intro ssx W44 F
  have S := S.step F
  have y := F.ext
  have x := x.trans y
  have bk_a0 := bk_a0.ext y
  have bk_a1 := bk_a1.ext y
  have bk_w0 := bk_w0.ext y
  have bk_w1 := bk_w1.ext y
  have bk_x0 := bk_x0.ext y
  have bk_x1 := bk_x1.ext y
  have bk_g0 := bk_g0.ext y
  have bk_g1 := bk_g1.ext y
  have o_w0 := o_w0.ext y
  have o_w1 := o_w1.ext y
  have o_x0 := o_x0.ext y
  have o_x1 := o_x1.ext y
  have o_g0 := o_g0.ext y
  have o_g1 := o_g1.ext y
  have o_h0 := o_h0.ext y
  have o_h1 := o_h1.ext y
  have ll48 := y.le
  have Sc := S
  refine Ret.at (impl_TaxOn_c o_h0.reps rfl o_h1.reps rfl a2 (ht.ext x)) ?_
  rintro v W45 ⟨vs_h0, f_h0, vs_h1, f_h1, hv, o_h0, nd_h0, co_h0, ct_h0, o_h1, nd_h1, co_h1, ct_h1, dis_h, y⟩
  subst hv
  have tn_h0 := tcnts_nn ct_h0
  have lt_o_h0 : ∀ k ∈ f_h0, W44.heap.size ≤ k ∧ k < W45.heap.size := o_h0.lt
  have tn_h1 := tcnts_nn ct_h1
  have lt_o_h1 : ∀ k ∈ f_h1, W44.heap.size ≤ k ∧ k < W45.heap.size := o_h1.lt
  have x := x.trans y
  have bk_a0 := bk_a0.ext y
  have bk_a1 := bk_a1.ext y
  have bk_w0 := bk_w0.ext y
  have bk_w1 := bk_w1.ext y
  have bk_x0 := bk_x0.ext y
  have bk_x1 := bk_x1.ext y
  have bk_g0 := bk_g0.ext y
  have bk_g1 := bk_g1.ext y
  have o_w0 := o_w0.ext y
  have o_w1 := o_w1.ext y
  have o_x0 := o_x0.ext y
  have o_x1 := o_x1.ext y
  have o_g0 := o_g0.ext y
  have o_g1 := o_g1.ext y
  have S := S.ext y
  have ll49 := y.le
  obtain ⟨gh00, gh01, gh02p, gh02n, gh02c, gh02z, rfl, hd_h0, gh02h⟩ := open_Money o_h0.reps co_h0
  obtain ⟨gh10, gh11p, gh11n, gh11c, gh11z, gh12p, gh12n, gh12c, gh12z, rfl, hd_h1, gh11h, gh12h⟩ := open_Rat o_h1.reps co_h1
  refine ⟨_, _, _, _, _, _, _, _, _, _, _, _, _, rfl, ?_⟩
  intro ssx W46 r_h0 F G_h0
  have S := S.step F
  have y := F.ext
  have x := x.trans y
  have bk_a0 := bk_a0.ext y
  have bk_a1 := bk_a1.ext y
  have bk_w0 := bk_w0.ext y
  have bk_w1 := bk_w1.ext y
  have bk_x0 := bk_x0.ext y
  have bk_x1 := bk_x1.ext y
  have bk_g0 := bk_g0.ext y
  have bk_g1 := bk_g1.ext y
  have o_w0 := o_w0.ext y
  have o_w1 := o_w1.ext y
  have o_x0 := o_x0.ext y
  have o_x1 := o_x1.ext y
  have o_g0 := o_g0.ext y
  have o_g1 := o_g1.ext y
  have o_h0 := o_h0.ext y
  have o_h1 := o_h1.ext y
  have ll50 := y.le
  have FF := F
  intro ssx W47 r_h1 F G_h1
  have S := S.step F
  have y := F.ext
  have x := x.trans y
  have bk_a0 := bk_a0.ext y
  have bk_a1 := bk_a1.ext y
  have bk_w0 := bk_w0.ext y
  have bk_w1 := bk_w1.ext y
  have bk_x0 := bk_x0.ext y
  have bk_x1 := bk_x1.ext y
  have bk_g0 := bk_g0.ext y
  have bk_g1 := bk_g1.ext y
  have o_w0 := o_w0.ext y
  have o_w1 := o_w1.ext y
  have o_x0 := o_x0.ext y
  have o_x1 := o_x1.ext y
  have o_g0 := o_g0.ext y
  have o_g1 := o_g1.ext y
  have o_h0 := o_h0.ext y
  have o_h1 := o_h1.ext y
  have ll51 := y.le
  have FF := FF.trans F
  have G_h0 := F.keeps G_h0
  obtain ⟨sr_h0, lr_h0, bk_h0⟩ := S.blk G_h0 rfl
  have ap_h0 := Sc.apart FF G_h0
  obtain ⟨sr_h1, lr_h1, bk_h1⟩ := S.blk G_h1 rfl
  have ap_h1 := Sc.apart FF G_h1
  have ne_h0_h1 := S.ne G_h0 G_h1 (by decide)
  obtain ⟨W48, st, bq, ch, sz⟩ := bk_h0.storeA0 (P := P) (t := T_impl_Money) (xs := [.string gh00, .bool gh01, .slice gh02p gh02n gh02c]) (by kernel_rfl) rfl o_h0.reps.cells1
  have x := x.chg ch (by simp; omega)
  have bk_a0 := bk_a0.chg ch (by simp; omega)
  have bk_a1 := bk_a1.chg ch (by simp; omega)
  have bk_w0 := bk_w0.chg ch (by simp; omega)
  have bk_w1 := bk_w1.chg ch (by simp; omega)
  have bk_x0 := bk_x0.chg ch (by simp; omega)
  have bk_x1 := bk_x1.chg ch (by simp; omega)
  have bk_g0 := bk_g0.chg ch (by simp; omega)
  have bk_g1 := bk_g1.chg ch (by simp; omega)
  have bk_h1 := bk_h1.chg ch (by simp; omega)
  have o_w0 := o_w0.chg ch (fun k hk hm => by have h1 := lt_o_w0 k hk; simp at hm; omega)
  have o_w1 := o_w1.chg ch (fun k hk hm => by have h1 := lt_o_w1 k hk; simp at hm; omega)
  have o_x0 := o_x0.chg ch (fun k hk hm => by have h1 := lt_o_x0 k hk; simp at hm; omega)
  have o_x1 := o_x1.chg ch (fun k hk hm => by have h1 := lt_o_x1 k hk; simp at hm; omega)
  have o_g0 := o_g0.chg ch (fun k hk hm => by have h1 := lt_o_g0 k hk; simp at hm; omega)
  have o_g1 := o_g1.chg ch (fun k hk hm => by have h1 := lt_o_g1 k hk; simp at hm; omega)
  have o_h0 := o_h0.chg ch (fun k hk hm => by have h1 := lt_o_h0 k hk; simp at hm; omega)
  have o_h1 := o_h1.chg ch (fun k hk hm => by have h1 := lt_o_h1 k hk; simp at hm; omega)
  have bk_h0 := bq; clear bq
  have ll52 := ch.size
  refine ⟨_, st, ?_⟩
  obtain ⟨W49, st, bq, ch, sz⟩ := bk_h1.storeA0 (P := P) (t := T_impl_Rat) (xs := [.bool gh10, .slice gh11p gh11n gh11c, .slice gh12p gh12n gh12c]) (by kernel_rfl) rfl o_h1.reps.cells1
  have x := x.chg ch (by simp; omega)
  have bk_a0 := bk_a0.chg ch (by simp; omega)
  have bk_a1 := bk_a1.chg ch (by simp; omega)
  have bk_w0 := bk_w0.chg ch (by simp; omega)
  have bk_w1 := bk_w1.chg ch (by simp; omega)
  have bk_x0 := bk_x0.chg ch (by simp; omega)
  have bk_x1 := bk_x1.chg ch (by simp; omega)
  have bk_g0 := bk_g0.chg ch (by simp; omega)
  have bk_g1 := bk_g1.chg ch (by simp; omega)
  have bk_h0 := bk_h0.chg ch (by simp; omega)
  have o_w0 := o_w0.chg ch (fun k hk hm => by have h1 := lt_o_w0 k hk; simp at hm; omega)
  have o_w1 := o_w1.chg ch (fun k hk hm => by have h1 := lt_o_w1 k hk; simp at hm; omega)
  have o_x0 := o_x0.chg ch (fun k hk hm => by have h1 := lt_o_x0 k hk; simp at hm; omega)
  have o_x1 := o_x1.chg ch (fun k hk hm => by have h1 := lt_o_x1 k hk; simp at hm; omega)
  have o_g0 := o_g0.chg ch (fun k hk hm => by have h1 := lt_o_g0 k hk; simp at hm; omega)
  have o_g1 := o_g1.chg ch (fun k hk hm => by have h1 := lt_o_g1 k hk; simp at hm; omega)
  have o_h0 := o_h0.chg ch (fun k hk hm => by have h1 := lt_o_h0 k hk; simp at hm; omega)
  have o_h1 := o_h1.chg ch (fun k hk hm => by have h1 := lt_o_h1 k hk; simp at hm; omega)
  have bk_h1 := bq; clear bq
  have ll53 := ch.size
  refine ⟨_, st, ?_⟩
  refine ⟨_, _, _, _, _, bk_h0.loadA0 (by kernel_rfl), _, _, _, _, _, bk_w0.loadA0 (by kernel_rfl), ?_⟩
  refine Ret.at (laws_eqMoney_c o_h0.reps o_w0.reps co_h0 co_w0) ?_
  rintro v W50 ⟨hv, y⟩
  subst hv
  have x := x.trans y
  have bk_a0 := bk_a0.ext y
  have bk_a1 := bk_a1.ext y
  have bk_w0 := bk_w0.ext y
  have bk_w1 := bk_w1.ext y
  have bk_x0 := bk_x0.ext y
  have bk_x1 := bk_x1.ext y
  have bk_g0 := bk_g0.ext y
  have bk_g1 := bk_g1.ext y
  have bk_h0 := bk_h0.ext y
  have bk_h1 := bk_h1.ext y
  have o_w0 := o_w0.ext y
  have o_w1 := o_w1.ext y
  have o_x0 := o_x0.ext y
  have o_x1 := o_x1.ext y
  have o_g0 := o_g0.ext y
  have o_g1 := o_g1.ext y
  have o_h0 := o_h0.ext y
  have o_h1 := o_h1.ext y
  have ll54 := y.le
  refine ⟨_, rfl, ifN (fun h => absurd h (by simp)) (fun _ => ?_)⟩
  refine ⟨_, _, _, _, _, _, _, bk_h1.loadA0 (by kernel_rfl), _, _, _, _, _, _, _, bk_w1.loadA0 (by kernel_rfl), ?_⟩
  refine Ret.at (laws_eqRat_c o_h1.reps o_w1.reps co_h1 co_w1) ?_
  rintro v W51 ⟨hv, y⟩
  subst hv
  have x := x.trans y
  have bk_a0 := bk_a0.ext y
  have bk_a1 := bk_a1.ext y
  have bk_w0 := bk_w0.ext y
  have bk_w1 := bk_w1.ext y
  have bk_x0 := bk_x0.ext y
  have bk_x1 := bk_x1.ext y
  have bk_g0 := bk_g0.ext y
  have bk_g1 := bk_g1.ext y
  have bk_h0 := bk_h0.ext y
  have bk_h1 := bk_h1.ext y
  have o_w0 := o_w0.ext y
  have o_w1 := o_w1.ext y
  have o_x0 := o_x0.ext y
  have o_x1 := o_x1.ext y
  have o_g0 := o_g0.ext y
  have o_g1 := o_g1.ext y
  have o_h0 := o_h0.ext y
  have o_h1 := o_h1.ext y
  have ll55 := y.le
  refine ⟨_, rfl, ifN (fun h => absurd h (by simp)) (fun _ => ?_)⟩
  refine ⟨fun h => absurd h (bne_no rfl), fun _ => ?_⟩
  unfold laws_FnExactTaxOn_j2
  refine ⟨_, _, _, _, _, bk_g0.loadA0 (by kernel_rfl), ?_⟩
  refine Ret.at (laws_heldMoney_c o_g0.reps co_g0 (by omega) (by omega)) ?_
  rintro v W52 ⟨hv, y⟩
  subst hv
  have x := x.trans y
  have bk_a0 := bk_a0.ext y
  have bk_a1 := bk_a1.ext y
  have bk_w0 := bk_w0.ext y
  have bk_w1 := bk_w1.ext y
  have bk_x0 := bk_x0.ext y
  have bk_x1 := bk_x1.ext y
  have bk_g0 := bk_g0.ext y
  have bk_g1 := bk_g1.ext y
  have bk_h0 := bk_h0.ext y
  have bk_h1 := bk_h1.ext y
  have o_w0 := o_w0.ext y
  have o_w1 := o_w1.ext y
  have o_x0 := o_x0.ext y
  have o_x1 := o_x1.ext y
  have o_g0 := o_g0.ext y
  have o_g1 := o_g1.ext y
  have o_h0 := o_h0.ext y
  have o_h1 := o_h1.ext y
  have ll56 := y.le
  refine ⟨_, rfl, ifD (fun h => absurd h (by omega)) (fun _ => ?_)⟩
  refine ⟨_, _, _, _, _, _, _, bk_g1.loadA0 (by kernel_rfl), ?_⟩
  refine Ret.at (laws_heldRat_c o_g1.reps co_g1 (by omega) (by omega)) ?_
  rintro v W53 ⟨hv, y⟩
  subst hv
  have x := x.trans y
  have bk_a0 := bk_a0.ext y
  have bk_a1 := bk_a1.ext y
  have bk_w0 := bk_w0.ext y
  have bk_w1 := bk_w1.ext y
  have bk_x0 := bk_x0.ext y
  have bk_x1 := bk_x1.ext y
  have bk_g0 := bk_g0.ext y
  have bk_g1 := bk_g1.ext y
  have bk_h0 := bk_h0.ext y
  have bk_h1 := bk_h1.ext y
  have o_w0 := o_w0.ext y
  have o_w1 := o_w1.ext y
  have o_x0 := o_x0.ext y
  have o_x1 := o_x1.ext y
  have o_g0 := o_g0.ext y
  have o_g1 := o_g1.ext y
  have o_h0 := o_h0.ext y
  have o_h1 := o_h1.ext y
  have ll57 := y.le
  refine ⟨_, rfl, ifD (fun h => absurd h (by omega)) (fun _ => ?_)⟩
  refine ifD (fun h => absurd rfl h) (fun _ => ?_)
  exact ⟨rfl, x⟩
end Go.Proofs.YtfemmmbkhhemaaaGreatDoor

namespace Go.Proofs.YtfemmmbkhhemaaaGreatDoor.Sx
open Go Go.RowKit Go.ChangeShapes Go.WideShapes
set_option linter.unusedVariables false
set_option linter.unusedSimpArgs false
/-- each named variable's type can be read and is a row of the table -/
def rowedV (P : Program) (ns : List String) : Bool := ns.all fun n => ((P.globalNamed n).bind (P.globals[·]?)).all fun gl => P.readableRec gl.type && decide (gl.type < P.types.size)
section
variable {H : Type} {enc : TypeId × Value → H} {P : Program}
theorem trodAll_ext (hl : laidOutB P = true) {W W' : World} (hb : Ext W W') (sp' : Nat → Bool) : ∀ {ts : List TypeId} {vs : List Value} {ds : List (DataW H)} {ps : List MemPlace},
    (∀ t ∈ ts, P.readableRec t = true ∧ t < P.types.size) → (∀ p ∈ ps, p.block < W.heap.size) → (∀ p ∈ ps, sp' p.block = true) →
    DataW.TrodAll enc P W 0 (fun _ => true) true ts vs ds ps → DataW.TrodAll enc P W' 0 sp' true ts vs ds ps
  | [], _, _, _, _, _, _, h => by
    obtain ⟨rfl, rfl, rfl⟩ := trodAll_nil h
    exact rfl
  | t :: ts, _, _, _, hr, hlt, hsp, h => by
    obtain ⟨v, vs1, d, ds1, a, b, rfl, rfl, rfl, h1, h2⟩ := trodAll_cons h
    have hrt := hr t (by simp)
    exact ⟨a, b, WideElems.Trod_stays hl hrt.1 hrt.2 h1 (fun x hx => Below.same hb (hlt x (by simp [hx]))) (fun x hx => hsp x (by simp [hx])),
      trodAll_ext hl hb sp' (fun u hu => hr u (by simp [hu])) (fun x hx => hlt x (by simp [hx])) (fun x hx => hsp x (by simp [hx])) h2, rfl⟩
theorem trodVars_sp (hl : laidOutB P = true) {W W' : World} (hb : Ext W W') (sp' : Nat → Bool) :
    ∀ {ns : List String} {gs : List (DataW H)} {ps : List MemPlace}, rowedV P ns = true → (∀ p ∈ ps, sp' p.block = true) → DataW.TrodVars enc P W (fun _ => true) ns gs ps → DataW.TrodVars enc P W' sp' ns gs ps
  | [], [], _, _, _, h => h
  | [], _ :: _, _, _, _, h => h.elim
  | _ :: _, [], _, _, _, h => h.elim
  | n :: ns, d :: ds, ps, hv, hsp, h => by
    have hlt := h.lt
    obtain ⟨g, t, cs, fuel, p, q, h1, h2, h3, h4, hs, e⟩ := h
    simp only [rowedV, List.all_cons, Bool.and_eq_true] at hv
    have ht : P.readableRec t = true ∧ t < P.types.size := by
      have := hv.1
      rw [h1] at this
      cases hg : P.globals[g]? with
      | none => rw [hg] at h2; cases h2
      | some gl =>
        rw [hg] at h2
        obtain rfl : gl.type = t := Option.some.inj h2
        simpa [hg] using this
    have hp : ∀ x ∈ p, x.block < W.heap.size := fun x hx => hlt x (by rw [e]; simp [hx])
    have h3' : W'.var? P n = some cs := by
      unfold World.var? at h3 ⊢
      rw [h1] at h3 ⊢
      simp only [Option.bind_some] at h3 ⊢
      have hg : g < W.heap.size := by
        cases hh : W.heap[g]? with
        | none => rw [hh] at h3; cases h3
        | some o => exact (Array.getElem?_eq_some_iff.1 hh).1
      rw [hb.block g hg]; exact h3
    exact ⟨g, t, cs, fuel, p, q, h1, h2, h3', DataW.trod_stays (kids_book hl ht.1) (book_sized ht.1) (fun h => by cases h) ⟨ht.2, book_self t⟩ h4 (fun x hx => Below.same hb (hp x hx)) (fun x hx => hsp x (by rw [e]; simp [hx])),
      trodVars_sp hl hb sp' (by simpa [rowedV] using hv.2) (fun x hx => hsp x (by rw [e]; simp [hx])) hs, e⟩
/-- what the row asks of a law that answered true in a world with more behind it -/
theorem post_of_ext {f : Func} {s : ChangeSpec} {apart fresh handsOn again : Bool} {W W' : World} {args : Array Value} {ds gs : List (DataW H)} {before : List MemPlace} {tb : TypeId}
    (hl : laidOutB P = true) (hpar : ∀ t ∈ f.params.toList, P.readableRec t = true ∧ t < P.types.size) (hvr : rowedV P s.vars = true)
    (hrt : f.resultTypes = #[tb]) (htb : P.underlying tb = some .bool)
    (hW : DataW.Whole enc P f.params.toList s.vars apart W args.toList ds gs before) (hx : Ext W W')
    (hfn : s.fn H (ds ++ gs) = { results := [.lit (.bool true)], args := ds, vars := gs }) :
    s.post enc P f apart fresh handsOn again W args (.bool true) W' := by
  have hW0 := hW
  have hlt : ∀ p ∈ before, p.block < W.heap.size := hW.lt
  obtain ⟨pa, pv, hA, hV, rfl, hz, hn⟩ := hW
  have hlta : ∀ p ∈ pa, p.block < W.heap.size := fun p hp => hlt p (by simp [hp])
  have hltv : ∀ p ∈ pv, p.block < W.heap.size := fun p hp => hlt p (by simp [hp])
  have hr : (Value.bool true).resultList f.resultTypes.size = [Value.bool true] := by rw [hrt]; rfl
  refine ⟨ds, gs, pa ++ pv, [], pa, pv, hW0, ?_, ?_, ?_, Below.frame hx _, fun _ => ?_⟩
  · rw [hfn, hr, hrt]
    exact trodAll_mk1 (shut_bool htb _)
  · rw [hfn]
    exact trodAll_ext hl hx _ hpar hlta (fun p hp => by simpa using hlta p hp) hA
  · rw [hfn]
    exact trodVars_sp hl hx _ hvr (fun p hp => by simpa using hltv p hp) hV
  · refine ⟨?_, (.lit (.bool true)) :: ds, gs, pa ++ pv, ⟨[] ++ pa, pv, ?_, ?_, by simp, ?_, ?_⟩, fun p hp _ => hp⟩
    · rw [hr, hrt]
      exact ok_one (f := { f with resultTypes := #[tb] }) rfl rfl (okWide_bool_mk htb _)
    · rw [hr, hrt]
      exact trodAll_append (trodAll_ext hl hx _ hpar hlta (fun _ _ => rfl) hA) (trodAll_mk1 (shut_bool htb _))
    · exact trodVars_sp hl hx _ hvr (fun _ _ => rfl) hV
    · intro b off hp
      have := hlt _ hp
      rw [Below.frozen hx (p := ⟨b, off, none⟩) this]
      exact hz b off hp
    · exact hn
end
end Go.Proofs.YtfemmmbkhhemaaaGreatDoor.Sx

namespace Go.Proofs.YtfemmmbkhhemaaaGreatDoor.Sx
open Go Go.RowKit Go.ChangeShapes Go.WideShapes
set_option linter.unusedVariables false
set_option linter.unusedSimpArgs false
/-- the cells of a struct's fields, one behind the other -/
def flatF (P : Program) (g : TypeId → Option (List C0)) : Nat → List Field → Option (List C0)
  | _, [] => some []
  | o, f :: r => match Nat.beq f.offset o, g f.type with
    | true, some a => match Nat.beq (P.cellsOf f.type) a.length, flatF P g (o + a.length) r with
      | true, some b => some (a ++ b)
      | _, _ => none
    | _, _ => none
/-- the cells of a type -/
def flatC (P : Program) : Nat → TypeId → Option (List C0)
  | 0, _ => none
  | n + 1, t => match P.underlying t with
    | some .bool => some [.bool]
    | some (.int .i64) => some [.int]
    | some .string => some [.str]
    | some (.slice e) => match P.underlying e, P.cellsOf e with
      | some (.int .i64), 1 => some [.ints]
      | _, _ => none
    | some (.struct fs) => match flatF P (flatC P n) 0 fs.toList with
      | some a => if Nat.beq (P.cellsOf t) a.length then some a else none
      | none => none
    | _ => none
section
variable {H : Type} {enc : TypeId × Value → H} {P : Program} {w : World}
theorem spot_none {a : Addr} {v : Value} (h : w.cell? a = some v) : a = ⟨a.block, a.off, none⟩ := by
  obtain ⟨b, o, spot⟩ := a
  have : spot = none := by simpa using World.cell?_spot h
  subst this; rfl
theorem ints_of_trod {t e : TypeId} {fuel : Nat} {sp : Nat → Bool} {hd : Bool} {cs : List Value} {x : DataW H × List MemPlace} (ht : P.underlying t = some (.slice e)) (he : P.underlying e = some (.int .i64)) (hc : P.cellsOf e = 1)
    (h : DataW.trod enc P w 0 sp hd fuel t cs = some x) : ∃ p n c zs, cs = [.slice p n c] ∧ IntsR w p n c zs ∧ zs.length ≤ 9223372036854775807 := by
  rcases Go.ChangeShapes.open_ints ht he hc h with ⟨rfl, _⟩ | ⟨a, len, cap, zs, rfl, _, hl, hm, hz, _, hcell, _⟩
  · exact ⟨none, 0, 0, [], rfl, ⟨rfl, Nat.le_refl _, by omega, fun h => absurd h (by omega)⟩, by simp⟩
  · have hlz : len ≤ zs.length := by rw [hz]; split <;> omega
    refine ⟨some a, len, cap, zs.take len, rfl, ⟨by simp; omega, hl, by simpa [maxLen] using hm, fun hpos => ?_⟩, by simp only [maxLen] at hm; simp; omega⟩
    have h0 := hcell 0 (by omega)
    have hs := spot_none h0
    have ha : a = ⟨a.block, a.off, none⟩ := by
      obtain ⟨b, o, s⟩ := a
      simp [Addr.add] at hs
      simp [hs]
    refine ⟨a.block, a.off, by rw [← ha], fun j v hj => ?_⟩
    simp only [List.getElem?_map, List.getElem?_take] at hj
    split at hj
    · rename_i hjl
      have hjz : j < zs.length := by omega
      have := hcell j hjz
      rw [ha, addr_add] at this
      rw [this]
      rw [List.getElem?_eq_getElem hjz] at hj
      simp at hj
      rw [← hj]
      simp [hjz]
    · simp at hj
theorem flatF_open {g : TypeId → Option (List C0)} {n : Nat} {sp : Nat → Bool} {hd : Bool}
    (ih : ∀ {t : TypeId} {ks : List C0} {cs : List Value} {x : DataW H × List MemPlace}, g t = some ks → DataW.trod enc P w 0 sp hd n t cs = some x → ∃ ds, Reps w cs ds ∧ ds.map D0.code = ks ∧ ∀ d ∈ ds, d.ok) :
    ∀ (fs : List Field) (o : Nat) (ks : List C0) (cs : List Value), flatF P g o fs = some ks → cs.length = o + ks.length →
      (∀ f ∈ fs, ∃ x, DataW.trod enc P w 0 sp hd n f.type ((cs.drop f.offset).take (P.cellsOf f.type)) = some x) → ∃ ds, Reps w (cs.drop o) ds ∧ ds.map D0.code = ks ∧ ∀ d ∈ ds, d.ok
  | [], o, ks, cs, hf, hl, _ => by
    simp only [flatF, Option.some.injEq] at hf
    subst hf
    rw [List.drop_of_length_le (by simp at hl; omega)]
    exact ⟨[], trivial, rfl, by simp⟩
  | f :: r, o, ks, cs, hf, hl, hx => by
    simp only [flatF] at hf
    split at hf
    · rename_i a h1 h2
      split at hf
      · rename_i b h3 h4
        have h1' := Nat.eq_of_beq_eq_true h1
        have h3' := Nat.eq_of_beq_eq_true h3
        cases hf
        rw [List.length_append] at hl
        obtain ⟨x, hx0⟩ := hx f (by simp)
        obtain ⟨ds, r1, c1, k1⟩ := ih h2 hx0
        obtain ⟨es, r2, c2, k2⟩ := flatF_open ih r (o + a.length) b cs h4 (by omega) (fun f' hf' => hx f' (by simp [hf']))
        refine ⟨ds ++ es, ?_, by simp [c1, c2], fun d hd => ?_⟩
        · rw [h1', h3'] at r1
          have : cs.drop o = (cs.drop o).take a.length ++ cs.drop (o + a.length) := by
            rw [← List.drop_drop, List.take_append_drop]
          rw [this]
          exact r1.append r2
        · rcases List.mem_append.1 hd with h | h
          · exact k1 d h
          · exact k2 d h
      · cases hf
    · cases hf
theorem flat_open {sp : Nat → Bool} {hd : Bool} : ∀ (m : Nat) {fuel : Nat} {t : TypeId} {ks : List C0} {cs : List Value} {x : DataW H × List MemPlace}, flatC P m t = some ks → DataW.trod enc P w 0 sp hd fuel t cs = some x →
    ∃ ds, Reps w cs ds ∧ ds.map D0.code = ks ∧ ∀ d ∈ ds, d.ok
  | 0, _, _, _, _, _, h, _ => by cases h
  | m + 1, fuel, t, ks, cs, x, h, ht => by
    simp only [flatC] at h
    split at h
    · rename_i hu
      obtain ⟨b, rfl, _⟩ := DataW.trod_bool hu ht
      cases h
      exact ⟨[.bool b], ⟨rfl, trivial⟩, rfl, by simp [D0.ok]⟩
    · rename_i hu
      obtain ⟨b, rfl, _, hw⟩ := DataW.trod_int hu ht
      cases h
      refine ⟨[.int b], ⟨rfl, trivial⟩, rfl, ?_⟩
      simp only [List.mem_singleton, forall_eq, D0.ok]
      simp [Lit.wf, IntKind.min, IntKind.max, IntKind.bits, IntKind.signed] at hw
      omega
    · rename_i hu
      obtain ⟨s, rfl, _, hw⟩ := DataW.trod_string hu ht
      cases h
      exact ⟨[.str s], ⟨rfl, trivial⟩, rfl, by simpa [D0.ok, maxLen] using hw⟩
    · rename_i e hu
      split at h
      · rename_i he hc
        cases h
        obtain ⟨p, n, c, zs, rfl, hr, hz⟩ := ints_of_trod hu he hc ht
        exact ⟨[.ints zs], ⟨⟨p, n, c, rfl, hr⟩, trivial⟩, rfl, by simpa [D0.ok] using hz⟩
      · cases h
    · rename_i fs hu
      split at h
      · rename_i a hf
        split at h
        · rename_i hsz
          cases h
          obtain ⟨xs, n, rfl, _, hlen, hxl, hfs⟩ := DataW.trod_struct hu ht
          have hsz' := Nat.eq_of_beq_eq_true hsz
          have := flatF_open (fun h1 h2 => flat_open m h1 h2) fs.toList 0 ks cs hf (by omega) (fun f hf => by
            obtain ⟨i, hi⟩ := List.getElem?_of_mem hf
            have hil : i < fs.size := by simpa using (List.getElem?_eq_some_iff.1 hi).1
            have := hfs i f (by simpa using hi)
            rw [List.getElem?_eq_getElem (by omega)] at this
            exact ⟨_, this⟩)
          simpa using this
        · cases h
      · cases h
    · cases h
end
end Go.Proofs.YtfemmmbkhhemaaaGreatDoor.Sx

namespace Go.Proofs.YtfemmmbkhhemaaaGreatDoor
open Go Go.Proofs.YtfemmmbkhhemaaaGreatDoor.Sx
set_option linter.unusedVariables false
set_option linter.unusedSimpArgs false
def curData {H : Type} (r : CurRow) : DataW H := .agg [.lit (.string r.1.data.toList), .lit (.string r.2.1.data.toList), .lit (.int .i64 r.2.2.1), .lit (.int .i64 r.2.2.2)]
theorem bytes_eq {a b : ByteArray} (h : a.data.toList = b.data.toList) : a = b := by
  obtain ⟨⟨x⟩⟩ := a; obtain ⟨⟨y⟩⟩ := b
  simp at h; subst h; rfl
set_option maxRecDepth 100000 in
theorem cur_cells {H : Type} {enc : TypeId × Value → H} {w : World} {sp : Nat → Bool} {hd : Bool} {fuel : Nat} {cs : List Value} {r : CurRow} {p : List MemPlace}
    (h : DataW.trod enc P w 0 sp hd fuel T_impl_currency cs = some (curData r, p)) : cs = curCells r := by
  obtain ⟨fs, hu, hsz, ⟨f0, e0, t0, o0⟩, ⟨f1, e1, t1, o1⟩, ⟨f2, e2, t2, o2⟩, ⟨f3, e3, t3, o3⟩⟩ := cur_fields
  have hu : P.underlying T_impl_currency = some (.struct fs) := hu
  have hs : P.underlying T_string = some .string := by kernel_rfl
  have hi : P.underlying T_int = some (.int .i64) := by kernel_rfl
  have cS : P.cellsOf T_string = 1 := by kernel_rfl
  have cI : P.cellsOf T_int = 1 := by kernel_rfl
  have cC : P.cellsOf T_impl_currency = 4 := by kernel_rfl
  obtain ⟨xs, n, rfl, hx, hlen, hxl, hf⟩ := DataW.trod_struct hu h
  rw [cC] at hlen
  rw [hsz] at hxl
  have h0 := hf 0 f0 e0; have h1 := hf 1 f1 e1; have h2 := hf 2 f2 e2; have h3 := hf 3 f3 e3
  rw [t0, o0, cS] at h0; rw [t1, o1, cS] at h1; rw [t2, o2, cI] at h2; rw [t3, o3, cI] at h3
  match cs, hlen, xs, hxl, hx, h0, h1, h2, h3 with
  | [c0, c1, c2, c3], _, [x0, x1, x2, x3], _, hx, h0, h1, h2, h3 =>
    simp only [List.drop_succ_cons, List.drop_zero, List.take_succ_cons, List.take_zero, List.getElem?_cons_zero, List.getElem?_cons_succ] at h0 h1 h2 h3
    obtain ⟨s0, a0, b0, _⟩ := DataW.trod_string hs h0
    obtain ⟨s1, a1, b1, _⟩ := DataW.trod_string hs h1
    obtain ⟨z2, a2, b2, _⟩ := DataW.trod_int hi h2
    obtain ⟨z3, a3, b3, _⟩ := DataW.trod_int hi h3
    simp only [Prod.mk.injEq, curData, DataW.agg.injEq, List.map_cons, List.map_nil, List.cons.injEq, b0, b1, b2, b3, DataW.lit.injEq, Lit.string.injEq, Lit.int.injEq, true_and, and_true] at hx
    simp only [List.cons.injEq, and_true] at a0 a1 a2 a3
    obtain ⟨⟨q0, q1, q2, q3⟩, _⟩ := hx
    rw [a0, a1, a2, a3, ← bytes_eq q0, ← bytes_eq q1, ← q2, ← q3]
    rfl
theorem flat_of_rows : ∀ (l : List CurRow) (cs : List Value), cs.length = l.length * 4 → (∀ i (hi : i < l.length), (cs.drop (i * 4)).take 4 = curCells (l[i]'hi)) → cs = l.flatMap curCells
  | [], cs, h, _ => by simpa using h
  | r :: l, cs, h, hr => by
    have h0 := hr 0 (by simp)
    simp only [Nat.zero_mul, List.drop_zero, List.getElem_cons_zero] at h0
    rw [List.flatMap_cons, ← h0, ← flat_of_rows l (cs.drop 4) (by simp at h ⊢; omega) (fun i hi => by
      have := hr (i + 1) (by simpa using hi)
      rw [List.drop_drop, show 4 + i * 4 = (i + 1) * 4 by omega]
      simpa using this), List.take_append_drop]
def curVar : String := "loop.example/g00793/impl.currencies"
set_option maxRecDepth 100000 in
theorem tab_of_head {W : World} {rest : List (String × DataW Unit)} (h : laidMet P ((curVar, Rows.laid_loop_example_g00793_impl_currencies) :: rest) W) : Tab W := by
  obtain ⟨ps, ⟨g, t, cs, fuel, p, q, hg, ht, hvar, hd, _, _⟩, _⟩ := h
  have hg0 : P.globalNamed curVar = some 0 := by kernel_rfl
  have ht0 : (P.globals[0]?).map (·.type) = some T_20_impl_currency := by kernel_rfl
  obtain rfl := Option.some.inj (hg0.symm.trans hg)
  obtain rfl := Option.some.inj (ht0.symm.trans ht)
  have hu : P.underlying T_20_impl_currency = some (.array 20 T_impl_currency) := und_T_20_impl_currency
  have cC : P.cellsOf T_impl_currency = 4 := by kernel_rfl
  have cA : P.cellsOf T_20_impl_currency = 80 := by kernel_rfl
  obtain ⟨xs, m, rfl, hx, hlen, hxl, hf⟩ := DataW.trod_array hu hd
  rw [cA] at hlen
  have hdat : (Rows.laid_loop_example_g00793_impl_currencies : DataW Unit) = .agg (implTab.map curData) := by rfl
  rw [hdat] at hx
  simp only [Prod.mk.injEq, DataW.agg.injEq] at hx
  have hl := impl_length
  have hcs : cs.toList = implTab.flatMap curCells := by
    refine flat_of_rows implTab _ (by omega) fun i hi => ?_
    have h1 := hf i (by omega)
    rw [cC] at h1
    have h2 : (xs.map (·.1))[i]? = some (curData (implTab[i]'hi)) := by rw [← hx.1]; simp [hi]
    rw [List.getElem?_map] at h2
    cases h3 : xs[i]? with
    | none => rw [h3] at h2; cases h2
    | some x =>
      rw [h3] at h1 h2
      simp only [Option.map_some, Option.some.injEq] at h2
      obtain ⟨d, pp⟩ := x
      simp only at h2
      subst h2
      exact cur_cells h1
  intro i v hv
  have := World.var?_cell hg0 hvar i
  rw [Nat.zero_add, this, ← hv, ← hcs]
  simp
theorem tab_of_laid {W : World} (h : laidMetH P [(curVar, Rows.laid_loop_example_g00793_impl_currencies)] W) : Tab W := tab_of_head (rest := []) h
/-- a world for the witness: the settled one, the table laid in its variable -/
noncomputable def laidWorld (os : Os) (args : Array Value) : World :=
  { World.holding P os ⟨#[], args, []⟩ with heap := (World.holding P os ⟨#[], args, []⟩).heap.modify 0 fun
      | .cells _ t frozen => .cells ⟨implTab.flatMap curCells⟩ t frozen
      | o => o }
theorem trodVars_one {H : Type} {enc : TypeId × Value → H} {w : World} {sp : Nat → Bool} {n : String} {gs : List (DataW H)} {ps : List MemPlace} (h : DataW.TrodVars enc P w sp [n] gs ps) : ∃ g, gs = [g] := by
  match gs, h with
  | [g], _ => exact ⟨g, rfl⟩
  | g :: g2 :: r, h =>
    obtain ⟨_, _, _, _, _, _, _, _, _, _, h2, _⟩ := h
    exact h2.elim
end Go.Proofs.YtfemmmbkhhemaaaGreatDoor
