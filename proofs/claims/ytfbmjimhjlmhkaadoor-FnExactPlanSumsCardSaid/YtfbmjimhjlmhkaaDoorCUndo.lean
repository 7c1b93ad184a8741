/-
  Contracts: legs undone.
-/
import Derived.Test.YtfbmjimhjlmhkaaDoorCLegsOk
import Derived.Test.YtfbmjimhjlmhkaaDoorCBookSum
import Derived.Test.YtfbmjimhjlmhkaaDoorSxPush
namespace Go.Proofs.YtfbmjimhjlmhkaaDoor
open Go Go.Proofs.YtfbmjimhjlmhkaaDoor.Sx
set_option linter.unusedVariables false
set_option linter.unusedSimpArgs false

def zeroMoney : List D0 := [.str ByteArray.empty, .bool false, .ints []]
def moneyMk (cur : ByteArray) (z : Int) : List D0 := if moneyOk (.str cur :: enc z) then .str cur :: enc z else zeroMoney
theorem moneyMk_code (cur : ByteArray) (z : Int) : (moneyMk cur z).map D0.code = [.str, .bool, .ints] := by unfold moneyMk; split <;> rfl

/-- an amount made: it holds the very integer that it is made of -/
theorem spec_l09Make_c {w : World} {B : Nat} {xs : List Value} {z : Int} {f : List Nat} (cur : ByteArray) (h : Owns w B xs (enc z) f) (hnd : f.Nodup) (hB : B ≤ w.heap.size) :
    Ret P n_spec_l09Make [.string cur, .agg ⟨xs⟩] w fun v w' => ∃ vs f', v = .tuple #[.agg ⟨vs⟩, .bool (moneyOk (.str cur :: enc z))] ∧ Owns w' B vs (moneyMk cur z) f' ∧ f'.Nodup ∧ Ext w w' := by
  have ho := h
  obtain ⟨a0, a1p, a1n, a1c, a1z, rfl, hd, ha⟩ := open_Signed h.reps (enc_code _)
  refine spec_l09Make_ret ?_
  unfold spec_l09Make
  intro r w1 hn1 r1 w2 hn2
  refine ⟨_, _, _, _, (hn1.blk.ext hn2.ext).loadA0 (by kernel_rfl), ?_⟩
  intro r2 w3 hn3
  have e1 := hn1.r_eq; have e2 := hn2.r_eq; have e3 := hn3.r_eq; have s1 := hn1.size; have s2 := hn2.size; have s3 := hn3.size
  obtain ⟨w4, st4, hb4, y4⟩ := hn3.fill (P := P) (t := T_impl_Money) (xs := [.string cur, .bool a0, .slice a1p a1n a1c]) (by simp [Value.oneCell']) (by kernel_rfl) rfl
  have X := (hn1.ext.trans hn2.ext).trans y4
  have k1 := hn2.blk.ext y4
  refine ⟨w4, st4, _, _, _, _, _, hb4.loadA0 (by kernel_rfl), ?_⟩
  have hm : Reps w4 [.string cur, .bool a0, .slice a1p a1n a1c] (.str cur :: enc z) := ⟨rfl, h.reps.ext X⟩
  refine Ret.at (spec_MoneyOk_c hm rfl) ?_
  rintro v w5 ⟨hv, y5⟩
  subst hv
  have X5 := X.trans y5
  refine ⟨_, rfl, ifN (fun hno => ?_) (fun hyes => ?_)⟩
  · obtain ⟨w6, st6, hb6, ch, sz⟩ := (k1.ext y5).storeA0 (P := P) (t := T_impl_Money) (xs := [.string ByteArray.empty, .bool false, .slice none 0 0]) (by kernel_rfl) rfl (by simp [Value.oneCell'])
    refine ⟨w6, st6, _, _, _, _, _, hb6.loadA0 (by kernel_rfl), [.string ByteArray.empty, .bool false, .slice none 0 0], [], by rw [hno], ?_, List.nodup_nil, X5.chg ch (by simp; omega)⟩
    unfold moneyMk
    rw [hno]
    exact Owns.append (Owns.str _ _ _) (Owns.append (Owns.bool _ _ false) (Owns.ints (zs := []) (Own.nil w6 B T_int 1)))
  · obtain ⟨w6, st6, hb6, ch, sz⟩ := (k1.ext y5).storeA0 (P := P) (t := T_impl_Money) (xs := [.string cur, .bool a0, .slice a1p a1n a1c]) (by kernel_rfl) rfl (by simp [Value.oneCell'])
    refine ⟨_, _, _, _, _, (hb4.ext y5).loadA0 (by kernel_rfl), w6, st6, _, _, _, _, _, hb6.loadA0 (by kernel_rfl), [.string cur, .bool a0, .slice a1p a1n a1c], f, by rw [hyes], ?_, hnd, X5.chg ch (by simp; omega)⟩
    unfold moneyMk
    rw [hyes]
    have h5 := ((ho.ext X5).chg ch fun k hk hm => by
      have := (ho.lt k hk).2
      simp at hm; omega)
    exact Owns.append (Owns.str _ _ cur) h5

theorem spec_IntNeg_c {w : World} {xs : List Value} {z : Int} (h : Reps w xs (enc z)) (hok : intOk (enc z) = true) :
    Ret P n_spec_IntNeg [.agg ⟨xs⟩] w fun v w' => ∃ vs' f, v = .agg ⟨vs'⟩ ∧ Owns w' w.heap.size vs' (enc (-z)) f ∧ f.Nodup ∧ Ext w w' := by
  have hr := h
  obtain ⟨a0, a1p, a1n, a1c, a1z, rfl, hd, ha⟩ := open_Signed h (enc_code _)
  simp only [enc, List.cons.injEq, D0.bool.injEq, D0.ints.injEq, and_true] at hd
  obtain ⟨rfl, rfl⟩ := hd
  have hlen : (digs z.natAbs).length ≤ 50 := by
    obtain ⟨_, _, _, h1, hc, hl⟩ := intOk_enc hok
    simp only [enc, List.cons.injEq, D0.bool.injEq, D0.ints.injEq, and_true] at h1
    rw [h1.2]; exact hl
  refine spec_IntNeg_ret ?_
  unfold spec_IntNeg
  intro r w1 hn1 r1 w2 hn2
  have X := hn1.ext.trans hn2.ext
  have e1 := hn1.r_eq; have e2 := hn2.r_eq; have s1 := hn1.size; have s2 := hn2.size
  refine ⟨_, _, _, _, (hn1.blk.ext hn2.ext).loadA0 (by kernel_rfl), ?_⟩
  refine Ret.at (spec_IntOk_c (hr.ext X) rfl) ?_
  rintro v w3 ⟨hv, y3⟩
  subst hv
  refine ⟨_, rfl, ifN (fun hno => absurd (hno.symm.trans hok) (by simp)) (fun _ => ?_)⟩
  have k0 := (hn1.blk.ext hn2.ext).ext y3
  refine ⟨_, k0.loadAt 0 rfl (by kernel_rfl) rfl, _, _, _, k0.loadAt 1 rfl (by kernel_rfl) rfl, ?_⟩
  refine Ret.at (spec_l04Make_c (ha.ext (X.trans y3)) (digs_limbs _)) ?_
  rintro v w4 ⟨b, q, qn, qc, hv, hbb, ho, y4⟩
  subst hv
  have l3 := y3.le
  obtain ⟨w5, st, hb5, ch, sz⟩ := ((hn2.blk.ext y3).ext y4).storeA0 (P := P) (t := T_impl_Signed) (xs := [.bool b, .slice q qn qc]) (by kernel_rfl) rfl (by simp [Value.oneCell'])
  have ow := Owns.int2 (b := b) ho
  rw [hbb, val_digs, show (((z.natAbs : Nat) : Int)).toNat = z.natAbs from rfl] at ow
  have e : mkS (!decide (z < 0)) (capL (digs z.natAbs)) = enc (-z) := by
    rw [← icap_fit (z := -z) (by rw [Int.natAbs_neg]; exact hlen)]
    refine mkS_digs (by rw [Int.natAbs_neg]) fun h0 => ?_
    by_cases h1 : z < 0
    · simp [h1]; omega
    · simp [h1]; omega
  have ow2 : Owns w4 w3.heap.size [.bool b, .slice q qn qc] (enc (-z)) (q.map (·.block)).toList := by
    rw [← e, hbb, val_digs, show (((z.natAbs : Nat) : Int)).toNat = z.natAbs from rfl]; exact ow
  exact ⟨_, _, _, _, rfl, w5, st, _, _, _, _, hb5.loadA0 (by kernel_rfl), _, _, rfl, (ow2.chg1 ch (by omega)).mono (by omega), nodup_opt q, ((X.trans y3).trans y4).chg ch (by simp; omega)⟩

theorem neg_ok {c : ByteArray} {b : Bool} {z : List Int} (h : moneyOk [.str c, .bool b, .ints z] = true) : moneyOk (.str c :: enc (-(ival [.bool b, .ints z]))) = true ∧ moneyMk c (-(ival [.bool b, .ints z])) = .str c :: enc (-(ival [.bool b, .ints z])) := by
  have hi := moneyOk_int h
  have he := (intOk_enc hi).1
  have hlen : z = digs (ival [.bool b, .ints z]).natAbs := by
    have := he
    simp only [enc, List.cons.injEq, D0.bool.injEq, D0.ints.injEq, and_true] at this
    exact this.2
  have hb := money_bound h
  simp only [moneyOk, Bool.and_eq_true, decide_eq_true_eq] at h
  have hio : intOk (enc (-(ival [.bool b, .ints z]))) = true := enc_small (by rw [Int.natAbs_neg]; omega)
  have h1 : moneyOk (.str c :: enc (-(ival [.bool b, .ints z]))) = true := by
    unfold enc at hio
    simp only [moneyOk, enc, Bool.and_eq_true, decide_eq_true_eq, Int.natAbs_neg] at hio ⊢
    refine ⟨⟨h.1.1, hio⟩, ?_⟩
    rw [← hlen]; exact h.2
  exact ⟨h1, by unfold moneyMk; rw [if_pos h1]⟩

theorem spec_MoneyNeg_c {w : World} {xs : List Value} {c : ByteArray} {b : Bool} {z : List Int} (h : Reps w xs [.str c, .bool b, .ints z]) (hok : moneyOk [.str c, .bool b, .ints z] = true) :
    Ret P n_spec_MoneyNeg [.agg ⟨xs⟩] w fun v w' => ∃ vs f, v = .tuple #[.agg ⟨vs⟩, .bool true] ∧ Owns w' w.heap.size vs (.str c :: enc (-(ival [.bool b, .ints z]))) f ∧ f.Nodup ∧ Ext w w' := by
  have hr := h
  obtain ⟨t0, a0, a1p, a1n, a1c, a1z, rfl, hd, ha⟩ := open_Money h rfl
  cases hd
  obtain ⟨g1, g2⟩ := neg_ok hok
  have henc := (intOk_enc (moneyOk_int hok)).1
  refine spec_MoneyNeg_ret ?_
  unfold spec_MoneyNeg
  intro r w1 hn1 r1 w2 hn2
  have X := hn1.ext.trans hn2.ext
  have e1 := hn1.r_eq; have e2 := hn2.r_eq; have s1 := hn1.size; have s2 := hn2.size
  refine ⟨_, _, _, _, _, (hn1.blk.ext hn2.ext).loadA0 (by kernel_rfl), ?_⟩
  refine Ret.at (spec_MoneyOk_c (hr.ext X) rfl) ?_
  rintro v w3 ⟨hv, y3⟩
  subst hv
  refine ⟨_, rfl, ifN (fun hno => absurd (hno.symm.trans hok) (by simp)) (fun _ => ?_)⟩
  have D := Ext.drew w3
  have k0 := (hn1.blk.ext hn2.ext).ext y3
  have k1 := hn2.blk.ext y3
  have X3 := (X.trans y3).trans D
  have l3 := y3.le; have lD := D.le
  refine ⟨_, fun W hW => (k0.ext (D.trans hW)).loadAt 0 rfl (by kernel_rfl) rfl, _, _, _, _, fun W hW => (k0.ext (D.trans hW)).loadAAt 1 [.bool b, .slice a1p a1n a1c] rfl (by kernel_rfl) rfl, ?_⟩
  have hs : Reps w3.drew [.bool b, .slice a1p a1n a1c] (enc (ival [.bool b, .ints z])) := by
    rw [← henc]
    exact ⟨rfl, ⟨_, _, _, rfl, ha.ext X3⟩, trivial⟩
  refine Ret.at (spec_IntNeg_c hs (by rw [← henc]; exact moneyOk_int hok)) ?_
  rintro v w4 ⟨vs, f, hv, ho, hnd, y4⟩
  subst hv
  have ho' := ho
  obtain ⟨b0, bp, bn, bc, bz, rfl, hq, hbr⟩ := open_Signed ho.reps (enc_code _)
  refine ⟨_, _, _, _, rfl, y4, ?_⟩
  have l4 := y4.le
  refine Ret.at (spec_l09Make_c c ho' hnd (by omega)) ?_
  rintro v w5 ⟨vs5, f5, hv, ho5, hnd5, y5⟩
  subst hv
  rw [g2] at ho5
  rw [g1]
  have ho5' := ho5
  obtain ⟨d0, d1, dp, dn, dc, dz, rfl, hq2, hbr2⟩ := open_Money ho5.reps rfl
  obtain ⟨w6, st6, hb6, ch, sz⟩ := (((k1.ext D).ext y4).ext y5).storeA0 (P := P) (t := T_impl_Money) (xs := [.string d0, .bool d1, .slice dp dn dc]) (by kernel_rfl) rfl (by simp [Value.oneCell'])
  exact ⟨_, _, _, _, _, _, rfl, w6, st6, _, _, _, _, _, hb6.loadA0 (by kernel_rfl), _, _, rfl, (ho5'.chg1 ch (by omega)).mono (by omega), hnd5, ((X3.trans y4).trans y5).chg ch (by simp; omega)⟩

def legNeg : List D0 → List D0
  | [.str a, .str c, .bool b, .ints z] => [.str a, .str c] ++ enc (-(ival [.bool b, .ints z]))
  | x => x
def undo (l : List (List D0)) : List (List D0) := if legsOk l then l.reverse.map legNeg else []
theorem legsOk_spec {l : List (List D0)} (h : legsOk l = true) : l.length ≤ 8 ∧ ∀ i (hi : i < l.length), legOk (l[i]'hi) = true := by
  unfold legsOk at h
  simp only [Bool.and_eq_true, decide_eq_true_eq, List.all_eq_true] at h
  exact ⟨h.1.2, fun i hi => h.2 _ (List.getElem_mem hi)⟩
theorem legNeg_code {x : List D0} (h : x.map D0.code = [.str, .str, .bool, .ints]) : (legNeg x).map D0.code = [.str, .str, .bool, .ints] := by
  unfold legNeg
  split
  · rfl
  · exact h
theorem undo_code {l : List (List D0)} (hc : ∀ x ∈ l, x.map D0.code = [.str, .str, .bool, .ints]) : ∀ x ∈ undo l, x.map D0.code = [.str, .str, .bool, .ints] := by
  unfold undo
  split
  · intro x hx
    obtain ⟨y, hy, rfl⟩ := List.mem_map.1 hx
    exact legNeg_code (hc y (by simpa using hy))
  · simp
theorem legNeg_cnt {x : List D0} (hc : x.map D0.code = [.str, .str, .bool, .ints]) (h : legOk x = true) : cnts (legNeg x) ≤ 1000 := by
  obtain ⟨a, es, rfl, h1⟩ := code_str hc
  obtain ⟨c, es, rfl, h2⟩ := code_str h1
  obtain ⟨b, es, rfl, h3⟩ := code_bool h2
  obtain ⟨z, es, rfl, h4⟩ := code_ints h3
  have := code_nil h4; subst this
  simp only [legOk, Bool.and_eq_true] at h
  have hb := money_bound h.2
  have := digs_len_le (n := (-(ival [.bool b, .ints z])).natAbs) (by rw [Int.natAbs_neg]; omega)
  simp only [legNeg, enc, List.cons_append, List.nil_append, cnts, D0.cnt]
  omega
theorem cntL_max {M : Int} (hM : 0 ≤ M) : ∀ (l : List (List D0)), (∀ x ∈ l, cnts x ≤ M) → cntL l ≤ (l.length : Nat) * M
  | [], _ => by simp [cntL]
  | x :: l, h => by
    have h1 := h x (.head _); have h2 := cntL_max hM l fun y hy => h y (.tail _ hy)
    simp only [cntL, List.length_cons, Int.natCast_add, Int.natCast_one, Int.add_mul, Int.one_mul]
    omega
theorem undo_cnt {l : List (List D0)} (hc : ∀ x ∈ l, x.map D0.code = [.str, .str, .bool, .ints]) : cntL (undo l) ≤ 1000000000 := by
  unfold undo
  split
  · rename_i h
    obtain ⟨h1, h2⟩ := legsOk_spec h
    have := cntL_max (M := 1000) (by omega) (l.reverse.map legNeg) fun x hx => by
      obtain ⟨y, hy, rfl⟩ := List.mem_map.1 hx
      have hy : y ∈ l := by simpa using hy
      obtain ⟨i, hi, rfl⟩ := List.getElem_of_mem hy
      exact legNeg_cnt (hc _ hy) (h2 i hi)
    simp only [List.length_map, List.length_reverse] at this
    have h3 : ((l.length : Nat) : Int) * 1000 ≤ 8 * 1000 := by omega
    omega
  · simp [cntL]
theorem rev_take {l : List (List D0)} {j : Nat} (hj : j < l.length) : (l.reverse.take (j + 1)).map legNeg = (l.reverse.take j).map legNeg ++ [legNeg (l[l.length - 1 - j]'(by omega))] := by
  have h : l.reverse[j]? = some (l[l.length - 1 - j]'(by omega)) := by
    rw [List.getElem?_reverse hj, List.getElem?_eq_getElem (by omega)]
  rw [take_snoc h, List.map_append]; rfl
theorem sliceT_leg : sliceT P T_s_impl_Leg T_impl_Leg (.agg ⟨[.string ByteArray.empty, .string ByteArray.empty, .bool false, .slice none 0 0]⟩) 4 64 := ⟨by kernel_rfl, by kernel_rfl, rfl, by decide⟩

theorem spec_Undo_o {w : World} {p : Option Addr} {n c : Nat} {l : List (List D0)} (h : RowsR w 4 p n c l) (hc : ∀ x ∈ l, x.map D0.code = [.str, .str, .bool, .ints]) (hn : n ≤ 1048576) (hb : ∀ x ∈ l, bulks x ≤ 1048576) :
    Ret P n_spec_Undo [.slice p n c] w fun v w' => ∃ p' n' c' f, v = .tuple #[.slice p' n' c', .bool (legsOk l)] ∧ OwnRows w' w.heap.size T_impl_Leg 4 p' n' c' (undo l) f ∧ (∀ x ∈ undo l, x.map D0.code = [.str, .str, .bool, .ints]) ∧ cntL (undo l) ≤ 1000000000 ∧ Ext w w' := by
  have hz := h.1; have hcap := h.2.1; have hcm := h.2.2.1
  refine spec_Undo_ret ?_
  unfold spec_Undo
  refine Ret.at (spec_LegsOk_c h hc hn hb) ?_
  rintro v w1 ⟨hv, y1⟩
  subst hv
  refine ⟨_, rfl, ifN (fun hno => ?_) (fun hok => ?_)⟩
  · refine ⟨none, 0, 0, [], by rw [hno], ?_, undo_code hc, undo_cnt hc, y1⟩
    unfold undo
    rw [hno]
    exact ⟨rfl, [], [], trivial, Own.nil _ _ _ _, rfl, List.nodup_nil⟩
  obtain ⟨h8, hlegs⟩ := legsOk_spec hok
  have l1 := y1.le
  intro r w2 hn2
  have e2 := hn2.r_eq; have s2 := hn2.size
  refine exW ⟨by omega, by omega⟩ ⟨fun op on oc i wr => ∃ (j : Nat) (f : List Nat), i = n - 1 - j ∧ j ≤ n ∧ on = j ∧ Ext w1 wr ∧ OwnRows wr w1.heap.size T_impl_Leg 4 op on oc ((l.reverse.take j).map legNeg) f, fun _ _ _ i _ => (i + 1).toNat, ⟨0, [r], by omega, by omega, rfl, hn2.ext, by rw [List.take_zero]; exact OwnRows.fresh hn2 (Nat.le_refl _)⟩, ?_⟩
  intro junk wr op on oc i ⟨j, f, hi, hj, hon, hx, how⟩
  subst hon
  have lx := hx.le
  refine ifD (fun hlt => ?_) (fun hge => ?_)
  · have hjl : on < l.length := by omega
    have hil : l.length - 1 - on < l.length := by omega
    obtain ⟨b, off, hpp, hs⟩ := ((h.ext y1).ext hx).2.2.2 (by omega)
    subst hpp
    obtain ⟨cs, hk, hr, hsg⟩ := hs (l.length - 1 - on) _ (List.getElem?_eq_getElem hil)
    have hcode := hc _ (List.getElem_mem hil)
    have hleg := hlegs _ hil
    obtain ⟨a0, a1, a2, a3p, a3n, a3c, a3z, rfl, hd, ha⟩ := open_Leg hr hcode
    have hsnoc := rev_take (l := l) hjl
    rw [hd] at hleg hsnoc
    have hmok : moneyOk [.str a1, .bool a2, .ints a3z] = true := by
      simp only [legOk, Bool.and_eq_true] at hleg
      exact hleg.2
    have henc := (intOk_enc (moneyOk_int hmok)).1
    have hbd := money_bound hmok
    have hi2 : i.toNat = l.length - 1 - on := by omega
    have AD : ∀ _k : Nat, (⟨b, off, none⟩ : Addr).add (i.toNat * 4) = ⟨b, off + (l.length - 1 - on) * 4, none⟩ := fun _ => by rw [addr_add, hi2]
    refine ⟨⟨by omega, by omega⟩, _, _, _, _, _, (by rw [AD 0, addr_add]; exact hsg.loadAAt 1 [.string a1, .bool a2, .slice a3p a3n a3c] rfl (by kernel_rfl) rfl), ?_⟩
    have hm : Reps wr [.string a1, .bool a2, .slice a3p a3n a3c] [.str a1, .bool a2, .ints a3z] := ⟨rfl, rfl, ⟨_, _, _, rfl, ha⟩, trivial⟩
    refine Ret.at (spec_MoneyNeg_c hm hmok) ?_
    rintro v w3 ⟨vs, fx, hv, ho, hnd, y3⟩
    subst hv
    have ho' := ho
    obtain ⟨d0, d1, dp, dn, dc, dz, rfl, hq, hbr⟩ := open_Money ho.reps rfl
    refine ⟨_, _, _, _, _, _, rfl, ?_⟩
    intro r4 w4 hn4
    obtain ⟨w5, st5, hb5, y5⟩ := hn4.fill (P := P) (t := T_impl_Money) (xs := [.string d0, .bool d1, .slice dp dn dc]) (by simp [Value.oneCell']) (by kernel_rfl) rfl
    have D := Ext.drew w5
    have Y := (y3.trans y5).trans D
    refine ⟨w5, st5, ⟨by omega, by omega⟩, _, fun W hW => (by rw [AD 0, addr_add]; exact ((hsg.ext Y).ext hW).loadAt 0 rfl (by kernel_rfl) rfl), _, _, _, _, _, fun W hW => (hb5.ext (D.trans hW)).loadA0 (by kernel_rfl), ?_⟩
    intro r6 w6 hn6
    have Y6 := Y.trans hn6.ext
    have l6 := Y6.le; have l3 := y3.le
    have ho6 := (Owns.append (Owns.str _ _ a0) ((ho'.ext (y5.trans D)).ext hn6.ext))
    obtain ⟨p7, c7, w7, fn, hap, hpush, hch, hxx⟩ := (how.ext Y6).push (P := P) sliceT_leg (by omega) hn6.blk rfl (ho6.mono (by omega)) hnd (fun q hq hm => by
      have h1 := (ho'.lt q hq).1
      have h2 := (how.lt q hm).2
      omega) (by omega) (by omega)
    have hxn := hxx w1 (hx.trans Y6) (Nat.le_refl _)
    refine ⟨_, _, _, _, hap, exW ⟨by omega, by omega⟩ ⟨⟨on + 1, fn, by omega, by omega, rfl, hxn, by rw [hsnoc]; exact hpush⟩, ?_⟩⟩
    show (i - 1 + 1).toNat < (i + 1).toNat
    omega
  · have hjn : on = l.length := by omega
    rw [hjn, List.take_of_length_le (by simp)] at how
    refine ⟨op, _, oc, f, by rw [hok], ?_, undo_code hc, undo_cnt hc, y1.trans hx⟩
    unfold undo
    rw [if_pos hok]
    rw [← hjn] at how
    exact how.mono (by omega)

theorem spec_Undo_c {w : World} {p : Option Addr} {n c : Nat} {l : List (List D0)} (h : RowsR w 4 p n c l) (hc : ∀ x ∈ l, x.map D0.code = [.str, .str, .bool, .ints]) (hn : n ≤ 1048576) (hb : ∀ x ∈ l, bulks x ≤ 1048576) :
    Ret P n_spec_Undo [.slice p n c] w fun v w' => ∃ p' n' c', v = .tuple #[.slice p' n' c', .bool (legsOk l)] ∧ RowsR w' 4 p' n' c' (undo l) ∧ (∀ x ∈ undo l, x.map D0.code = [.str, .str, .bool, .ints]) ∧ Ext w w' :=
  (spec_Undo_o h hc hn hb).mono fun v w' ⟨p', n', c', f, hv, ho, hcd, _, hx⟩ => ⟨p', n', c', hv, ho.rows, hcd, hx⟩

theorem impl_Undo_c {w : World} {p : Option Addr} {n c : Nat} {l : List (List D0)} (h : RowsR w 4 p n c l) (hc : ∀ x ∈ l, x.map D0.code = [.str, .str, .bool, .ints]) (hn : n ≤ 1048576) (hb : ∀ x ∈ l, bulks x ≤ 1048576) (ht : Tab w) :
    Ret P n_impl_Undo [.slice p n c] w fun v w' => ∃ p' n' c' f, v = .tuple #[.slice p' n' c', .bool (legsOk l)] ∧ OwnRows w' w.heap.size T_impl_Leg 4 p' n' c' (undo l) f ∧ (∀ x ∈ undo l, x.map D0.code = [.str, .str, .bool, .ints]) ∧ cntL (undo l) ≤ 1000000000 ∧ Ext w w' := by
  have hz := h.1; have hcap := h.2.1; have hcm := h.2.2.1
  refine impl_Undo_ret ?_
  unfold impl_Undo
  refine Ret.at (impl_LegsOk_c h hc hn hb ht) ?_
  rintro v w1 ⟨hv, y1⟩
  subst hv
  refine ⟨_, rfl, ifN (fun hno => ?_) (fun hok => ?_)⟩
  · refine ⟨none, 0, 0, [], by rw [hno], ?_, undo_code hc, undo_cnt hc, y1⟩
    unfold undo
    rw [hno]
    exact ⟨rfl, [], [], trivial, Own.nil _ _ _ _, rfl, List.nodup_nil⟩
  obtain ⟨h8, hlegs⟩ := legsOk_spec hok
  have l1 := y1.le
  intro r w2 hn2
  have e2 := hn2.r_eq; have s2 := hn2.size
  refine exW ⟨by omega, by omega⟩ ⟨fun op on oc i wr => ∃ (j : Nat) (f : List Nat), i = n - 1 - j ∧ j ≤ n ∧ on = j ∧ Ext w1 wr ∧ OwnRows wr w1.heap.size T_impl_Leg 4 op on oc ((l.reverse.take j).map legNeg) f, fun _ _ _ i _ => (i + 1).toNat, ⟨0, [r], by omega, by omega, rfl, hn2.ext, by rw [List.take_zero]; exact OwnRows.fresh hn2 (Nat.le_refl _)⟩, ?_⟩
  intro junk wr op on oc i ⟨j, f, hi, hj, hon, hx, how⟩
  subst hon
  have lx := hx.le
  refine ifD (fun hlt => ?_) (fun hge => ?_)
  · have hjl : on < l.length := by omega
    have hil : l.length - 1 - on < l.length := by omega
    obtain ⟨b, off, hpp, hs⟩ := ((h.ext y1).ext hx).2.2.2 (by omega)
    subst hpp
    obtain ⟨cs, hk, hr, hsg⟩ := hs (l.length - 1 - on) _ (List.getElem?_eq_getElem hil)
    have hcode := hc _ (List.getElem_mem hil)
    have hleg := hlegs _ hil
    obtain ⟨a0, a1, a2, a3p, a3n, a3c, a3z, rfl, hd, ha⟩ := open_Leg hr hcode
    have hsnoc := rev_take (l := l) hjl
    rw [hd] at hleg hsnoc
    have hmok : moneyOk [.str a1, .bool a2, .ints a3z] = true := by
      simp only [legOk, Bool.and_eq_true] at hleg
      exact hleg.2
    have henc := (intOk_enc (moneyOk_int hmok)).1
    have hbd := money_bound hmok
    have hi2 : i.toNat = l.length - 1 - on := by omega
    have AD : ∀ _k : Nat, (⟨b, off, none⟩ : Addr).add (i.toNat * 4) = ⟨b, off + (l.length - 1 - on) * 4, none⟩ := fun _ => by rw [addr_add, hi2]
    refine ⟨⟨by omega, by omega⟩, _, fun W hW => (by rw [AD 0, addr_add]; exact (hsg.ext ((Ext.drew wr).trans hW)).loadAt 0 rfl (by kernel_rfl) rfl), ⟨by omega, by omega⟩, _, fun W hW => (by rw [AD 0, addr_add, addr_add]; exact (hsg.ext ((Ext.drew wr).trans hW)).loadAt 1 rfl (by kernel_rfl) rfl), ⟨by omega, by omega⟩, _, _, _, _, fun W hW => (by rw [AD 0, addr_add, addr_add]; exact (hsg.ext ((Ext.drew wr).trans hW)).loadAAt 2 [.bool a2, .slice a3p a3n a3c] rfl (by kernel_rfl) rfl), ?_⟩
    have D := Ext.drew wr
    have hs : Reps wr.drew [.bool a2, .slice a3p a3n a3c] (enc (ival [.bool a2, .ints a3z])) := by
      rw [← henc]
      exact ⟨rfl, ⟨_, _, _, rfl, ha.ext D⟩, trivial⟩
    have dl : (digs (ival [.bool a2, .ints a3z]).natAbs).length ≤ 6 := digs_len_le (by omega)
    refine Ret.at (impl_intNeg_c hs (by omega)) ?_
    rintro v w3 ⟨vs, fx, hv, ho, hnd, y3⟩
    subst hv
    have ho' := ho
    obtain ⟨d1, dp, dn, dc, dz, rfl, hq, hbr⟩ := open_Signed ho.reps (enc_code _)
    refine ⟨_, _, _, _, rfl, y3, ?_⟩
    intro r6 w6 hn6
    have Y6 := (D.trans y3).trans hn6.ext
    have l6 := Y6.le; have lD := D.le
    have ho6 := (Owns.append (Owns.str _ _ a0) (Owns.append (Owns.str _ _ a1) (ho'.ext hn6.ext)))
    obtain ⟨p7, c7, w7, fn, hap, hpush, hch, hxx⟩ := (how.ext Y6).push (P := P) sliceT_leg (by omega) hn6.blk rfl (ho6.mono (by omega)) hnd (fun q hq hm => by
      have h1 := (ho'.lt q hq).1
      have h2 := (how.lt q hm).2
      omega) (by omega) (by omega)
    have hxn := hxx w1 (hx.trans Y6) (Nat.le_refl _)
    refine ⟨_, _, _, _, hap, exW ⟨by omega, by omega⟩ ⟨⟨on + 1, fn, by omega, by omega, rfl, hxn, by rw [hsnoc]; exact hpush⟩, ?_⟩⟩
    show (i - 1 + 1).toNat < (i + 1).toNat
    omega
  · have hjn : on = l.length := by omega
    rw [hjn, List.take_of_length_le (by simp)] at how
    refine ⟨op, _, oc, f, by rw [hok], ?_, undo_code hc, undo_cnt hc, y1.trans hx⟩
    unfold undo
    rw [if_pos hok]
    rw [← hjn] at how
    exact how.mono (by omega)

end Go.Proofs.YtfbmjimhjlmhkaaDoor
