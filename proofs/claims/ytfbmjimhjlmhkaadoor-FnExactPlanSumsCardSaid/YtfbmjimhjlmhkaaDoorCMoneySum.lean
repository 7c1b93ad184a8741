/-
  Contracts: the sum of amounts.
-/
import Derived.Test.YtfbmjimhjlmhkaaDoorCUndo
namespace Go.Proofs.YtfbmjimhjlmhkaaDoor
open Go Go.Proofs.YtfbmjimhjlmhkaaDoor.Sx
set_option linter.unusedVariables false
set_option linter.unusedSimpArgs false

def moneyVal : List D0 → Int
  | [.str c, .bool b, .ints z] => ival [.bool b, .ints z]
  | _ => 0
def msOk (cur : ByteArray) : List D0 → Bool
  | [.str c, .bool b, .ints z] => moneyOk [.str c, .bool b, .ints z] && decide (c = cur)
  | _ => false
def msAll (cur : ByteArray) (l : List (List D0)) : Bool := l.all (msOk cur) && moneyOk (.str cur :: enc (sumI moneyVal l))
def moneySum (cur : ByteArray) (l : List (List D0)) : List D0 := if l.all (msOk cur) then moneyMk cur (sumI moneyVal l) else zeroMoney
theorem moneySum_code (cur : ByteArray) (l : List (List D0)) : (moneySum cur l).map D0.code = [.str, .bool, .ints] := by unfold moneySum; split; exact moneyMk_code _ _; rfl
theorem val_bound {cur : ByteArray} {x : List D0} (h : msOk cur x = true) : (moneyVal x).natAbs ≤ 1000000000000000000000000000000000000 := by
  unfold msOk at h
  split at h
  · simp only [Bool.and_eq_true] at h
    exact money_bound h.1
  · cases h
theorem ms_bound {cur : ByteArray} {l : List (List D0)} {j : Nat} (hl : l.length ≤ 1048576) (h : ∀ i (hi : i < l.length), i < j → msOk cur (l[i]'hi) = true) : (sumI moneyVal (l.take j)).natAbs ≤ 1048576000000000000000000000000000000000000 := by
  have := sumI_bound (f := moneyVal) (M := 1000000000000000000000000000000000000) (l.take j) (fun x hx => by
    obtain ⟨i, hi, rfl⟩ := List.getElem_of_mem hx
    have h1 : i < j ∧ i < l.length := by rw [List.length_take] at hi; omega
    rw [List.getElem_take]
    exact val_bound (h i h1.2 h1.1))
  have h3 : (l.take j).length ≤ 1048576 := by simp; omega
  have h4 : (l.take j).length * 1000000000000000000000000000000000000 ≤ 1048576 * 1000000000000000000000000000000000000 := Nat.mul_le_mul_right _ h3
  omega
theorem moneySum_cnt {cur : ByteArray} {l : List (List D0)} (hl : l.length ≤ 1048576) : tcnts (moneySum cur l) ≤ 1000000000 := by
  unfold moneySum
  split
  · rename_i h
    rw [List.all_eq_true] at h
    have := ms_bound (cur := cur) (j := l.length) hl (fun i hi _ => h _ (List.getElem_mem hi))
    rw [List.take_of_length_le (by omega)] at this
    unfold moneyMk
    split
    · exact tcnts_enc (by omega)
    · decide
  · decide

theorem impl_moneyOf_c {w : World} (ht : Tab w) {B : Nat} {xs : List Value} {z : Int} {f : List Nat} (cur : ByteArray) (h : Owns w B xs (enc z) f) (hnd : f.Nodup) (hB : B ≤ w.heap.size) :
    Ret P n_impl_moneyOf [.string cur, .agg ⟨xs⟩] w fun v w' => ∃ vs f', v = .tuple #[.agg ⟨vs⟩, .bool (moneyOk (.str cur :: enc z))] ∧ Owns w' B vs (moneyMk cur z) f' ∧ f'.Nodup ∧ Ext w w' := by
  have ho := h
  obtain ⟨a0, a1p, a1n, a1c, a1z, rfl, hd, ha⟩ := open_Signed h.reps (enc_code _)
  refine impl_moneyOf_ret ?_
  unfold impl_moneyOf
  intro r w1 hn1 r1 w2 hn2
  refine ⟨_, _, _, _, (hn1.blk.ext hn2.ext).loadA0 (by kernel_rfl), ?_⟩
  intro r2 w3 hn3
  have e1 := hn1.r_eq; have e2 := hn2.r_eq; have e3 := hn3.r_eq; have s1 := hn1.size; have s2 := hn2.size; have s3 := hn3.size
  obtain ⟨w4, st4, hb4, y4⟩ := hn3.fill (P := P) (t := T_impl_Money) (xs := [.string cur, .bool a0, .slice a1p a1n a1c]) (by simp [Value.oneCell']) (by kernel_rfl) rfl
  have X := (hn1.ext.trans hn2.ext).trans y4
  have k1 := hn2.blk.ext y4
  refine ⟨w4, st4, _, _, _, _, _, hb4.loadA0 (by kernel_rfl), ?_⟩
  have hm : Reps w4 [.string cur, .bool a0, .slice a1p a1n a1c] (.str cur :: enc z) := ⟨rfl, h.reps.ext X⟩
  refine Ret.at (impl_MoneyOk_c (ht.ext X) hm rfl) ?_
  rintro v w5 ⟨hv, y5⟩
  subst hv
  have X5 := X.trans y5
  refine ⟨_, rfl, fun hyes => ?_, fun hno => ?_⟩
  · obtain ⟨w6, st6, hb6, ch, sz⟩ := (k1.ext y5).storeA0 (P := P) (t := T_impl_Money) (xs := [.string cur, .bool a0, .slice a1p a1n a1c]) (by kernel_rfl) rfl (by simp [Value.oneCell'])
    refine ⟨_, _, _, _, _, (hb4.ext y5).loadA0 (by kernel_rfl), w6, st6, _, _, _, _, _, hb6.loadA0 (by kernel_rfl), [.string cur, .bool a0, .slice a1p a1n a1c], f, by rw [hyes], ?_, hnd, X5.chg ch (by simp; omega)⟩
    unfold moneyMk
    rw [hyes]
    have h5 := ((ho.ext X5).chg ch fun k hk hm => by
      have := (ho.lt k hk).2
      simp at hm; omega)
    exact Owns.append (Owns.str _ _ cur) h5
  · obtain ⟨w6, st6, hb6, ch, sz⟩ := (k1.ext y5).storeA0 (P := P) (t := T_impl_Money) (xs := [.string ByteArray.empty, .bool false, .slice none 0 0]) (by kernel_rfl) rfl (by simp [Value.oneCell'])
    refine ⟨w6, st6, _, _, _, _, _, hb6.loadA0 (by kernel_rfl), [.string ByteArray.empty, .bool false, .slice none 0 0], [], by rw [hno], ?_, List.nodup_nil, X5.chg ch (by simp; omega)⟩
    unfold moneyMk
    rw [hno]
    exact Owns.append (Owns.str _ _ _) (Owns.append (Owns.bool _ _ false) (Owns.ints (zs := []) (Own.nil w6 B T_int 1)))

theorem spec_MoneySum_c {w : World} (cur : ByteArray) {p : Option Addr} {n c : Nat} {l : List (List D0)} (h : RowsR w 3 p n c l) (hc : ∀ x ∈ l, x.map D0.code = [.str, .bool, .ints]) (hn : n ≤ 1048576) :
    Ret P n_spec_MoneySum [.string cur, .slice p n c] w fun v w' => ∃ vs f, v = .tuple #[.agg ⟨vs⟩, .bool (msAll cur l)] ∧ Owns w' w.heap.size vs (moneySum cur l) f ∧ f.Nodup ∧ Ext w w' := by
  have hz := h.1; have hcap := h.2.1; have hcm := h.2.2.1
  refine spec_MoneySum_ret ?_
  unfold spec_MoneySum
  intro r w1 hn1 r2 w2 hn2
  have e1 := hn1.r_eq; have e2 := hn2.r_eq; have s1 := hn1.size; have s2 := hn2.size
  obtain ⟨w3, st3, hb3, y3⟩ := hn2.fill (P := P) (t := T_impl_Signed) (xs := [.bool false, .slice none 0 0]) (by simp [Value.oneCell']) (by kernel_rfl) rfl
  refine ⟨w3, st3, ?_⟩
  refine ⟨fun i wr => ∃ (j : Nat) (s : Bool) (p : Option Addr) (m c : Nat) (f : List Nat), i = j ∧ j ≤ n ∧ Ext w1 wr ∧ Blk wr r2 T_impl_Signed [.bool s, .slice p m c] ∧ Owns wr (w1.heap.size + 1) [.bool s, .slice p m c] (enc (sumI moneyVal (l.take j))) f ∧ f.Nodup ∧ ∀ i (hi : i < l.length), i < j → msOk cur (l[i]'hi) = true, fun i _ => n - i.toNat, ⟨0, false, none, 0, 0, [], rfl, by omega, y3, hb3, ?_, List.nodup_nil, fun i _ h => absurd h (by omega)⟩, ?_⟩
  · rw [List.take_zero, sumI, enc0]
    exact Owns.int2 (z := []) (Own.nil _ _ T_int 1 : Own _ (w1.heap.size + 1) T_int 1 none 0 0 (([] : List Int).map (Value.int .i64)))
  intro junk wr i ⟨j, s, p2, m2, c2, f, hij, hj, hx, hbk, how, hnd, hall⟩
  subst hij
  have lx := hx.le; have hbl := hbk.lt
  have K0 := hn1.blk
  refine ifD (fun hlt => ?_) (fun hge => ?_)
  · have hjn : j < n := by omega
    have hjl : j < l.length := by omega
    obtain ⟨a, cs, hp, hk, hr, hl⟩ := ((h.ext hn1.ext).ext hx).at (P := P) (t := T_impl_Money) (by kernel_rfl) hjn
    subst hp
    have hrr := hr; have hcode := hc _ (List.getElem_mem hjl)
    obtain ⟨a0, a1, a2p, a2n, a2c, a2z, rfl, hd, ha⟩ := open_Money hr hcode
    have hsum := sumI_take (f := moneyVal) hjl
    rw [hd] at hsum
    have bad : ∀ W, Ext wr W → msOk cur [.str a0, .bool a1, .ints a2z] = false → ∃ wv_7, Stores P T_impl_Money ⟨r, 0, none⟩ (.agg #[(.string ByteArray.empty), (.bool false), (.slice none 0 0)]) W wv_7 ∧
        ∃ (r0 : ByteArray) (r1 : Bool) (r2_p : Option Addr) (r2_n : Nat) (r2_c : Nat), Loads P T_impl_Money ⟨r, 0, none⟩ (.agg #[(.string r0), (.bool r1), (.slice r2_p r2_n r2_c)]) wv_7 ∧ (fun (v : Value) (w' : World) => ∃ vs f, v = .tuple #[.agg ⟨vs⟩, .bool (msAll cur l)] ∧ Owns w' w.heap.size vs (moneySum cur l) f ∧ f.Nodup ∧ Ext w w') (.tuple #[(.agg #[(.string r0), (.bool r1), (.slice r2_p r2_n r2_c)]), (.bool false)]) wv_7 := by
      intro W hW hno
      have hno' : l.all (msOk cur) = false := all_no hjl (by rw [hd]; exact hno)
      obtain ⟨w6, st6, hb6, ch, sz⟩ := ((K0.ext hx).ext hW).storeA0 (P := P) (t := T_impl_Money) (xs := [.string ByteArray.empty, .bool false, .slice none 0 0]) (by kernel_rfl) rfl (by simp [Value.oneCell'])
      refine ⟨w6, st6, _, _, _, _, _, hb6.loadA0 (by kernel_rfl), [.string ByteArray.empty, .bool false, .slice none 0 0], [], by rw [msAll, hno']; rfl, ?_, List.nodup_nil, ((hn1.ext.trans hx).trans hW).chg ch (by simp; omega)⟩
      have : moneySum cur l = zeroMoney := by rw [moneySum, hno']; rfl
      rw [this]
      exact Owns.append (Owns.str _ _ _) (Owns.append (Owns.bool _ _ false) (Owns.ints (zs := []) (Own.nil w6 w.heap.size T_int 1)))
    refine ⟨⟨by omega, by omega⟩, _, _, _, _, _, by simpa using hl, ?_⟩
    intro r3 w7 hn7
    have e7 := hn7.r_eq; have s7 := hn7.size
    obtain ⟨w8, st, hb8, y8⟩ := hn7.fill (P := P) (t := T_impl_Money) hrr.cells1 (by kernel_rfl) rfl
    have l8 := y8.le
    refine ⟨w8, st, _, _, _, _, _, hb8.loadA0 (by kernel_rfl), ?_⟩
    have hm : Reps w8 [.string a0, .bool a1, .slice a2p a2n a2c] [.str a0, .bool a1, .ints a2z] := ⟨rfl, rfl, ⟨_, _, _, rfl, ha.ext y8⟩, trivial⟩
    refine Ret.at (spec_MoneyOk_c hm rfl) ?_
    rintro v w9 ⟨hv, y9⟩
    subst hv
    have l9 := y9.le
    have Y := y8.trans y9
    have hb9 := hb8.ext y9
    have hbk9 := hbk.ext Y
    refine ⟨_, rfl, ifN (fun hno => ifT (bad _ Y (by simp only [msOk, hno, Bool.false_and]))) (fun hmok => ?_)⟩
    have henc := (intOk_enc (moneyOk_int hmok)).1
    refine ⟨_, hb9.loadAt 0 rfl (by kernel_rfl) rfl, ifD (fun hne => bad _ Y (by simp only [msOk, decide_eq_false hne, Bool.and_false])) (fun heq => ?_)⟩
    have heq : a0 = cur := by simpa using heq
    refine ⟨_, _, _, _, hbk9.loadA0 (by kernel_rfl), _, _, _, _, hb9.loadAAt 1 [.bool a1, .slice a2p a2n a2c] rfl (by kernel_rfl) rfl, ?_⟩
    have hu : Reps w9 [.bool a1, .slice a2p a2n a2c] (enc (ival [.bool a1, .ints a2z])) := by
      rw [← henc]
      exact ⟨rfl, ⟨_, _, _, rfl, ha.ext Y⟩, trivial⟩
    have hsb := ms_bound (cur := cur) (j := j) (by omega) hall
    have hub := money_bound hmok
    have hval : moneyVal [.str a0, .bool a1, .ints a2z] = ival [.bool a1, .ints a2z] := rfl
    rw [hval] at hsum
    refine Ret.at (spec_IntAdd_c (how.ext Y).reps hu (enc_code _) (enc_code _)) ?_
    rintro v w10 ⟨vs10, f10, hv, ho10, hnd10, y10⟩
    subst hv
    rw [iadd_small (x := sumI moneyVal (l.take j)) (y := ival [.bool a1, .ints a2z]) (by omega) (by omega)] at ho10
    obtain ⟨g0, gp, gn, gc, gz, rfl, hg, hgi⟩ := open_Signed ho10.reps (enc_code _)
    have l10 := y10.le
    obtain ⟨w11, st11, hb11, ch, sz⟩ := (hbk9.ext y10).storeA0 (P := P) (t := T_impl_Signed) (xs := [.bool g0, .slice gp gn gc]) (by kernel_rfl) rfl (by simp [Value.oneCell'])
    refine ⟨_, _, _, _, rfl, w11, st11, exW ⟨by omega, by omega⟩ ⟨⟨j + 1, g0, gp, gn, gc, _, by omega, by omega, ((hx.trans Y).trans y10).chg ch (by simp; omega), hb11, ?_, hnd10, fun i hi hij => ?_⟩, ?_⟩⟩
    · rw [hsum]
      exact (ho10.chg1 ch (by omega)).mono (by omega)
    · rcases Nat.lt_or_ge i j with h3 | h3
      · exact hall i hi h3
      · have : i = j := by omega
        subst this
        rw [hd]
        simp only [msOk, hmok, decide_eq_true heq, Bool.and_self]
    · show n - ((j : Int) + 1).toNat < n - (j : Int).toNat
      omega
  · have hjn : j = n := by omega
    have hall' : l.all (msOk cur) = true := all_yes fun i hi => hall i hi (by omega)
    rw [List.take_of_length_le (by omega)] at how
    refine ⟨_, _, _, _, hbk.loadA0 (by kernel_rfl), ?_⟩
    refine Ret.at (spec_l09Make_c cur how hnd (by omega)) ?_
    rintro v w9 ⟨vs, f9, hv, ho9, hnd9, y9⟩
    subst hv
    have ho9' := ho9
    have l9 := y9.le
    obtain ⟨d0, d1, dp, dn, dc, dz, rfl, hq, hbr⟩ := open_Money ho9.reps (moneyMk_code _ _)
    obtain ⟨w10, st10, hb10, ch, sz⟩ := ((K0.ext hx).ext y9).storeA0 (P := P) (t := T_impl_Money) (xs := [.string d0, .bool d1, .slice dp dn dc]) (by kernel_rfl) rfl (by simp [Value.oneCell'])
    refine ⟨_, _, _, _, _, _, rfl, w10, st10, _, _, _, _, _, hb10.loadA0 (by kernel_rfl), [.string d0, .bool d1, .slice dp dn dc], f9, by rw [msAll, hall']; rfl, ?_, hnd9, ((hn1.ext.trans hx).trans y9).chg ch (by simp; omega)⟩
    have : moneySum cur l = moneyMk cur (sumI moneyVal l) := by rw [moneySum, hall']; rfl
    rw [this]
    exact (ho9'.chg1 ch (by omega)).mono (by omega)

theorem impl_MoneySum_c {w : World} (cur : ByteArray) {p : Option Addr} {n c : Nat} {l : List (List D0)} (h : RowsR w 3 p n c l) (hc : ∀ x ∈ l, x.map D0.code = [.str, .bool, .ints]) (hn : n ≤ 1048576) (ht : Tab w) :
    Ret P n_impl_MoneySum [.string cur, .slice p n c] w fun v w' => ∃ vs f, v = .tuple #[.agg ⟨vs⟩, .bool (msAll cur l)] ∧ Owns w' w.heap.size vs (moneySum cur l) f ∧ f.Nodup ∧ Ext w w' := by
  have hz := h.1; have hcap := h.2.1; have hcm := h.2.2.1
  refine impl_MoneySum_ret ?_
  unfold impl_MoneySum
  intro r w1 hn1 r2 w2 hn2
  have e1 := hn1.r_eq; have e2 := hn2.r_eq; have s1 := hn1.size; have s2 := hn2.size
  obtain ⟨w3, st3, hb3, y3⟩ := hn2.fill (P := P) (t := T_impl_Signed) (xs := [.bool false, .slice none 0 0]) (by simp [Value.oneCell']) (by kernel_rfl) rfl
  refine ⟨w3, st3, ?_⟩
  refine ⟨fun i wr => ∃ (j : Nat) (s : Bool) (p : Option Addr) (m c : Nat) (f : List Nat), i = j ∧ j ≤ n ∧ Ext w1 wr ∧ Blk wr r2 T_impl_Signed [.bool s, .slice p m c] ∧ Owns wr (w1.heap.size + 1) [.bool s, .slice p m c] (enc (sumI moneyVal (l.take j))) f ∧ f.Nodup ∧ ∀ i (hi : i < l.length), i < j → msOk cur (l[i]'hi) = true, fun i _ => n - i.toNat, ⟨0, false, none, 0, 0, [], rfl, by omega, y3, hb3, ?_, List.nodup_nil, fun i _ h => absurd h (by omega)⟩, ?_⟩
  · rw [List.take_zero, sumI, enc0]
    exact Owns.int2 (z := []) (Own.nil _ _ T_int 1 : Own _ (w1.heap.size + 1) T_int 1 none 0 0 (([] : List Int).map (Value.int .i64)))
  intro junk wr i ⟨j, s, p2, m2, c2, f, hij, hj, hx, hbk, how, hnd, hall⟩
  subst hij
  have lx := hx.le; have hbl := hbk.lt
  have K0 := hn1.blk
  refine ifD (fun hlt => ?_) (fun hge => ?_)
  · have hjn : j < n := by omega
    have hjl : j < l.length := by omega
    obtain ⟨a, cs, hp, hk, hr, hl⟩ := ((h.ext hn1.ext).ext hx).at (P := P) (t := T_impl_Money) (by kernel_rfl) hjn
    subst hp
    have hrr := hr; have hcode := hc _ (List.getElem_mem hjl)
    obtain ⟨a0, a1, a2p, a2n, a2c, a2z, rfl, hd, ha⟩ := open_Money hr hcode
    have hsum := sumI_take (f := moneyVal) hjl
    rw [hd] at hsum
    have bad : ∀ W, Ext wr W → msOk cur [.str a0, .bool a1, .ints a2z] = false → ∃ wv_7, Stores P T_impl_Money ⟨r, 0, none⟩ (.agg #[(.string ByteArray.empty), (.bool false), (.slice none 0 0)]) W wv_7 ∧
        ∃ (r0 : ByteArray) (r1 : Bool) (r2_p : Option Addr) (r2_n : Nat) (r2_c : Nat), Loads P T_impl_Money ⟨r, 0, none⟩ (.agg #[(.string r0), (.bool r1), (.slice r2_p r2_n r2_c)]) wv_7 ∧ (fun (v : Value) (w' : World) => ∃ vs f, v = .tuple #[.agg ⟨vs⟩, .bool (msAll cur l)] ∧ Owns w' w.heap.size vs (moneySum cur l) f ∧ f.Nodup ∧ Ext w w') (.tuple #[(.agg #[(.string r0), (.bool r1), (.slice r2_p r2_n r2_c)]), (.bool false)]) wv_7 := by
      intro W hW hno
      have hno' : l.all (msOk cur) = false := all_no hjl (by rw [hd]; exact hno)
      obtain ⟨w6, st6, hb6, ch, sz⟩ := ((K0.ext hx).ext hW).storeA0 (P := P) (t := T_impl_Money) (xs := [.string ByteArray.empty, .bool false, .slice none 0 0]) (by kernel_rfl) rfl (by simp [Value.oneCell'])
      refine ⟨w6, st6, _, _, _, _, _, hb6.loadA0 (by kernel_rfl), [.string ByteArray.empty, .bool false, .slice none 0 0], [], by rw [msAll, hno']; rfl, ?_, List.nodup_nil, ((hn1.ext.trans hx).trans hW).chg ch (by simp; omega)⟩
      have : moneySum cur l = zeroMoney := by rw [moneySum, hno']; rfl
      rw [this]
      exact Owns.append (Owns.str _ _ _) (Owns.append (Owns.bool _ _ false) (Owns.ints (zs := []) (Own.nil w6 w.heap.size T_int 1)))
    refine ⟨⟨by omega, by omega⟩, _, _, _, _, _, by simpa using hl, ?_⟩
    intro r3 w7 hn7
    have e7 := hn7.r_eq; have s7 := hn7.size
    obtain ⟨w8, st, hb8, y8⟩ := hn7.fill (P := P) (t := T_impl_Money) hrr.cells1 (by kernel_rfl) rfl
    have l8 := y8.le
    refine ⟨w8, st, _, _, _, _, _, hb8.loadA0 (by kernel_rfl), ?_⟩
    have hm : Reps w8 [.string a0, .bool a1, .slice a2p a2n a2c] [.str a0, .bool a1, .ints a2z] := ⟨rfl, rfl, ⟨_, _, _, rfl, ha.ext y8⟩, trivial⟩
    refine Ret.at (impl_MoneyOk_c (ht.ext ((hn1.ext.trans hx).trans y8)) hm rfl) ?_
    rintro v w9 ⟨hv, y9⟩
    subst hv
    have l9 := y9.le
    have Y := y8.trans y9
    have hb9 := hb8.ext y9
    have hbk9 := hbk.ext Y
    refine ⟨_, rfl, ifN (fun hno => ifT (bad _ Y (by simp only [msOk, hno, Bool.false_and]))) (fun hmok => ?_)⟩
    have henc := (intOk_enc (moneyOk_int hmok)).1
    refine ⟨_, hb9.loadAt 0 rfl (by kernel_rfl) rfl, ifD (fun hne => bad _ Y (by simp only [msOk, decide_eq_false hne, Bool.and_false])) (fun heq => ?_)⟩
    have heq : a0 = cur := by simpa using heq
    refine ⟨_, _, _, _, hbk9.loadA0 (by kernel_rfl), _, _, _, _, hb9.loadAAt 1 [.bool a1, .slice a2p a2n a2c] rfl (by kernel_rfl) rfl, ?_⟩
    have hu : Reps w9 [.bool a1, .slice a2p a2n a2c] (enc (ival [.bool a1, .ints a2z])) := by
      rw [← henc]
      exact ⟨rfl, ⟨_, _, _, rfl, ha.ext Y⟩, trivial⟩
    have hsb := ms_bound (cur := cur) (j := j) (by omega) hall
    have hub := money_bound hmok
    have hval : moneyVal [.str a0, .bool a1, .ints a2z] = ival [.bool a1, .ints a2z] := rfl
    rw [hval] at hsum
    have d1 : (digs (sumI moneyVal (l.take j)).natAbs).length ≤ 6 := digs_len_le (by omega)
    have d2 : (digs (ival [.bool a1, .ints a2z]).natAbs).length ≤ 6 := digs_len_le (by omega)
    refine Ret.at (impl_intAdd_c (how.ext Y).reps hu (by omega) (by omega)) ?_
    rintro v w10 ⟨gp, gn, gc, hv, hown10, y10⟩
    subst hv
    obtain ⟨g0, hg0⟩ : ∃ g0, g0 = decide (sumI moneyVal (l.take j) + ival [.bool a1, .ints a2z] < 0) := ⟨_, rfl⟩
    rw [← hg0]
    have ho10 : Owns w10 w9.heap.size [.bool g0, .slice gp gn gc] (enc (sumI moneyVal (l.take j) + ival [.bool a1, .ints a2z])) (gp.map (·.block)).toList := by
      rw [hg0]; exact Owns.int2 hown10
    have hnd10 := nodup_opt gp
    have l10 := y10.le
    obtain ⟨w11, st11, hb11, ch, sz⟩ := (hbk9.ext y10).storeA0 (P := P) (t := T_impl_Signed) (xs := [.bool g0, .slice gp gn gc]) (by kernel_rfl) rfl (by simp [Value.oneCell'])
    refine ⟨_, _, _, _, rfl, w11, st11, exW ⟨by omega, by omega⟩ ⟨⟨j + 1, g0, gp, gn, gc, _, by omega, by omega, ((hx.trans Y).trans y10).chg ch (by simp; omega), hb11, ?_, hnd10, fun i hi hij => ?_⟩, ?_⟩⟩
    · rw [hsum]
      exact (ho10.chg1 ch (by omega)).mono (by omega)
    · rcases Nat.lt_or_ge i j with h3 | h3
      · exact hall i hi h3
      · have : i = j := by omega
        subst this
        rw [hd]
        simp only [msOk, hmok, decide_eq_true heq, Bool.and_self]
    · show n - ((j : Int) + 1).toNat < n - (j : Int).toNat
      omega
  · have hjn : j = n := by omega
    have hall' : l.all (msOk cur) = true := all_yes fun i hi => hall i hi (by omega)
    rw [List.take_of_length_le (by omega)] at how
    refine ⟨_, _, _, _, hbk.loadA0 (by kernel_rfl), ?_⟩
    refine Ret.at (impl_moneyOf_c (ht.ext (hn1.ext.trans hx)) cur how hnd (by omega)) ?_
    rintro v w9 ⟨vs, f9, hv, ho9, hnd9, y9⟩
    subst hv
    have ho9' := ho9
    have l9 := y9.le
    obtain ⟨d0, d1, dp, dn, dc, dz, rfl, hq, hbr⟩ := open_Money ho9.reps (moneyMk_code _ _)
    obtain ⟨w10, st10, hb10, ch, sz⟩ := ((K0.ext hx).ext y9).storeA0 (P := P) (t := T_impl_Money) (xs := [.string d0, .bool d1, .slice dp dn dc]) (by kernel_rfl) rfl (by simp [Value.oneCell'])
    refine ⟨_, _, _, _, _, _, rfl, w10, st10, _, _, _, _, _, hb10.loadA0 (by kernel_rfl), [.string d0, .bool d1, .slice dp dn dc], f9, by rw [msAll, hall']; rfl, ?_, hnd9, ((hn1.ext.trans hx).trans y9).chg ch (by simp; omega)⟩
    have : moneySum cur l = moneyMk cur (sumI moneyVal l) := by rw [moneySum, hall']; rfl
    rw [this]
    exact (ho9'.chg1 ch (by omega)).mono (by omega)

end Go.Proofs.YtfbmjimhjlmhkaaDoor
