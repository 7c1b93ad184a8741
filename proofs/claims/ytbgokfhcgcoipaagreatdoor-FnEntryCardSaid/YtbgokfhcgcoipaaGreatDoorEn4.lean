/-
  Parts of the proof of fnEntry_holds: CBookSum, CUndo, CMoneySum, CAggM, CAggE, CMoneyB, CBookPoL, LY, CNatOf, CMul, CDec, CSpecDec, CPercentL, CTextN, CText, CDigL, CDivA, CDivC, CRatB, CDecT, COrdL, CBookD, CDraw, CMake, CCurD, CCurK, Mu, CChange, SxFlS, CBookPoI, CBookPoS, CBookOpM, CBookOpS, SxEx, GB, CBookMk, CPostL, COrd, CSums, CSumsS, CPlanDone, CBalanced.
  Conditions: none.
-/
import Derived.WalkKit
import Derived.Test.YtbgokfhcgcoipaaGreatDoorProg
import Derived.Shelf.Strings.Repeat
import Derived.Shelf.Strings.BuilderX
import Derived.Shelf.Strings.OnBuilder
import Derived.Shelf.Strconv.Itoa3
import Derived.Lib.SmallJoins
import Derived.Lib.AppendIntMem
import Derived.Conc.MuLone
import Derived.KernelRfl
import Derived.Defers
import Derived.Test.YtbgokfhcgcoipaaGreatDoorEn3
set_option linter.unusedVariables false
set_option linter.unusedSimpArgs false
namespace Go.RowKit
end Go.RowKit
namespace Go.Shelf
end Go.Shelf

namespace Go.Proofs.YtbgokfhcgcoipaaGreatDoor
open Go Go.Proofs.YtbgokfhcgcoipaaGreatDoor.Sx
def sumI (f : List D0 -> Int) : List (List D0) -> Int
  | [] => 0
  | x :: l => f x + sumI f l
theorem sumI_snoc (f : List D0 -> Int) : ∀ (l : List (List D0)) (x : List D0), sumI f (l ++ [x]) = sumI f l + f x
  | [], x => by simp [sumI]
  | y :: l, x => by simp only [List.cons_append, sumI, sumI_snoc f l x]; omega
theorem sumI_take {f : List D0 -> Int} {l : List (List D0)} {j : Nat} (hj : j < l.length) : sumI f (l.take (j + 1)) = sumI f (l.take j) + f (l[j]'hj) := by
  rw [take_snoc (List.getElem?_eq_getElem hj), sumI_snoc]
theorem sumI_bound {f : List D0 -> Int} {M : Nat} : ∀ (l : List (List D0)), (∀ x ∈ l, (f x).natAbs <= M) -> (sumI f l).natAbs <= l.length * M
  | [], _ => by simp [sumI]
  | x :: l, h => by
    have h1 := h x (.head _); have h2 := sumI_bound l fun y hy => h y (.tail _ hy)
    simp only [sumI, List.length_cons, Nat.succ_mul]
    omega
theorem digs_len_le {n : Nat} (h : n < 1000000000000000000000000000000000000000000000000000000) : (digs n).length <= 6 := digs_len 6 (by omega)
theorem money_bound {c : ByteArray} {b : Bool} {z : List Int} (h : moneyOk [.str c, .bool b, .ints z] = true) : (ival [.bool b, .ints z]).natAbs <= 1000000000000000000000000000000000000 := by
  have hi := moneyOk_int h
  simp only [moneyOk, Bool.and_eq_true, decide_eq_true_eq] at h
  obtain ⟨_, _, _, h1, hc, _⟩ := intOk_enc hi
  simp only [List.cons.injEq, D0.bool.injEq, D0.ints.injEq, and_true] at h1
  obtain ⟨rfl, rfl⟩ := h1
  have hv := val_nonneg hc.1
  have hlt := val_lt hc.1
  have h6 : (1000000000 : Nat) ^ z.length <= 1000000000 ^ 4 := Nat.pow_le_pow_right (by decide) h.2
  have h6' := Int.ofNat_le.2 h6
  rw [Int.natCast_pow, Int.natCast_pow] at h6'
  have h7 : val z < (1000000000 : Int) ^ 4 := Int.lt_of_lt_of_le hlt h6'
  have h8 : ((1000000000 : Int) ^ 4) = 1000000000000000000000000000000000000 := by decide
  rw [h8] at h7
  cases b <;> simp only [ival, if_true, Bool.false_eq_true, if_false] <;> omega
theorem enc_small {z : Int} (h : z.natAbs < 1000000000000000000000000000000000000000000000000000000) : intOk (enc z) = true := by
  have := digs_len_le h
  rw [<- icap_fit (by omega)]; exact icap_ok z
theorem iadd_small {x y : Int} (hx : x.natAbs < 100000000000000000000000000000000000000000000000000000) (hy : y.natAbs < 100000000000000000000000000000000000000000000000000000) : iadd (enc x) (enc y) = enc (x + y) := by
  have h3 : (digs (x + y).natAbs).length <= 6 := digs_len_le (by omega)
  rw [iadd, enc_small (by omega), enc_small (by omega)]
  simp only [Bool.and_self, if_true]
  rw [ival_enc, ival_enc]
  exact icap_fit (by omega)
theorem tcnts_enc {z : Int} (h : z.natAbs < 1000000000000000000000000000000000000000000000000000000) : tcnts (enc z) <= 1000000000 := by
  have := digs_len_le h
  simp only [enc, tcnts]
  omega
def unitsOf (cur : ByteArray) : List D0 -> Int
  | [.str a, .str c, .bool b, .ints z] => if c = cur then ival [.bool b, .ints z] else 0
  | _ => 0
def bookSum (l : List (List D0)) (cur : ByteArray) : List D0 := if bookOk l then enc (sumI (unitsOf cur) l) else enc 0
theorem bookOk_spec {l : List (List D0)} (h : bookOk l = true) : l.length <= 12 /\ ∀ i (hi : i < l.length), legOk (l[i]'hi) = true := by
  unfold bookOk at h
  simp only [Bool.and_eq_true, decide_eq_true_eq, List.all_eq_true, List.mem_range] at h
  refine ⟨h.1, fun i hi => ?_⟩
  have := h.2 i hi
  unfold bookRowOk at this
  simp only [Bool.and_eq_true] at this
  rw [getD_row hi] at this
  exact this.1
theorem units_bound {cur : ByteArray} {x : List D0} (h : legOk x = true) : (unitsOf cur x).natAbs <= 1000000000000000000000000000000000000 := by
  unfold unitsOf
  split
  · split
    · simp only [legOk, Bool.and_eq_true] at h
      exact money_bound h.2
    · simp
  · simp
theorem book_sum_bound {l : List (List D0)} {cur : ByteArray} {j : Nat} (h : bookOk l = true) : (sumI (unitsOf cur) (l.take j)).natAbs <= 12000000000000000000000000000000000000 := by
  obtain ⟨h1, h2⟩ := bookOk_spec h
  have := sumI_bound (f := unitsOf cur) (M := 1000000000000000000000000000000000000) (l.take j) (fun x hx => units_bound (by
    obtain ⟨i, hi, rfl⟩ := List.getElem_of_mem (List.mem_of_mem_take hx)
    exact h2 i hi))
  have h3 : (l.take j).length <= 12 := by simp; omega
  have h4 : (l.take j).length * 1000000000000000000000000000000000000 <= 12 * 1000000000000000000000000000000000000 := Nat.mul_le_mul_right _ h3
  omega
theorem bookSum_code (l : List (List D0)) (cur : ByteArray) : (bookSum l cur).map D0.code = [.bool, .ints] := by unfold bookSum; split <;> rfl
theorem bookSum_cnt (l : List (List D0)) (cur : ByteArray) : tcnts (bookSum l cur) <= 1000000000 := by
  unfold bookSum
  split
  · rename_i h
    have := book_sum_bound (cur := cur) (j := l.length) h
    rw [List.take_of_length_le (by omega)] at this
    exact tcnts_enc (by omega)
  · exact tcnts_enc (by decide)
theorem impl_BookSum_c {w : World} {p : Option Addr} {n c : Nat} {l : List (List D0)} (h : RowsR w 4 p n c l) (hc : ∀ x ∈ l, x.map D0.code = [.str, .str, .bool, .ints]) (hn : n <= 1048576) (hb : ∀ x ∈ l, bulks x <= 1048576) (cur : ByteArray) (ht : Tab w) :
    Ret P n_impl_BookSum [.agg ⟨[.slice p n c]⟩, .string cur] w fun v w' => ∃ vs f, v = .agg ⟨vs⟩ /\ Owns w' w.heap.size vs (bookSum l cur) f /\ f.Nodup /\ (bookSum l cur).map D0.code = [.bool, .ints] /\ tcnts (bookSum l cur) <= 1000000000 /\ Ext w w' := by
  have hz := h.1; have hcap := h.2.1; have hcm := h.2.2.1
  refine impl_BookSum_ret ?_
  unfold impl_BookSum
  intro r w1 hn1 r1 w2 hn2
  have e1 := hn1.r_eq; have e2 := hn2.r_eq; have s1 := hn1.size; have s2 := hn2.size
  have X := hn1.ext.trans hn2.ext
  have k0 := hn1.blk.ext hn2.ext
  refine ⟨_, _, _, k0.loadA0 (by kernel_rfl), ?_⟩
  refine Ret.at (impl_BookOk_c (h.ext X) hc hn hb (ht.ext X)) ?_
  rintro v w3 ⟨hv, y3⟩
  subst hv
  have l3 := y3.le
  have XB := X.trans y3
  have K1 := hn2.blk.ext y3
  refine ⟨_, rfl, ifN (fun hno => ?_) (fun hok => ?_)⟩
  · obtain ⟨w6, st6, hb6, ch, sz⟩ := K1.storeA0 (P := P) (t := T_impl_Signed) (xs := [.bool false, .slice none 0 0]) (by kernel_rfl) rfl (by simp [Value.oneCell'])
    refine ⟨w6, st6, _, _, _, _, hb6.loadA0 (by kernel_rfl), _, _, rfl, ?_, nodup_opt none, bookSum_code l cur, bookSum_cnt l cur, XB.chg ch (by simp; omega)⟩
    have : bookSum l cur = [.bool false, .ints []] := by rw [bookSum, hno, <- enc0]; rfl
    rw [this]
    exact Owns.int2 (z := []) (Own.nil w6 _ T_int 1 : Own w6 w.heap.size T_int 1 none 0 0 (([] : List Int).map (Value.int .i64)))
  intro r2 w4 hn4
  have e4 := hn4.r_eq; have s4 := hn4.size
  obtain ⟨w5, st, hb5, y5⟩ := hn4.fill (P := P) (t := T_impl_Signed) (xs := [.bool false, .slice none 0 0]) (by simp [Value.oneCell']) (by kernel_rfl) rfl
  have l5 := y5.le
  refine ⟨w5, st, _, _, _, ((k0.ext y3).ext y5).loadAt 0 rfl (by kernel_rfl) rfl, ?_⟩
  refine ⟨fun i wr => ∃ (j : Nat) (s : Bool) (p : Option Addr) (m c : Nat) (f : List Nat), i = j /\ j <= n /\ Ext w3 wr /\ Blk wr r2 T_impl_Signed [.bool s, .slice p m c] /\ Owns wr (w3.heap.size + 1) [.bool s, .slice p m c] (enc (sumI (unitsOf cur) (l.take j))) f /\ f.Nodup, fun i _ => n - i.toNat, ⟨0, false, none, 0, 0, [], rfl, by omega, y5, hb5, ?_, List.nodup_nil⟩, ?_⟩
  · rw [List.take_zero, sumI, enc0]
    exact Owns.int2 (z := []) (Own.nil _ _ T_int 1 : Own _ (w3.heap.size + 1) T_int 1 none 0 0 (([] : List Int).map (Value.int .i64)))
  intro junk wr i ⟨j, s, p2, m2, c2, f, hij, hj, hx, hbk, how, hnd⟩
  subst hij
  have lx := hx.le; have hbl := hbk.lt
  refine ifD (fun hlt => ?_) (fun hge => ?_)
  · have hjn : j < n := by omega
    have hjl : j < l.length := by omega
    obtain ⟨a, cs, hp, hk, hr, hl⟩ := ((h.ext XB).ext hx).at (P := P) (t := T_impl_Acct) (by kernel_rfl) hjn
    subst hp
    have hrr := hr; have hcode := hc _ (List.getElem_mem hjl)
    obtain ⟨a0, a1, a2, a3p, a3n, a3c, a3z, rfl, hd, ha⟩ := open_Acct hr hcode
    have hleg := (bookOk_spec hok).2 j hjl
    rw [hd] at hleg
    have hmok : moneyOk [.str a1, .bool a2, .ints a3z] = true := by
      simp only [legOk, Bool.and_eq_true] at hleg
      exact hleg.2
    have henc := (intOk_enc (moneyOk_int hmok)).1
    have hsum := sumI_take (f := unitsOf cur) hjl
    rw [hd] at hsum
    refine ⟨⟨by omega, by omega⟩, _, _, _, _, _, _, by simpa using hl, ?_⟩
    intro r3 w7 hn7
    have e7 := hn7.r_eq; have s7 := hn7.size
    obtain ⟨w8, st, hb8, y8⟩ := hn7.fill (P := P) (t := T_impl_Acct) hrr.cells1 (by kernel_rfl) rfl
    have l8 := y8.le
    have hbk8 := hbk.ext y8
    refine ⟨w8, st, _, hb8.loadAt 1 rfl (by kernel_rfl) rfl, ifD (fun heq => ?_) (fun hne => ?_)⟩
    · refine ⟨_, _, _, _, hbk8.loadA0 (by kernel_rfl), _, _, _, _, hb8.loadAAt 2 [.bool a2, .slice a3p a3n a3c] rfl (by kernel_rfl) rfl, ?_⟩
      have hu : Reps w8 [.bool a2, .slice a3p a3n a3c] (enc (ival [.bool a2, .ints a3z])) := by
        rw [<- henc]
        exact ⟨rfl, ⟨_, _, _, rfl, ha.ext y8⟩, trivial⟩
      have hsb := book_sum_bound (cur := cur) (j := j) hok
      have hub := money_bound hmok
      have hval : unitsOf cur [.str a0, .str a1, .bool a2, .ints a3z] = ival [.bool a2, .ints a3z] := if_pos heq
      rw [hval] at hsum
      have d1 : (digs (sumI (unitsOf cur) (l.take j)).natAbs).length <= 6 := digs_len_le (by omega)
      have d2 : (digs (ival [.bool a2, .ints a3z]).natAbs).length <= 6 := digs_len_le (by omega)
      refine Ret.at (impl_intAdd_c (how.ext y8).reps hu (by omega) (by omega)) ?_
      rintro v w9 ⟨gp, gn, gc, hv, hown9, y9⟩
      subst hv
      obtain ⟨g0, hg0⟩ : ∃ g0, g0 = decide (sumI (unitsOf cur) (l.take j) + ival [.bool a2, .ints a3z] < 0) := ⟨_, rfl⟩
      rw [<- hg0]
      have ho9 : Owns w9 w8.heap.size [.bool g0, .slice gp gn gc] (enc (sumI (unitsOf cur) (l.take j) + ival [.bool a2, .ints a3z])) (gp.map (·.block)).toList := by
        rw [hg0]; exact Owns.int2 hown9
      have hnd9 := nodup_opt gp
      have l9 := y9.le
      obtain ⟨w10, st10, hb10, ch, sz⟩ := (hbk8.ext y9).storeA0 (P := P) (t := T_impl_Signed) (xs := [.bool g0, .slice gp gn gc]) (by kernel_rfl) rfl (by simp [Value.oneCell'])
      refine ⟨_, _, _, _, rfl, w10, st10, ?_⟩
      unfold impl_BookSum_j0
      refine exW ⟨by omega, by omega⟩ ⟨⟨j + 1, g0, gp, gn, gc, _, by omega, by omega, ((hx.trans y8).trans y9).chg ch (by simp; omega), hb10, ?_, hnd9⟩, ?_⟩
      · rw [hsum]
        exact (ho9.chg1 ch (by omega)).mono (by omega)
      · show n - ((j : Int) + 1).toNat < n - (j : Int).toNat
        omega
    · unfold impl_BookSum_j0
      have hval : unitsOf cur [.str a0, .str a1, .bool a2, .ints a3z] = 0 := if_neg hne
      rw [hval, Int.add_zero] at hsum
      refine exW ⟨by omega, by omega⟩ ⟨⟨j + 1, s, p2, m2, c2, f, by omega, by omega, hx.trans y8, hbk8, ?_, hnd⟩, ?_⟩
      · rw [hsum]; exact how.ext y8
      · show n - ((j : Int) + 1).toNat < n - (j : Int).toNat
        omega
  · have hjn : j = n := by omega
    subst hjn
    rw [List.take_of_length_le (by omega)] at how
    obtain ⟨w10, st10, hb10, ch, sz⟩ := (K1.ext hx).storeA0 (P := P) (t := T_impl_Signed) (xs := [.bool s, .slice p2 m2 c2]) (by kernel_rfl) rfl (by simp [Value.oneCell'])
    refine ⟨_, _, _, _, hbk.loadA0 (by kernel_rfl), w10, st10, _, _, _, _, hb10.loadA0 (by kernel_rfl), _, f, rfl, ?_, hnd, bookSum_code l cur, bookSum_cnt l cur, (XB.trans hx).chg ch (by simp; omega)⟩
    unfold bookSum
    rw [if_pos hok]
    exact (how.chg1 ch (by omega)).mono (by omega)
end Go.Proofs.YtbgokfhcgcoipaaGreatDoor
namespace Go.Proofs.YtbgokfhcgcoipaaGreatDoor
open Go Go.Proofs.YtbgokfhcgcoipaaGreatDoor.Sx
def zeroMoney : List D0 := [.str ByteArray.empty, .bool false, .ints []]
def moneyMk (cur : ByteArray) (z : Int) : List D0 := if moneyOk (.str cur :: enc z) then .str cur :: enc z else zeroMoney
theorem moneyMk_code (cur : ByteArray) (z : Int) : (moneyMk cur z).map D0.code = [.str, .bool, .ints] := by unfold moneyMk; split <;> rfl
theorem spec_l09Make_c {w : World} {B : Nat} {xs : List Value} {z : Int} {f : List Nat} (cur : ByteArray) (h : Owns w B xs (enc z) f) (hnd : f.Nodup) (hB : B <= w.heap.size) :
    Ret P n_spec_l09Make [.string cur, .agg ⟨xs⟩] w fun v w' => ∃ vs f', v = .tuple #[.agg ⟨vs⟩, .bool (moneyOk (.str cur :: enc z))] /\ Owns w' B vs (moneyMk cur z) f' /\ f'.Nodup /\ Ext w w' := by
  have ho := h
  obtain ⟨a0, a1p, a1n, a1c, a1z, rfl, hd, ha⟩ := open_Signed h.reps (enc_code _)
  refine spec_l09Make_ret ?_
  unfold spec_l09Make
  intro r w1 hn1 r1 w2 hn2
  refine ⟨_, _, _, _, (hn1.blk.ext hn2.ext).loadA0 (by kernel_rfl), ?_⟩
  intro r2 w3 hn3
  have e1 := hn1.r_eq; have e2 := hn2.r_eq; have e3 := hn3.r_eq; have s1 := hn1.size; have s2 := hn2.size; have s3 := hn3.size
  obtain ⟨w4, st4, hb4, y4⟩ := hn3.fill (P := P) (t := T_impl_Money) (xs := [.string cur, .bool a0, .slice a1p a1n a1c]) (by simp [Value.oneCell']) (by kernel_rfl) rfl
  have X := (hn1.ext.trans hn2.ext).trans y4
  have k1 := hn2.blk.ext y4
  refine ⟨w4, st4, _, _, _, _, _, hb4.loadA0 (by kernel_rfl), ?_⟩
  have hm : Reps w4 [.string cur, .bool a0, .slice a1p a1n a1c] (.str cur :: enc z) := ⟨rfl, h.reps.ext X⟩
  refine Ret.at (spec_MoneyOk_c hm rfl) ?_
  rintro v w5 ⟨hv, y5⟩
  subst hv
  have X5 := X.trans y5
  refine ⟨_, rfl, ifN (fun hno => ?_) (fun hyes => ?_)⟩
  · obtain ⟨w6, st6, hb6, ch, sz⟩ := (k1.ext y5).storeA0 (P := P) (t := T_impl_Money) (xs := [.string ByteArray.empty, .bool false, .slice none 0 0]) (by kernel_rfl) rfl (by simp [Value.oneCell'])
    refine ⟨w6, st6, _, _, _, _, _, hb6.loadA0 (by kernel_rfl), [.string ByteArray.empty, .bool false, .slice none 0 0], [], by rw [hno], ?_, List.nodup_nil, X5.chg ch (by simp; omega)⟩
    unfold moneyMk
    rw [hno]
    exact Owns.append (Owns.str _ _ _) (Owns.append (Owns.bool _ _ false) (Owns.ints (zs := []) (Own.nil w6 B T_int 1)))
  · obtain ⟨w6, st6, hb6, ch, sz⟩ := (k1.ext y5).storeA0 (P := P) (t := T_impl_Money) (xs := [.string cur, .bool a0, .slice a1p a1n a1c]) (by kernel_rfl) rfl (by simp [Value.oneCell'])
    refine ⟨_, _, _, _, _, (hb4.ext y5).loadA0 (by kernel_rfl), w6, st6, _, _, _, _, _, hb6.loadA0 (by kernel_rfl), [.string cur, .bool a0, .slice a1p a1n a1c], f, by rw [hyes], ?_, hnd, X5.chg ch (by simp; omega)⟩
    unfold moneyMk
    rw [hyes]
    have h5 := ((ho.ext X5).chg ch fun k hk hm => by
      have := (ho.lt k hk).2
      simp at hm; omega)
    exact Owns.append (Owns.str _ _ cur) h5
theorem spec_IntNeg_c {w : World} {xs : List Value} {z : Int} (h : Reps w xs (enc z)) (hok : intOk (enc z) = true) :
    Ret P n_spec_IntNeg [.agg ⟨xs⟩] w fun v w' => ∃ vs' f, v = .agg ⟨vs'⟩ /\ Owns w' w.heap.size vs' (enc (-z)) f /\ f.Nodup /\ Ext w w' := by
  have hr := h
  obtain ⟨a0, a1p, a1n, a1c, a1z, rfl, hd, ha⟩ := open_Signed h (enc_code _)
  simp only [enc, List.cons.injEq, D0.bool.injEq, D0.ints.injEq, and_true] at hd
  obtain ⟨rfl, rfl⟩ := hd
  have hlen : (digs z.natAbs).length <= 50 := by
    obtain ⟨_, _, _, h1, hc, hl⟩ := intOk_enc hok
    simp only [enc, List.cons.injEq, D0.bool.injEq, D0.ints.injEq, and_true] at h1
    rw [h1.2]; exact hl
  refine spec_IntNeg_ret ?_
  unfold spec_IntNeg
  intro r w1 hn1 r1 w2 hn2
  have X := hn1.ext.trans hn2.ext
  have e1 := hn1.r_eq; have e2 := hn2.r_eq; have s1 := hn1.size; have s2 := hn2.size
  refine ⟨_, _, _, _, (hn1.blk.ext hn2.ext).loadA0 (by kernel_rfl), ?_⟩
  refine Ret.at (spec_IntOk_c (hr.ext X) rfl) ?_
  rintro v w3 ⟨hv, y3⟩
  subst hv
  refine ⟨_, rfl, ifN (fun hno => absurd (hno.symm.trans hok) (by simp)) (fun _ => ?_)⟩
  have k0 := (hn1.blk.ext hn2.ext).ext y3
  refine ⟨_, k0.loadAt 0 rfl (by kernel_rfl) rfl, _, _, _, k0.loadAt 1 rfl (by kernel_rfl) rfl, ?_⟩
  refine Ret.at (spec_l04Make_c (ha.ext (X.trans y3)) (digs_limbs _)) ?_
  rintro v w4 ⟨b, q, qn, qc, hv, hbb, ho, y4⟩
  subst hv
  have l3 := y3.le
  obtain ⟨w5, st, hb5, ch, sz⟩ := ((hn2.blk.ext y3).ext y4).storeA0 (P := P) (t := T_impl_Signed) (xs := [.bool b, .slice q qn qc]) (by kernel_rfl) rfl (by simp [Value.oneCell'])
  have ow := Owns.int2 (b := b) ho
  rw [hbb, val_digs, show (((z.natAbs : Nat) : Int)).toNat = z.natAbs from rfl] at ow
  have e : mkS (!decide (z < 0)) (capL (digs z.natAbs)) = enc (-z) := by
    rw [<- icap_fit (z := -z) (by rw [Int.natAbs_neg]; exact hlen)]
    refine mkS_digs (by rw [Int.natAbs_neg]) fun h0 => ?_
    by_cases h1 : z < 0
    · simp [h1]; omega
    · simp [h1]; omega
  have ow2 : Owns w4 w3.heap.size [.bool b, .slice q qn qc] (enc (-z)) (q.map (·.block)).toList := by
    rw [<- e, hbb, val_digs, show (((z.natAbs : Nat) : Int)).toNat = z.natAbs from rfl]; exact ow
  exact ⟨_, _, _, _, rfl, w5, st, _, _, _, _, hb5.loadA0 (by kernel_rfl), _, _, rfl, (ow2.chg1 ch (by omega)).mono (by omega), nodup_opt q, ((X.trans y3).trans y4).chg ch (by simp; omega)⟩
theorem neg_ok {c : ByteArray} {b : Bool} {z : List Int} (h : moneyOk [.str c, .bool b, .ints z] = true) : moneyOk (.str c :: enc (-(ival [.bool b, .ints z]))) = true /\ moneyMk c (-(ival [.bool b, .ints z])) = .str c :: enc (-(ival [.bool b, .ints z])) := by
  have hi := moneyOk_int h
  have he := (intOk_enc hi).1
  have hlen : z = digs (ival [.bool b, .ints z]).natAbs := by
    have := he
    simp only [enc, List.cons.injEq, D0.bool.injEq, D0.ints.injEq, and_true] at this
    exact this.2
  have hb := money_bound h
  simp only [moneyOk, Bool.and_eq_true, decide_eq_true_eq] at h
  have hio : intOk (enc (-(ival [.bool b, .ints z]))) = true := enc_small (by rw [Int.natAbs_neg]; omega)
  have h1 : moneyOk (.str c :: enc (-(ival [.bool b, .ints z]))) = true := by
    unfold enc at hio
    simp only [moneyOk, enc, Bool.and_eq_true, decide_eq_true_eq, Int.natAbs_neg] at hio ⊢
    refine ⟨⟨h.1.1, hio⟩, ?_⟩
    rw [<- hlen]; exact h.2
  exact ⟨h1, by unfold moneyMk; rw [if_pos h1]⟩
theorem spec_MoneyNeg_c {w : World} {xs : List Value} {c : ByteArray} {b : Bool} {z : List Int} (h : Reps w xs [.str c, .bool b, .ints z]) (hok : moneyOk [.str c, .bool b, .ints z] = true) :
    Ret P n_spec_MoneyNeg [.agg ⟨xs⟩] w fun v w' => ∃ vs f, v = .tuple #[.agg ⟨vs⟩, .bool true] /\ Owns w' w.heap.size vs (.str c :: enc (-(ival [.bool b, .ints z]))) f /\ f.Nodup /\ Ext w w' := by
  have hr := h
  obtain ⟨t0, a0, a1p, a1n, a1c, a1z, rfl, hd, ha⟩ := open_Money h rfl
  cases hd
  obtain ⟨g1, g2⟩ := neg_ok hok
  have henc := (intOk_enc (moneyOk_int hok)).1
  refine spec_MoneyNeg_ret ?_
  unfold spec_MoneyNeg
  intro r w1 hn1 r1 w2 hn2
  have X := hn1.ext.trans hn2.ext
  have e1 := hn1.r_eq; have e2 := hn2.r_eq; have s1 := hn1.size; have s2 := hn2.size
  refine ⟨_, _, _, _, _, (hn1.blk.ext hn2.ext).loadA0 (by kernel_rfl), ?_⟩
  refine Ret.at (spec_MoneyOk_c (hr.ext X) rfl) ?_
  rintro v w3 ⟨hv, y3⟩
  subst hv
  refine ⟨_, rfl, ifN (fun hno => absurd (hno.symm.trans hok) (by simp)) (fun _ => ?_)⟩
  have D := Ext.drew w3
  have k0 := (hn1.blk.ext hn2.ext).ext y3
  have k1 := hn2.blk.ext y3
  have X3 := (X.trans y3).trans D
  have l3 := y3.le; have lD := D.le
  refine ⟨_, fun W hW => (k0.ext (D.trans hW)).loadAt 0 rfl (by kernel_rfl) rfl, _, _, _, _, fun W hW => (k0.ext (D.trans hW)).loadAAt 1 [.bool b, .slice a1p a1n a1c] rfl (by kernel_rfl) rfl, ?_⟩
  have hs : Reps w3.drew [.bool b, .slice a1p a1n a1c] (enc (ival [.bool b, .ints z])) := by
    rw [<- henc]
    exact ⟨rfl, ⟨_, _, _, rfl, ha.ext X3⟩, trivial⟩
  refine Ret.at (spec_IntNeg_c hs (by rw [<- henc]; exact moneyOk_int hok)) ?_
  rintro v w4 ⟨vs, f, hv, ho, hnd, y4⟩
  subst hv
  have ho' := ho
  obtain ⟨b0, bp, bn, bc, bz, rfl, hq, hbr⟩ := open_Signed ho.reps (enc_code _)
  refine ⟨_, _, _, _, rfl, y4, ?_⟩
  have l4 := y4.le
  refine Ret.at (spec_l09Make_c c ho' hnd (by omega)) ?_
  rintro v w5 ⟨vs5, f5, hv, ho5, hnd5, y5⟩
  subst hv
  rw [g2] at ho5
  rw [g1]
  have ho5' := ho5
  obtain ⟨d0, d1, dp, dn, dc, dz, rfl, hq2, hbr2⟩ := open_Money ho5.reps rfl
  obtain ⟨w6, st6, hb6, ch, sz⟩ := (((k1.ext D).ext y4).ext y5).storeA0 (P := P) (t := T_impl_Money) (xs := [.string d0, .bool d1, .slice dp dn dc]) (by kernel_rfl) rfl (by simp [Value.oneCell'])
  exact ⟨_, _, _, _, _, _, rfl, w6, st6, _, _, _, _, _, hb6.loadA0 (by kernel_rfl), _, _, rfl, (ho5'.chg1 ch (by omega)).mono (by omega), hnd5, ((X3.trans y4).trans y5).chg ch (by simp; omega)⟩
def legNeg : List D0 -> List D0
  | [.str a, .str c, .bool b, .ints z] => [.str a, .str c] ++ enc (-(ival [.bool b, .ints z]))
  | x => x
def undo (l : List (List D0)) : List (List D0) := if legsOk l then l.reverse.map legNeg else []
theorem legsOk_spec {l : List (List D0)} (h : legsOk l = true) : l.length <= 8 /\ ∀ i (hi : i < l.length), legOk (l[i]'hi) = true := by
  unfold legsOk at h
  simp only [Bool.and_eq_true, decide_eq_true_eq, List.all_eq_true] at h
  exact ⟨h.1.2, fun i hi => h.2 _ (List.getElem_mem hi)⟩
theorem legNeg_code {x : List D0} (h : x.map D0.code = [.str, .str, .bool, .ints]) : (legNeg x).map D0.code = [.str, .str, .bool, .ints] := by
  unfold legNeg
  split
  · rfl
  · exact h
theorem undo_code {l : List (List D0)} (hc : ∀ x ∈ l, x.map D0.code = [.str, .str, .bool, .ints]) : ∀ x ∈ undo l, x.map D0.code = [.str, .str, .bool, .ints] := by
  unfold undo
  split
  · intro x hx
    obtain ⟨y, hy, rfl⟩ := List.mem_map.1 hx
    exact legNeg_code (hc y (by simpa using hy))
  · simp
theorem legNeg_cnt {x : List D0} (hc : x.map D0.code = [.str, .str, .bool, .ints]) (h : legOk x = true) : cnts (legNeg x) <= 1000 := by
  obtain ⟨a, es, rfl, h1⟩ := code_str hc
  obtain ⟨c, es, rfl, h2⟩ := code_str h1
  obtain ⟨b, es, rfl, h3⟩ := code_bool h2
  obtain ⟨z, es, rfl, h4⟩ := code_ints h3
  have := code_nil h4; subst this
  simp only [legOk, Bool.and_eq_true] at h
  have hb := money_bound h.2
  have := digs_len_le (n := (-(ival [.bool b, .ints z])).natAbs) (by rw [Int.natAbs_neg]; omega)
  simp only [legNeg, enc, List.cons_append, List.nil_append, cnts, D0.cnt]
  omega
theorem cntL_max {M : Int} (hM : 0 <= M) : ∀ (l : List (List D0)), (∀ x ∈ l, cnts x <= M) -> cntL l <= (l.length : Nat) * M
  | [], _ => by simp [cntL]
  | x :: l, h => by
    have h1 := h x (.head _); have h2 := cntL_max hM l fun y hy => h y (.tail _ hy)
    simp only [cntL, List.length_cons, Int.natCast_add, Int.natCast_one, Int.add_mul, Int.one_mul]
    omega
theorem undo_cnt {l : List (List D0)} (hc : ∀ x ∈ l, x.map D0.code = [.str, .str, .bool, .ints]) : cntL (undo l) <= 1000000000 := by
  unfold undo
  split
  · rename_i h
    obtain ⟨h1, h2⟩ := legsOk_spec h
    have := cntL_max (M := 1000) (by omega) (l.reverse.map legNeg) fun x hx => by
      obtain ⟨y, hy, rfl⟩ := List.mem_map.1 hx
      have hy : y ∈ l := by simpa using hy
      obtain ⟨i, hi, rfl⟩ := List.getElem_of_mem hy
      exact legNeg_cnt (hc _ hy) (h2 i hi)
    simp only [List.length_map, List.length_reverse] at this
    have h3 : ((l.length : Nat) : Int) * 1000 <= 8 * 1000 := by omega
    omega
  · simp [cntL]
theorem rev_take {l : List (List D0)} {j : Nat} (hj : j < l.length) : (l.reverse.take (j + 1)).map legNeg = (l.reverse.take j).map legNeg ++ [legNeg (l[l.length - 1 - j]'(by omega))] := by
  have h : l.reverse[j]? = some (l[l.length - 1 - j]'(by omega)) := by
    rw [List.getElem?_reverse hj, List.getElem?_eq_getElem (by omega)]
  rw [take_snoc h, List.map_append]; rfl
theorem sliceT_leg : sliceT P T_s_impl_Leg T_impl_Leg (.agg ⟨[.string ByteArray.empty, .string ByteArray.empty, .bool false, .slice none 0 0]⟩) 4 64 := ⟨by kernel_rfl, by kernel_rfl, rfl, by decide⟩
theorem impl_Undo_c {w : World} {p : Option Addr} {n c : Nat} {l : List (List D0)} (h : RowsR w 4 p n c l) (hc : ∀ x ∈ l, x.map D0.code = [.str, .str, .bool, .ints]) (hn : n <= 1048576) (hb : ∀ x ∈ l, bulks x <= 1048576) (ht : Tab w) :
    Ret P n_impl_Undo [.slice p n c] w fun v w' => ∃ p' n' c' f, v = .tuple #[.slice p' n' c', .bool (legsOk l)] /\ OwnRows w' w.heap.size T_impl_Leg 4 p' n' c' (undo l) f /\ (∀ x ∈ undo l, x.map D0.code = [.str, .str, .bool, .ints]) /\ cntL (undo l) <= 1000000000 /\ Ext w w' := by
  have hz := h.1; have hcap := h.2.1; have hcm := h.2.2.1
  refine impl_Undo_ret ?_
  unfold impl_Undo
  refine Ret.at (impl_LegsOk_c h hc hn hb ht) ?_
  rintro v w1 ⟨hv, y1⟩
  subst hv
  refine ⟨_, rfl, ifN (fun hno => ?_) (fun hok => ?_)⟩
  · refine ⟨none, 0, 0, [], by rw [hno], ?_, undo_code hc, undo_cnt hc, y1⟩
    unfold undo
    rw [hno]
    exact ⟨rfl, [], [], trivial, Own.nil _ _ _ _, rfl, List.nodup_nil⟩
  obtain ⟨h8, hlegs⟩ := legsOk_spec hok
  have l1 := y1.le
  intro r w2 hn2
  have e2 := hn2.r_eq; have s2 := hn2.size
  refine exW ⟨by omega, by omega⟩ ⟨fun op on oc i wr => ∃ (j : Nat) (f : List Nat), i = n - 1 - j /\ j <= n /\ on = j /\ Ext w1 wr /\ OwnRows wr w1.heap.size T_impl_Leg 4 op on oc ((l.reverse.take j).map legNeg) f, fun _ _ _ i _ => (i + 1).toNat, ⟨0, [r], by omega, by omega, rfl, hn2.ext, by rw [List.take_zero]; exact OwnRows.fresh hn2 (Nat.le_refl _)⟩, ?_⟩
  intro junk wr op on oc i ⟨j, f, hi, hj, hon, hx, how⟩
  subst hon
  have lx := hx.le
  refine ifD (fun hlt => ?_) (fun hge => ?_)
  · have hjl : on < l.length := by omega
    have hil : l.length - 1 - on < l.length := by omega
    obtain ⟨b, off, hpp, hs⟩ := ((h.ext y1).ext hx).2.2.2 (by omega)
    subst hpp
    obtain ⟨cs, hk, hr, hsg⟩ := hs (l.length - 1 - on) _ (List.getElem?_eq_getElem hil)
    have hcode := hc _ (List.getElem_mem hil)
    have hleg := hlegs _ hil
    obtain ⟨a0, a1, a2, a3p, a3n, a3c, a3z, rfl, hd, ha⟩ := open_Leg hr hcode
    have hsnoc := rev_take (l := l) hjl
    rw [hd] at hleg hsnoc
    have hmok : moneyOk [.str a1, .bool a2, .ints a3z] = true := by
      simp only [legOk, Bool.and_eq_true] at hleg
      exact hleg.2
    have henc := (intOk_enc (moneyOk_int hmok)).1
    have hbd := money_bound hmok
    have hi2 : i.toNat = l.length - 1 - on := by omega
    have AD : ∀ _k : Nat, (⟨b, off, none⟩ : Addr).add (i.toNat * 4) = ⟨b, off + (l.length - 1 - on) * 4, none⟩ := fun _ => by rw [addr_add, hi2]
    refine ⟨⟨by omega, by omega⟩, _, fun W hW => (by rw [AD 0, addr_add]; exact (hsg.ext ((Ext.drew wr).trans hW)).loadAt 0 rfl (by kernel_rfl) rfl), ⟨by omega, by omega⟩, _, fun W hW => (by rw [AD 0, addr_add, addr_add]; exact (hsg.ext ((Ext.drew wr).trans hW)).loadAt 1 rfl (by kernel_rfl) rfl), ⟨by omega, by omega⟩, _, _, _, _, fun W hW => (by rw [AD 0, addr_add, addr_add]; exact (hsg.ext ((Ext.drew wr).trans hW)).loadAAt 2 [.bool a2, .slice a3p a3n a3c] rfl (by kernel_rfl) rfl), ?_⟩
    have D := Ext.drew wr
    have hs : Reps wr.drew [.bool a2, .slice a3p a3n a3c] (enc (ival [.bool a2, .ints a3z])) := by
      rw [<- henc]
      exact ⟨rfl, ⟨_, _, _, rfl, ha.ext D⟩, trivial⟩
    have dl : (digs (ival [.bool a2, .ints a3z]).natAbs).length <= 6 := digs_len_le (by omega)
    refine Ret.at (impl_intNeg_c hs (by omega)) ?_
    rintro v w3 ⟨vs, fx, hv, ho, hnd, y3⟩
    subst hv
    have ho' := ho
    obtain ⟨d1, dp, dn, dc, dz, rfl, hq, hbr⟩ := open_Signed ho.reps (enc_code _)
    refine ⟨_, _, _, _, rfl, y3, ?_⟩
    intro r6 w6 hn6
    have Y6 := (D.trans y3).trans hn6.ext
    have l6 := Y6.le; have lD := D.le
    have ho6 := (Owns.append (Owns.str _ _ a0) (Owns.append (Owns.str _ _ a1) (ho'.ext hn6.ext)))
    obtain ⟨p7, c7, w7, fn, hap, hpush, hch, hxx⟩ := (how.ext Y6).push (P := P) sliceT_leg (by omega) hn6.blk rfl (ho6.mono (by omega)) hnd (fun q hq hm => by
      have h1 := (ho'.lt q hq).1
      have h2 := (how.lt q hm).2
      omega) (by omega) (by omega)
    have hxn := hxx w1 (hx.trans Y6) (Nat.le_refl _)
    refine ⟨_, _, _, _, hap, exW ⟨by omega, by omega⟩ ⟨⟨on + 1, fn, by omega, by omega, rfl, hxn, by rw [hsnoc]; exact hpush⟩, ?_⟩⟩
    show (i - 1 + 1).toNat < (i + 1).toNat
    omega
  · have hjn : on = l.length := by omega
    rw [hjn, List.take_of_length_le (by simp)] at how
    refine ⟨op, _, oc, f, by rw [hok], ?_, undo_code hc, undo_cnt hc, y1.trans hx⟩
    unfold undo
    rw [if_pos hok]
    rw [<- hjn] at how
    exact how.mono (by omega)
end Go.Proofs.YtbgokfhcgcoipaaGreatDoor
namespace Go.Proofs.YtbgokfhcgcoipaaGreatDoor
open Go Go.Proofs.YtbgokfhcgcoipaaGreatDoor.Sx
def moneyVal : List D0 -> Int
  | [.str c, .bool b, .ints z] => ival [.bool b, .ints z]
  | _ => 0
def msOk (cur : ByteArray) : List D0 -> Bool
  | [.str c, .bool b, .ints z] => moneyOk [.str c, .bool b, .ints z] && decide (c = cur)
  | _ => false
theorem val_bound {cur : ByteArray} {x : List D0} (h : msOk cur x = true) : (moneyVal x).natAbs <= 1000000000000000000000000000000000000 := by
  unfold msOk at h
  split at h
  · simp only [Bool.and_eq_true] at h
    exact money_bound h.1
  · cases h
theorem impl_moneyOf_c {w : World} (ht : Tab w) {B : Nat} {xs : List Value} {z : Int} {f : List Nat} (cur : ByteArray) (h : Owns w B xs (enc z) f) (hnd : f.Nodup) (hB : B <= w.heap.size) :
    Ret P n_impl_moneyOf [.string cur, .agg ⟨xs⟩] w fun v w' => ∃ vs f', v = .tuple #[.agg ⟨vs⟩, .bool (moneyOk (.str cur :: enc z))] /\ Owns w' B vs (moneyMk cur z) f' /\ f'.Nodup /\ Ext w w' := by
  have ho := h
  obtain ⟨a0, a1p, a1n, a1c, a1z, rfl, hd, ha⟩ := open_Signed h.reps (enc_code _)
  refine impl_moneyOf_ret ?_
  unfold impl_moneyOf
  intro r w1 hn1 r1 w2 hn2
  refine ⟨_, _, _, _, (hn1.blk.ext hn2.ext).loadA0 (by kernel_rfl), ?_⟩
  intro r2 w3 hn3
  have e1 := hn1.r_eq; have e2 := hn2.r_eq; have e3 := hn3.r_eq; have s1 := hn1.size; have s2 := hn2.size; have s3 := hn3.size
  obtain ⟨w4, st4, hb4, y4⟩ := hn3.fill (P := P) (t := T_impl_Money) (xs := [.string cur, .bool a0, .slice a1p a1n a1c]) (by simp [Value.oneCell']) (by kernel_rfl) rfl
  have X := (hn1.ext.trans hn2.ext).trans y4
  have k1 := hn2.blk.ext y4
  refine ⟨w4, st4, _, _, _, _, _, hb4.loadA0 (by kernel_rfl), ?_⟩
  have hm : Reps w4 [.string cur, .bool a0, .slice a1p a1n a1c] (.str cur :: enc z) := ⟨rfl, h.reps.ext X⟩
  refine Ret.at (impl_MoneyOk_c (ht.ext X) hm rfl) ?_
  rintro v w5 ⟨hv, y5⟩
  subst hv
  have X5 := X.trans y5
  refine ⟨_, rfl, fun hyes => ?_, fun hno => ?_⟩
  · obtain ⟨w6, st6, hb6, ch, sz⟩ := (k1.ext y5).storeA0 (P := P) (t := T_impl_Money) (xs := [.string cur, .bool a0, .slice a1p a1n a1c]) (by kernel_rfl) rfl (by simp [Value.oneCell'])
    refine ⟨_, _, _, _, _, (hb4.ext y5).loadA0 (by kernel_rfl), w6, st6, _, _, _, _, _, hb6.loadA0 (by kernel_rfl), [.string cur, .bool a0, .slice a1p a1n a1c], f, by rw [hyes], ?_, hnd, X5.chg ch (by simp; omega)⟩
    unfold moneyMk
    rw [hyes]
    have h5 := ((ho.ext X5).chg ch fun k hk hm => by
      have := (ho.lt k hk).2
      simp at hm; omega)
    exact Owns.append (Owns.str _ _ cur) h5
  · obtain ⟨w6, st6, hb6, ch, sz⟩ := (k1.ext y5).storeA0 (P := P) (t := T_impl_Money) (xs := [.string ByteArray.empty, .bool false, .slice none 0 0]) (by kernel_rfl) rfl (by simp [Value.oneCell'])
    refine ⟨w6, st6, _, _, _, _, _, hb6.loadA0 (by kernel_rfl), [.string ByteArray.empty, .bool false, .slice none 0 0], [], by rw [hno], ?_, List.nodup_nil, X5.chg ch (by simp; omega)⟩
    unfold moneyMk
    rw [hno]
    exact Owns.append (Owns.str _ _ _) (Owns.append (Owns.bool _ _ false) (Owns.ints (zs := []) (Own.nil w6 B T_int 1)))
end Go.Proofs.YtbgokfhcgcoipaaGreatDoor
namespace Go.Proofs.YtbgokfhcgcoipaaGreatDoor
open Go Go.Proofs.YtbgokfhcgcoipaaGreatDoor.Sx
theorem own_money0 (W : World) (B : Nat) : Owns W B [.string ByteArray.empty, .bool false, .slice none 0 0] zeroMoney [] :=
  Owns.append (Owns.str _ _ _) (Owns.append (Owns.bool _ _ false) (Owns.ints (zs := []) (Own.nil W B T_int 1)))
end Go.Proofs.YtbgokfhcgcoipaaGreatDoor
namespace Go.Proofs.YtbgokfhcgcoipaaGreatDoor
open Go Go.Proofs.YtbgokfhcgcoipaaGreatDoor.Sx
theorem agg_end {t : TypeId} {w W : World} {r : Nat} {e : TypeId} {old xs : List Value} {d : List D0} {f : List Nat} {B : Nat} (hb : Blk W r e old) (X : Ext w W) (hr : w.heap.size <= r)
    (ho : Owns W B xs d f) (ht : aggT P t xs.length = true) (hlen : xs.length = old.length) (hrB : r < B) (hwB : w.heap.size <= B) :
    ∃ W', Stores P t ⟨r, 0, none⟩ (.agg ⟨xs⟩) W W' /\ Loads P t ⟨r, 0, none⟩ (.agg ⟨xs⟩) W' /\ Owns W' w.heap.size xs d f /\ Ext w W' /\ Chg [r] W W' /\ Blk W' r e xs := by
  obtain ⟨W', st, hb', ch, _⟩ := hb.storeA0 (P := P) (t := t) (xs := xs) ht hlen ho.reps.cells1
  exact ⟨W', st, hb'.loadA0 ht, (ho.chg1 ch hrB).mono hwB, X.chg ch (by simp; exact hr), ch, hb'⟩
end Go.Proofs.YtbgokfhcgcoipaaGreatDoor
namespace Go.Proofs.YtbgokfhcgcoipaaGreatDoor
open Go Go.Proofs.YtbgokfhcgcoipaaGreatDoor.Sx
def alk : List D0 -> List D0 -> Bool
  | [.str c, .bool b, .ints z], [.str c2, .bool b2, .ints z2] => moneyOk [.str c, .bool b, .ints z] && (moneyOk [.str c2, .bool b2, .ints z2] && decide (c = c2))
  | _, _ => false
def mres (al : Bool) (c : ByteArray) (z : Int) : Bool × List D0 := if al then (moneyOk (.str c :: enc z), moneyMk c z) else (false, zeroMoney)
theorem mres_code (al : Bool) (c : ByteArray) (z : Int) : (mres al c z).2.map D0.code = [.str, .bool, .ints] := by
  unfold mres
  split
  · exact moneyMk_code _ _
  · rfl
theorem alk_parts {c c2 : ByteArray} {b b2 : Bool} {z z2 : List Int} (h : alk [.str c, .bool b, .ints z] [.str c2, .bool b2, .ints z2] = true) : moneyOk [.str c, .bool b, .ints z] = true /\ moneyOk [.str c2, .bool b2, .ints z2] = true /\ c = c2 := by
  simpa [alk] using h
theorem impl_intAdd_n {w : World} {xs ys : List Value} {x y : Int} (h : Reps w xs (enc x)) (k : Reps w ys (enc y)) (hx : x.natAbs <= 1000000000000000000000000000000000000) (hy : y.natAbs <= 1000000000000000000000000000000000000) :
    Ret P n_impl_intAdd [.agg ⟨xs⟩, .agg ⟨ys⟩] w fun v w' => ∃ vs f, v = .agg ⟨vs⟩ /\ Owns w' w.heap.size vs (enc (x + y)) f /\ f.Nodup /\ Ext w w' := by
  have d1 : (digs x.natAbs).length <= 6 := digs_len_le (by omega)
  have d2 : (digs y.natAbs).length <= 6 := digs_len_le (by omega)
  exact (impl_intAdd_c h k (by omega) (by omega)).mono fun v w' ⟨p, n, c, hv, ho, hx⟩ => ⟨_, _, hv, Owns.int2 ho, nodup_opt p, hx⟩
theorem spec_IntAdd_n {w : World} {xs ys : List Value} {x y : Int} (h : Reps w xs (enc x)) (k : Reps w ys (enc y)) (hx : x.natAbs <= 1000000000000000000000000000000000000) (hy : y.natAbs <= 1000000000000000000000000000000000000) :
    Ret P n_spec_IntAdd [.agg ⟨xs⟩, .agg ⟨ys⟩] w fun v w' => ∃ vs f, v = .agg ⟨vs⟩ /\ Owns w' w.heap.size vs (enc (x + y)) f /\ f.Nodup /\ Ext w w' :=
  (spec_IntAdd_c h k (enc_code _) (enc_code _)).mono fun v w' ⟨vs, f, hv, ho, hn, hx'⟩ => ⟨vs, f, hv, by rwa [iadd_small (by omega) (by omega)] at ho, hn, hx'⟩
theorem impl_alike_c {w : World} {xs ys : List Value} {c c2 : ByteArray} {b b2 : Bool} {z z2 : List Int} (h : Reps w xs [.str c, .bool b, .ints z]) (g : Reps w ys [.str c2, .bool b2, .ints z2]) (ht : Tab w) :
    Ret P n_impl_alike [.agg ⟨xs⟩, .agg ⟨ys⟩] w fun v w' => v = .bool (alk [.str c, .bool b, .ints z] [.str c2, .bool b2, .ints z2]) /\ Ext w w' := by
  have hr := h; have gr := g
  obtain ⟨cur, a0, ap, an, ac, az, rfl, hd, ha⟩ := open_Money h rfl
  cases hd
  obtain ⟨cur2, d0, bp, bn, bc, bz, rfl, hd, hb⟩ := open_Money g rfl
  cases hd
  refine impl_alike_ret ?_
  unfold impl_alike
  intro r w1 hn1 r1 w2 hn2
  have X := hn1.ext.trans hn2.ext
  have q0 := hn1.blk.ext hn2.ext; have q1 := hn2.blk
  refine ⟨_, _, _, _, _, q0.loadA0 (by kernel_rfl), ?_⟩
  refine Ret.at (impl_MoneyOk_c (ht.ext X) (hr.ext X) rfl) ?_
  rintro v w3 ⟨hv, y3⟩
  subst hv
  refine ⟨_, rfl, fun e => ⟨_, _, _, _, _, (q1.ext y3).loadA0 (by kernel_rfl), ?_⟩, fun e => ⟨fun hh => absurd hh (by simp), fun _ => ⟨by simp only [alk, e, Bool.false_and], X.trans y3⟩⟩⟩
  have X3 := X.trans y3
  refine Ret.at (impl_MoneyOk_c (ht.ext X3) (gr.ext X3) rfl) ?_
  rintro v w4 ⟨hv, y4⟩
  subst hv
  have Y := y3.trans y4
  exact ⟨_, rfl, fun e2 => ⟨_, (q0.ext Y).loadAt 0 rfl (by kernel_rfl) rfl, _, (q1.ext Y).loadAt 0 rfl (by kernel_rfl) rfl, by simp only [alk, e, e2, Bool.true_and], X.trans Y⟩, fun e2 => ⟨by simp only [alk, e, e2, Bool.false_and, Bool.and_false], X.trans Y⟩⟩
theorem spec_l09Both_c {w : World} {xs ys : List Value} {c c2 : ByteArray} {b b2 : Bool} {z z2 : List Int} (h : Reps w xs [.str c, .bool b, .ints z]) (g : Reps w ys [.str c2, .bool b2, .ints z2]) :
    Ret P n_spec_l09Both [.agg ⟨xs⟩, .agg ⟨ys⟩] w fun v w' => v = .bool (alk [.str c, .bool b, .ints z] [.str c2, .bool b2, .ints z2]) /\ Ext w w' := by
  have hr := h; have gr := g
  obtain ⟨cur, a0, ap, an, ac, az, rfl, hd, ha⟩ := open_Money h rfl
  cases hd
  obtain ⟨cur2, d0, bp, bn, bc, bz, rfl, hd, hb⟩ := open_Money g rfl
  cases hd
  refine spec_l09Both_ret ?_
  unfold spec_l09Both
  intro r w1 hn1 r1 w2 hn2
  have X := hn1.ext.trans hn2.ext
  have q0 := hn1.blk.ext hn2.ext; have q1 := hn2.blk
  refine ⟨_, _, _, _, _, q0.loadA0 (by kernel_rfl), ?_⟩
  refine Ret.at (spec_MoneyOk_c (hr.ext X) rfl) ?_
  rintro v w3 ⟨hv, y3⟩
  subst hv
  refine ⟨_, rfl, fun e => ⟨_, _, _, _, _, (q1.ext y3).loadA0 (by kernel_rfl), ?_⟩, fun e => ⟨fun hh => absurd hh (by simp), fun _ => ⟨by simp only [alk, e, Bool.false_and], X.trans y3⟩⟩⟩
  have X3 := X.trans y3
  refine Ret.at (spec_MoneyOk_c (gr.ext X3) rfl) ?_
  rintro v w4 ⟨hv, y4⟩
  subst hv
  have Y := y3.trans y4
  exact ⟨_, rfl, fun e2 => ⟨_, (q0.ext Y).loadAt 0 rfl (by kernel_rfl) rfl, _, (q1.ext Y).loadAt 0 rfl (by kernel_rfl) rfl, by simp only [alk, e, e2, Bool.true_and], X.trans Y⟩, fun e2 => ⟨by simp only [alk, e, e2, Bool.false_and, Bool.and_false], X.trans Y⟩⟩
theorem impl_MoneyAdd_n {w : World} {xs ys : List Value} {c c2 : ByteArray} {b b2 : Bool} {z z2 : List Int} (h : Reps w xs [.str c, .bool b, .ints z]) (g : Reps w ys [.str c2, .bool b2, .ints z2]) (ht : Tab w) :
    Ret P n_impl_MoneyAdd [.agg ⟨xs⟩, .agg ⟨ys⟩] w fun v w' => ∃ vs f, v = .tuple #[.agg ⟨vs⟩, .bool (mres (alk [.str c, .bool b, .ints z] [.str c2, .bool b2, .ints z2]) c (ival [.bool b, .ints z] + ival [.bool b2, .ints z2])).1] /\ Owns w' w.heap.size vs (mres (alk [.str c, .bool b, .ints z] [.str c2, .bool b2, .ints z2]) c (ival [.bool b, .ints z] + ival [.bool b2, .ints z2])).2 f /\ f.Nodup /\ Ext w w' := by
  have hr := h; have gr := g
  obtain ⟨cur, a0, ap, an, ac, az, rfl, hd, ha⟩ := open_Money h rfl
  cases hd
  obtain ⟨cur2, d0, bp, bn, bc, bz, rfl, hd, hb⟩ := open_Money g rfl
  cases hd
  refine impl_MoneyAdd_ret ?_
  unfold impl_MoneyAdd
  intro r w1 hn1 r1 w2 hn2 r2 w3 hn3
  have e1 := hn1.r_eq; have e2 := hn2.r_eq; have e3 := hn3.r_eq; have s1 := hn1.size; have s2 := hn2.size; have s3 := hn3.size
  have X := (hn1.ext.trans hn2.ext).trans hn3.ext
  have q0 := (hn1.blk.ext hn2.ext).ext hn3.ext; have q1 := hn2.blk.ext hn3.ext; have q2 := hn3.blk
  refine ⟨_, _, _, _, _, q0.loadA0 (by kernel_rfl), _, _, _, _, _, q1.loadA0 (by kernel_rfl), ?_⟩
  refine Ret.at (impl_alike_c (hr.ext X) (gr.ext X) (ht.ext X)) ?_
  rintro v w4 ⟨hv, y4⟩
  subst hv
  have l4 := y4.le
  generalize hal : alk [.str c, .bool b, .ints z] [.str c2, .bool b2, .ints z2] = al
  refine ⟨_, rfl, ifN (fun hno => ?_) (fun hyes => ?_)⟩
  · subst hno
    obtain ⟨W', st', ld', ow', xx', _, _⟩ := agg_end (t := T_impl_Money) (q2.ext y4) (X.trans y4) (by omega) (own_money0 w4 (r2 + 1)) (by kernel_rfl) rfl (by omega) (by omega)
    exact ⟨W', st', _, _, _, _, _, ld', _, [], rfl, ow', List.nodup_nil, xx'⟩
  subst hyes
  obtain ⟨m1, m2, rfl⟩ := alk_parts hal
  have E1 := (intOk_enc (moneyOk_int m1)).1; have E2 := (intOk_enc (moneyOk_int m2)).1
  have B1 := money_bound m1; have B2 := money_bound m2
  have Y := y4.trans (Ext.drew w4)
  have X4 := X.trans Y
  have lY := Y.le
  have k0 := q0.ext Y; have k1 := q1.ext Y; have k2 := q2.ext Y
  have hx : Reps w4.drew [.bool b, .slice ap an ac] (enc (ival [.bool b, .ints z])) := by
    rw [<- E1]; exact ⟨rfl, ⟨_, _, _, rfl, ha.ext X4⟩, trivial⟩
  have hy : Reps w4.drew [.bool b2, .slice bp bn bc] (enc (ival [.bool b2, .ints z2])) := by
    rw [<- E2]; exact ⟨rfl, ⟨_, _, _, rfl, hb.ext X4⟩, trivial⟩
  generalize ival [.bool b, .ints z] = U at B1 hx
  generalize ival [.bool b2, .ints z2] = V at B2 hy
  refine ⟨_, fun W hW => (k0.ext hW).loadAt 0 rfl (by kernel_rfl) rfl, _, _, _, _, fun W hW => (k0.ext hW).loadAAt 1 [.bool b, .slice ap an ac] rfl (by kernel_rfl) rfl, _, _, _, _, fun W hW => (k1.ext hW).loadAAt 1 [.bool b2, .slice bp bn bc] rfl (by kernel_rfl) rfl, ?_⟩
  refine Ret.at (impl_intAdd_n hx hy B1 B2) ?_
  rintro v w6 ⟨vs6, f6, hv, ho6, nd6, y6⟩
  subst hv
  have Z6 := y6
  obtain ⟨g0, gp, gn, gc, gz, rfl, _, _⟩ := open_Signed ho6.reps (enc_code _)
  have l6 := y6.le
  refine ⟨_, _, _, _, rfl, y6, ?_⟩
  refine Ret.at (impl_moneyOf_c (ht.ext (X4.trans y6)) c ho6 nd6 (by omega)) ?_
  rintro v w7 ⟨vs7, f7, hv, ho7, nd7, y7⟩
  subst hv
  obtain ⟨u0, u1, up, un, uc, uz, rfl, _, _⟩ := open_Money ho7.reps (moneyMk_code _ _)
  obtain ⟨W', st', ld', ow', xx', _, _⟩ := agg_end (t := T_impl_Money) ((k2.ext Z6).ext y7) ((X4.trans Z6).trans y7) (by omega) ho7 (by kernel_rfl) rfl (by omega) (by omega)
  exact ⟨_, _, _, _, _, _, rfl, W', st', _, _, _, _, _, ld', _, f7, rfl, ow', nd7, xx'⟩
theorem spec_MoneyAdd_n {w : World} {xs ys : List Value} {c c2 : ByteArray} {b b2 : Bool} {z z2 : List Int} (h : Reps w xs [.str c, .bool b, .ints z]) (g : Reps w ys [.str c2, .bool b2, .ints z2]) :
    Ret P n_spec_MoneyAdd [.agg ⟨xs⟩, .agg ⟨ys⟩] w fun v w' => ∃ vs f, v = .tuple #[.agg ⟨vs⟩, .bool (mres (alk [.str c, .bool b, .ints z] [.str c2, .bool b2, .ints z2]) c (ival [.bool b, .ints z] + ival [.bool b2, .ints z2])).1] /\ Owns w' w.heap.size vs (mres (alk [.str c, .bool b, .ints z] [.str c2, .bool b2, .ints z2]) c (ival [.bool b, .ints z] + ival [.bool b2, .ints z2])).2 f /\ f.Nodup /\ Ext w w' := by
  have hr := h; have gr := g
  obtain ⟨cur, a0, ap, an, ac, az, rfl, hd, ha⟩ := open_Money h rfl
  cases hd
  obtain ⟨cur2, d0, bp, bn, bc, bz, rfl, hd, hb⟩ := open_Money g rfl
  cases hd
  refine spec_MoneyAdd_ret ?_
  unfold spec_MoneyAdd
  intro r w1 hn1 r1 w2 hn2 r2 w3 hn3
  have e1 := hn1.r_eq; have e2 := hn2.r_eq; have e3 := hn3.r_eq; have s1 := hn1.size; have s2 := hn2.size; have s3 := hn3.size
  have X := (hn1.ext.trans hn2.ext).trans hn3.ext
  have q0 := (hn1.blk.ext hn2.ext).ext hn3.ext; have q1 := hn2.blk.ext hn3.ext; have q2 := hn3.blk
  refine ⟨_, _, _, _, _, q0.loadA0 (by kernel_rfl), _, _, _, _, _, q1.loadA0 (by kernel_rfl), ?_⟩
  refine Ret.at (spec_l09Both_c (hr.ext X) (gr.ext X)) ?_
  rintro v w4 ⟨hv, y4⟩
  subst hv
  have l4 := y4.le
  generalize hal : alk [.str c, .bool b, .ints z] [.str c2, .bool b2, .ints z2] = al
  refine ⟨_, rfl, ifN (fun hno => ?_) (fun hyes => ?_)⟩
  · subst hno
    obtain ⟨W', st', ld', ow', xx', _, _⟩ := agg_end (t := T_impl_Money) (q2.ext y4) (X.trans y4) (by omega) (own_money0 w4 (r2 + 1)) (by kernel_rfl) rfl (by omega) (by omega)
    exact ⟨W', st', _, _, _, _, _, ld', _, [], rfl, ow', List.nodup_nil, xx'⟩
  subst hyes
  obtain ⟨m1, m2, rfl⟩ := alk_parts hal
  have E1 := (intOk_enc (moneyOk_int m1)).1; have E2 := (intOk_enc (moneyOk_int m2)).1
  have B1 := money_bound m1; have B2 := money_bound m2
  have Y := y4.trans (Ext.drew w4)
  have X4 := X.trans Y
  have lY := Y.le
  have k0 := q0.ext Y; have k1 := q1.ext Y; have k2 := q2.ext Y
  have hx : Reps w4.drew [.bool b, .slice ap an ac] (enc (ival [.bool b, .ints z])) := by
    rw [<- E1]; exact ⟨rfl, ⟨_, _, _, rfl, ha.ext X4⟩, trivial⟩
  have hy : Reps w4.drew [.bool b2, .slice bp bn bc] (enc (ival [.bool b2, .ints z2])) := by
    rw [<- E2]; exact ⟨rfl, ⟨_, _, _, rfl, hb.ext X4⟩, trivial⟩
  generalize ival [.bool b, .ints z] = U at B1 hx
  generalize ival [.bool b2, .ints z2] = V at B2 hy
  refine ⟨_, fun W hW => (k0.ext hW).loadAt 0 rfl (by kernel_rfl) rfl, _, _, _, _, fun W hW => (k0.ext hW).loadAAt 1 [.bool b, .slice ap an ac] rfl (by kernel_rfl) rfl, _, _, _, _, fun W hW => (k1.ext hW).loadAAt 1 [.bool b2, .slice bp bn bc] rfl (by kernel_rfl) rfl, ?_⟩
  refine Ret.at (spec_IntAdd_n hx hy B1 B2) ?_
  rintro v w6 ⟨vs6, f6, hv, ho6, nd6, y6⟩
  subst hv
  have Z6 := y6
  obtain ⟨g0, gp, gn, gc, gz, rfl, _, _⟩ := open_Signed ho6.reps (enc_code _)
  have l6 := y6.le
  refine ⟨_, _, _, _, rfl, y6, ?_⟩
  refine Ret.at (spec_l09Make_c c ho6 nd6 (by omega)) ?_
  rintro v w7 ⟨vs7, f7, hv, ho7, nd7, y7⟩
  subst hv
  obtain ⟨u0, u1, up, un, uc, uz, rfl, _, _⟩ := open_Money ho7.reps (moneyMk_code _ _)
  obtain ⟨W', st', ld', ow', xx', _, _⟩ := agg_end (t := T_impl_Money) ((k2.ext Z6).ext y7) ((X4.trans Z6).trans y7) (by omega) ho7 (by kernel_rfl) rfl (by omega) (by omega)
  exact ⟨_, _, _, _, _, _, rfl, W', st', _, _, _, _, _, ld', _, f7, rfl, ow', nd7, xx'⟩
end Go.Proofs.YtbgokfhcgcoipaaGreatDoor
namespace Go.Proofs.YtbgokfhcgcoipaaGreatDoor
open Go Go.Proofs.YtbgokfhcgcoipaaGreatDoor.Sx
def addM : List D0 -> List D0 -> Bool × List D0
  | [.str c, .bool b, .ints z], [.str c2, .bool b2, .ints z2] => mres (alk [.str c, .bool b, .ints z] [.str c2, .bool b2, .ints z2]) c (ival [.bool b, .ints z] + ival [.bool b2, .ints z2])
  | _, _ => (false, zeroMoney)
def rowAt (l : List (List D0)) (name : ByteArray) : List D0 := l.getD (acctAt l name).toNat []
def postL (l : List (List D0)) (name : ByteArray) (m : List D0) : List (List D0) := l.set (acctAt l name).toNat ((rowAt l name).take 1 ++ (addM ((rowAt l name).drop 1) m).2)
def postOk (l : List (List D0)) (name : ByteArray) (m : List D0) : Bool := bookOk l && (decide (0 <= acctAt l name) && (addM ((rowAt l name).drop 1) m).1)
def postT (l : List (List D0)) (name : ByteArray) (m : List D0) : List (List D0) := if postOk l name m then postL l name m else []
theorem addM_code (x m : List D0) : (addM x m).2.map D0.code = [.str, .bool, .ints] := by
  unfold addM
  split
  · exact mres_code _ _ _
  · rfl
theorem addM_cnt {x m : List D0} (h : (addM x m).1 = true) : cnts (addM x m).2 <= 59 := by
  unfold addM at h ⊢
  split at h
  · unfold mres at h ⊢
    split at h
    · rename_i hal
      rw [if_pos hal]
      simp only at h ⊢
      unfold moneyMk
      rw [if_pos h]
      have hm := h
      simp only [enc, moneyOk, Bool.and_eq_true] at hm
      obtain ⟨_, b', z', he, _, hl⟩ := intOk_enc hm.1.2
      simp only [List.cons.injEq, D0.bool.injEq, D0.ints.injEq, and_true] at he
      obtain ⟨_, he⟩ := he
      rw [enc, he]
      show (1 : Int) + (1 + ((z'.length : Nat) + 0)) <= 59
      omega
    · cases h
  · cases h
theorem acct_in {l : List (List D0)} {name : ByteArray} (h : 0 <= acctAt l name) : ∃ j, ∃ hj : j < l.length, acctAt l name = j /\ rowAt l name = l[j] := by
  rcases firstI_spec (fun x => decide (strOf x = name)) l with ⟨h1, _⟩ | ⟨j, hj, h1, _⟩
  · unfold acctAt at h; omega
  · refine ⟨j, hj, h1, ?_⟩
    unfold rowAt acctAt
    rw [h1, Int.toNat_natCast, getD_row hj]
theorem postL_code {l : List (List D0)} (hc : ∀ x ∈ l, x.map D0.code = [.str, .str, .bool, .ints]) {name : ByteArray} (m : List D0) (h0 : 0 <= acctAt l name) : ∀ x ∈ postL l name m, x.map D0.code = [.str, .str, .bool, .ints] := fun x hx => by
  obtain ⟨j, hj, h1, h2⟩ := acct_in h0
  rcases List.mem_or_eq_of_mem_set hx with h | h
  · exact hc x h
  · rw [h, h2, List.map_append, addM_code, List.map_take, hc _ (List.getElem_mem hj)]
    rfl
theorem cnts_app : ∀ (a b : List D0), cnts (a ++ b) = cnts a + cnts b
  | [], b => by simp [cnts]
  | x :: a, b => by
    have := cnts_app a b
    simp only [List.cons_append, cnts]
    omega
theorem acct_row {w : World} {B b n c j : Nat} {l : List (List D0)} {f : List Nat} {e : TypeId} (ho : OwnRows w B e 4 (some ⟨b, 0, none⟩) n c l f) (hj : j < l.length) (hcj : l[j].map D0.code = [.str, .str, .bool, .ints]) (ht : aggT P T_impl_Money 3 = true) :
    ∃ (m0 : ByteArray) (m1 : Bool) (kp : Option Addr) (kn kc : Nat) (mz : List Int), B <= b /\ b < w.heap.size /\ b ∈ f /\ l[j].drop 1 = [.str m0, .bool m1, .ints mz] /\
      (∀ W, Ext w W -> Loads P T_impl_Money (((⟨b, 0, none⟩ : Addr).add (j * 4)).add 1) (.agg #[.string m0, .bool m1, .slice kp kn kc]) W) /\
      Reps w [.string m0, .bool m1, .slice kp kn kc] [.str m0, .bool m1, .ints mz] /\
      ∀ (d : List D0) (W8 : World) (s8 : ByteArray) (b8 : Bool) (p8 : Option Addr) (n8 c8 : Nat) (f8 : List Nat), Ext w W8 -> Owns W8 B [.string s8, .bool b8, .slice p8 n8 c8] d f8 -> f8.Nodup -> (∀ q ∈ f8, q ∉ f) ->
        ∃ w9 f9, Stores P T_impl_Money (((⟨b, 0, none⟩ : Addr).add (j * 4)).add 1) (.agg #[.string s8, .bool b8, .slice p8 n8 c8]) W8 w9 /\ OwnRows w9 B e 4 (some ⟨b, 0, none⟩) n c (l.set j (l[j].take 1 ++ d)) f9 /\ Chg [b] W8 w9 /\ w9.heap.size = W8.heap.size /\ (∀ q ∈ f9, q ∈ f ∨ q ∈ f8) := by
  obtain ⟨b', xs, cs5, zs, hpb, hbB, hbf, hxl, hcl, hblk, hrep, hput⟩ := ho.put (List.getElem?_eq_getElem hj)
  simp only [Option.some.injEq, Addr.mk.injEq, and_true] at hpb
  obtain rfl := hpb
  obtain ⟨k0, m0, m1, kp, kn, kc, kz, rfl, hkd, hki⟩ := open_Acct hrep hcj
  rw [hkd]
  refine ⟨m0, m1, kp, kn, kc, kz, hbB, hblk.lt, hbf, rfl, fun W hW => (hblk.ext hW).loadAAt (j * 4 + 1) [.string m0, .bool m1, .slice kp kn kc] (by rw [addr_add, addr_add, Nat.zero_add]) ht (by rw [<- hxl, List.append_assoc, List.drop_length_add_append]; rfl), ⟨rfl, rfl, ⟨_, _, _, rfl, hki⟩, trivial⟩, ?_⟩
  intro d W8 s8 b8 p8 n8 c8 f8 hx h8 hn8 hf8
  have hblk8 := hblk.ext hx
  obtain ⟨w9, st9, hb9, ch9, sz9⟩ := hblk8.storeA (P := P) (t := T_impl_Money) (k := j * 4 + 1) (xs := [.string s8, .bool b8, .slice p8 n8 c8]) ht (by simp only [List.length_append, List.length_cons, List.length_nil]; omega) (by simp [Value.oneCell'])
  have hnew : (xs ++ [Value.string k0, .string m0, .bool m1, .slice kp kn kc] ++ zs).take (j * 4 + 1) ++ [Value.string s8, .bool b8, .slice p8 n8 c8] ++ (xs ++ [Value.string k0, .string m0, .bool m1, .slice kp kn kc] ++ zs).drop (j * 4 + 1 + [Value.string s8, .bool b8, .slice p8 n8 c8].length) = xs ++ [Value.string k0, .string s8, .bool b8, .slice p8 n8 c8] ++ zs := by
    rw [<- hxl, List.append_assoc xs, List.take_length_add_append, Nat.add_assoc, List.drop_length_add_append]
    simp
  rw [hnew] at hb9
  have hbl := hblk.lt
  have ho9 : Owns w9 B [.string k0, .string s8, .bool b8, .slice p8 n8 c8] (.str k0 :: d) f8 := Owns.append (Owns.str _ _ k0) (h8.chg ch9 (fun k hk hm => by
    simp at hm; subst hm; exact hf8 _ hk hbf))
  obtain ⟨f9, hor9, hf9⟩ := hput w9 _ _ f8 (hx.toChg.trans ch9) rfl hb9 ho9 hn8 hf8
  refine ⟨w9, f9, ?_, hor9, ch9, sz9, hf9⟩
  rw [addr_add] at st9
  rw [addr_add, addr_add, Nat.zero_add]
  rw [Nat.zero_add] at st9
  exact st9
end Go.Proofs.YtbgokfhcgcoipaaGreatDoor
namespace Go.Proofs.YtbgokfhcgcoipaaGreatDoor
open Go Go.Shelf
def ren105 : Ren := ⟨fun x => match x with | 105 => 234 | 212 => 283 | 99 => 284 | 165 => 226 | 166 => 227 | 170 => 285 | 169 => 228 | 263 => 318 | 264 => 319 | 206 => 320 | 240 => 277 | 241 => 278 | 276 => 314 | 277 => 315 | n => n, fun x => match x with | 9 => 9 | 3 => 3 | 4 => 4 | 20 => 20 | 0 => 0 | 46 => 235 | 109 => 287 | 5 => 5 | 72 => 248 | 76 => 188 | 51 => 223 | 146 => 318 | 53 => 153 | 148 => 320 | 70 => 246 | 37 => 28 | 75 => 187 | 127 => 282 | 164 => 310 | 80 => 250 | n => n, fun x => x⟩
theorem lays105 : Lays.n105 Tryz.prog ren105 := {
  mixed := by kernel_rfl,
  f99 := Tryz.func284.trans (congrArg some (by kernel_rfl)),
  f105 := Tryz.func234.trans (congrArg some (by kernel_rfl)),
  f165 := Tryz.func226.trans (congrArg some (by kernel_rfl)),
  f166 := Tryz.func227.trans (congrArg some (by kernel_rfl)),
  f169 := Tryz.func228.trans (congrArg some (by kernel_rfl)),
  f170 := Tryz.func285.trans (congrArg some (by kernel_rfl)),
  f206 := Tryz.func320.trans (congrArg some (by kernel_rfl)),
  f212 := Tryz.func283.trans (congrArg some (by kernel_rfl)),
  f240 := Tryz.func277.trans (congrArg some (by kernel_rfl)),
  f241 := Tryz.func278.trans (congrArg some (by kernel_rfl)),
  f263 := Tryz.func318.trans (congrArg some (by kernel_rfl)),
  f264 := Tryz.func319.trans (congrArg some (by kernel_rfl)),
  f276 := Tryz.func314.trans (congrArg some (by kernel_rfl)),
  f277 := Tryz.func315.trans (congrArg some (by kernel_rfl)),
  t0 := Tryz.underlying0,
  a0 := Tryz.isAgg0,
  z0 := Tryz.sizeOf0,
  v0 := Tryz.zeroValue0,
  t3 := Tryz.underlying3,
  a3 := Tryz.isAgg3,
  z3 := Tryz.sizeOf3,
  v3 := Tryz.zeroValue3,
  t4 := Tryz.underlying4,
  a4 := Tryz.isAgg4,
  z4 := Tryz.sizeOf4,
  v4 := Tryz.zeroValue4,
  t5 := Tryz.underlying5,
  a5 := Tryz.isAgg5,
  z5 := Tryz.sizeOf5,
  v5 := Tryz.zeroValue5,
  t9 := Tryz.underlying9,
  a9 := Tryz.isAgg9,
  z9 := Tryz.sizeOf9,
  v9 := Tryz.zeroValue9,
  t20 := Tryz.underlying20,
  a20 := Tryz.isAgg20,
  z20 := Tryz.sizeOf20,
  v20 := Tryz.zeroValue20,
  t37 := Tryz.underlying28,
  a37 := Tryz.isAgg28,
  z37 := Tryz.sizeOf28,
  v37 := Tryz.zeroValue28,
  t46 := Tryz.underlying235,
  a46 := Tryz.isAgg235,
  z46 := Tryz.sizeOf235,
  v46 := Tryz.zeroValue235,
  t51 := Tryz.underlying223,
  a51 := Tryz.isAgg223,
  z51 := Tryz.sizeOf223,
  v51 := Tryz.zeroValue223,
  t53 := Tryz.underlying153,
  a53 := Tryz.isAgg153,
  z53 := Tryz.sizeOf153,
  v53 := Tryz.zeroValue153,
  t70 := Tryz.underlying246,
  a70 := Tryz.isAgg246,
  z70 := Tryz.sizeOf246,
  v70 := Tryz.zeroValue246,
  t72 := Tryz.underlying248,
  a72 := Tryz.isAgg248,
  z72 := Tryz.sizeOf248,
  v72 := Tryz.zeroValue248,
  t75 := Tryz.underlying187,
  a75 := Tryz.isAgg187,
  z75 := Tryz.sizeOf187,
  v75 := Tryz.zeroValue187,
  t76 := Tryz.underlying188,
  a76 := Tryz.isAgg188,
  z76 := Tryz.sizeOf188,
  v76 := Tryz.zeroValue188,
  t109 := Tryz.underlying287,
  a109 := Tryz.isAgg287,
  z109 := Tryz.sizeOf287,
  v109 := Tryz.zeroValue287,
  t127 := Tryz.underlying282,
  a127 := Tryz.isAgg282,
  z127 := Tryz.sizeOf282,
  v127 := Tryz.zeroValue282,
  t146 := Tryz.underlying318,
  a146 := Tryz.isAgg318,
  z146 := Tryz.sizeOf318,
  v146 := Tryz.zeroValue318,
  t148 := Tryz.underlying320,
  a148 := Tryz.isAgg320,
  z148 := Tryz.sizeOf320,
  v148 := Tryz.zeroValue320,
  t164 := Tryz.underlying310,
  a164 := Tryz.isAgg310,
  z164 := Tryz.sizeOf310,
  v164 := Tryz.zeroValue310 }
def ren156 : Ren := ⟨fun x => match x with | 156 => 168 | 165 => 226 | 166 => 227 | 169 => 228 | 240 => 277 | 241 => 278 | 276 => 314 | 277 => 315 | n => n, fun x => match x with | 31 => 98 | 9 => 9 | 3 => 3 | 4 => 4 | 0 => 0 | 20 => 20 | 72 => 248 | 76 => 188 | 70 => 246 | 37 => 28 | 75 => 187 | 127 => 282 | 164 => 310 | 5 => 5 | 80 => 250 | n => n, fun x => x⟩
theorem lays156 : Lays.n156 Tryz.prog ren156 := {
  mixed := by kernel_rfl,
  f156 := Tryz.func168.trans (congrArg some (by kernel_rfl)),
  f165 := Tryz.func226.trans (congrArg some (by kernel_rfl)),
  f166 := Tryz.func227.trans (congrArg some (by kernel_rfl)),
  f169 := Tryz.func228.trans (congrArg some (by kernel_rfl)),
  f240 := Tryz.func277.trans (congrArg some (by kernel_rfl)),
  f241 := Tryz.func278.trans (congrArg some (by kernel_rfl)),
  f276 := Tryz.func314.trans (congrArg some (by kernel_rfl)),
  f277 := Tryz.func315.trans (congrArg some (by kernel_rfl)),
  t0 := Tryz.underlying0,
  a0 := Tryz.isAgg0,
  z0 := Tryz.sizeOf0,
  v0 := Tryz.zeroValue0,
  t3 := Tryz.underlying3,
  a3 := Tryz.isAgg3,
  z3 := Tryz.sizeOf3,
  v3 := Tryz.zeroValue3,
  t4 := Tryz.underlying4,
  a4 := Tryz.isAgg4,
  z4 := Tryz.sizeOf4,
  v4 := Tryz.zeroValue4,
  t9 := Tryz.underlying9,
  a9 := Tryz.isAgg9,
  z9 := Tryz.sizeOf9,
  v9 := Tryz.zeroValue9,
  t20 := Tryz.underlying20,
  a20 := Tryz.isAgg20,
  z20 := Tryz.sizeOf20,
  v20 := Tryz.zeroValue20,
  t31 := Tryz.underlying98,
  a31 := Tryz.isAgg98,
  z31 := Tryz.sizeOf98,
  v31 := Tryz.zeroValue98,
  t37 := Tryz.underlying28,
  a37 := Tryz.isAgg28,
  z37 := Tryz.sizeOf28,
  v37 := Tryz.zeroValue28,
  t70 := Tryz.underlying246,
  a70 := Tryz.isAgg246,
  z70 := Tryz.sizeOf246,
  v70 := Tryz.zeroValue246,
  t72 := Tryz.underlying248,
  a72 := Tryz.isAgg248,
  z72 := Tryz.sizeOf248,
  v72 := Tryz.zeroValue248,
  t75 := Tryz.underlying187,
  a75 := Tryz.isAgg187,
  z75 := Tryz.sizeOf187,
  v75 := Tryz.zeroValue187,
  t76 := Tryz.underlying188,
  a76 := Tryz.isAgg188,
  z76 := Tryz.sizeOf188,
  v76 := Tryz.zeroValue188,
  t127 := Tryz.underlying282,
  a127 := Tryz.isAgg282,
  z127 := Tryz.sizeOf282,
  v127 := Tryz.zeroValue282,
  t164 := Tryz.underlying310,
  a164 := Tryz.isAgg310,
  z164 := Tryz.sizeOf310,
  v164 := Tryz.zeroValue310 }
def ren171 : Ren := ⟨fun x => match x with | 171 => 162 | 243 => 223 | 246 => 275 | 283 => 310 | 284 => 311 | 285 => 312 | 286 => 313 | 129 => 253 | 317 => 335 | 318 => 336 | 319 => 337 | 320 => 338 | 337 => 355 | 338 => 356 | n => n, fun x => match x with | 3 => 3 | 9 => 9 | 2 => 2 | 4 => 4 | 171 => 306 | 0 => 0 | 53 => 153 | 37 => 28 | 5 => 5 | 173 => 308 | 212 => 338 | 51 => 223 | 20 => 20 | 213 => 339 | 46 => 235 | 232 => 345 | 233 => 346 | n => n, fun x => match x with | 17 => 4 | 18 => 5 | 19 => 6 | n => n⟩
theorem lays171 : LaysM.n171 Tryz.prog ren171 := {
  mixed := by kernel_rfl,
  f129 := Tryz.func253.trans (congrArg some (by kernel_rfl)),
  f171 := Tryz.func162.trans (congrArg some (by kernel_rfl)),
  f243 := Tryz.func223.trans (congrArg some (by kernel_rfl)),
  f246 := Tryz.func275.trans (congrArg some (by kernel_rfl)),
  f283 := Tryz.func310.trans (congrArg some (by kernel_rfl)),
  f284 := Tryz.func311.trans (congrArg some (by kernel_rfl)),
  f285 := Tryz.func312.trans (congrArg some (by kernel_rfl)),
  f286 := Tryz.func313.trans (congrArg some (by kernel_rfl)),
  f317 := Tryz.func335.trans (congrArg some (by kernel_rfl)),
  f318 := Tryz.func336.trans (congrArg some (by kernel_rfl)),
  f319 := Tryz.func337.trans (congrArg some (by kernel_rfl)),
  f320 := Tryz.func338.trans (congrArg some (by kernel_rfl)),
  f337 := Tryz.func355.trans (congrArg some (by kernel_rfl)),
  f338 := Tryz.func356.trans (congrArg some (by kernel_rfl)),
  t0 := Tryz.underlying0,
  a0 := Tryz.isAgg0,
  z0 := Tryz.sizeOf0,
  v0 := Tryz.zeroValue0,
  t2 := Tryz.underlying2,
  a2 := Tryz.isAgg2,
  z2 := Tryz.sizeOf2,
  v2 := Tryz.zeroValue2,
  t3 := Tryz.underlying3,
  a3 := Tryz.isAgg3,
  z3 := Tryz.sizeOf3,
  v3 := Tryz.zeroValue3,
  t4 := Tryz.underlying4,
  a4 := Tryz.isAgg4,
  z4 := Tryz.sizeOf4,
  v4 := Tryz.zeroValue4,
  t5 := Tryz.underlying5,
  a5 := Tryz.isAgg5,
  z5 := Tryz.sizeOf5,
  v5 := Tryz.zeroValue5,
  t9 := Tryz.underlying9,
  a9 := Tryz.isAgg9,
  z9 := Tryz.sizeOf9,
  v9 := Tryz.zeroValue9,
  t20 := Tryz.underlying20,
  a20 := Tryz.isAgg20,
  z20 := Tryz.sizeOf20,
  v20 := Tryz.zeroValue20,
  t37 := Tryz.underlying28,
  a37 := Tryz.isAgg28,
  z37 := Tryz.sizeOf28,
  v37 := Tryz.zeroValue28,
  t46 := Tryz.underlying235,
  a46 := Tryz.isAgg235,
  z46 := Tryz.sizeOf235,
  v46 := Tryz.zeroValue235,
  t51 := Tryz.underlying223,
  a51 := Tryz.isAgg223,
  z51 := Tryz.sizeOf223,
  v51 := Tryz.zeroValue223,
  t53 := Tryz.underlying153,
  a53 := Tryz.isAgg153,
  z53 := Tryz.sizeOf153,
  v53 := Tryz.zeroValue153,
  t171 := Tryz.underlying306,
  a171 := Tryz.isAgg306,
  z171 := Tryz.sizeOf306,
  v171 := Tryz.zeroValue306,
  t173 := Tryz.underlying308,
  a173 := Tryz.isAgg308,
  z173 := Tryz.sizeOf308,
  v173 := Tryz.zeroValue308,
  t212 := Tryz.underlying338,
  a212 := Tryz.isAgg338,
  z212 := Tryz.sizeOf338,
  v212 := Tryz.zeroValue338,
  t213 := Tryz.underlying339,
  a213 := Tryz.isAgg339,
  z213 := Tryz.sizeOf339,
  t232 := Tryz.underlying345,
  a232 := Tryz.isAgg345,
  z232 := Tryz.sizeOf345,
  v232 := Tryz.zeroValue345,
  t233 := Tryz.underlying346,
  a233 := Tryz.isAgg346,
  z233 := Tryz.sizeOf346,
  v233 := Tryz.zeroValue346,
  g17 := by kernel_rfl,
  g18 := by kernel_rfl,
  g19 := by kernel_rfl,
  i0 := by kernel_rfl,
  i2 := by kernel_rfl,
  i3 := by kernel_rfl,
  i4 := by kernel_rfl,
  i5 := by kernel_rfl,
  i9 := by kernel_rfl,
  i20 := by kernel_rfl,
  i37 := by kernel_rfl,
  i46 := by kernel_rfl,
  i51 := by kernel_rfl,
  i53 := by kernel_rfl,
  i171 := by kernel_rfl,
  i173 := by kernel_rfl,
  i212 := by kernel_rfl,
  i232 := by kernel_rfl,
  i233 := by kernel_rfl,
  m17 := by kernel_rfl,
  m18 := by kernel_rfl,
  m19 := by kernel_rfl }
end Go.Proofs.YtbgokfhcgcoipaaGreatDoor
namespace Go.Proofs.YtbgokfhcgcoipaaGreatDoor
open Go Go.Proofs.YtbgokfhcgcoipaaGreatDoor.Sx
theorem digs_split {o : List Int} {N n : Nat} (h : digs N = o ++ digs n) (hn : 0 < n) : digs N = (o ++ [((n % 1000000000 : Nat) : Int)]) ++ digs (n / 1000000000) := by
  rw [h, digs_pos (by omega)]; simp
def room (on : Nat) (n : Int) : Prop := (on = 0 /\ n < 1000000000000000000000000000) ∨ (on = 1 /\ n < 1000000000000000000) ∨ (on = 2 /\ n < 1000000000) ∨ (on = 3 /\ n < 1)
theorem room_next {on : Nat} {n : Int} (h : room on n) (h0 : 0 < n) : room (on + 1) (n / 1000000000) /\ on <= 2 := by
  unfold room at h ⊢
  omega
theorem spec_NatOf_c {w : World} {n : Int} (h0 : 0 <= n) (h1 : n <= 9223372036854775807) :
    Ret P n_spec_NatOf [.int .i64 n] w fun v w' => ∃ p' n' c', v = .slice p' n' c' /\ Own w' w.heap.size T_int 1 p' n' c' ((digs n.toNat).map (Value.int .i64)) /\ Ext w w' := by
  refine spec_NatOf_ret ?_
  unfold spec_NatOf
  intro r w1 hn1
  refine ⟨fun m p on c wr => ∃ o : List Int, 0 <= m /\ room on m /\ m <= n /\ Own wr w.heap.size T_int 1 p on c (o.map (Value.int .i64)) /\ Ext w wr /\ digs n.toNat = o ++ digs m.toNat, fun m _ _ _ _ => m.toNat,
    ⟨[], h0, by unfold room; omega, Int.le_refl _, Own.fresh hn1, hn1.ext, rfl⟩, ?_⟩
  intro junk wr m p on c ⟨o, hm0, hrm, hmn, hown, hx, hd⟩
  refine ifD (fun hpos => ?_) (fun hz => ?_)
  · obtain ⟨hr2, hon⟩ := room_next hrm hpos
    refine ⟨by decide, _, rfl, fun r1 w2 hn2 => ?_⟩
    rw [tmod_limb hm0] at hn2
    obtain ⟨p', c', w3, g1, g2, g3⟩ := Own.push hown hx.le hn2 (by omega)
    refine ⟨_, _, _, _, g1, by decide, ?_⟩
    rw [tdiv_limb hm0]
    refine exW ⟨by omega, by omega⟩ ⟨⟨_, by omega, hr2, by omega, g2, g3 w hx (Nat.le_refl _), ?_⟩, ?_⟩
    · have := digs_split hd (show 0 < m.toNat by omega)
      have e1 : ((m.toNat % 1000000000 : Nat) : Int) = m % 1000000000 := by omega
      have e2 : m.toNat / 1000000000 = (m / 1000000000).toNat := by omega
      rw [this, e1, e2]
    · show (m / 1000000000).toNat < m.toNat
      omega
  · have : m.toNat = 0 := by omega
    rw [this, digs_zero, List.append_nil] at hd
    exact ⟨_, _, _, rfl, by rw [hd]; exact hown, hx⟩
theorem digs_len3 {n : Nat} (h : n < 1000000000000000000000000000) : (digs n).length <= 3 := by
  by_cases h1 : n = 0
  · subst h1; simp [digs_zero]
  · rw [digs_pos h1]
    by_cases h2 : n / 1000000000 = 0
    · rw [h2, digs_zero]; simp
    · rw [digs_pos h2]
      by_cases h3 : n / 1000000000 / 1000000000 = 0
      · rw [h3, digs_zero]; simp
      · rw [digs_pos h3]
        have h4 : n / 1000000000 / 1000000000 / 1000000000 = 0 := by omega
        rw [h4, digs_zero]; simp
theorem icap_small {z : Int} (h : z.natAbs < 1000000000000000000000000000) : icap z = enc z := by
  have hl := digs_len3 h
  unfold icap capL
  rw [if_pos (by omega)]
  simp only [mkS, enc, isEmpty_digs]
  by_cases h0 : z < 0
  · have : z.natAbs ≠ 0 := by omega
    simp [h0]; omega
  · simp [h0]
theorem spec_IntOf_c {w : World} {n : Int} (h0 : -9223372036854775808 <= n) (h1 : n <= 9223372036854775807) :
    Ret P n_spec_IntOf [.int .i64 n] w fun v w' => ∃ vs' f, v = .agg ⟨vs'⟩ /\ Owns w' w.heap.size vs' (enc n) f /\ f.Nodup /\ Ext w w' := by
  refine spec_IntOf_ret ?_
  unfold spec_IntOf
  intro r w1 hn1
  have e1 := hn1.r_eq; have s1 := hn1.size
  have fin : ∀ (W : World) (neg : Bool) (p : Option Addr) (m c : Nat) (z : List Int), IntsR W p m c z -> Limbs z -> Ext w1 W -> (val z).toNat = n.natAbs -> ((val z).toNat ≠ 0 -> neg = decide (n < 0)) ->
      Calls P n_spec_l04Make ⟨[.bool neg, .slice p m c]⟩ W fun e_1 wv_7 => ∃ (t170 : Bool) (t171_p : Option Addr) (t171_n : Nat) (t171_c : Nat), e_1 = .returned (.agg #[(.bool t170), (.slice t171_p t171_n t171_c)]) /\
        ∃ wv_8, Stores P T_impl_Signed ⟨r, 0, none⟩ (.agg #[(.bool t170), (.slice t171_p t171_n t171_c)]) wv_7 wv_8 /\
        ∃ (r0 : Bool) (r1_p : Option Addr) (r1_n : Nat) (r1_c : Nat), Loads P T_impl_Signed ⟨r, 0, none⟩ (.agg #[(.bool r0), (.slice r1_p r1_n r1_c)]) wv_8 /\ (fun (v : Value) (w' : World) => ∃ vs' f, v = .agg ⟨vs'⟩ /\ Owns w' w.heap.size vs' (enc n) f /\ f.Nodup /\ Ext w w') (.agg #[(.bool r0), (.slice r1_p r1_n r1_c)]) wv_8 := by
    intro W neg p m c z hz hlz hW hm hs
    refine Ret.at (spec_l04Make_c hz hlz) ?_
    rintro v W2 ⟨b, q, qn, qc, hv, hbb, ho, y2⟩
    subst hv
    have hW0 := hW.le
    obtain ⟨W3, st, hb3, ch, sz⟩ := ((hn1.blk.ext hW).ext y2).storeA0 (P := P) (t := T_impl_Signed) (xs := [.bool b, .slice q qn qc]) (by kernel_rfl) rfl (by simp [Value.oneCell'])
    have ow2 : Owns W2 W.heap.size [.bool b, .slice q qn qc] (enc n) (q.map (·.block)).toList := by
      rw [<- icap_small (by omega), <- mkS_digs hm hs, hbb]; exact Owns.int2 ho
    exact ⟨_, _, _, _, rfl, W3, st, _, _, _, _, hb3.loadA0 (by kernel_rfl), _, _, rfl, (ow2.chg1 ch (by omega)).mono (by omega), nodup_opt q, ((hn1.ext.trans hW).trans y2).chg ch (by simp; omega)⟩
  refine ifD (fun hmin => ?_) (fun hnm => ifD (fun hneg => ?_) (fun hpos => ?_))
  · intro r1 w2 hn2
    refine fin w2 true _ 3 3 [854775808, 223372036, 9] ⟨rfl, Nat.le_refl _, by omega, fun _ => ⟨r1, 0, rfl, hn2.blk.seg⟩⟩ (fun x hx => by simp at hx; omega) hn2.ext ?_ ?_
    · simp [val]; omega
    · intro _; simp; omega
  · have w6 : IntKind.wrap .i64 (0 - n) = -n := by
      simp only [IntKind.wrap, IntKind.bits, IntKind.signed]
      simp
      omega
    refine ⟨_, rfl, ?_⟩
    rw [w6]
    refine Ret.at (spec_NatOf_c (by omega) (by omega)) ?_
    rintro v w2 ⟨p, m, c, hv, ho, y⟩
    subst hv
    refine ⟨_, _, _, rfl, fin w2 true p m c _ ho.ints (digs_limbs _) y ?_ ?_⟩
    · rw [val_digs]; omega
    · intro _; simp [hneg]
  · refine Ret.at (spec_NatOf_c (by omega) (by omega)) ?_
    rintro v w2 ⟨p, m, c, hv, ho, y⟩
    subst hv
    refine ⟨_, _, _, rfl, fin w2 false p m c _ ho.ints (digs_limbs _) y ?_ ?_⟩
    · rw [val_digs]; omega
    · intro _; simp; omega
end Go.Proofs.YtbgokfhcgcoipaaGreatDoor
namespace Go.Proofs.YtbgokfhcgcoipaaGreatDoor
open Go Go.Proofs.YtbgokfhcgcoipaaGreatDoor.Sx
theorem Limbs.set {l : List Int} {k : Nat} {x : Int} (h : Limbs l) (hx : 0 <= x /\ x < 1000000000) : Limbs (l.set k x) := fun y hy => by
  rcases List.mem_or_eq_of_mem_set hy with h1 | h1
  · exact h y h1
  · rw [h1]; exact hx
end Go.Proofs.YtbgokfhcgcoipaaGreatDoor
namespace Go.Proofs.YtbgokfhcgcoipaaGreatDoor
open Go Go.Proofs.YtbgokfhcgcoipaaGreatDoor.Sx
def decOk : List D0 -> Bool
  | [.bool b, .ints z, .int s] => intOk [.bool b, .ints z] && decide (z.length <= 6) && decide (0 <= s /\ s <= 30)
  | _ => false
theorem impl_isScale_c (s : Int) (w : World) : Ret P n_impl_isScale [.int .i64 s] w fun v w' => v = .bool (decide (0 <= s /\ s <= 30)) /\ w' = w := by
  refine impl_isScale_ret ?_
  unfold impl_isScale
  refine ifD (fun h => ⟨?_, rfl⟩) (fun h => ⟨?_, rfl⟩) <;> simp [h]
theorem impl_DecOk_c {w : World} {xs : List Value} {dx : List D0} (h : Reps w xs dx) (hc : dx.map D0.code = [.bool, .ints, .int]) :
    Ret P n_impl_DecOk [.agg ⟨xs⟩] w fun v w' => v = .bool (decOk dx) /\ Ext w w' := by
  obtain ⟨a0, a1p, a1n, a1c, a1z, a2, rfl, rfl, ha⟩ := open_Dec h hc
  refine impl_DecOk_ret ?_
  unfold impl_DecOk
  intro r w1 hn1
  have x := hn1.ext
  have hl := ha.1
  refine ⟨_, _, _, _, hn1.blk.loadAAt 0 [.bool a0, .slice a1p a1n a1c] rfl (by kernel_rfl) rfl, ?_⟩
  refine Ret.at (impl_IntOk_c (dx := [.bool a0, .ints a1z]) ⟨rfl, ⟨_, _, _, rfl, ha.ext x⟩, trivial⟩ rfl) ?_
  rintro v w2 ⟨hv, y⟩
  subst hv
  have x := x.trans y; have b := hn1.blk.ext y
  refine ⟨_, rfl, fun e => ⟨_, _, _, b.loadAt 1 rfl (by kernel_rfl) rfl, ifD (fun hle => ?_) (fun hgt => ⟨?_, x⟩)⟩, fun e => ifF ⟨?_, x⟩⟩
  · refine ⟨_, b.loadAt 2 rfl (by kernel_rfl) rfl, ?_⟩
    refine Ret.at (impl_isScale_c a2 w2) ?_
    rintro v w3 ⟨hv, hw⟩
    subst hv; subst hw
    exact ⟨_, rfl, by simp only [decOk, e, show decide (a1z.length <= 6) = true by simp; omega, Bool.true_and], x⟩
  · simp only [decOk, show decide (a1z.length <= 6) = false by simp; omega, Bool.and_false, Bool.false_and]
  · simp only [decOk, e, Bool.false_and]
end Go.Proofs.YtbgokfhcgcoipaaGreatDoor
namespace Go.Proofs.YtbgokfhcgcoipaaGreatDoor
open Go Go.Proofs.YtbgokfhcgcoipaaGreatDoor.Sx
theorem enc_ok {z : Int} (h : (digs z.natAbs).length <= 50) : intOk (enc z) = true := by rw [<- icap_fit h]; exact icap_ok z
end Go.Proofs.YtbgokfhcgcoipaaGreatDoor
namespace Go.Proofs.YtbgokfhcgcoipaaGreatDoor
open Go Go.Proofs.YtbgokfhcgcoipaaGreatDoor.Sx
theorem decOk_parts {b : Bool} {z : List Int} {s : Int} (h : decOk [.bool b, .ints z, .int s] = true) : intOk [.bool b, .ints z] = true /\ natOk z = true /\ Limbs z /\ z.length <= 6 /\ 0 <= s /\ s <= 30 := by
  simp only [decOk, Bool.and_eq_true, decide_eq_true_eq] at h
  obtain ⟨⟨h1, h2⟩, h3⟩ := h
  have h4 : natOk z = true := by
    have := h1
    simp only [intOk, Bool.and_eq_true] at this
    exact this.1
  exact ⟨h1, h4, (natOk_spec.1 h4).1.1, h2, h3⟩
end Go.Proofs.YtbgokfhcgcoipaaGreatDoor
namespace Go.Proofs.YtbgokfhcgcoipaaGreatDoor
open Go Go.Proofs.YtbgokfhcgcoipaaGreatDoor.Sx
def TabP (w : World) : Prop := Lib.TabIs P w "internal/strconv.uint64pow10" .u64 Lib.pow10Tab
theorem TabP.ext {w w' : World} (h : TabP w) (he : Ext w w') : TabP w' := Joins.tab_stays lays171.m17 h he (Nat.le_refl _)
theorem X105 : Go.Proofs.Builder.Extra P ren105 where
  sizeBuilder := by kernel_rfl
  liesBuilder := by kernel_rfl
  t5 := lays105.t5
  a5 := lays105.a5
  z5 := lays105.z5
  v5 := lays105.v5
  infoByte := by kernel_rfl
  cellsByte := by kernel_rfl
  sizeByte := by kernel_rfl
  neB5 := by decide
theorem ba_ext {a b : ByteArray} (h : a.data.toList = b.data.toList) : a = b := by
  obtain ⟨⟨x⟩⟩ := a; obtain ⟨⟨y⟩⟩ := b
  simp at h; subst h; rfl
theorem ba_size (a : ByteArray) : a.size = a.data.toList.length := rfl
def itxt (u : Nat) : ByteArray := ⟨(Lib.decDigits u).toArray⟩
theorem decDigits_small {u : Nat} (h : u < 10) : Lib.decDigits u = [UInt8.ofNat (48 + u)] := by rw [Lib.decDigits, dif_pos h]
theorem decDigits_big {u : Nat} (h : ¬ u < 10) : Lib.decDigits u = Lib.decDigits (u / 10) ++ [UInt8.ofNat (48 + u % 10)] := by rw [Lib.decDigits, dif_neg h]
theorem itxt_small {u : Nat} (h : u < 10) : itxt u = strOfNums [((48 + u : Nat) : Int)] := ba_ext (by rw [strOfNums_data, itxt, decDigits_small h]; rfl)
theorem itxt_big {u : Nat} (h : ¬ u < 10) : itxt u = itxt (u / 10) ++ strOfNums [((48 + u % 10 : Nat) : Int)] := ba_ext (by
  have e : (itxt u).data.toList = Lib.decDigits u := by simp [itxt]
  have e1 : (itxt (u / 10)).data.toList = Lib.decDigits (u / 10) := by simp [itxt]
  rw [e, decDigits_big h, ByteArray.data_append, Array.toList_append, e1, strOfNums_data]; rfl)
theorem itxt_lt : ∀ (k : Nat) {u : Nat}, u < 10 ^ (k + 1) -> (itxt u).size <= k + 1
  | 0, u, h => by rw [itxt_small (by simpa using h), strOfNums_size]; simp
  | k + 1, u, h => by
    by_cases h1 : u < 10
    · rw [itxt_small h1, strOfNums_size]; simp
    · have h2 : u / 10 < 10 ^ (k + 1) := by rw [Nat.pow_succ] at h; omega
      have := itxt_lt k h2
      rw [itxt_big h1, ByteArray.size_append, strOfNums_size]
      simp; omega
theorem itxt_limb {u : Nat} (h : u < 1000000000) : (itxt u).size <= 9 := itxt_lt 8 (by simpa using h)
theorem impl_IntText_c {w : World} {n : Int} (ht : TabP w) (h0 : 0 <= n) (h1 : n <= 9223372036854775807) : Ret P n_impl_IntText [.int .i64 n] w fun v w' => v = .string (itxt n.toNat) /\ Ext w w' := by
  refine impl_IntText_ret ?_
  unfold impl_IntText
  obtain ⟨u, rfl⟩ : ∃ u : Nat, n = u := ⟨n.toNat, by omega⟩
  refine (Any.strconv_Itoa lays171 (u : Int) (by omega) h1 w ht).mono ?_
  rintro e w' ⟨rfl, k, os, rfl⟩
  rw [Lib.itoa_nonneg]
  exact ⟨_, rfl, rfl, Lib.below_grow _ _ (Nat.le_refl _) _ _⟩
def zeros (k : Nat) : ByteArray := ⟨(List.replicate k (48 : UInt8)).toArray⟩
def padT (s : ByteArray) (n : Int) : ByteArray := if n <= (s.size : Nat) ∨ 2000 < n then s else zeros (n - (s.size : Nat)).toNat ++ s
theorem zeros_size (k : Nat) : (zeros k).size = k := by simp [zeros, ByteArray.size]
theorem padT_le {s : ByteArray} {n : Int} {k : Nat} (h1 : s.size <= k) (h2 : n <= k) : (padT s n).size <= k := by
  unfold padT
  split
  · exact h1
  · rw [ByteArray.size_append, zeros_size]; omega
theorem padT_ge {s : ByteArray} {n : Int} (h : n <= 2000) : n <= ((padT s n).size : Nat) := by
  unfold padT
  split
  · omega
  · rw [ByteArray.size_append, zeros_size]; omega
theorem repeat_zeros (c : Nat) : (⟨(Lib.repeatL (S [48]).data.toList c).toArray⟩ : ByteArray) = zeros c := by
  have : ∀ c, Lib.repeatL (S [48]).data.toList c = List.replicate c (48 : UInt8) := fun c => by
    induction c with
    | zero => rfl
    | succ c ih => rw [Lib.repeatL, ih]; rfl
  rw [this]; rfl
theorem impl_Pad_c {w : World} (s : ByteArray) (n : Int) (hs : s.size <= 4611686018427387904) (hn : -4611686018427387904 <= n) : Ret P n_impl_Pad [.string s, .int .i64 n] w fun v w' => v = .string (padT s n) /\ Ext w w' := by
  refine impl_Pad_ret ?_
  unfold impl_Pad
  refine ifD (fun h => ifT ⟨by rw [padT, if_pos (.inl h)], Ext.refl _⟩) (fun h => ifD (fun h2 => ⟨by rw [padT, if_pos (.inr h2)], Ext.refl _⟩) (fun h2 => ?_))
  refine exW ⟨by omega, by omega⟩ ?_
  obtain ⟨c, hc⟩ : ∃ c : Nat, n - (s.size : Nat) = c := ⟨(n - (s.size : Nat)).toNat, by omega⟩
  rw [hc]
  refine (Any.strings_Repeat lays105 X105 (S [48]) c w (by omega) (by show 1 * c <= 140737488355328; omega)).mono ?_
  rintro e w' ⟨rfl, hx⟩
  rw [repeat_zeros]
  refine ⟨_, rfl, ?_, _, rfl, ?_, hx⟩
  · rw [zeros_size]; omega
  · rw [padT, if_neg (by omega), hc]; rfl
def natR : List Int -> ByteArray
  | [] => ByteArray.empty
  | x :: r => padT (itxt x.toNat) 9 ++ natR r
def natT (l : List Int) : ByteArray := match l.reverse with
  | [] => S [48]
  | x :: r => itxt x.toNat ++ natR r
theorem limb_text {x : Int} (h : 0 <= x /\ x < 1000000000) : (itxt x.toNat).size <= 9 /\ (padT (itxt x.toNat) 9).size <= 9 :=
  have h1 := itxt_limb (u := x.toNat) (by omega)
  ⟨h1, padT_le h1 (by decide)⟩
theorem natR_size : ∀ {l : List Int}, Limbs l -> (natR l).size <= l.length * 9
  | [], _ => by simp [natR]
  | x :: r, h => by
    have h := Limbs.cons.1 h
    have h1 := natR_size h.2; have h2 := (limb_text h.1).2
    rw [natR, ByteArray.size_append, List.length_cons]
    omega
theorem natT_size {l : List Int} (h : Limbs l) : (natT l).size <= l.length * 9 + 1 := by
  unfold natT
  cases e : l.reverse with
  | nil => show 1 <= _; omega
  | cons x r =>
    have hl : l.length = r.length + 1 := by rw [<- List.length_reverse, e]; rfl
    have hh : Limbs (x :: r) := fun y hy => h y (by rw [<- List.mem_reverse, e]; exact hy)
    have hh := Limbs.cons.1 hh
    have h1 := natR_size hh.2; have h2 := (limb_text hh.1).1
    show (itxt x.toNat ++ natR r).size <= _
    rw [ByteArray.size_append, hl]; omega
theorem rev_take_succ {l : List Int} {t : Nat} (h : t < l.length) : (l.take (t + 1)).reverse = l.getD t 0 :: (l.take t).reverse := by
  rw [List.take_add_one, List.getElem?_eq_getElem h, List.getD_eq_getElem?_getD, List.getElem?_eq_getElem h]
  simp
theorem natT_top {l : List Int} {n : Nat} (h : l.length = n + 1) : natT l = itxt (l.getD n 0).toNat ++ natR (l.take n).reverse := by
  have := rev_take_succ (l := l) (t := n) (by omega)
  rw [List.take_of_length_le (by omega)] at this
  unfold natT
  rw [this]
theorem impl_natText_c {w : World} {p : Option Addr} {n c : Nat} {z : List Int} (h : IntsR w p n c z) (hlz : Limbs z) (hn : n <= 1000) (ht : TabP w) :
    Ret P n_impl_natText [.slice p n c] w fun v w' => v = .string (natT z) /\ Ext w w' := by
  refine impl_natText_ret ?_
  unfold impl_natText
  have hlen := h.1
  have XS := Ext.refl w
  refine ifD (fun h0 => ⟨?_, XS⟩) (fun h0 => ?_)
  · rw [List.eq_nil_of_length_eq_zero (show z.length = 0 by omega)]; rfl
  · skip
    obtain ⟨m, rfl⟩ : ∃ m, n = m + 1 := ⟨n - 1, by omega⟩
    have e1 : ((m + 1 : Nat) : Int) - 1 = (m : Int) := by omega
    have e2 : ((m + 1 : Nat) : Int) - 2 = (m : Int) - 1 := by omega
    rw [e1, e2]
    have T := hlz.getD m
    obtain ⟨ad, rfl, hl⟩ := ints_at (h.ext XS) (i := (m : Int)) (by omega) (by omega)
    simp only [Int.toNat_natCast] at hl
    refine exW ⟨by omega, by omega⟩ ⟨⟨by omega, by omega⟩, _, by simpa only [Int.toNat_natCast] using hl, ?_⟩
    refine Ret.at (impl_IntText_c (ht.ext XS) T.1 (by omega)) ?_
    rintro v w2 ⟨hv, y2⟩
    subst hv
    refine ⟨_, rfl, exW ⟨by omega, by omega⟩ ⟨fun text i wr => ∃ s : Nat, i = (s : Int) - 1 /\ s <= m /\ text.size <= (m - s) * 9 + 9 /\ natT z = text ++ natR (z.take s).reverse /\ Ext w wr, fun _ i _ => (i + 1).toNat,
      ⟨m, rfl, by omega, by have := (limb_text T).1; omega, natT_top hlen, XS.trans y2⟩, ?_⟩⟩
    intro junk wr text i ⟨s, hi, hs, hsz, htx, hx⟩
    subst hi
    refine ifD (fun hpos => ?_) (fun hend => ?_)
    · obtain ⟨t, rfl⟩ : ∃ t, s = t + 1 := ⟨s - 1, by omega⟩
      have e3 : ((t + 1 : Nat) : Int) - 1 = (t : Int) := by omega
      rw [e3]
      have A := hlz.getD t
      have L := limb_text A
      obtain ⟨ad, hp, hl⟩ := ints_at (h.ext hx) (i := (t : Int)) (by omega) (by omega)
      obtain rfl := Option.some.inj hp
      simp only [Int.toNat_natCast] at hl
      refine ⟨⟨by omega, by omega⟩, _, by simpa only [Int.toNat_natCast] using hl, ?_⟩
      refine Ret.at (impl_IntText_c (ht.ext hx) A.1 (by omega)) ?_
      rintro v w3 ⟨hv, y3⟩
      subst hv
      refine ⟨_, rfl, ?_⟩
      refine Ret.at (impl_Pad_c _ 9 (by omega) (by omega)) ?_
      rintro v w4 ⟨hv, y4⟩
      subst hv
      refine ⟨_, rfl, ?_, _, rfl, exW ⟨by omega, by omega⟩ ⟨⟨t, by omega, by omega, ?_, ?_, (hx.trans y3).trans y4⟩, ?_⟩⟩
      · have : (m - (t + 1)) * 9 <= m * 9 := Nat.mul_le_mul_right _ (by omega)
        omega
      · rw [ByteArray.size_append]
        have : m - t = (m - (t + 1)) + 1 := by omega
        rw [this]; omega
      · rw [htx, rev_take_succ (by omega), natR, ByteArray.append_assoc]
      · show ((t : Int) - 1 + 1).toNat < ((t : Int) + 1).toNat
        omega
    · have hs0 : s = 0 := by omega
      subst hs0
      refine ⟨?_, hx⟩
      rw [htx]
      simp [natR]
def dotT (t : ByteArray) (s : Int) : ByteArray := if 0 < s then (t.extract 0 (((t.size : Nat) : Int) - s).toNat ++ S [46]) ++ t.extract (((t.size : Nat) : Int) - s).toNat t.size else t
def decT : List D0 -> ByteArray
  | [.bool b, .ints z, .int s] => if decOk [.bool b, .ints z, .int s] then (if b then S [45] ++ dotT (padT (natT z) (s + 1)) s else dotT (padT (natT z) (s + 1)) s) else S []
  | _ => S []
theorem dotT_size (t : ByteArray) (s : Int) : (dotT t s).size <= t.size + 1 := by
  unfold dotT
  split
  · rw [ByteArray.size_append, ByteArray.size_append, ByteArray.size_extract, ByteArray.size_extract]
    show _ + 1 + _ <= _
    omega
  · omega
theorem decT_size (d : List D0) : (decT d).size <= 100 := by
  unfold decT
  split
  · rename_i b z s
    split
    · rename_i h
      obtain ⟨_, _, hz, hl, _, _⟩ := decOk_parts h
      have h1 := natT_size hz; have h3 := dotT_size (padT (natT z) (s + 1)) s
      have h2 : (padT (natT z) (s + 1)).size <= 60 := padT_le (by omega) (by omega)
      split
      · rw [ByteArray.size_append]
        show 1 + _ <= _
        omega
      · omega
    · show 0 <= _; omega
  · show 0 <= _; omega
theorem impl_DecText_c {w : World} {xs : List Value} {dx : List D0} (h : Reps w xs dx) (hc : dx.map D0.code = [.bool, .ints, .int]) (ht : TabP w) :
    Ret P n_impl_DecText [.agg ⟨xs⟩] w fun v w' => v = .string (decT dx) /\ Ext w w' := by
  have hr := h
  obtain ⟨a0, a1p, a1n, a1c, a1z, a2, rfl, rfl, ha⟩ := open_Dec h hc
  have hl := ha.1
  refine impl_DecText_ret ?_
  unfold impl_DecText
  intro r w1 hn1
  refine ⟨_, _, _, _, _, hn1.blk.loadA0 (by kernel_rfl), ?_⟩
  refine Ret.at (impl_DecOk_c (hr.ext hn1.ext) rfl) ?_
  rintro v w2 ⟨hv, y2⟩
  subst hv
  have X2 := hn1.ext.trans y2
  refine ⟨_, rfl, ifN (fun e => ⟨by simp only [decT, e, Bool.false_eq_true, if_false], X2⟩) (fun e => ?_)⟩
  obtain ⟨hio, hno, hz, hl6, hs0, hs1⟩ := decOk_parts e
  have D := Ext.drew w2
  have X3 := X2.trans D
  have b := hn1.blk.ext (y2.trans D)
  refine ⟨_, _, _, fun W hW => (b.ext hW).loadAt 1 rfl (by kernel_rfl) rfl, ?_⟩
  refine Ret.at (impl_natText_c (ha.ext X3) hz (by omega) (ht.ext X3)) ?_
  rintro v w4 ⟨hv, y4⟩
  subst hv
  have N1 := natT_size hz
  have N2 : a1z.length * 9 <= 6 * 9 := Nat.mul_le_mul_right _ hl6
  refine ⟨_, rfl, y4, _, fun W hW => (b.ext hW).loadAt 2 rfl (by kernel_rfl) rfl, exW ⟨by omega, by omega⟩ ?_⟩
  refine Ret.at (impl_Pad_c _ (a2 + 1) (by omega) (by omega)) ?_
  rintro v w5 ⟨hv, y5⟩
  subst hv
  have Y5 := y4.trans y5
  have N3 : (padT (natT a1z) (a2 + 1)).size <= 60 := padT_le (by omega) (by omega)
  have N4 := padT_ge (s := natT a1z) (n := a2 + 1) (by omega)
  have X5 := X3.trans Y5
  have b5 := b.ext Y5
  have fin : ∀ t W, Ext w5 W -> t.size <= 1000 -> t = dotT (padT (natT a1z) (a2 + 1)) a2 -> impl_DecText_j0 r t W fun v w' => v = .string (decT [.bool a0, .ints a1z, .int a2]) /\ Ext w w' := by
    intro t W hW hts ht
    unfold impl_DecText_j0
    refine ⟨_, (b5.ext hW).loadAt 0 rfl (by kernel_rfl) rfl, fun e0 => ?_, fun e0 => ?_⟩
    · refine ⟨?_, _, rfl, ?_⟩
      · show 1 + t.size <= 9223372036854775807
        omega
      unfold impl_DecText_j1
      refine ⟨?_, X5.trans hW⟩
      subst e0
      simp only [decT, e, if_true, ht]
    · unfold impl_DecText_j1
      refine ⟨?_, X5.trans hW⟩
      subst e0
      simp only [decT, e, if_true, ht, Bool.false_eq_true, if_false]
  refine ⟨_, rfl, _, b5.loadAt 2 rfl (by kernel_rfl) rfl, ifD (fun hpos => ?_) (fun hz0 => fin _ _ (Ext.refl _) (by omega) (by rw [dotT, if_neg hz0]))⟩
  refine ⟨_, b5.loadAt 2 rfl (by kernel_rfl) rfl, exW ⟨by omega, by omega⟩ ⟨⟨by omega, by omega⟩, ?_, _, rfl, ⟨by omega, by omega⟩, ?_, _, rfl, fin _ _ (Ext.drew _) ?_ (by rw [dotT, if_pos hpos])⟩⟩
  · rw [ByteArray.size_extract]
    show _ + 1 <= _
    omega
  · rw [ByteArray.size_append, ByteArray.size_extract, ByteArray.size_extract]
    show _ + 1 + _ <= _
    omega
  · rw [ByteArray.size_append, ByteArray.size_append, ByteArray.size_extract, ByteArray.size_extract]
    show _ + 1 + _ <= _
    omega
end Go.Proofs.YtbgokfhcgcoipaaGreatDoor
namespace Go.Proofs.YtbgokfhcgcoipaaGreatDoor
open Go Go.Proofs.YtbgokfhcgcoipaaGreatDoor.Sx
def curPlaces (c : ByteArray) : Int := (curFind implTab c).2.2.1
def moneyT : List D0 -> ByteArray
  | [.str c, .bool b, .ints z] => if moneyOk [.str c, .bool b, .ints z] then (c ++ S [32]) ++ decT [.bool b, .ints z, .int (curPlaces c)] else S []
  | _ => S []
theorem known_size {c : ByteArray} (h : curKnown c = true) : c.size <= 50 := by
  have h1 : (implTab.all fun r => decide (r.1.size <= 50)) = true := by decide +kernel
  unfold curKnown curIn at h
  rw [List.any_eq_true] at h
  obtain ⟨r, hr, he⟩ := h
  rw [List.all_eq_true] at h1
  have := of_decide_eq_true (h1 r hr)
  rwa [of_decide_eq_true he] at this
theorem moneyT_size (c : ByteArray) (b : Bool) (z : List Int) : (moneyT [.str c, .bool b, .ints z]).size <= 200 := by
  simp only [moneyT]
  split
  · rename_i h
    have := decT_size [.bool b, .ints z, .int (curPlaces c)]
    have hk : curKnown c = true := by
      simp only [moneyOk, Bool.and_eq_true] at h
      exact h.1.1
    have := known_size hk
    rw [ByteArray.size_append, ByteArray.size_append]
    show c.size + 1 + _ <= _
    omega
  · show 0 <= _; omega
theorem impl_CurPlaces_c {w : World} (c : ByteArray) (ht : Tab w) : Ret P n_impl_CurPlaces [.string c] w fun v w' => v = .int .i64 (curPlaces c) /\ Ext w w' := by
  refine impl_CurPlaces_ret ?_
  unfold impl_CurPlaces
  refine Ret.at (impl_currencyOf_c ht c) ?_
  rintro v w1 ⟨hv, y1⟩
  subst hv
  refine ⟨_, _, _, _, _, rfl, ?_⟩
  intro r w2 hn
  obtain ⟨w3, st, hb3, y3⟩ := hn.fill (P := P) (t := T_impl_currency) (xs := curCells (curFind implTab c)) (by simp [curCells, Value.oneCell']) (by kernel_rfl) rfl
  exact ⟨w3, st, _, hb3.loadAt 2 rfl (by kernel_rfl) rfl, rfl, y1.trans y3⟩
theorem impl_MoneyText_c {w : World} {xs : List Value} {c : ByteArray} {b : Bool} {z : List Int} (h : Reps w xs [.str c, .bool b, .ints z]) (ht : Tab w) (hp : TabP w) :
    Ret P n_impl_MoneyText [.agg ⟨xs⟩] w fun v w' => v = .string (moneyT [.str c, .bool b, .ints z]) /\ Ext w w' := by
  have hr := h
  obtain ⟨t0, a0, a1p, a1n, a1c, a1z, rfl, hd, ha⟩ := open_Money h rfl
  simp only [List.cons.injEq, D0.str.injEq, D0.bool.injEq, D0.ints.injEq, and_true] at hd
  obtain ⟨rfl, rfl, rfl⟩ := hd
  refine impl_MoneyText_ret ?_
  unfold impl_MoneyText
  intro r w1 hn1
  refine ⟨_, _, _, _, _, hn1.blk.loadA0 (by kernel_rfl), ?_⟩
  refine Ret.at (impl_MoneyOk_c (ht.ext hn1.ext) (hr.ext hn1.ext) rfl) ?_
  rintro v w2 ⟨hv, y2⟩
  subst hv
  have X2 := hn1.ext.trans y2
  refine ⟨_, rfl, ifN (fun e => ⟨by simp only [moneyT, e, Bool.false_eq_true, if_false], X2⟩) (fun e => ?_)⟩
  have hcs : c.size <= 50 := known_size (by simp only [moneyOk, Bool.and_eq_true] at e; exact e.1.1)
  have D := Ext.drew w2
  have X3 := X2.trans D
  have bk := hn1.blk.ext (y2.trans D)
  refine ⟨_, fun W hW => (bk.ext hW).loadAt 0 rfl (by kernel_rfl) rfl, ?_, _, rfl, _, _, _, _, fun W hW => (bk.ext hW).loadAAt 1 [.bool b, .slice a1p a1n a1c] rfl (by kernel_rfl) rfl, _, fun W hW => (bk.ext hW).loadAt 0 rfl (by kernel_rfl) rfl, ?_⟩
  · show c.size + 1 <= _
    omega
  refine Ret.at (impl_CurPlaces_c c (ht.ext X3)) ?_
  rintro v w4 ⟨hv, y4⟩
  subst hv
  refine ⟨_, rfl, y4, ?_⟩
  have X4 := X3.trans y4
  have hs : Reps w4 [.bool b, .slice a1p a1n a1c, .int .i64 (curPlaces c)] [.bool b, .ints z, .int (curPlaces c)] := ⟨rfl, ⟨_, _, _, rfl, ha.ext X4⟩, rfl, trivial⟩
  refine Ret.at (impl_DecText_c hs rfl (hp.ext X4)) ?_
  rintro v w5 ⟨hv, y5⟩
  subst hv
  have N := decT_size [.bool b, .ints z, .int (curPlaces c)]
  refine ⟨_, rfl, y5, ?_, _, rfl, ?_, X4.trans y5⟩
  · rw [ByteArray.size_append]
    show c.size + 1 + _ <= _
    omega
  · simp only [moneyT, e, if_true]
end Go.Proofs.YtbgokfhcgcoipaaGreatDoor
namespace Go.Proofs.YtbgokfhcgcoipaaGreatDoor
open Go Go.Proofs.YtbgokfhcgcoipaaGreatDoor.Sx
def fx : Nat -> Nat -> List UInt8
  | 0, _ => []
  | k + 1, r => fx k (r / 10) ++ [UInt8.ofNat (48 + r % 10)]
end Go.Proofs.YtbgokfhcgcoipaaGreatDoor
namespace Go.Proofs.YtbgokfhcgcoipaaGreatDoor
open Go Go.Proofs.YtbgokfhcgcoipaaGreatDoor.Sx
theorem getD_set_ne {u : List Int} {i j : Nat} (x : Int) (h : i ≠ j) : (u.set i x).getD j 0 = u.getD j 0 := by
  rw [List.getD_eq_getElem?_getD, List.getElem?_set_ne h, <- List.getD_eq_getElem?_getD]
end Go.Proofs.YtbgokfhcgcoipaaGreatDoor
namespace Go.Proofs.YtbgokfhcgcoipaaGreatDoor
open Go Go.Proofs.YtbgokfhcgcoipaaGreatDoor.Sx
theorem Limbs.zeros (k : Nat) : Limbs (List.replicate k 0) := fun x hx => by simp at hx; omega
end Go.Proofs.YtbgokfhcgcoipaaGreatDoor
namespace Go.Proofs.YtbgokfhcgcoipaaGreatDoor
open Go Go.Proofs.YtbgokfhcgcoipaaGreatDoor.Sx
def FlSt (o : Obj) (w0 : World) (ss : List (Option Nat)) (w : World) : Prop := Ext w0 w /\ (ss = [none] ∨ ∃ r, ss = [some r] /\ w0.heap.size <= r /\ w.heap[r]? = some o)
theorem FlSt.start {o : Obj} (w0 : World) : FlSt o w0 [none] w0 := ⟨Ext.refl _, .inl rfl⟩
theorem FlSt.ext {o : Obj} {w0 w w' : World} {ss : List (Option Nat)} (h : FlSt o w0 ss w) (y : Ext w w') : FlSt o w0 ss w' := by
  refine ⟨h.1.trans y, ?_⟩
  rcases h.2 with h2 | ⟨r, h2, h3, h4⟩
  · exact .inl h2
  · exact .inr ⟨r, h2, h3, (y.block r (Array.getElem?_eq_some_iff.1 h4).1).trans h4⟩
theorem FlSt.step {o : Obj} {w0 w w' : World} {ss ss' : List (Option Nat)} (h : FlSt o w0 ss w) (f : Fl [o] ss w ss' w') : FlSt o w0 ss' w' := by
  refine ⟨h.1.trans f.ext, ?_⟩
  have hl := f.len
  rcases h.2 with h2 | ⟨r, h2, h3, h4⟩
  · subst h2
    match ss', hl, f with
    | [none], _, _ => exact .inl rfl
    | [some r], _, f =>
      obtain ⟨a, b⟩ := f.got (k := 0) rfl rfl rfl
      exact .inr ⟨r, rfl, Nat.le_trans h.1.le a, b⟩
    | [], hl, _ => simp at hl
    | _ :: _ :: _, hl, _ => simp at hl
  · subst h2
    have hk := f.keeps (k := 0) (r := r) rfl
    match ss', hl, hk with
    | [x], _, hk =>
      simp at hk
      subst hk
      exact .inr ⟨r, rfl, h3, (f.ext.block r (Array.getElem?_eq_some_iff.1 h4).1).trans h4⟩
    | [], hl, _ => simp at hl
    | _ :: _ :: _, hl, _ => simp at hl
theorem FlSt.get {o : Obj} {w0 w : World} {ss : List (Option Nat)} {r : Nat} (h : FlSt o w0 ss w) (hr : ss[0]? = some (some r)) : w0.heap.size <= r /\ w.heap[r]? = some o := by
  rcases h.2 with h2 | ⟨r', h2, h3, h4⟩
  · subst h2; simp at hr
  · subst h2
    simp at hr
    subst hr
    exact ⟨h3, h4⟩
end Go.Proofs.YtbgokfhcgcoipaaGreatDoor
namespace Go.Proofs.YtbgokfhcgcoipaaGreatDoor
open Go Go.Proofs.YtbgokfhcgcoipaaGreatDoor.Sx
def body (D : List UInt8) (s : Nat) : List UInt8 := if s = 0 then D else D.take (D.length - s) ++ 46 :: D.drop (D.length - s)
end Go.Proofs.YtbgokfhcgcoipaaGreatDoor
namespace Go.Proofs.YtbgokfhcgcoipaaGreatDoor
open Go Go.Proofs.YtbgokfhcgcoipaaGreatDoor.Sx
def bLess (a b : ByteArray) : Bool := Op.bytesLess a.toList b.toList
theorem bytes_irrefl : ∀ x : List UInt8, Op.bytesLess x x = false
  | [] => rfl
  | a :: x => by simp [Op.bytesLess, bytes_irrefl x]
theorem bytes_trans : ∀ x y z : List UInt8, Op.bytesLess x y = true -> Op.bytesLess y z = true -> Op.bytesLess x z = true
  | [], [], z, h, _ => by simp [Op.bytesLess] at h
  | [], _ :: _, [], _, h => by simp [Op.bytesLess] at h
  | [], _ :: _, _ :: _, _, _ => rfl
  | _ :: _, [], _, h, _ => by simp [Op.bytesLess] at h
  | _ :: _, _ :: _, [], _, h => by simp [Op.bytesLess] at h
  | a :: x, b :: y, c :: z, h, g => by
    simp only [Op.bytesLess, Bool.or_eq_true, decide_eq_true_eq, Bool.and_eq_true, beq_iff_eq] at h g ⊢
    rcases h with h | ⟨rfl, h⟩
    · rcases g with g | ⟨rfl, g⟩
      · exact .inl (UInt8.lt_trans h g)
      · exact .inl h
    · rcases g with g | ⟨rfl, g⟩
      · exact .inl g
      · exact .inr ⟨rfl, bytes_trans x y z h g⟩
theorem bytes_tri : ∀ x y : List UInt8, Op.bytesLess x y = false -> Op.bytesLess y x = false -> x = y
  | [], [], _, _ => rfl
  | [], _ :: _, h, _ => by simp [Op.bytesLess] at h
  | _ :: _, [], _, h => by simp [Op.bytesLess] at h
  | a :: x, b :: y, h, g => by
    simp only [Op.bytesLess, Bool.or_eq_false_iff, decide_eq_false_iff_not, Bool.and_eq_false_iff, beq_eq_false_iff_ne] at h g
    have hab : a = b := by
      have h1 := h.1
      have h2 := g.1
      rw [UInt8.not_lt] at h1 h2
      exact UInt8.le_antisymm h2 h1
    subst hab
    rcases h.2 with h2 | h2
    · exact absurd rfl h2
    · rcases g.2 with g2 | g2
      · exact absurd rfl g2
      · rw [bytes_tri x y h2 g2]
theorem bLess_irrefl (a : ByteArray) : bLess a a = false := bytes_irrefl _
theorem bLess_trans {a b c : ByteArray} (h : bLess a b = true) (g : bLess b c = true) : bLess a c = true := bytes_trans _ _ _ h g
theorem toList_inj {a b : ByteArray} (h : a.toList = b.toList) : a = b := by
  have h1 : ∀ x : ByteArray, x.toList = x.data.toList := fun x => by rw [ByteArray.toList_eq]
  rw [h1, h1] at h
  cases a; cases b
  congr 1
  exact Array.ext' h
theorem bLess_tri {a b : ByteArray} (h : bLess a b = false) (g : bLess b a = false) : a = b := toList_inj (bytes_tri _ _ h g)
theorem bLess_ne {a b : ByteArray} (h : bLess a b = true) : a ≠ b := fun e => by rw [e, bLess_irrefl] at h; cases h
def posOf : List (ByteArray × Int) -> ByteArray -> Nat
  | [], _ => 0
  | x :: r, c => if bLess x.1 c then posOf r c + 1 else 0
def sumAdd : List (ByteArray × Int) -> ByteArray -> Int -> List (ByteArray × Int)
  | [], c, u => [(c, u)]
  | x :: r, c, u => if bLess x.1 c then x :: sumAdd r c u else if x.1 = c then (x.1, x.2 + u) :: r else (c, u) :: x :: r
def Ordered (s : List (ByteArray × Int)) : Prop := s.Pairwise fun a b => bLess a.1 b.1 = true
def hasAt (s : List (ByteArray × Int)) (c : ByteArray) : Bool := match s[posOf s c]? with
  | some x => decide (x.1 = c)
  | none => false
theorem posOf_le : ∀ (s : List (ByteArray × Int)) (c : ByteArray), posOf s c <= s.length
  | [], _ => Nat.le_refl _
  | x :: r, c => by
    have := posOf_le r c
    unfold posOf
    split <;> simp; omega
theorem posOf_lo : ∀ (s : List (ByteArray × Int)) (c : ByteArray) (j : Nat) (x : ByteArray × Int), s[j]? = some x -> j < posOf s c -> bLess x.1 c = true
  | [], _, _, _, h, _ => by simp at h
  | y :: r, c, j, x, h, hj => by
    unfold posOf at hj
    split at hj
    · rename_i hy
      cases j with
      | zero => simp at h; subst h; exact hy
      | succ j => exact posOf_lo r c j x (by simpa using h) (by omega)
    · omega
theorem posOf_at : ∀ (s : List (ByteArray × Int)) (c : ByteArray) (x : ByteArray × Int), s[posOf s c]? = some x -> bLess x.1 c = false
  | [], _, _, h => by simp at h
  | y :: r, c, x, h => by
    unfold posOf at h
    split at h
    · exact posOf_at r c x (by simpa using h)
    · rename_i hy
      simp at h; subst h
      simpa using hy
theorem posOf_hi {s : List (ByteArray × Int)} (ho : Ordered s) {c : ByteArray} {j : Nat} {x : ByteArray × Int} (h : s[j]? = some x) (hj : posOf s c <= j) : bLess x.1 c = false := by
  obtain ⟨hjl, he⟩ := List.getElem?_eq_some_iff.1 h
  have hk : posOf s c < s.length := by omega
  have h0 := posOf_at s c _ (List.getElem?_eq_getElem hk)
  rcases Nat.lt_or_ge (posOf s c) j with hlt | hge
  · have h1 := List.pairwise_iff_getElem.1 ho (posOf s c) j hk hjl hlt
    rw [he] at h1
    cases hx : bLess x.1 c with
    | false => rfl
    | true => rw [bLess_trans h1 hx] at h0; cases h0
  · have : posOf s c = j := by omega
    subst this
    rw [he] at h0; exact h0
theorem sumAdd_has : ∀ {s : List (ByteArray × Int)} {c : ByteArray} {u : Int}, hasAt s c = true -> ∃ v, s[posOf s c]? = some (c, v) /\ sumAdd s c u = s.set (posOf s c) (c, v + u)
  | [], c, u, h => by simp [hasAt] at h
  | x :: r, c, u, h => by
    unfold hasAt at h
    unfold posOf sumAdd
    unfold posOf at h
    by_cases hx : bLess x.1 c = true
    · simp only [hx, if_true, List.getElem?_cons_succ] at h
      obtain ⟨v, h1, h2⟩ := sumAdd_has (s := r) (c := c) (u := u) h
      exact ⟨v, by simp only [hx, if_true, List.getElem?_cons_succ]; exact h1, by simp only [hx, if_true, List.set_cons_succ, h2]⟩
    · simp only [hx, if_false, List.getElem?_cons_zero, decide_eq_true_eq, Bool.false_eq_true] at h
      exact ⟨x.2, by rw [if_neg hx]; simp [<- h], by rw [if_neg hx, if_neg hx, if_pos h, List.set_cons_zero, h]⟩
theorem sumAdd_new : ∀ {s : List (ByteArray × Int)} {c : ByteArray} {u : Int}, hasAt s c = false -> sumAdd s c u = s.take (posOf s c) ++ (c, u) :: s.drop (posOf s c)
  | [], c, u, _ => rfl
  | x :: r, c, u, h => by
    unfold hasAt at h
    unfold posOf sumAdd
    unfold posOf at h
    by_cases hx : bLess x.1 c = true
    · simp only [hx, if_true, List.getElem?_cons_succ] at h
      have := sumAdd_new (s := r) (c := c) (u := u) h
      simp only [hx, if_true, this, List.take_succ_cons, List.drop_succ_cons, List.cons_append]
    · simp only [hx, if_false, List.getElem?_cons_zero, decide_eq_false_iff_not, Bool.false_eq_true] at h
      simp only [hx, if_false, h, Bool.false_eq_true, List.take_zero, List.drop_zero, List.nil_append]
theorem sumAdd_fst : ∀ {s : List (ByteArray × Int)} {c : ByteArray} {u : Int} {x : ByteArray × Int}, x ∈ sumAdd s c u -> x.1 = c ∨ ∃ y ∈ s, y.1 = x.1
  | [], c, u, x, h => by simp [sumAdd] at h; exact .inl (by rw [h])
  | y :: r, c, u, x, h => by
    unfold sumAdd at h
    split at h
    · rcases List.mem_cons.1 h with h | h
      · exact .inr ⟨y, List.mem_cons_self, by rw [h]⟩
      · rcases sumAdd_fst h with h | ⟨z, hz, e⟩
        · exact .inl h
        · exact .inr ⟨z, List.mem_cons_of_mem _ hz, e⟩
    · split at h
      · rcases List.mem_cons.1 h with h | h
        · exact .inr ⟨y, List.mem_cons_self, by rw [h]⟩
        · exact .inr ⟨x, List.mem_cons_of_mem _ h, rfl⟩
      · rcases List.mem_cons.1 h with h | h
        · exact .inl (by rw [h])
        · exact .inr ⟨x, h, rfl⟩
theorem sumAdd_ordered : ∀ {s : List (ByteArray × Int)} {c : ByteArray} {u : Int}, Ordered s -> Ordered (sumAdd s c u)
  | [], c, u, _ => by simp [sumAdd, Ordered]
  | y :: r, c, u, h => by
    have hr := (List.pairwise_cons.1 h).2
    have hy := (List.pairwise_cons.1 h).1
    unfold sumAdd
    split
    · rename_i hlt
      refine List.pairwise_cons.2 ⟨fun x hx => ?_, sumAdd_ordered hr⟩
      rcases sumAdd_fst hx with e | ⟨z, hz, e⟩
      · rw [e]; exact hlt
      · rw [<- e]; exact hy z hz
    · rename_i hge
      split
      · exact List.pairwise_cons.2 ⟨fun x hx => hy x hx, hr⟩
      · rename_i hne
        have hcy : bLess c y.1 = true := by
          cases hcy : bLess c y.1 with
          | true => rfl
          | false => exact absurd (bLess_tri (by simpa using hge) hcy) hne
        refine List.pairwise_cons.2 ⟨fun x hx => ?_, h⟩
        rcases List.mem_cons.1 hx with hx | hx
        · rw [hx]; exact hcy
        · exact bLess_trans hcy (hy x hx)
theorem sumAdd_len (s : List (ByteArray × Int)) (c : ByteArray) (u : Int) : (sumAdd s c u).length <= s.length + 1 /\ posOf s c < (sumAdd s c u).length := by
  have hp := posOf_le s c
  cases h : hasAt s c with
  | true =>
    obtain ⟨v, h1, h2⟩ := sumAdd_has (u := u) h
    have := (List.getElem?_eq_some_iff.1 h1).1
    rw [h2, List.length_set]
    omega
  | false =>
    rw [sumAdd_new h]
    simp
    omega
theorem sumAdd_two : ∀ {s : List (ByteArray × Int)} {c : ByteArray} {u : Int}, ∃ v, (sumAdd s c 0)[posOf s c]? = some (c, v) /\ sumAdd s c u = (sumAdd s c 0).set (posOf s c) (c, v + u)
  | s, c, u => by
    cases h : hasAt s c with
    | true =>
      obtain ⟨v, h1, h2⟩ := sumAdd_has (u := u) h
      obtain ⟨v', h1', h2'⟩ := sumAdd_has (u := 0) h
      rw [h1] at h1'
      simp only [Option.some.injEq, Prod.mk.injEq, true_and] at h1'
      subst h1'
      have hl := (List.getElem?_eq_some_iff.1 h1).1
      refine ⟨v, by rw [h2', List.getElem?_set_self hl, Int.add_zero], by rw [h2, h2', List.set_set]⟩
    | false =>
      have hp := posOf_le s c
      have hl : (s.take (posOf s c)).length = posOf s c := by simp; omega
      refine ⟨0, ?_, ?_⟩
      · rw [sumAdd_new h, List.getElem?_append_right (by omega), hl, Nat.sub_self]
        rfl
      · rw [sumAdd_new h, sumAdd_new h, List.set_append_right _ _ (by omega), hl, Nat.sub_self, List.set_cons_zero, Int.zero_add]
def sumsRows (s : List (ByteArray × Int)) : List (List D0) := s.map fun x => .str x.1 :: enc x.2
theorem sumsRows_len (s : List (ByteArray × Int)) : (sumsRows s).length = s.length := by simp [sumsRows]
theorem sumsRows_code {s : List (ByteArray × Int)} : ∀ x ∈ sumsRows s, x.map D0.code = [.str, .bool, .ints] := by
  intro x hx
  obtain ⟨y, _, rfl⟩ := List.mem_map.1 hx
  rfl
end Go.Proofs.YtbgokfhcgcoipaaGreatDoor
namespace Go.Proofs.YtbgokfhcgcoipaaGreatDoor
open Go Go.Proofs.YtbgokfhcgcoipaaGreatDoor.Sx
abbrev B3 := ByteArray × ByteArray × Int
def bkR (x : B3) : List D0 := .str x.1 :: .str x.2.1 :: enc x.2.2
structure BkL (l : List B3) : Prop where
  ord : l.Pairwise fun x y => bLess x.1 y.1 = true
  row : ∀ x ∈ l, isWord x.1 = true /\ moneyOk (.str x.2.1 :: enc x.2.2) = true
  len : l.length <= 12
theorem bkR_code (l : List B3) : ∀ x ∈ l.map bkR, x.map D0.code = [.str, .str, .bool, .ints] := fun x hx => by
  obtain ⟨y, _, rfl⟩ := List.mem_map.1 hx
  rfl
theorem moneyOk_parts {c : ByteArray} {z : Int} (h : moneyOk (.str c :: enc z) = true) : curKnown c = true /\ (digs z.natAbs).length <= 4 := by
  have h2 : (curKnown c && intOk (enc z) && decide ((digs z.natAbs).length <= 4)) = true := h
  simp only [Bool.and_eq_true, decide_eq_true_eq] at h2
  exact ⟨h2.1.1, h2.2⟩
theorem money_midB {c : ByteArray} (hc : curKnown c = true) {z : Int} (h : z.natAbs < 1000000000000000000000000000000000000) : moneyOk (.str c :: enc z) = true := by
  have h4 : (digs z.natAbs).length <= 4 := digs_len 4 (by omega)
  have h5 : intOk (enc z) = true := enc_ok (by omega)
  show (curKnown c && intOk (enc z) && decide ((digs z.natAbs).length <= 4)) = true
  rw [hc, h5, decide_eq_true h4]; rfl
theorem word_size {s : ByteArray} (h : isWord s = true) : s.size <= 12 := by
  unfold isWord at h
  simp only [Bool.and_eq_true, decide_eq_true_eq] at h
  exact h.1.2
theorem BkL.bulk {l : List B3} (h : BkL l) : ∀ x ∈ l.map bkR, bulks x <= 1048576 := fun x hx => by
  obtain ⟨y, hy, rfl⟩ := List.mem_map.1 hx
  obtain ⟨r1, r2⟩ := h.row y hy
  obtain ⟨k1, k2⟩ := moneyOk_parts r2
  have s1 := word_size r1
  have s2 := known_size k1
  simp only [bkR, enc, bulks, D0.bulk, List.map_cons, List.map_nil, List.sum_cons, List.sum_nil]
  omega
theorem BkL.ok {l : List B3} (h : BkL l) : bookOk (l.map bkR) = true := by
  unfold bookOk
  rw [Bool.and_eq_true]
  refine ⟨decide_eq_true (by simpa using h.len), range_yes fun i hi => ?_⟩
  have hil : i < l.length := by simpa using hi
  unfold bookRowOk
  rw [getD_row hi, List.getElem_map, Bool.and_eq_true]
  obtain ⟨r1, r2⟩ := h.row _ (List.getElem_mem hil)
  refine ⟨?_, ?_⟩
  · show (isWord _ && moneyOk _) = true
    rw [r1, r2]; rfl
  · rcases Nat.eq_zero_or_pos i with h0 | h0
    · subst h0; simp
    · have hi1 : i - 1 < l.length := by omega
      rw [getD_row (show i - 1 < (l.map bkR).length by simpa using hi1), List.getElem_map]
      have := List.pairwise_iff_getElem.1 h.ord (i - 1) i hi1 hil (by omega)
      show (!(decide (0 < i) && !(bLess (l[i - 1]).1 (l[i]).1))) = true
      rw [this]; simp
theorem BkL.at {l : List B3} (h : BkL l) {j : Nat} (hj : j < l.length) : acctAt (l.map bkR) (l[j]).1 = j := by
  refine firstI_some (by simpa using hj) (by rw [List.getElem_map]; exact decide_eq_true rfl) fun i hi hij => ?_
  rw [List.getElem_map]
  exact decide_eq_false (bLess_ne (List.pairwise_iff_getElem.1 h.ord i j (by simpa using hi) hj hij))
theorem acct_none {l : List B3} {s : ByteArray} (h : ∀ x ∈ l, x.1 ≠ s) : acctAt (l.map bkR) s = -1 := by
  refine firstI_none fun i hi => ?_
  rw [List.getElem_map]
  exact decide_eq_false (h _ (List.getElem_mem (by simpa using hi)))
theorem BkL.rowAt {l : List B3} (h : BkL l) {j : Nat} (hj : j < l.length) : rowAt (l.map bkR) (l[j]).1 = bkR l[j] := by
  unfold Go.Proofs.YtbgokfhcgcoipaaGreatDoor.rowAt
  rw [h.at hj, Int.toNat_natCast, getD_row (by simpa using hj), List.getElem_map]
theorem BkL.bal {l : List B3} (h : BkL l) {j : Nat} (hj : j < l.length) : balOf (l.map bkR) (l[j]).1 = .str (l[j]).2.1 :: enc (l[j]).2.2 := by
  unfold balOf
  rw [h.at hj, if_neg (by omega), Int.toNat_natCast, getD_row (by simpa using hj), List.getElem_map]
  rfl
theorem addM_enc {c : ByteArray} {z v : Int} (h : moneyOk (.str c :: enc z) = true) (g : moneyOk (.str c :: enc v) = true) (k : moneyOk (.str c :: enc (z + v)) = true) : addM (.str c :: enc z) (.str c :: enc v) = (true, .str c :: enc (z + v)) := by
  show mres (moneyOk (.str c :: enc z) && (moneyOk (.str c :: enc v) && decide (c = c))) c (ival (enc z) + ival (enc v)) = _
  rw [h, g, decide_eq_true rfl, ival_enc, ival_enc]
  show (moneyOk (.str c :: enc (z + v)), moneyMk c (z + v)) = _
  unfold moneyMk
  rw [k]; rfl
theorem BkL.post {l : List B3} (h : BkL l) {j : Nat} (hj : j < l.length) {v : Int} (g : moneyOk (.str (l[j]).2.1 :: enc v) = true) (k : moneyOk (.str (l[j]).2.1 :: enc ((l[j]).2.2 + v)) = true) :
    postOk (l.map bkR) (l[j]).1 (.str (l[j]).2.1 :: enc v) = true /\ postT (l.map bkR) (l[j]).1 (.str (l[j]).2.1 :: enc v) = (l.set j ((l[j]).1, (l[j]).2.1, (l[j]).2.2 + v)).map bkR := by
  have r := (h.row _ (List.getElem_mem hj)).2
  have hr := h.rowAt hj
  have ha : addM ((Go.Proofs.YtbgokfhcgcoipaaGreatDoor.rowAt (l.map bkR) (l[j]).1).drop 1) (.str (l[j]).2.1 :: enc v) = (true, .str (l[j]).2.1 :: enc ((l[j]).2.2 + v)) := by
    rw [hr]; exact addM_enc r g k
  have hok : postOk (l.map bkR) (l[j]).1 (.str (l[j]).2.1 :: enc v) = true := by
    unfold postOk
    rw [h.ok, ha, h.at hj, decide_eq_true (by omega)]; rfl
  refine ⟨hok, ?_⟩
  unfold postT
  rw [if_pos hok]
  unfold postL
  rw [ha, hr, h.at hj, Int.toNat_natCast, List.map_set]
  rfl
theorem BkL.set {l : List B3} (h : BkL l) {j : Nat} (hj : j < l.length) {z : Int} (k : moneyOk (.str (l[j]).2.1 :: enc z) = true) : BkL (l.set j ((l[j]).1, (l[j]).2.1, z)) := by
  refine ⟨?_, fun x hx => ?_, by rw [List.length_set]; exact h.len⟩
  · rw [List.pairwise_iff_getElem]
    intro a b ha hb hab
    rw [List.length_set] at ha hb
    have := List.pairwise_iff_getElem.1 h.ord a b ha hb hab
    rw [List.getElem_set, List.getElem_set]
    split <;> rename_i e1
    · subst e1
      rw [if_neg (by omega)]; exact this
    · split
      · rename_i e2; subst e2; exact this
      · exact this
  · rcases List.mem_or_eq_of_mem_set hx with hx | hx
    · exact h.row x hx
    · subst hx
      exact ⟨(h.row _ (List.getElem_mem hj)).1, k⟩
theorem acAt_all : ∀ {l : List B3} {s : ByteArray}, (∀ x ∈ l, bLess x.1 s = true) -> acAt (l.map bkR) s = l.length
  | [], _, _ => rfl
  | x :: r, s, h => by
    have h0 : Op.bytesLess (strOf (bkR x)).toList s.toList = true := h x (List.mem_cons_self ..)
    show acAt (bkR x :: r.map bkR) s = _
    unfold acAt
    rw [if_pos h0, acAt_all fun y hy => h y (List.mem_cons_of_mem _ hy)]; rfl
theorem BkL.snoc {l : List B3} (h : BkL l) {s cur : ByteArray} {z : Int} (hs : ∀ x ∈ l, bLess x.1 s = true) (hw : isWord s = true) (hm : moneyOk (.str cur :: enc z) = true) (hl : l.length < 12) : BkL (l ++ [(s, cur, z)]) := by
  refine ⟨List.pairwise_append.2 ⟨h.ord, List.pairwise_singleton .., fun x hx y hy => ?_⟩, fun x hx => ?_, by rw [List.length_append]; show l.length + 1 <= 12; omega⟩
  · rw [List.mem_singleton.1 hy]; exact hs x hx
  · rcases List.mem_append.1 hx with hx | hx
    · exact h.row x hx
    · rw [List.mem_singleton.1 hx]; exact ⟨hw, hm⟩
theorem BkL.open {l : List B3} (h : BkL l) {s cur : ByteArray} (hs : ∀ x ∈ l, bLess x.1 s = true) (hw : isWord s = true) (hc : curKnown cur = true) (hl : l.length < 12) :
    openOk (l.map bkR) s cur = true /\ openT (l.map bkR) s cur = (l ++ [(s, cur, 0)]).map bkR := by
  have hL : openL (l.map bkR) s cur = (l ++ [(s, cur, 0)]).map bkR := by
    unfold openL
    rw [acAt_all hs, List.take_of_length_le (by rw [List.length_map]; omega), List.drop_eq_nil_of_le (by rw [List.length_map]; omega), List.map_append]
    show _ ++ [openRow s cur] = _ ++ [bkR (s, cur, 0)]
    unfold openRow bkR
    rw [enc0]
  have hok : openOk (l.map bkR) s cur = true := by
    unfold openOk
    rw [h.ok, acct_none (fun x hx => bLess_ne (hs x hx)), hL, (h.snoc hs hw (money_midB hc (by decide)) hl).ok]; rfl
  exact ⟨hok, by unfold openT; rw [if_pos hok, hL]⟩
theorem BkL.post_last {l : List B3} {s cur : ByteArray} (h : BkL (l ++ [(s, cur, 0)])) {v : Int} (hv : moneyOk (.str cur :: enc v) = true) :
    postOk ((l ++ [(s, cur, 0)]).map bkR) s (.str cur :: enc v) = true /\ postT ((l ++ [(s, cur, 0)]).map bkR) s (.str cur :: enc v) = (l ++ [(s, cur, v)]).map bkR := by
  have hj : l.length < (l ++ [(s, cur, (0 : Int))]).length := by rw [List.length_append]; show _ < _ + 1; omega
  have he : (l ++ [(s, cur, (0 : Int))])[l.length]'hj = (s, cur, 0) := by simp
  have := h.post hj (v := v) (by rw [he]; exact hv) (by rw [he]; show moneyOk (.str cur :: enc (0 + v)) = true; rw [Int.zero_add]; exact hv)
  rw [he] at this
  simp only [Int.zero_add] at this
  rw [show (l ++ [(s, cur, (0 : Int))]).set l.length (s, cur, v) = l ++ [(s, cur, v)] by simp] at this
  exact this
theorem unitsOf_bk (c : ByteArray) (x : B3) : unitsOf c (bkR x) = if x.2.1 = c then x.2.2 else 0 := by
  show (if x.2.1 = c then ival (enc x.2.2) else 0) = _
  rw [ival_enc]
theorem BkL.sum {l : List B3} (h : BkL l) (c : ByteArray) : bookSum (l.map bkR) c = enc (sumI (unitsOf c) (l.map bkR)) := by
  unfold bookSum; rw [h.ok]; rfl
def N10 (s : ByteArray) : Prop := ∀ x ∈ s.data.toList, x ≠ 10
theorem N10.append {a b : ByteArray} (h : N10 a) (g : N10 b) : N10 (a ++ b) := fun x hx => by
  rw [ByteArray.data_append, Array.toList_append] at hx
  rcases List.mem_append.1 hx with hx | hx
  · exact h x hx
  · exact g x hx
theorem N10.sub {a : ByteArray} (h : N10 a) (i j : Nat) : N10 (a.extract i j) := fun x hx => by
  rw [ByteArray.data_extract, Array.toList_extract, List.extract_eq_take_drop] at hx
  exact h x (List.mem_of_mem_drop (List.mem_of_mem_take hx))
end Go.Proofs.YtbgokfhcgcoipaaGreatDoor
namespace Go.Proofs.YtbgokfhcgcoipaaGreatDoor
open Go Go.Proofs.YtbgokfhcgcoipaaGreatDoor.Sx
def ByR (W : World) (p : Option Addr) (n : Nat) : Prop := 0 < n -> ∃ (b o : Nat) (zs : List Int), p = some ⟨b, o, none⟩ /\ zs.length = n /\ Seg W b o (zs.map (Value.int .u8)) /\ b < W.heap.size
theorem ByR.ext {W W' : World} {p : Option Addr} {n : Nat} (h : ByR W p n) (he : Ext W W') : ByR W' p n := fun hn => by
  obtain ⟨b, o, zs, h1, h2, h3, h4⟩ := h hn
  exact ⟨b, o, zs, h1, h2, h3.ext he, Nat.lt_of_lt_of_le h4 he.le⟩
theorem ByR.chg {W W' : World} {p : Option Addr} {n r : Nat} (h : ByR W p n) (he : Chg [r] W W') (hr : 0 < n -> ∀ q, p.map (·.block) = some q -> q ≠ r) : ByR W' p n := fun hn => by
  obtain ⟨b, o, zs, rfl, h2, h3, h4⟩ := h hn
  exact ⟨b, o, zs, rfl, h2, h3.chg he (fun hm => hr hn b rfl (List.mem_singleton.1 hm)), Nat.lt_of_lt_of_le h4 he.size⟩
theorem ByR.at {W : World} {p : Option Addr} {n : Nat} (h : ByR W p n) {i : Int} (h0 : 0 <= i) (h1 : i < n) : ∃ a z, p = some a /\ Loads P T_uint8 (a.add (i.toNat * 1)) (.int .u8 z) W := by
  obtain ⟨b, o, zs, rfl, h2, h3, h4⟩ := h (by omega)
  have hk : i.toNat < zs.length := by omega
  refine ⟨⟨b, o, none⟩, zs[i.toNat], rfl, h3.load (by kernel_rfl) ?_⟩
  rw [Nat.mul_one, List.getElem?_map, List.getElem?_eq_getElem hk]; rfl
def Cur (W : World) (r : Nat) (p : Option Addr) (n c : Nat) : Prop := ∃ (e : TypeId) (i h : Int), 0 <= i /\ Blk W r e [.slice p n c, .int .i64 i, .int .i64 h]
theorem Cur.ext {W W' : World} {r n c : Nat} {p : Option Addr} (h : Cur W r p n c) (he : Ext W W') : Cur W' r p n c := by
  obtain ⟨e, i, x, h1, h2⟩ := h; exact ⟨e, i, x, h1, h2.ext he⟩
theorem Cur.lt {W : World} {r n c : Nat} {p : Option Addr} (h : Cur W r p n c) : r < W.heap.size := by
  obtain ⟨e, i, x, h1, h2⟩ := h; exact h2.lt
theorem and255 (x : Int) : ∃ z : Int, z = IntKind.wrap .i64 (((BitVec.ofInt (IntKind.bits .i64) x &&& BitVec.ofInt (IntKind.bits .i64) 255).toNat : Nat) : Int) /\ 0 <= z /\ z <= 255 := by
  have h : (BitVec.ofInt (IntKind.bits .i64) x &&& BitVec.ofInt (IntKind.bits .i64) 255).toNat <= 255 := by
    rw [BitVec.toNat_and]
    exact Nat.le_trans Nat.and_le_right (by decide)
  exact ⟨_, rfl, by rw [wrap64 (by omega) (by omega)]; omega, by rw [wrap64 (by omega) (by omega)]; omega⟩
theorem spec_l01New_c {w : World} {p : Option Addr} {n c : Nat} (h : ByR w p n) (hn : n <= 1048576) : Ret P n_spec_l01New [.slice p n c] w fun v w' => ∃ r, v = .pointer (some ⟨r, 0, none⟩) /\ w.heap.size <= r /\ Cur w' r p n c /\ Ext w w' := by
  refine spec_l01New_ret ?_
  unfold spec_l01New
  refine ⟨_, rfl, fun _ i W => ∃ k : Nat, i = k /\ W = w, fun _ i _ => n - i.toNat, ⟨0, rfl, rfl⟩, ?_⟩
  rintro junk W hh i ⟨k, rfl, rfl⟩
  have fin : ∀ (r : Nat) (w1 : World), New W (.cells ⟨[.slice p n c, .int .i64 0, .int .i64 hh]⟩ T_spec_l01Cur (0, 0)) r w1 -> ∃ r', Value.pointer (some ⟨r, 0, none⟩) = .pointer (some ⟨r', 0, none⟩) /\ W.heap.size <= r' /\ Cur w1 r' p n c /\ Ext W w1 := fun r w1 hn1 =>
    ⟨r, rfl, by have := hn1.r_eq; omega, ⟨_, 0, hh, by omega, hn1.blk⟩, hn1.ext⟩
  refine ifD (fun hlt => ifD (fun h4 => ?_) (fun _ => fin)) (fun hge => ifF fin)
  unfold spec_l01New_j0
  obtain ⟨a, z, rfl, hl⟩ := h.at (i := (k : Int)) (by omega) hlt
  refine ⟨_, rfl, ⟨by omega, hlt⟩, _, hl, _, rfl, _, rfl, _, rfl, _, rfl, exW ⟨by omega, by omega⟩ ⟨⟨k + 1, by omega, rfl⟩, ?_⟩⟩
  show n - ((k : Int) + 1).toNat < n - (k : Int).toNat
  omega
theorem spec_l01Byte_c {w : World} {r n c : Nat} {p : Option Addr} (hc : Cur w r p n c) (hb : ByR w p n) (hne : 0 < n -> ∀ q, p.map (·.block) = some q -> q ≠ r) (hn : n <= 1048576) :
    Ret P n_spec_l01Byte [.pointer (some ⟨r, 0, none⟩)] w fun v w' => ∃ z : Int, v = .int .i64 z /\ 0 <= z /\ z <= 255 /\ Cur w' r p n c /\ Chg [r] w w' := by
  obtain ⟨e, i, hh, hi, hblk⟩ := hc
  refine spec_l01Byte_ret ?_
  unfold spec_l01Byte
  refine ⟨_, hblk.load (by kernel_rfl) rfl, _, rfl, _, rfl, ?_⟩
  obtain ⟨w1, st1, hb1, ch1, _⟩ := hblk.store (P := P) (t := T_int) (k := 2) (v := .int .i64 (IntKind.wrap .i64 (IntKind.wrap .i64 (hh * 6364136223846793005) + 1442695040888963407))) (by kernel_rfl) (by simp) rfl
  have D1 := Ext.drew w1
  have D2 := D1.trans (Ext.drew w1.drew)
  have D3 := D2.trans (Ext.drew w1.drew.drew)
  have hb2 := hb1.ext D2; have hb3 := hb1.ext D3
  have hby := (hb.chg ch1 hne).ext D3
  refine ⟨w1, st1, _, fun W hW => ((hb1.ext D1).ext hW).load (by kernel_rfl) rfl, by decide, _, rfl, _, fun W hW => ((hb1.ext D1).ext hW).load (by kernel_rfl) rfl, by decide, _, rfl, _, rfl, ?_⟩
  obtain ⟨z1, hz1, z10, z11⟩ := and255 (IntKind.wrap .i64 (((BitVec.ofInt (IntKind.bits .i64) (Int.fdiv (IntKind.wrap .i64 (IntKind.wrap .i64 (hh * 6364136223846793005) + 1442695040888963407)) (2 ^ (min (33 : Int).toNat (IntKind.bits .i64)))) ^^^ BitVec.ofInt (IntKind.bits .i64) (Int.fdiv (IntKind.wrap .i64 (IntKind.wrap .i64 (hh * 6364136223846793005) + 1442695040888963407)) (2 ^ (min (45 : Int).toNat (IntKind.bits .i64))))).toNat : Nat) : Int))
  refine ⟨z1, hz1, _, fun W hW => (hb2.ext hW).load (by kernel_rfl) rfl, _, _, _, fun W hW => (hb2.ext hW).load (by kernel_rfl) rfl, ifD (fun hlt => ?_) (fun hge => ?_)⟩
  · obtain ⟨a, z, hpa, _⟩ := hby.at hi hlt
    obtain ⟨b, o, zs, hpe, hzl, hseg, hblt⟩ := hby (by omega)
    have hpo : p = some ⟨b, o, none⟩ := hpe
    subst hpo
    have hk : i.toNat < zs.length := by omega
    refine ⟨_, _, _, fun W hW => (hb3.ext hW).load (by kernel_rfl) rfl, _, fun W hW => (hb3.ext hW).load (by kernel_rfl) rfl, ⟨hi, hlt⟩, ?_⟩
    refine ⟨zs[i.toNat], fun W hW => (hseg.ext hW).load (by kernel_rfl) (by rw [Nat.mul_one, List.getElem?_map, List.getElem?_eq_getElem hk]; rfl), _, rfl, _, rfl, ?_⟩
    obtain ⟨z2, hz2, z20, z21⟩ := and255 (IntKind.wrap .i64 (z1 + IntKind.wrap .i64 zs[i.toNat]))
    refine ⟨z2, hz2, _, hb3.load (by kernel_rfl) rfl, exW ⟨by omega, by omega⟩ ?_⟩
    obtain ⟨w2, st2, hb4, ch2, _⟩ := hb3.store (P := P) (t := T_int) (k := 1) (v := .int .i64 (i + 1)) (by kernel_rfl) (by simp) rfl
    refine ⟨w2, st2, ?_⟩
    unfold spec_l01Byte_j0
    exact ⟨z2, rfl, z20, z21, ⟨e, i + 1, IntKind.wrap .i64 (IntKind.wrap .i64 (hh * 6364136223846793005) + 1442695040888963407), by omega, hb4⟩, (ch1.trans D3.toChg).trans ch2⟩
  · unfold spec_l01Byte_j0
    exact ⟨z1, rfl, z10, z11, ⟨e, i, IntKind.wrap .i64 (IntKind.wrap .i64 (hh * 6364136223846793005) + 1442695040888963407), hi, hb2⟩, ch1.trans D2.toChg⟩
theorem spec_l01Below_c {w : World} {r n c : Nat} {p : Option Addr} (hc : Cur w r p n c) (hb : ByR w p n) (hne : 0 < n -> ∀ q, p.map (·.block) = some q -> q ≠ r) (hn : n <= 1048576) {k : Int} (hk : 0 < k) (hk2 : k <= 1000000000) :
    Ret P n_spec_l01Below [.pointer (some ⟨r, 0, none⟩), .int .i64 k] w fun v w' => ∃ z : Int, v = .int .i64 z /\ 0 <= z /\ z < k /\ Cur w' r p n c /\ Chg [r] w w' := by
  refine spec_l01Below_ret ?_
  unfold spec_l01Below
  refine ifD (fun h => by omega) (fun _ => ifD (fun _ => ?_) (fun _ => ?_))
  · refine Ret.at (spec_l01Byte_c hc hb hne hn) ?_
    rintro v w1 ⟨z, rfl, z0, z1, hc1, ch1⟩
    refine ⟨_, rfl, by omega, _, rfl, _, rfl, ?_, ?_, hc1, ch1⟩
    · exact Int.tmod_nonneg _ z0
    · rw [Int.tmod_eq_emod_of_nonneg z0]; exact Int.emod_lt_of_pos _ hk
  · refine Ret.at (spec_l01Byte_c hc hb hne hn) ?_
    rintro v w1 ⟨x1, rfl, a0, a1, hc1, ch1⟩
    refine ⟨_, rfl, ?_⟩
    have hb1 := hb.chg ch1 hne
    refine Ret.at (spec_l01Byte_c hc1 hb1 hne hn) ?_
    rintro v w2 ⟨x2, rfl, b0, b1, hc2, ch2⟩
    refine ⟨_, rfl, ?_⟩
    have hb2 := hb1.chg ch2 hne
    refine Ret.at (spec_l01Byte_c hc2 hb2 hne hn) ?_
    rintro v w3 ⟨x3, rfl, c0, c1, hc3, ch3⟩
    refine ⟨_, rfl, ?_⟩
    have hb3 := hb2.chg ch3 hne
    refine Ret.at (spec_l01Byte_c hc3 hb3 hne hn) ?_
    rintro v w4 ⟨x4, rfl, d0, d1, hc4, ch4⟩
    refine ⟨_, rfl, exW ⟨by omega, by omega⟩ (exW ⟨by omega, by omega⟩ (exW ⟨by omega, by omega⟩ (exW ⟨by omega, by omega⟩ (exW ⟨by omega, by omega⟩ (exW ⟨by omega, by omega⟩ ⟨by omega, _, rfl, _, rfl, ?_, ?_, hc4, ((ch1.trans ch2).trans ch3).trans ch4⟩)))))⟩
    · exact Int.tmod_nonneg _ (by omega)
    · rw [Int.tmod_eq_emod_of_nonneg (by omega)]; exact Int.emod_lt_of_pos _ hk
end Go.Proofs.YtbgokfhcgcoipaaGreatDoor
namespace Go.Proofs.YtbgokfhcgcoipaaGreatDoor
open Go Go.Proofs.YtbgokfhcgcoipaaGreatDoor.Sx
theorem ByR.ne {W : World} {p : Option Addr} {n r : Nat} (h : ByR W p n) (hr : W.heap.size <= r) : 0 < n -> ∀ q, p.map (·.block) = some q -> q ≠ r := fun hn q hq => by
  obtain ⟨b, o, zs, rfl, _, _, h4⟩ := h hn
  simp only [Option.map_some, Option.some.injEq] at hq
  omega
theorem curBump {W : World} {r n c : Nat} {p : Option Addr} {k : Int} (hc : Cur W r p n c) {Q : World -> Prop} (hq : ∀ W', Cur W' r p n c -> Chg [r] W W' -> Q W') :
    ∃ t : Int, Loads P T_int ((⟨r, 0, none⟩ : Addr).add 2) (.int .i64 t) W /\ ∃ t2 : Int, t2 = IntKind.wrap .i64 (t + k) /\ ∃ W', Stores P T_int ((⟨r, 0, none⟩ : Addr).add 2) (.int .i64 t2) W W' /\ Q W' := by
  obtain ⟨e, i, x, h1, h2⟩ := hc
  obtain ⟨W', st, hb, ch, _⟩ := h2.store (P := P) (t := T_int) (k := 2) (v := .int .i64 (IntKind.wrap .i64 (x + k))) (by kernel_rfl) (by simp) rfl
  exact ⟨x, h2.load (by kernel_rfl) rfl, _, rfl, W', st, hq W' ⟨e, i, _, h1, hb⟩ ch⟩
end Go.Proofs.YtbgokfhcgcoipaaGreatDoor
namespace Go.Proofs.YtbgokfhcgcoipaaGreatDoor
open Go Go.Proofs.YtbgokfhcgcoipaaGreatDoor.Sx
theorem spec_l01Str_c {w : World} {r n c : Nat} {p : Option Addr} (hc : Cur w r p n c) (hb : ByR w p n) (hne : 0 < n -> ∀ q, p.map (·.block) = some q -> q ≠ r) (hn : n <= 1048576) {b o ln lc : Nat} {ss : List ByteArray} (hs : Seg w b o (ss.map Value.string)) (hbr : b ≠ r) (hl : ss.length = ln) (h0 : 0 < ln) (h1 : ln <= 1000) :
    Ret P n_spec_l01Str [.pointer (some ⟨r, 0, none⟩), .slice (some ⟨b, o, none⟩) ln lc] w fun v w' => ∃ s, v = .string s /\ s ∈ ss /\ Cur w' r p n c /\ Chg [r] w w' := by
  refine spec_l01Str_ret ?_
  unfold spec_l01Str
  refine Ret.at (spec_l01Below_c hc hb hne hn (k := ((ln : Nat) : Int)) (by omega) (by omega)) ?_
  rintro v w1 ⟨z, rfl, z0, z1, hc1, ch1⟩
  have hk : z.toNat < ss.length := by omega
  refine ⟨_, rfl, ⟨z0, z1⟩, ss[z.toNat], (hs.chg ch1 (fun hm => hbr (List.mem_singleton.1 hm))).loadAt z.toNat (by rw [addr_add, Nat.mul_one]) (by kernel_rfl) (by rw [List.getElem?_map, List.getElem?_eq_getElem hk]; rfl), ?_⟩
  exact ⟨_, rfl, List.getElem_mem hk, hc1, ch1⟩
end Go.Proofs.YtbgokfhcgcoipaaGreatDoor
namespace Go.Proofs.YtbgokfhcgcoipaaGreatDoor
open Go Go.Proofs.YtbgokfhcgcoipaaGreatDoor.Sx
theorem chg_fresh {S T : List Nat} {a b c : World} (h : Chg S a b) (k : Chg T b c) (hT : ∀ q ∈ T, a.heap.size <= q) : Chg S a c := by
  refine ⟨k.os.trans h.os, k.tape.trans h.tape, k.output.trans h.output, Nat.le_trans h.size k.size, fun q hq hm => ?_⟩
  rw [k.block q (Nat.lt_of_lt_of_le hq h.size) (fun h7 => by have := hT q h7; omega)]
  exact h.block q hq hm
theorem Cur.keep {W W' : World} {r n c : Nat} {p : Option Addr} {T : List Nat} (h : Cur W r p n c) (k : Chg T W W') (hT : r ∉ T) : Cur W' r p n c := by
  obtain ⟨e, i, x, g1, g2⟩ := h
  exact ⟨e, i, x, g1, g2.chg k hT⟩
theorem spec_l01Once_c {w : World} {r n c : Nat} {p : Option Addr} (hc : Cur w r p n c) (hb : ByR w p n) (hne : 0 < n -> ∀ q, p.map (·.block) = some q -> q ≠ r) (hn : n <= 1048576) {k : Int} (hk : 0 < k) (hk2 : k <= 1000000000) :
    Ret P n_spec_l01Once [.pointer (some ⟨r, 0, none⟩), .int .i64 k] w fun v w' => ∃ b, v = .bool b /\ Cur w' r p n c /\ Chg [r] w w' := by
  refine spec_l01Once_ret ?_
  unfold spec_l01Once
  refine Ret.at (spec_l01Below_c hc hb hne hn hk hk2) ?_
  rintro v w1 ⟨z, rfl, z0, z1, hc1, ch1⟩
  exact ⟨_, rfl, _, rfl, hc1, ch1⟩
end Go.Proofs.YtbgokfhcgcoipaaGreatDoor
namespace Go.Proofs.YtbgokfhcgcoipaaGreatDoor
open Go
abbrev muLink : Go.Conc.Locks.MuLink := { lock := 240, unlock := 241, ilock := 294, iunlock := 295, lockSlow := 326, unlockSlow := 329, disable := 322, enable := 324, acquire := 325, relMerge := 327, cas32 := 323, add32 := 328, tMutex := 227, tIMutex := 225, tPMutex := 290, tPIMutex := 322, tPI32 := 324, tUP := 310, tNoCopy := 222, tU32 := 223 }
theorem muLib : Go.Conc.Locks.MuLib Tryz.prog muLink :=
  ⟨Tryz.func240, Tryz.func241, Tryz.func294, Tryz.func295, Tryz.func322, Tryz.func324, Tryz.func325, Tryz.func327, Tryz.func323, Tryz.func328, Tryz.underlying225, Tryz.runUnderlying225, Tryz.sizeOf225, Tryz.isAgg225, Tryz.zeroValue225, Tryz.underlying227, Tryz.runUnderlying227, Tryz.sizeOf227, Tryz.isAgg227, Tryz.zeroValue227, Tryz.underlying290, Tryz.runUnderlying290, Tryz.sizeOf290, Tryz.isAgg290, Tryz.zeroValue290, Tryz.underlying322, Tryz.runUnderlying322, Tryz.sizeOf322, Tryz.isAgg322, Tryz.zeroValue322, Tryz.underlying324, Tryz.runUnderlying324, Tryz.sizeOf324, Tryz.isAgg324, Tryz.zeroValue324, Tryz.underlying310, Tryz.runUnderlying310, Tryz.sizeOf310, Tryz.isAgg310, Tryz.zeroValue310, Tryz.underlying222, Tryz.runUnderlying222, Tryz.sizeOf222, Tryz.isAgg222, Tryz.zeroValue222, Tryz.underlying21, Tryz.runUnderlying21, Tryz.sizeOf21, Tryz.isAgg21, Tryz.zeroValue21, (by kernel_rfl)⟩
end Go.Proofs.YtbgokfhcgcoipaaGreatDoor
namespace Go.Proofs.YtbgokfhcgcoipaaGreatDoor
open Go Go.Proofs Go.Proofs.YtbgokfhcgcoipaaGreatDoor.Sx
theorem blk_setCellC {w : World} {b k : Nat} {e : TypeId} {cs : List Value} (h : Blk w b e cs) (v : Value) : Blk (w.setCell ⟨b, k, none⟩ v) b e (cs.set k v) /\ Chg [b] w (w.setCell ⟨b, k, none⟩ v) := by
  have h' : w.heap[b]? = some (.cells ⟨cs⟩ e (0, 0)) := h
  refine ⟨?_, rfl, rfl, rfl, by simp [World.setCell], fun j hj hn => ?_⟩
  rotate_left
  · show (w.heap.modify b _)[j]? = _
    rw [Array.getElem?_modify, if_neg (fun e => hn (by rw [e]; simp))]
  show (w.heap.modify b _)[b]? = _
  rw [Array.getElem?_modify, if_pos rfl, h']
  simp
theorem blk_frozenC {w : World} {b k : Nat} {e : TypeId} {cs : List Value} (h : Blk w b e cs) : w.frozen? ⟨b, k, none⟩ = false := by
  have h' : w.heap[b]? = some (.cells ⟨cs⟩ e (0, 0)) := h
  simp [World.frozen?, h']
set_option maxHeartbeats 1000000 in
theorem change_BookPost {w : World} {r n c : Nat} {e : TypeId} {p : Option Addr} {c0 c1 : Value} {Q : Bool -> Option Addr -> Nat -> Nat -> World -> Prop} (hb : Blk w r e [.int .i32 0, .int .u32 0, .slice p n c])
    (hcall : ∀ w1, Blk w1 r e [.int .i32 1, .int .u32 0, .slice p n c] -> Chg [r] w w1 -> w1.heap.size = w.heap.size -> Calls Tryz.prog 137 #[.pointer (some ⟨r, 2, none⟩), c0, c1] w1 fun ed w2 => ∃ ok p' n' c', ed = .returned (.bool ok) /\ Q ok p' n' c' w2 /\ Blk w2 r e [.int .i32 1, .int .u32 0, .slice p' n' c']) :
    Calls Tryz.prog 200 #[.pointer (some ⟨r, 0, none⟩), .func (.func 137) #[] #[c0, c1]] w fun ed w' => ∃ v, ed = .returned v /\ ∃ ok p' n' c' w2, v = .bool ok /\ Q ok p' n' c' w2 /\ Chg [r] w2 w' /\ w'.heap.size = w2.heap.size /\ Blk w' r e [.int .i32 0, .int .u32 0, .slice p' n' c'] := by
  obtain ⟨hb1, ch1⟩ := blk_setCellC (k := 0) hb (.int .i32 1)
  have hc0 : w.cell? ⟨r, 0, none⟩ = some (.int .i32 0) := by rw [hb.cell]; rfl
  have hcl := hcall (w.setCell ⟨r, 0, none⟩ (.int .i32 1)) hb1 ch1 (by simp [World.setCell])
  go_enter_defers Tryz.func200, Tryz.ntmps200
  go_wp2_with (first | (go_at_call 240; refine (Go.MuLone.lock_free muLib ⟨r, 0, none⟩ _ hc0 (blk_frozenC hb)).mono ?_; rintro e w' ⟨rfl, rfl⟩) | (go_at_call 137; refine hcl.mono ?_; rintro e w2 ⟨ok, p', n', c', rfl, hQ, hb2⟩))
  refine leaves_cons (f := 241) (args := #[.pointer (some ⟨r, 0, none⟩)]) (by simp) (by simp [go_sem]) ?_
  refine (Go.MuLone.unlock_deferred muLib ⟨r, 0, none⟩ .returning _ (by rw [hb2.cell]; rfl) (blk_frozenC hb2)).mono ?_
  rintro e u' w'' ⟨rfl, rfl, rfl⟩
  obtain ⟨hb3, ch3⟩ := blk_setCellC (k := 0) hb2 (.int .i32 0)
  exact ⟨_, results_tmp rfl _ _ _, _, rfl, ok, p', n', c', w2, rfl, hQ, ch3, by simp [World.setCell], hb3⟩
end Go.Proofs.YtbgokfhcgcoipaaGreatDoor
namespace Go.Proofs.YtbgokfhcgcoipaaGreatDoor.Sx
open Go Go.RowKit
theorem Fl.trans {os : List Obj} {ss : List (Option Nat)} {w : World} {s1 : List (Option Nat)} {w1 : World} {s2 : List (Option Nat)} {w2 : World} (h : Fl os ss w s1 w1) (g : Fl os s1 w1 s2 w2) : Fl os ss w s2 w2 := by
  induction h with
  | refl => exact g
  | step h1 h2 _ ih => exact .step h1 h2 (ih g)
theorem Fl.old {os : List Obj} {ss : List (Option Nat)} {w : World} {s1 : List (Option Nat)} {w1 : World} (h : Fl os ss w s1 w1) {k r : Nat} (hk : s1[k]? = some (some r)) : ss[k]? = some (some r) ∨ w.heap.size <= r := by
  induction h with
  | refl => exact .inl hk
  | step h1 h2 h3 ih =>
    rename_i ss w k' o s' w'
    have hs : (w.alloc o).heap.size = w.heap.size + 1 := by simp
    rcases ih hk with h | h
    · by_cases e : k' = k
      · subst e
        have hl : k' < ss.length := by
          rcases Nat.lt_or_ge k' ss.length with h | h
          · exact h
          · rw [List.getElem?_eq_none h] at h1; cases h1
        rw [List.getElem?_set_self hl] at h
        simp at h
        exact .inr (by omega)
      · rw [List.getElem?_set_ne e] at h
        exact .inl h
    · exact .inr (by omega)
def FlS (os : List Obj) (w0 : World) (ss : List (Option Nat)) (w : World) : Prop :=
 Ext w0 w /\ (∀ (k r : Nat), ss[k]? = some (some r) -> w0.heap.size <= r /\ r < w.heap.size /\ w.heap[r]? = os[k]?) /\ (∀ (k l r : Nat), ss[k]? = some (some r) -> ss[l]? = some (some r) -> k = l)
theorem FlS.ext {os : List Obj} {w0 w w' : World} {ss : List (Option Nat)} (h : FlS os w0 ss w) (y : Ext w w') : FlS os w0 ss w' :=
  ⟨h.1.trans y, fun k r hk => by
    obtain ⟨a, b, c⟩ := h.2.1 k r hk
    exact ⟨a, Nat.lt_of_lt_of_le b y.le, (y.block r b).trans c⟩, h.2.2⟩
theorem FlS.step {os : List Obj} {w0 w w' : World} {ss ss' : List (Option Nat)} (h : FlS os w0 ss w) (f : Fl os ss w ss' w') : FlS os w0 ss' w' := by
  induction f with
  | refl => exact h
  | step h1 h2 h3 ih =>
    rename_i ss w k' o s' w'
    refine ih ?_
    have y : Ext w (w.alloc o) := (Below.refl _ _).alloc (Nat.le_refl _) _
    have hs : (w.alloc o).heap.size = w.heap.size + 1 := by simp
    have hg : (w.alloc o).heap[w.heap.size]? = some o := heap_alloc_new w _
    have hl : k' < ss.length := by
      rcases Nat.lt_or_ge k' ss.length with h | h
      · exact h
      · rw [List.getElem?_eq_none h] at h1; cases h1
    have hx := h.ext y
    have hle := h.1.le
    refine ⟨hx.1, fun k r hk => ?_, fun k l r hk hl' => ?_⟩
    · by_cases e : k' = k
      · subst e
        rw [List.getElem?_set_self hl] at hk
        simp at hk
        subst hk
        exact ⟨hle, by omega, hg.trans h2.symm⟩
      · rw [List.getElem?_set_ne e] at hk
        exact hx.2.1 k r hk
    · by_cases e : k' = k
      · by_cases e2 : k' = l
        · omega
        · subst e
          rw [List.getElem?_set_self hl] at hk
          simp at hk
          subst hk
          rw [List.getElem?_set_ne e2] at hl'
          have := (h.2.1 l _ hl').2.1
          omega
      · rw [List.getElem?_set_ne e] at hk
        by_cases e2 : k' = l
        · subst e2
          rw [List.getElem?_set_self hl] at hl'
          simp at hl'
          subst hl'
          have := (h.2.1 k _ hk).2.1
          omega
        · rw [List.getElem?_set_ne e2] at hl'
          exact h.2.2 k l r hk hl'
theorem FlS.first {os : List Obj} {w0 w : World} {ss0 ss : List (Option Nat)} (f : Fl os ss0 w0 ss w) (h : ss0.all Option.isNone = true) : FlS os w0 ss w := by
  refine FlS.step ⟨Ext.refl _, fun k r hk => ?_, fun k l r hk _ => ?_⟩ f <;>
  · have hm := List.mem_of_getElem? hk
    have := List.all_eq_true.1 h _ hm
    simp at this
theorem FlS.blk {os : List Obj} {w0 w : World} {ss : List (Option Nat)} {k r : Nat} {cs : List Value} {e : TypeId} (h : FlS os w0 ss w) (hk : ss[k]? = some (some r)) (ho : os[k]? = some (.cells ⟨cs⟩ e (0, 0))) : w0.heap.size <= r /\ r < w.heap.size /\ Blk w r e cs := by
  obtain ⟨a, b, c⟩ := h.2.1 k r hk
  exact ⟨a, b, c.trans ho⟩
theorem FlS.ne {os : List Obj} {w0 w : World} {ss : List (Option Nat)} {k l r s : Nat} (h : FlS os w0 ss w) (hk : ss[k]? = some (some r)) (hl : ss[l]? = some (some s)) (e : k ≠ l) : r ≠ s := fun hh => e (h.2.2 k l r hk (hh ▸ hl))
theorem FlS.apart {os : List Obj} {w0 wc we w' : World} {ss ss' : List (Option Nat)} {k r : Nat} (h : FlS os w0 ss wc) (f : Fl os ss we ss' w') (hk : ss'[k]? = some (some r)) : r < wc.heap.size ∨ we.heap.size <= r := by
  rcases f.old hk with a | a
  · exact .inl (h.2.1 k r a).2.1
  · exact .inr a
end Go.Proofs.YtbgokfhcgcoipaaGreatDoor.Sx
namespace Go.Proofs.YtbgokfhcgcoipaaGreatDoor
open Go Go.Proofs.YtbgokfhcgcoipaaGreatDoor.Sx
set_option maxHeartbeats 1000000 in
theorem impl_BookPost_1_c {w0 w : World} {B r n c rj rm j : Nat} {e : TypeId} {p : Option Addr} {l : List (List D0)} {f : List Nat} {d0 : ByteArray} {d1 : Bool} {dp : Option Addr} {dn dc : Nat} {dz : List Int} (ht : Tab w0) (hx0 : Ext w0 w)
    (hb : Blk w r e [.int .i32 1, .int .u32 0, .slice p n c]) (ho : OwnRows w B T_impl_Acct 4 p n c l f) (hrf : r ∉ f) (hB : B <= w.heap.size) (hc : ∀ x ∈ l, x.map D0.code = [.str, .str, .bool, .ints]) (hn : n <= 1000) (hj : j < l.length)
    (hjb : Blk w rj T_int [.int .i64 (j : Int)]) (hmb : Blk w rm T_impl_Money [.string d0, .bool d1, .slice dp dn dc]) (g : Reps w [.string d0, .bool d1, .slice dp dn dc] [.str d0, .bool d1, .ints dz]) :
    Ret P n_impl_BookPost_1 [.pointer (some ⟨r, 2, none⟩), .pointer (some ⟨rj, 0, none⟩), .pointer (some ⟨rm, 0, none⟩)] w fun v w2 => ∃ f', v = .bool (addM (l[j].drop 1) [.str d0, .bool d1, .ints dz]).1 /\ OwnRows w2 B T_impl_Acct 4 p n c (l.set j (l[j].take 1 ++ (addM (l[j].drop 1) [.str d0, .bool d1, .ints dz]).2)) f' /\ (∀ q ∈ f', q ∈ f ∨ w.heap.size <= q) /\ Blk w2 r e [.int .i32 1, .int .u32 0, .slice p n c] /\ Chg (p.map (·.block)).toList w w2 := by
  have hln := ho.1
  obtain ⟨b, _, _, _, hpb, _⟩ := ho.put (List.getElem?_eq_getElem hj)
  subst hpb
  obtain ⟨m0, m1, kp, kn, kc, mz, hbB, hbl, hbf, hrow, hld, hrep, hput⟩ := acct_row ho hj (hc _ (List.getElem_mem hj)) (by kernel_rfl)
  have hadd : addM (l[j].drop 1) [.str d0, .bool d1, .ints dz] = mres (alk [.str m0, .bool m1, .ints mz] [.str d0, .bool d1, .ints dz]) m0 (ival [.bool m1, .ints mz] + ival [.bool d1, .ints dz]) := by rw [hrow]; rfl
  rw [hadd]
  have d := Ext.drew w
  refine impl_BookPost_1_ret ?_
  unfold impl_BookPost_1
  refine ⟨_, _, _, fun V hV => (hb.ext (d.trans hV)).loadAt 2 rfl (by kernel_rfl) rfl, _, fun V hV => (hjb.ext (d.trans hV)).loadAt 0 rfl (by kernel_rfl) rfl, ⟨by omega, by omega⟩, _, _, _, _, _, fun V hV => hld V (d.trans hV), _, _, _, _, _, fun V hV => (hmb.ext (d.trans hV)).loadA0 (by kernel_rfl), ?_⟩
  intro ss w4 F1
  have S1 := FlS.first F1 rfl
  have Y4 := d.trans F1.ext
  refine Ret.at (impl_MoneyAdd_n (hrep.ext Y4) (g.ext Y4) (ht.ext (hx0.trans Y4))) ?_
  rintro v w5 ⟨vs, fx, hv, hox, ndx, y5⟩
  subst hv
  obtain ⟨q0, q1, qp, qn, qc, qz, rfl, _, _⟩ := open_Money hox.reps (mres_code _ _ _)
  refine ⟨_, _, _, _, _, _, rfl, ?_⟩
  intro ss1 w6 rf F2 G
  have S2 := (S1.ext y5).step F2
  obtain ⟨hrf1, hrf2, hbk⟩ := S2.blk G rfl
  have hap := FlS.apart S1 F2 G
  have ld := d.le; have lF1 := F1.ext.le; have ly5 := y5.le
  obtain ⟨w7, st7, b7, ch7, sz7⟩ := hbk.storeA0 (P := P) (t := T_impl_Money) (xs := [.string q0, .bool q1, .slice qp qn qc]) (by kernel_rfl) rfl (by simp [Value.oneCell'])
  have hox7 := (hox.ext F2.ext).chg ch7 (fun k hk hm => by have := hox.lt k hk; simp at hm; omega)
  have Y7 : Ext w w7 := ((Y4.trans y5).trans F2.ext).chg ch7 (by simp; omega)
  have D7 := Ext.drew w7
  have Y7' := Y7.trans D7
  refine ⟨w7, st7, _, _, _, fun V hV => (hb.ext (Y7'.trans hV)).loadAt 2 rfl (by kernel_rfl) rfl, _, fun V hV => (hjb.ext (Y7'.trans hV)).loadAt 0 rfl (by kernel_rfl) rfl, _, _, _, _, _, fun V hV => (b7.ext (D7.trans hV)).loadA0 (by kernel_rfl), ⟨by omega, by omega⟩, ?_⟩
  obtain ⟨w9, f9, st9, hor9, ch9, sz9, hf9⟩ := hput _ w7.drew q0 q1 qp qn qc fx Y7' ((hox7.ext D7).mono (by omega)) ndx (fun q hq hm => by have := (hox.lt q hq).1; have := (ho.lt q hm).2; omega)
  exact ⟨w9, st9, f9, rfl, hor9, fun q hq => by
    rcases hf9 q hq with h | h
    · exact .inl h
    · exact .inr (by have := (hox.lt q h).1; omega), (hb.ext Y7').chg ch9 (by simp; exact fun h => hrf (h ▸ hbf)), Y7'.toChg.trans ch9⟩
set_option maxHeartbeats 1000000 in
theorem impl_changed_BookPost_c {w : World} {n c rj rm j : Nat} {p : Option Addr} {l : List (List D0)} {d0 : ByteArray} {d1 : Bool} {dp : Option Addr} {dn dc : Nat} {dz : List Int} (ht : Tab w) (h : RowsR w 4 p n c l) (hc : ∀ x ∈ l, x.map D0.code = [.str, .str, .bool, .ints]) (hn : n <= 1000) (hbk : ∀ x ∈ l, bulks x <= 4194304) (hj : j < l.length)
    (hjb : Blk w rj T_int [.int .i64 (j : Int)]) (hmb : Blk w rm T_impl_Money [.string d0, .bool d1, .slice dp dn dc]) (g : Reps w [.string d0, .bool d1, .slice dp dn dc] [.str d0, .bool d1, .ints dz]) :
    Ret P n_impl_changed [.agg ⟨[.slice p n c]⟩, .func (.func 137) #[] #[.pointer (some ⟨rj, 0, none⟩), .pointer (some ⟨rm, 0, none⟩)]] w fun v w' => ∃ p' n' c' f, v = .tuple #[.agg ⟨[.slice p' n' c']⟩, .bool (addM (l[j].drop 1) [.str d0, .bool d1, .ints dz]).1] /\ OwnRows w' w.heap.size T_impl_Acct 4 p' n' c' (if (addM (l[j].drop 1) [.str d0, .bool d1, .ints dz]).1 then (l.set j (l[j].take 1 ++ (addM (l[j].drop 1) [.str d0, .bool d1, .ints dz]).2)) else []) f /\ Ext w w' := by
  have hln := h.1
  refine impl_changed_ret ?_
  unfold impl_changed
  intro r w1 hn1 r1 w2 hn2
  have e1 := hn1.r_eq; have z1 := hn1.size; have e2 := hn2.r_eq; have z2 := hn2.size
  have X2 := hn1.ext.trans hn2.ext
  refine ⟨_, _, _, (hn1.blk.ext hn2.ext).loadA0 (by kernel_rfl), ?_⟩
  refine Ret.at (impl_bookCopy_c (h.ext X2) hc (by omega) hbk) ?_
  rintro v w3 ⟨p3, c3, f3, hv, ho3, y3⟩
  subst hv
  refine ⟨_, _, _, rfl, ?_⟩
  intro r2 w4 hn4
  have e4 := hn4.r_eq; have z4 := hn4.size
  obtain ⟨w5, st5, b5, y5⟩ := hn4.fill (P := P) (t := T_impl_guarded) (xs := [.int .i32 0, .int .u32 0, .slice p3 n c3]) (by simp [Value.oneCell']) (by kernel_rfl) rfl
  have l3 := y3.le; have l5 := y5.le
  refine ⟨w5, st5, ?_⟩
  have X5 := (X2.trans y3).trans y5
  have hr23 : r2 ∉ f3 := fun hm => by have := (ho3.lt r2 hm).2; omega
  have lt5 := b5.lt
  refine Ret.at (P := P) (change_BookPost (Q := fun ok p' n' c' W => ok = (addM (l[j].drop 1) [.str d0, .bool d1, .ints dz]).1 /\ ∃ f', OwnRows W w.heap.size T_impl_Acct 4 p' n' c' (l.set j (l[j].take 1 ++ (addM (l[j].drop 1) [.str d0, .bool d1, .ints dz]).2)) f' /\ r2 ∉ f' /\ r1 ∉ f' /\ Ext w W /\ Blk W r1 T_impl_Book [.slice none 0 0]) b5 ?_) ?_
  · intro w6 b6 ch6 sz6
    have X6 : Ext w w6 := X5.chg ch6 (by simp; omega)
    refine Calls.mono (impl_BookPost_1_c (w0 := w) (f := f3) (B := w.heap.size) ht X6 b6 (((ho3.ext y5).mono (by omega)).chg ch6 (fun q hq hm => by simp at hm; subst hm; exact hr23 hq)) hr23 (by omega) hc hn hj (hjb.ext X6) (hmb.ext X6) (g.ext X6)) ?_
    rintro ed w7 ⟨v, hv, f', hvb, hor, hff, hb7, C7⟩
    subst hv
    subst hvb
    have hp3 : ∀ q ∈ (p3.map (·.block)).toList, w2.heap.size <= q := fun q hq => by
      obtain ⟨_, _, _, _, _, hf, _⟩ := id ho3
      exact (ho3.lt q (by rw [hf]; exact List.mem_append_left _ hq)).1
    refine ⟨_, p3, n, c3, rfl, ⟨rfl, f', hor, fun hm => ?_, fun hm => ?_, X6.chg C7 (fun q hq => by have := hp3 q hq; omega), ?_⟩, hb7⟩
    · rcases hff r2 hm with h | h
      · exact hr23 h
      · omega
    · rcases hff r1 hm with h | h
      · have := (ho3.lt r1 h).1; omega
      · omega
    · refine ((((hn2.blk.ext y3).ext y5).chg ch6 (by simp; omega))).chg C7 (fun hm => ?_)
      have := hp3 r1 hm; omega
  rintro v w7 ⟨ok, p', n', c', w8, hv, ⟨hok, f', hor, hrf, hr1f, hx8, hb18⟩, ch7, sz7, b7⟩
  subst hv
  subst hok
  have X7 : Ext w w7 := hx8.chg ch7 (by simp; omega)
  have hor7 := hor.chg ch7 (fun q hq hm => by simp at hm; subst hm; exact hrf hq)
  have hb17 := hb18.chg ch7 (by simp; omega)
  refine ⟨_, rfl, ifN (fun hno => ?_) (fun hyes => ?_)⟩
  · obtain ⟨w12, st12, b12, ch12, sz12⟩ := hb17.storeA0 (P := P) (t := T_impl_Book) (xs := [.slice none 0 0]) (by kernel_rfl) rfl (by simp [Value.oneCell'])
    refine ⟨w12, st12, _, _, _, b12.loadA0 (by kernel_rfl), none, 0, 0, [], by rw [hno], ?_, X7.chg ch12 (by simp; omega)⟩
    rw [hno]
    exact rows0 _ _ _ _
  · have hl1 := hb17.lt
    obtain ⟨w12, st12, b12, ch12, sz12⟩ := hb17.storeA0 (P := P) (t := T_impl_Book) (xs := [.slice p' n' c']) (by kernel_rfl) rfl (by simp [Value.oneCell'])
    refine ⟨_, _, _, b7.loadAAt 2 [.slice p' n' c'] rfl (by kernel_rfl) rfl, w12, st12, _, _, _, b12.loadA0 (by kernel_rfl), p', n', c', f', by rw [hyes], ?_, X7.chg ch12 (by simp; omega)⟩
    rw [hyes, if_pos rfl]
    exact hor7.chg ch12 (fun q hq hm => by simp at hm; subst hm; exact hr1f hq)
theorem postT_no {l : List (List D0)} {name : ByteArray} {m : List D0} (h : postOk l name m = false) : postT l name m = [] := by unfold postT; rw [h]; rfl
theorem postT_yes {l : List (List D0)} {name : ByteArray} {m : List D0} {j : Nat} (h1 : bookOk l = true) (hj : j < l.length) (h2 : acctAt l name = j) (h3 : rowAt l name = l[j]) : postOk l name m = (addM (l[j].drop 1) m).1 /\ postT l name m = if (addM (l[j].drop 1) m).1 then l.set j (l[j].take 1 ++ (addM (l[j].drop 1) m).2) else [] := by
  have : postOk l name m = (addM (l[j].drop 1) m).1 := by unfold postOk; rw [h1, h3, decide_eq_true (by omega)]; rfl
  refine ⟨this, ?_⟩
  unfold postT postL
  rw [this, h3, h2, Int.toNat_natCast]
set_option maxHeartbeats 1000000 in
theorem impl_BookPost_o {w : World} {p : Option Addr} {n c : Nat} {l : List (List D0)} (h : RowsR w 4 p n c l) (hc : ∀ x ∈ l, x.map D0.code = [.str, .str, .bool, .ints]) (hn : n <= 1048576) (hb : ∀ x ∈ l, bulks x <= 4194304) (name : ByteArray) {ys : List Value} {dm : List D0} (g : Reps w ys dm) (gc : dm.map D0.code = [.str, .bool, .ints]) (gb : bulks dm <= 100000000) (ht : Tab w) :
    Ret P n_impl_BookPost [.agg ⟨[.slice p n c]⟩, .string name, .agg ⟨ys⟩] w fun v w' => ∃ p' n' c' f, v = .tuple #[.agg ⟨[.slice p' n' c']⟩, .bool (postOk l name dm)] /\ OwnRows w' w.heap.size T_impl_Acct 4 p' n' c' (postT l name dm) f /\ Ext w w' := by
  have hln := h.1
  have g0 := g
  obtain ⟨d0, d1, dp, dn, dc, dz, rfl, rfl, _⟩ := open_Money g gc
  refine impl_BookPost_ret ?_
  unfold impl_BookPost
  intro r w1 hn1 r1 w2 hn2 r2 w3 hn3
  have e1 := hn1.r_eq; have z1 := hn1.size; have e2 := hn2.r_eq; have z2 := hn2.size; have e3 := hn3.r_eq; have z3 := hn3.size
  have Y1 := hn2.ext.trans hn3.ext
  have X3 := hn1.ext.trans Y1
  have b0 := hn1.blk.ext Y1
  have b1 := hn2.blk.ext hn3.ext
  have b2 := hn3.blk
  have lt2 := b2.lt
  refine ⟨_, _, _, b0.loadA0 (by kernel_rfl), ?_⟩
  refine Ret.at (impl_AcctAt_c (h.ext X3) hc name) ?_
  rintro v w4 ⟨hv, y4⟩
  subst hv
  refine ⟨_, rfl, ?_⟩
  intro r3 w5 hn5
  have e5 := hn5.r_eq; have z5 := hn5.size
  obtain ⟨w6, st6, b6, ch6, sz6⟩ := hn5.blk.store0 (P := P) (t := T_int) (k := 0) (v := .int .i64 (acctAt l name)) (by kernel_rfl) (by simp) rfl
  have l4 := y4.le
  have Y6 : Ext w3 w6 := (y4.trans hn5.ext).chg ch6 (by simp; omega)
  have X6 := X3.trans Y6
  refine ⟨w6, st6, _, _, _, (b0.ext Y6).loadA0 (by kernel_rfl), ?_⟩
  refine Ret.at (impl_BookOk_w (h.ext X6) hc hn hb (ht.ext X6)) ?_
  rintro v w7 ⟨hv, y7⟩
  subst hv
  have Y7 := Y6.trans y7
  have X7 := X3.trans Y7
  have b67 : Blk w7 r3 T_int [.int .i64 (acctAt l name)] := b6.ext y7
  have no : ∀ W, Ext w3 W -> postOk l name [.str d0, .bool d1, .ints dz] = false -> ∃ wv, Stores P T_impl_Book ⟨r2, 0, none⟩ (.agg #[.slice none 0 0]) W wv /\ ∃ p n c, Loads P T_impl_Book ⟨r2, 0, none⟩ (.agg #[.slice p n c]) wv /\ ∃ p' n' c' f, Value.tuple #[.agg #[.slice p n c], .bool false] = .tuple #[.agg ⟨[.slice p' n' c']⟩, .bool (postOk l name [.str d0, .bool d1, .ints dz])] /\ OwnRows wv w.heap.size T_impl_Acct 4 p' n' c' (postT l name [.str d0, .bool d1, .ints dz]) f /\ Ext w wv := fun W hW hno => by
    obtain ⟨w12, st12, b12, ch12, sz12⟩ := (b2.ext hW).storeA0 (P := P) (t := T_impl_Book) (xs := [.slice none 0 0]) (by kernel_rfl) rfl (by simp [Value.oneCell'])
    refine ⟨w12, st12, _, _, _, b12.loadA0 (by kernel_rfl), none, 0, 0, [], by rw [hno], ?_, (X3.trans hW).chg ch12 (by simp; omega)⟩
    rw [postT_no hno]
    exact rows0 _ _ _ _
  refine ⟨_, rfl, ifN (fun hno => ifT (no w7 Y7 (by unfold postOk; rw [hno]; rfl))) (fun hok => ?_)⟩
  have h12 := bookOk_len hok
  refine ⟨_, b67.loadAt 0 rfl (by kernel_rfl) rfl, ifD (fun hlt => no w7 Y7 (by unfold postOk; rw [hok, decide_eq_false (by omega)]; rfl)) (fun hge => ?_)⟩
  obtain ⟨j, hj, h1, h2⟩ := acct_in (show 0 <= acctAt l name by omega)
  obtain ⟨q1, q2⟩ := postT_yes (m := [.str d0, .bool d1, .ints dz]) hok hj h1 h2
  rw [h1] at b67
  refine ⟨_, _, _, (b0.ext Y7).loadA0 (by kernel_rfl), ?_⟩
  refine Ret.at (impl_changed_BookPost_c (ht.ext X7) (h.ext X7) hc (by omega) hb hj b67 (b1.ext Y7) (g0.ext X7)) ?_
  rintro v w8 ⟨p', n', c', f, hv, hor, y8⟩
  subst hv
  have l7 := Y7.le
  obtain ⟨w9, st9, b9, ch9, sz9⟩ := ((b2.ext Y7).ext y8).storeA0 (P := P) (t := T_impl_Book) (xs := [.slice p' n' c']) (by kernel_rfl) rfl (by simp [Value.oneCell'])
  refine ⟨_, _, _, _, rfl, w9, st9, _, _, _, b9.loadA0 (by kernel_rfl), p', n', c', f, by rw [q1], ?_, (X7.trans y8).chg ch9 (by simp; omega)⟩
  rw [q2]
  exact (hor.chg ch9 (fun q hq hm => by have := (hor.lt q hq).1; simp at hm; omega)).mono X7.le
end Go.Proofs.YtbgokfhcgcoipaaGreatDoor
namespace Go.Proofs.YtbgokfhcgcoipaaGreatDoor
open Go Go.Proofs.YtbgokfhcgcoipaaGreatDoor.Sx
set_option maxHeartbeats 1000000 in
theorem spec_BookPost_o {w : World} {p : Option Addr} {n c : Nat} {l : List (List D0)} (h : RowsR w 4 p n c l) (hc : ∀ x ∈ l, x.map D0.code = [.str, .str, .bool, .ints]) (hn : n <= 1048576) (hb : ∀ x ∈ l, bulks x <= 4194304) (name : ByteArray) {ys : List Value} {dm : List D0} (g : Reps w ys dm) (gc : dm.map D0.code = [.str, .bool, .ints]) (gb : bulks dm <= 100000000) :
    Ret P n_spec_BookPost [.agg ⟨[.slice p n c]⟩, .string name, .agg ⟨ys⟩] w fun v w' => ∃ p' n' c' f, v = .tuple #[.agg ⟨[.slice p' n' c']⟩, .bool (postOk l name dm)] /\ OwnRows w' w.heap.size T_impl_Acct 4 p' n' c' (postT l name dm) f /\ Ext w w' := by
  have hln := h.1
  have g0 := g
  obtain ⟨d0, d1, dp, dn, dc, dz, rfl, rfl, _⟩ := open_Money g gc
  refine spec_BookPost_ret ?_
  unfold spec_BookPost
  intro r w1 hn1 r1 w2 hn2 r2 w3 hn3
  have e1 := hn1.r_eq; have z1 := hn1.size; have e2 := hn2.r_eq; have z2 := hn2.size; have e3 := hn3.r_eq; have z3 := hn3.size
  have Y1 := hn2.ext.trans hn3.ext
  have X3 := hn1.ext.trans Y1
  have b0 := hn1.blk.ext Y1
  have b1 := hn2.blk.ext hn3.ext
  have b2 := hn3.blk
  have lt2 := b2.lt
  refine ⟨_, _, _, b0.loadA0 (by kernel_rfl), ?_⟩
  refine Ret.at (spec_AcctAt_c (h.ext X3) hc name) ?_
  rintro v w4 ⟨hv, y4⟩
  subst hv
  refine ⟨_, rfl, _, _, _, (b0.ext y4).loadA0 (by kernel_rfl), ?_⟩
  refine Ret.at (spec_BookOk_w (h.ext (X3.trans y4)) hc hn hb) ?_
  rintro v w7 ⟨hv, y7⟩
  subst hv
  have Y7 := y4.trans y7
  have X7 := X3.trans Y7
  have no : ∀ W, Ext w3 W -> postOk l name [.str d0, .bool d1, .ints dz] = false -> ∃ wv, Stores P T_impl_Book ⟨r2, 0, none⟩ (.agg #[.slice none 0 0]) W wv /\ ∃ p n c, Loads P T_impl_Book ⟨r2, 0, none⟩ (.agg #[.slice p n c]) wv /\ ∃ p' n' c' f, Value.tuple #[.agg #[.slice p n c], .bool false] = .tuple #[.agg ⟨[.slice p' n' c']⟩, .bool (postOk l name [.str d0, .bool d1, .ints dz])] /\ OwnRows wv w.heap.size T_impl_Acct 4 p' n' c' (postT l name [.str d0, .bool d1, .ints dz]) f /\ Ext w wv := fun W hW hno => by
    obtain ⟨w12, st12, b12, ch12, sz12⟩ := (b2.ext hW).storeA0 (P := P) (t := T_impl_Book) (xs := [.slice none 0 0]) (by kernel_rfl) rfl (by simp [Value.oneCell'])
    refine ⟨w12, st12, _, _, _, b12.loadA0 (by kernel_rfl), none, 0, 0, [], by rw [hno], ?_, (X3.trans hW).chg ch12 (by simp; omega)⟩
    rw [postT_no hno]
    exact rows0 _ _ _ _
  refine ⟨_, rfl, ifN (fun hno => ifT (no w7 Y7 (by unfold postOk; rw [hno]; rfl))) (fun hok => ?_)⟩
  have h12 := bookOk_len hok
  refine ifD (fun hlt => no w7 Y7 (by unfold postOk; rw [hok, decide_eq_false (by omega)]; rfl)) (fun hge => ?_)
  obtain ⟨j, hj, h1, h2⟩ := acct_in (show 0 <= acctAt l name by omega)
  obtain ⟨q1, q2⟩ := postT_yes (m := [.str d0, .bool d1, .ints dz]) hok hj h1 h2
  rw [h1]
  have d := Ext.drew w7
  have Y8 := Y7.trans d
  obtain ⟨bl, off, hpp, hs⟩ := (h.ext X7).2.2.2 (by omega)
  subst hpp
  obtain ⟨cs, hk, hr, hsg⟩ := hs j _ (List.getElem?_eq_getElem hj)
  obtain ⟨k0, m0, m1, kp, kn, kc, mz, rfl, hkd, hki⟩ := open_Acct hr (hc _ (List.getElem_mem hj))
  have hrow : l[j].drop 1 = [.str m0, .bool m1, .ints mz] := by rw [hkd]; rfl
  have hadd : addM (l[j].drop 1) [.str d0, .bool d1, .ints dz] = mres (alk [.str m0, .bool m1, .ints mz] [.str d0, .bool d1, .ints dz]) m0 (ival [.bool m1, .ints mz] + ival [.bool d1, .ints dz]) := by rw [hrow]; rfl
  have hrep : Reps w7 [.string m0, .bool m1, .slice kp kn kc] [.str m0, .bool m1, .ints mz] := ⟨rfl, rfl, ⟨_, _, _, rfl, hki⟩, trivial⟩
  unfold spec_BookPost_j0
  refine ⟨_, _, _, fun V hV => ((b0.ext Y8).ext hV).loadAt 0 rfl (by kernel_rfl) rfl, ⟨by omega, by omega⟩, _, _, _, _, _, fun V hV => by rw [addr_add, addr_add, Int.toNat_natCast]; exact ((hsg.ext d).ext hV).loadAAt 1 [.string m0, .bool m1, .slice kp kn kc] rfl (by kernel_rfl) rfl, _, _, _, _, _, fun V hV => ((b1.ext Y8).ext hV).loadA0 (by kernel_rfl), ?_⟩
  intro ss w8 F1
  have S1 := FlS.first F1 rfl
  have Z8 := d.trans F1.ext
  refine Ret.at (spec_MoneyAdd_n (hrep.ext Z8) (g0.ext (X7.trans Z8))) ?_
  rintro v w9 ⟨vs, fx, hv, hox, ndx, y9⟩
  subst hv
  obtain ⟨a0, a1, ap, an, ac, az, rfl, _, _⟩ := open_Money hox.reps (mres_code _ _ _)
  refine ⟨_, _, _, _, _, _, rfl, ?_⟩
  intro ss1 w10 rf F2 G
  have S2 := (S1.ext y9).step F2
  obtain ⟨hrf1, hrf2, hbk⟩ := S2.blk G rfl
  have hap := FlS.apart S1 F2 G
  have ld := d.le; have lF1 := F1.ext.le; have ly9 := y9.le; have lY7 := Y7.le
  obtain ⟨w11, st11, b11, ch11, sz11⟩ := hbk.storeA0 (P := P) (t := T_impl_Money) (xs := [.string a0, .bool a1, .slice ap an ac]) (by kernel_rfl) rfl (by simp [Value.oneCell'])
  have hox11 := (hox.ext F2.ext).chg ch11 (fun k hk hm => by have := hox.lt k hk; simp at hm; omega)
  have Y11 : Ext w7 w11 := ((Z8.trans y9).trans F2.ext).chg ch11 (by simp; omega)
  have X11 := X7.trans Y11
  rw [<- hadd] at hox11
  refine ⟨w11, st11, ifN (fun hno => ?_) (fun hyes => ?_)⟩
  · rw [<- hadd] at hno
    exact no w11 (Y7.trans Y11) (by rw [q1, hno])
  rw [<- hadd] at hyes
  refine ⟨_, _, _, ((b0.ext Y7).ext Y11).loadA0 (by kernel_rfl), ?_⟩
  refine Ret.at (spec_l17Copy_c (h.ext X11) hc (by omega) hb) ?_
  rintro v w12 ⟨p3, c3, f3, hv, ho3, y12⟩
  subst hv
  refine ⟨_, _, _, rfl, ?_⟩
  intro r4 w13 hn13
  have e13 := hn13.r_eq; have z13 := hn13.size
  obtain ⟨w14, st14, b14, y14⟩ := hn13.fill (P := P) (t := T_impl_Book) (xs := [.slice p3 n c3]) (by simp [Value.oneCell']) (by kernel_rfl) rfl
  have Y14 := y12.trans y14
  have ho14 := ho3.ext y14
  obtain ⟨b, _, _, _, hpb, _⟩ := ho14.put (List.getElem?_eq_getElem hj)
  subst hpb
  obtain ⟨_, _, _, _, _, _, hbB, hbl, hbf, _, _, _, hput⟩ := acct_row (ho14.mono (B' := w.heap.size) (by have := X11.le; omega)) hj (hc _ (List.getElem_mem hj)) (by kernel_rfl)
  have lY14 := Y14.le; have l12 := y12.le; have l14 := y14.le
  have hfx : ∀ q ∈ fx, q < w11.heap.size := fun q hq => (hox11.lt q hq).2
  refine ⟨w14, st14, _, _, _, b14.loadAt 0 rfl (by kernel_rfl) rfl, _, _, _, _, _, (b11.ext Y14).loadA0 (by kernel_rfl), ⟨by omega, by omega⟩, ?_⟩
  obtain ⟨w15, f15, st15, hor15, ch15, sz15, hf15⟩ := hput _ w14 a0 a1 ap an ac fx (Ext.refl _) ((hox11.ext Y14).mono (by omega)) ndx (fun q hq hm => by have := hfx q hq; have := (ho3.lt q hm).1; omega)
  have X14 := X11.trans Y14
  have h3l := ho3.lt
  have hbw : w11.heap.size <= b := (ho3.lt b hbf).1
  have X15 : Ext w w15 := X14.chg ch15 (by simp; omega)
  have hb2 : Blk w15 r2 T_impl_Book [.slice none 0 0] := (((b2.ext Y7).ext Y11).ext Y14).chg ch15 (by have := X11.le; have := Y11.le; simp; omega)
  obtain ⟨w16, st16, b16, ch16, sz16⟩ := hb2.storeA0 (P := P) (t := T_impl_Book) (xs := [.slice (some ⟨b, 0, none⟩) n c3]) (by kernel_rfl) rfl (by simp [Value.oneCell'])
  refine ⟨w15, st15, _, _, _, (b14.chg ch15 (by have := h3l b hbf; simp; omega)).loadA0 (by kernel_rfl), w16, st16, _, _, _, b16.loadA0 (by kernel_rfl), _, _, _, f15, by rw [q1, hyes], ?_, X15.chg ch16 (by simp; omega)⟩
  rw [q2, hyes, if_pos rfl]
  exact hor15.chg ch16 (fun q hq hm => by
    simp at hm; subst hm
    rcases hf15 q hq with h | h
    · have := (h3l q h).1; have := Y11.le; omega
    · have := (hox.lt q h).1; omega)
end Go.Proofs.YtbgokfhcgcoipaaGreatDoor
namespace Go.Proofs.YtbgokfhcgcoipaaGreatDoor
open Go Go.Proofs.YtbgokfhcgcoipaaGreatDoor.Sx
theorem openT_no {l : List (List D0)} {name cur : ByteArray} (h : openOk l name cur = false) : openT l name cur = [] := by unfold openT; rw [h]; rfl
theorem openT_yes {l : List (List D0)} {name cur : ByteArray} (h1 : bookOk l = true) (h2 : acctAt l name < 0) : openOk l name cur = bookOk (openL l name cur) /\ openT l name cur = if bookOk (openL l name cur) then openL l name cur else [] := by
  have : openOk l name cur = bookOk (openL l name cur) := by unfold openOk; rw [h1, decide_eq_true h2]; rfl
  exact ⟨this, by unfold openT; rw [this]⟩
end Go.Proofs.YtbgokfhcgcoipaaGreatDoor
namespace Go.Proofs.YtbgokfhcgcoipaaGreatDoor
open Go Go.Proofs.YtbgokfhcgcoipaaGreatDoor.Sx
set_option maxHeartbeats 1000000 in
theorem spec_BookOpen_j0_c {w W : World} {p : Option Addr} {n c r r1 : Nat} {l : List (List D0)} {name cur : ByteArray} (h : RowsR w 4 p n c l) (hc : ∀ x ∈ l, x.map D0.code = [.str, .str, .bool, .ints]) (hn : n <= 1000) (hb : ∀ x ∈ l, bulks x <= 1048576) (s1 : name.size <= 1048576) (s2 : cur.size <= 1048576) (X : Ext w W)
    (b0 : Blk W r T_impl_Book [.slice p n c]) (b1 : Blk W r1 T_impl_Book [.slice none 0 0]) (hr1 : w.heap.size <= r1) (q1 : openOk l name cur = bookOk (openL l name cur)) (q2 : openT l name cur = if bookOk (openL l name cur) then openL l name cur else []) :
    spec_BookOpen_j0 name cur r r1 W fun v w' => ∃ p' n' c' f, v = .tuple #[.agg ⟨[.slice p' n' c']⟩, .bool (openOk l name cur)] /\ OwnRows w' w.heap.size T_impl_Acct 4 p' n' c' (openT l name cur) f /\ Ext w w' := by
  have hln := h.1
  have lt1' := b1.lt
  have lX := X.le
  unfold spec_BookOpen_j0
  refine ⟨_, _, _, b0.loadA0 (by kernel_rfl), ?_⟩
  refine Ret.at (spec_l17Copy_c (h.ext X) hc (by omega) (wide hb)) ?_
  rintro v w4 ⟨p3, c3, f3, hv, ho3, y3⟩
  subst hv
  refine ⟨_, _, _, rfl, ?_⟩
  intro r2 w5 hn5
  have e5 := hn5.r_eq; have z5 := hn5.size
  obtain ⟨w6, st6, b2, y6⟩ := hn5.fill (P := P) (t := T_impl_Book) (xs := [.slice p3 n c3]) (by simp [Value.oneCell']) (by kernel_rfl) rfl
  have ho5 := ho3.ext y6
  have Y6 := y3.trans y6
  have X5 := X.trans Y6
  have b1 := b1.ext Y6
  have ly3 := y3.le; have ly6 := y6.le
  refine ⟨w6, st6, fun k wk => ∃ j : Nat, k = j /\ j <= n /\ (∀ a (x : List D0), l[a]? = some x -> a < j -> Op.bytesLess (strOf x).toList name.toList = true) /\ Ext w6 wk, fun k _ => n - k.toNat, ⟨0, rfl, by omega, fun a x _ ha => absurd ha (by omega), Ext.refl w6⟩, ?_⟩
  intro junk wk k ⟨j, hj, hjn, hless, hxk⟩
  subst hj
  refine ⟨_, _, _, (b2.ext hxk).loadAt 0 rfl (by kernel_rfl) rfl, ifD (fun hlt => ?_) (fun hge => ⟨fun h => absurd h (by simp), fun _ => ?_⟩)⟩
  · have hjl : j < l.length := by omega
    obtain ⟨g, xs1, cs1, zs1, hpb, _, _, hxl, hcl, hblk, hrep, _⟩ := ho5.put (List.getElem?_eq_getElem hjl)
    obtain ⟨a0, a1, a2, a3p, a3n, a3c, a3z, rfl, hd, _⟩ := open_Acct hrep (hc _ (List.getElem_mem hjl))
    have hs0 : strOf l[j] = a0 := by rw [hd]; rfl
    subst hpb
    refine ⟨_, _, _, (b2.ext hxk).loadAt 0 rfl (by kernel_rfl) rfl, ⟨by omega, by omega⟩, _, (hblk.ext hxk).loadAt (j * 4) (by rw [addr_add, addr_add, Nat.zero_add, Nat.add_zero, Int.toNat_natCast]) (by kernel_rfl) (by rw [List.append_assoc, <- hxl, List.getElem?_append_right (Nat.le_refl _), Nat.sub_self]; rfl), fun hl => ?_, fun hnl => ?_⟩
    · refine exW ⟨by omega, by omega⟩ ⟨⟨j + 1, rfl, by omega, fun a y hy ha => ?_, hxk⟩, by show n - ((j : Int) + 1).toNat < n - (j : Int).toNat; omega⟩
      by_cases hak : a < j
      · exact hless a y hy hak
      · have : a = j := by omega
        subst this
        rw [List.getElem?_eq_getElem hjl] at hy
        simp only [Option.some.injEq] at hy
        rw [<- hy, hs0]; exact hl
    · have hpos : j = acAt l name := acAt_unique (by omega) hless (fun y hy => by
        rw [List.getElem?_eq_getElem hjl] at hy
        simp only [Option.some.injEq] at hy
        rw [<- hy, hs0]; exact hnl)
      intro r3 w8 hn8
      have Y8 := hxk.trans hn8.ext
      obtain ⟨g1, c1, w9, hA1, X9, hjc, hrest⟩ := ins3 (ho5.ext hxk) (by have := hxk.le; omega) hjn (by omega) hn8
      rw [Int.toNat_natCast]
      refine ⟨_, _, _, (b2.ext Y8).loadAt 0 rfl (by kernel_rfl) rfl, ⟨by omega, by omega⟩, some ⟨g1, 0, none⟩, j, c1, w9, by rw [Nat.sub_zero, Nat.sub_zero, sub0g]; exact hA1, ?_⟩
      intro r4 w10 hn10
      obtain ⟨g2, c2, w11, hA2, X11, g3, c3, w12, f', hA3, hor, X12⟩ := hrest (openRow name cur) _ r4 w10 hn10 rfl (by simp [Value.oneCell']) (fun W => own_openRow W _ name cur)
      have hopen : openL l name cur = l.take j ++ openRow name cur :: l.drop j := by unfold openL; rw [<- hpos]
      rw [<- hopen] at hor
      refine ⟨_, _, _, w11, hA2, _, _, _, ((b2.ext hxk).ext X11).loadAt 0 rfl (by kernel_rfl) rfl, ⟨by omega, by omega⟩, _, _, _, w12, hA3, ?_⟩
      intro r5 w13 hn13
      have e13 := hn13.r_eq; have z13 := hn13.size
      obtain ⟨w14, st14, b14, y14⟩ := hn13.fill (P := P) (t := T_impl_Book) (xs := [.slice (some ⟨g3, 0, none⟩) (n + 1) c3]) (by simp [Value.oneCell']) (by kernel_rfl) rfl
      have Y14 := hxk.trans (X12.trans y14)
      have X14 := X5.trans Y14
      refine ⟨w14, st14, _, _, _, b14.loadA0 (by kernel_rfl), ?_⟩
      refine Ret.at (spec_BookOk_w (hor.ext y14).rows (openL_code hc name cur) (by omega) (openL_bulk hb s1 s2)) ?_
      rintro v w15 ⟨hv, y15⟩
      subst hv
      have hb1 := (b1.ext Y14).ext y15
      have X15 := X14.trans y15
      have lt1 := b1.lt
      have l5k := (hxk.trans X12).le
      refine ⟨_, rfl, ifN (fun hno => ?_) (fun hyes => ?_)⟩
      · obtain ⟨w16, st16, b16, ch16, sz16⟩ := hb1.storeA0 (P := P) (t := T_impl_Book) (xs := [.slice none 0 0]) (by kernel_rfl) rfl (by simp [Value.oneCell'])
        refine ⟨w16, st16, _, _, _, b16.loadA0 (by kernel_rfl), none, 0, 0, [], by rw [q1, hno], ?_, X15.chg ch16 (by simp; omega)⟩
        rw [openT_no (by rw [q1, hno])]
        exact rows0 _ _ _ _
      · obtain ⟨w16, st16, b16, ch16, sz16⟩ := hb1.storeA0 (P := P) (t := T_impl_Book) (xs := [.slice (some ⟨g3, 0, none⟩) (n + 1) c3]) (by kernel_rfl) rfl (by simp [Value.oneCell'])
        refine ⟨_, _, _, (b14.ext y15).loadA0 (by kernel_rfl), w16, st16, _, _, _, b16.loadA0 (by kernel_rfl), _, _, _, f', by rw [q1, hyes], ?_, X15.chg ch16 (by simp; omega)⟩
        rw [q2, hyes, if_pos rfl]
        exact ((((hor.ext y14).ext y15).chg ch16 (fun q hq hm => by have := (hor.lt q hq).1; simp at hm; omega))).mono (by omega)
  · have hpos : j = acAt l name := acAt_unique (by omega) hless (fun y hy => by
      rw [List.getElem?_eq_none (by omega)] at hy; cases hy)
    intro r3 w8 hn8
    have Y8 := hxk.trans hn8.ext
    obtain ⟨g1, c1, w9, hA1, X9, hjc, hrest⟩ := ins3 (ho5.ext hxk) (by have := hxk.le; omega) hjn (by omega) hn8
    rw [Int.toNat_natCast]
    refine ⟨_, _, _, (b2.ext Y8).loadAt 0 rfl (by kernel_rfl) rfl, ⟨by omega, by omega⟩, some ⟨g1, 0, none⟩, j, c1, w9, by rw [Nat.sub_zero, Nat.sub_zero, sub0g]; exact hA1, ?_⟩
    intro r4 w10 hn10
    obtain ⟨g2, c2, w11, hA2, X11, g3, c3, w12, f', hA3, hor, X12⟩ := hrest (openRow name cur) _ r4 w10 hn10 rfl (by simp [Value.oneCell']) (fun W => own_openRow W _ name cur)
    have hopen : openL l name cur = l.take j ++ openRow name cur :: l.drop j := by unfold openL; rw [<- hpos]
    rw [<- hopen] at hor
    refine ⟨_, _, _, w11, hA2, _, _, _, ((b2.ext hxk).ext X11).loadAt 0 rfl (by kernel_rfl) rfl, ⟨by omega, by omega⟩, _, _, _, w12, hA3, ?_⟩
    intro r5 w13 hn13
    have e13 := hn13.r_eq; have z13 := hn13.size
    obtain ⟨w14, st14, b14, y14⟩ := hn13.fill (P := P) (t := T_impl_Book) (xs := [.slice (some ⟨g3, 0, none⟩) (n + 1) c3]) (by simp [Value.oneCell']) (by kernel_rfl) rfl
    have Y14 := hxk.trans (X12.trans y14)
    have X14 := X5.trans Y14
    refine ⟨w14, st14, _, _, _, b14.loadA0 (by kernel_rfl), ?_⟩
    refine Ret.at (spec_BookOk_w (hor.ext y14).rows (openL_code hc name cur) (by omega) (openL_bulk hb s1 s2)) ?_
    rintro v w15 ⟨hv, y15⟩
    subst hv
    have hb1 := (b1.ext Y14).ext y15
    have X15 := X14.trans y15
    have lt1 := b1.lt
    have l5k := (hxk.trans X12).le
    refine ⟨_, rfl, ifN (fun hno => ?_) (fun hyes => ?_)⟩
    · obtain ⟨w16, st16, b16, ch16, sz16⟩ := hb1.storeA0 (P := P) (t := T_impl_Book) (xs := [.slice none 0 0]) (by kernel_rfl) rfl (by simp [Value.oneCell'])
      refine ⟨w16, st16, _, _, _, b16.loadA0 (by kernel_rfl), none, 0, 0, [], by rw [q1, hno], ?_, X15.chg ch16 (by simp; omega)⟩
      rw [openT_no (by rw [q1, hno])]
      exact rows0 _ _ _ _
    · obtain ⟨w16, st16, b16, ch16, sz16⟩ := hb1.storeA0 (P := P) (t := T_impl_Book) (xs := [.slice (some ⟨g3, 0, none⟩) (n + 1) c3]) (by kernel_rfl) rfl (by simp [Value.oneCell'])
      refine ⟨_, _, _, (b14.ext y15).loadA0 (by kernel_rfl), w16, st16, _, _, _, b16.loadA0 (by kernel_rfl), _, _, _, f', by rw [q1, hyes], ?_, X15.chg ch16 (by simp; omega)⟩
      rw [q2, hyes, if_pos rfl]
      exact ((((hor.ext y14).ext y15).chg ch16 (fun q hq hm => by have := (hor.lt q hq).1; simp at hm; omega))).mono (by omega)
set_option maxHeartbeats 1000000 in
theorem spec_BookOpen_o {w : World} {p : Option Addr} {n c : Nat} {l : List (List D0)} (h : RowsR w 4 p n c l) (hc : ∀ x ∈ l, x.map D0.code = [.str, .str, .bool, .ints]) (hn : n <= 1048576) (hb : ∀ x ∈ l, bulks x <= 1048576) (name : ByteArray) (s1 : name.size <= 1048576) (cur : ByteArray) (s2 : cur.size <= 1048576) :
    Ret P n_spec_BookOpen [.agg ⟨[.slice p n c]⟩, .string name, .string cur] w fun v w' => ∃ p' n' c' f, v = .tuple #[.agg ⟨[.slice p' n' c']⟩, .bool (openOk l name cur)] /\ OwnRows w' w.heap.size T_impl_Acct 4 p' n' c' (openT l name cur) f /\ Ext w w' := by
  have hln := h.1
  refine spec_BookOpen_ret ?_
  unfold spec_BookOpen
  intro r w1 hn1 r1 w2 hn2
  have e1 := hn1.r_eq; have z1 := hn1.size; have e2 := hn2.r_eq; have z2 := hn2.size
  have X2 := hn1.ext.trans hn2.ext
  have b0 := hn1.blk.ext hn2.ext
  have b1 := hn2.blk
  refine ⟨_, _, _, b0.loadA0 (by kernel_rfl), ?_⟩
  refine Ret.at (spec_BookOk_c (h.ext X2) hc hn hb) ?_
  rintro v w5 ⟨hv, y5⟩
  subst hv
  have X5 := X2.trans y5
  have no : ∀ W, Ext w2 W -> openOk l name cur = false -> ∃ wv, Stores P T_impl_Book ⟨r1, 0, none⟩ (.agg #[.slice none 0 0]) W wv /\ ∃ p n c, Loads P T_impl_Book ⟨r1, 0, none⟩ (.agg #[.slice p n c]) wv /\ ∃ p' n' c' f, Value.tuple #[.agg #[.slice p n c], .bool false] = .tuple #[.agg ⟨[.slice p' n' c']⟩, .bool (openOk l name cur)] /\ OwnRows wv w.heap.size T_impl_Acct 4 p' n' c' (openT l name cur) f /\ Ext w wv := fun W hW hno => by
    obtain ⟨w12, st12, b12, ch12, sz12⟩ := (b1.ext hW).storeA0 (P := P) (t := T_impl_Book) (xs := [.slice none 0 0]) (by kernel_rfl) rfl (by simp [Value.oneCell'])
    refine ⟨w12, st12, _, _, _, b12.loadA0 (by kernel_rfl), none, 0, 0, [], by rw [hno], ?_, (X2.trans hW).chg ch12 (by simp; omega)⟩
    rw [openT_no hno]
    exact rows0 _ _ _ _
  refine ⟨_, rfl, ifN (fun hno => ifT (no w5 y5 (by unfold openOk; rw [hno]; rfl))) (fun hok => ?_)⟩
  have h12 := bookOk_len hok
  refine ⟨_, _, _, (b0.ext y5).loadA0 (by kernel_rfl), ?_⟩
  refine Ret.at (spec_AcctAt_c (h.ext X5) hc name) ?_
  rintro v w6 ⟨hv, y6⟩
  subst hv
  have Y6 := y5.trans y6
  refine ⟨_, rfl, ifD (fun hge => no w6 Y6 (by unfold openOk; rw [hok, decide_eq_false (by omega)]; rfl)) (fun hlt => ?_)⟩
  obtain ⟨q1, q2⟩ := openT_yes (cur := cur) hok (show acctAt l name < 0 by omega)
  exact spec_BookOpen_j0_c h hc (by omega) hb s1 s2 (X2.trans Y6) (b0.ext Y6) (b1.ext Y6) (by omega) q1 q2
end Go.Proofs.YtbgokfhcgcoipaaGreatDoor
namespace Go.Proofs.YtbgokfhcgcoipaaGreatDoor.Sx
open Go Go.RowKit
section
variable (P : Program) (N : Nat) (car : Nat -> List (Nat × VS))
def semX : Code -> QF -> Fr -> World -> Prop
  | .skip, Q, φ, w => Q .normal φ w
  | .region id ops draw, Q, φ, w =>
    match draw with
    | true => cond (P.follows .mixedOrders) (cond (good P ops) (∃ S, dsem P N S ops true (Q .normal) (List.range ops.size) (fun _ => w.drew) φ w.drew)
        (cond (goodF P ops (flo P ops) (piF P ops)) (∃ S, dsemF P N S ops (flo P ops) (Q .normal) (piF P ops) (fun _ => w.drew) (List.replicate (flo P ops).length none) φ w.drew) False)) False
    | false => match panOf ops with
      | none => dsem P N [] ops false (Q .normal) (List.range ops.size) (fun _ => w) φ w
      | some x => dsem P N [] ops false (panQ x Q) (List.range (ops.size - 1)) (fun _ => w) φ w
  | .seq x y, Q, φ, w => semX x (thenQ (semX y Q) Q) φ w
  | .cond c x y, Q, φ, w => match ev φ c with
    | .bool b => (b = true -> semX x Q φ w) /\ (b = false -> semX y Q φ w)
    | _ => False
  | .block id c, Q, φ, w => semX c (blockQ id Q) φ w
  | .scope c, Q, φ, w => semX c (scopeQ Q) φ w
  | .loop c, Q, φ, w =>
    ∃ (I : TyT ((car (keyOf c)).map (·.2)) (World -> Prop)) (μ : TyT ((car (keyOf c)).map (·.2)) (World -> Nat)),
      holds ((car (keyOf c)).map (·.2)) I ((car (keyOf c)).map fun x => φ x.1) w /\
      ∀ (ζ : Fr) (w : World), allT ((car (keyOf c)).map (·.2)) fun vs => holds ((car (keyOf c)).map (·.2)) I vs w ->
        semX c (thenQ (fun φ' w' => holds ((car (keyOf c)).map (·.2)) I ((car (keyOf c)).map fun x => φ' x.1) w' /\
          meas ((car (keyOf c)).map (·.2)) μ ((car (keyOf c)).map fun x => φ' x.1) w' < meas ((car (keyOf c)).map (·.2)) μ vs w) Q)
          (havoc (dstsOf c) (car (keyOf c)) vs ζ φ) w
  | .exit id, Q, φ, w => Q (.exit id) φ w
  | .ret, Q, φ, w => Q .ret φ w
  | .label _, Q, φ, w => Q .normal φ w
  | _, _, _, _ => False
variable {P N car}
theorem semA_of_semX : ∀ (c : Code) (Q : QF) (φ : Fr) (w : World), semX P N car c Q φ w -> semA P N c Q φ w
  | .skip, Q, φ, w, h => h
  | .region id ops draw, Q, φ, w, h => by
    cases draw with
    | false =>
      simp only [semX] at h
      simp only [semA]
      cases hp : panOf ops with
      | none => rw [hp] at h; exact dsem_sqP P N _ _ _ _ h
      | some x => rw [hp] at h; exact dsem_sqP P N _ _ _ _ h
    | true =>
      simp only [semX] at h
      cases hm : P.follows .mixedOrders with
      | false => rw [hm] at h; exact h.elim
      | true =>
        rw [hm] at h
        refine ⟨hm, ?_⟩
        cases hc : good P ops with
        | true =>
          rw [hc] at h
          exact .inl ⟨rfl, h.elim fun S h => ⟨S, dsem_drP P N _ _ _ _ h⟩⟩
        | false =>
          rw [hc] at h
          cases hd : goodF P ops (flo P ops) (piF P ops) with
          | true => rw [hd] at h; exact .inr ⟨rfl, h.elim fun S h => ⟨S, dsemF_dF P N _ _ _ _ _ h⟩⟩
          | false => rw [hd] at h; exact h.elim
  | .seq x y, Q, φ, w, h => by
    have h1 := semA_of_semX x (thenQ (semX P N car y Q) Q) φ w h
    show semA P N x (thenQ (semA P N y Q) Q) φ w
    refine semA_mono (fun e φ' w' hq => ?_) h1
    cases e with
    | normal => exact semA_of_semX y _ _ _ hq
    | _ => exact hq
  | .cond c x y, Q, φ, w, h => by
    simp only [semX] at h
    split at h
    · rename_i b hb
      exact ⟨b, hb, fun e => semA_of_semX x _ _ _ (h.1 e), fun e => semA_of_semX y _ _ _ (h.2 e)⟩
    · exact h.elim
  | .block id c, Q, φ, w, h => semA_of_semX c _ φ w h
  | .loop c, Q, φ, w, h => by
    obtain ⟨I, μ, h0, hr⟩ := h
    refine ⟨fun φ w => holds _ I ((car (keyOf c)).map fun x => φ x.1) w, fun φ w => meas _ μ ((car (keyOf c)).map fun x => φ x.1) w, h0, ?_⟩
    intro ψ w1 hJ hψ
    have h1 := hr ψ w1
    have h2 : ∃ g, appT ((car (keyOf c)).map (·.2)) I ((car (keyOf c)).map fun x => ψ x.1) = some g := by
      unfold holds at hJ
      split at hJ
      · rename_i g hg; exact ⟨g, hg⟩
      · exact hJ.elim
    obtain ⟨g, hg⟩ := h2
    have h3 := allT_app hg h1 hJ
    rw [havoc_eq hψ] at h3
    exact semA_of_semX c _ ψ w1 h3
  | .exit id, Q, φ, w, h => h
  | .ret, Q, φ, w, h => h
  | .label _, Q, φ, w, h => h
  | .goto _, _, _, _, hs => hs.elim
  | .scope c, Q, φ, w, h => semA_of_semX c _ φ w h
  | .rangeFunc _ _ _ _, _, _, _, hs => hs.elim
  | .refuse _, _, _, _, hs => hs.elim
end
def fsemX (P : Program) (fn : Func) (car : Nat -> List (Nat × VS)) (args : List Value) (R : Value -> World -> Prop) (w : World) : Prop :=
  match fn.body with
  | some c => semX P fn.ntmps car c (bodyQ P fn R) (initF args) w
  | none => False
theorem Ret.of_fsemX {P : Program} {f : FuncId} {fn : Func} {car : Nat -> List (Nat × VS)} {args : List Value} {w : World} {R : Value -> World -> Prop}
    (hf : P.funcs[f]? = some fn) (hlen : Nat.ble args.length fn.ntmps = true) (h : fsemX P fn car args R w) : Ret P f args w R := by
  unfold fsemX at h
  split at h
  · rename_i c hb
    refine calls_of_wp hf hb ?_
    have hlen' : args.length <= fn.ntmps := Nat.le_of_ble_eq_true hlen
    refine wp_of_semA c (bodyQ P fn R) _ (initF args) _ w (initF_fits hlen') (fun e φ a w' hfit hq => ?_) (semA_of_semX c _ _ _ h)
    have key : resT P φ w' fn.results.toList (fun vs => R (retV vs) w') -> a.defers = [] /\ ∃ v, (results fn a.tmps).run P w' = .ok v w' /\ ∃ u, Ending.returned v = .returned u /\ R u w' := by
      intro hq
      obtain ⟨vs, hk, hr⟩ := resT_sound hfit _ _ hq
      refine ⟨hfit.defers, retV vs, ?_, _, rfl, hk⟩
      rw [results_eq, Array.mapM_eq_mapM_toList]
      simp only [Sem.run_bind, Sem.run_map, hr, Result.andThen_ok, Sem.run_pure]
      match vs with
      | [] => simp [retV]
      | [v] => simp [retV]
      | _ :: _ :: _ => simp [retV]
    cases e with
    | normal => exact key hq
    | ret => exact key hq
    | _ => exact hq.elim
  · exact h.elim
end Go.Proofs.YtbgokfhcgcoipaaGreatDoor.Sx
namespace Go.Proofs.YtbgokfhcgcoipaaGreatDoor
variable {w : World} {R : Value -> World -> Prop}
open Go Go.Proofs.YtbgokfhcgcoipaaGreatDoor.Sx
set_option maxRecDepth 100000
def spec_l17Draw_x_j0 (a0 : World) (a1 : Int -> World -> Prop) (mu : Int -> World -> Nat) (a2 : Int) (W : World) (R : Value -> World -> Prop) : Prop :=
 ∃ a3 : Int, a3 = IntKind.wrap .i64 (a2 + 1) /\ a1 a3 W /\ mu a3 W < mu a2 a0
def spec_l17Draw_x (c : Option Addr) (w : World) (R : Value -> World -> Prop) : Prop :=
 ∀ r wv, New w (.cells ⟨[.slice none 0 0]⟩ 89 (0, 0)) r wv ->
 ∀ a0 a1, New wv (.cells ⟨[.slice none 0 0]⟩ 89 (0, 0)) a0 a1 ->
 ∃ wv_2, Stores P 89 ⟨a0, 0, none⟩ (.agg #[.slice none 0 0]) a1 wv_2 /\
 ∀ a2 a3, New wv_2 (.cells ⟨[(.string (S [98, 97, 110, 107])), (.string (S [98, 111, 120])), (.string (S [99, 97, 115, 104])), (.string (S [102, 101, 101, 115])), (.string (S [116, 97, 120]))]⟩ 9 (0, 0)) a2 a3 ->
 ∃ (a4 : Int -> World -> Prop) (mu : Int -> World -> Nat), a4 0 a3 /\
 ∀ (a5 : Fr) (a6 : World) (a7 : Int), a4 a7 a6 ->
 ((decide ((a7 : Int) < ((5 : Nat) : Int))) = true ->
 (0 <= (a7 : Int) /\ (a7 : Int) < (5 : Nat)) /\ ∃ a8, Loads P 9 ((⟨a2, 0, none⟩ : Addr).add (a7.toNat * 1)) (.string a8) a6 /\ Calls P 175 ⟨[(.pointer c), .int .i64 4]⟩ a6 fun e a9 =>
 ∃ aa, e = .returned (.bool aa) /\
 ((!aa) = true ->
 ∀ ab ac, New a9 (.cells ⟨[(.string (S [67, 72, 70])), (.string (S [69, 85, 82])), (.string (S [85, 83, 68])), (.string (S [74, 80, 89]))]⟩ 9 (0, 0)) ab ac ->
 Calls P 99 ⟨[(.pointer c), (.slice (some ⟨ab, 0, none⟩) 4 4)]⟩ ac fun ae af =>
 ∃ ag, ae = .returned (.string ag) /\
 ∃ ah ai aj, Loads P 89 ⟨a0, 0, none⟩ (.agg #[.slice ah ai aj]) af /\ Calls P 197 ⟨[.agg #[.slice ah ai aj], .string a8, .string ag]⟩ af fun ak al =>
 ∃ am an ao ap, ak = .returned (.tuple #[.agg #[.slice am an ao], .bool ap]) /\
 ∀ aq ar, New al (.cells ⟨[.slice none 0 0]⟩ 89 (0, 0)) aq ar ->
 ∃ wv_10, Stores P 89 ⟨aq, 0, none⟩ (.agg #[.slice am an ao]) ar wv_10 /\
 (ap = true ->
 ∃ blks : List Nat, ∃ au av aw, (∀ wv_11, EX blks wv_10.drew wv_11 -> Loads P 89 ⟨aq, 0, none⟩ (.agg #[.slice au av aw]) wv_11) /\ Calls P 83 ⟨[(.pointer c), .int .i64 9000]⟩ wv_10.drew fun ax ay =>
 ∃ az, ax = .returned (.int .i64 az) /\
 EX blks wv_10.drew ay /\ ∃ b0 : Int, b0 = IntKind.wrap .i64 (az - 2000) /\ Calls P 82 ⟨[.int .i64 b0]⟩ ay fun b1 b2 =>
 ∃ b3 b4 b5 b6, b1 = .returned (.agg #[.bool b3, .slice b4 b5 b6]) /\
 EX blks ay b2 /\ Calls P 198 ⟨[.agg #[.slice au av aw], .string a8, .agg #[.string ag, .bool b3, .slice b4 b5 b6]]⟩ b2 fun b7 b8 =>
 ∃ b9 ba bb bc, b7 = .returned (.tuple #[.agg #[.slice b9 ba bb], .bool bc]) /\
 ∃ wv_15, Stores P 89 ⟨a0, 0, none⟩ (.agg #[.slice b9 ba bb]) b8 wv_15 /\
 spec_l17Draw_x_j0 a6 a4 mu a7 wv_15 R) /\
 (ap = false ->
 spec_l17Draw_x_j0 a6 a4 mu a7 wv_10 R)) /\
 ((!aa) = false ->
 spec_l17Draw_x_j0 a6 a4 mu a7 a9 R)) /\
 ((decide ((a7 : Int) < ((5 : Nat) : Int))) = false ->
 ∃ bd be bf, Loads P 89 ⟨a0, 0, none⟩ (.agg #[.slice bd be bf]) a6 /\ ∃ wv_16, Stores P 89 ⟨r, 0, none⟩ (.agg #[.slice bd be bf]) a6 wv_16 /\
 ∃ bg bh bi, Loads P 89 ⟨r, 0, none⟩ (.agg #[.slice bg bh bi]) wv_16 /\ R (.agg #[.slice bg bh bi]) wv_16)
theorem spec_l17Draw_x_eq (c : Option Addr) (w : World) (R : Value -> World -> Prop) : spec_l17Draw_x c w R = fsemX P Tryz.f133 (fun k => cond (Nat.beq k 4) [(12, .one (.int .i64))] ([])) [(.pointer c)] R w := by kernel_rfl
theorem spec_l17Draw_x_ret {c : Option Addr} (h : spec_l17Draw_x c w R) : Ret P 133 [.pointer c] w R := Ret.of_fsemX Tryz.func133 rfl (Eq.mp (spec_l17Draw_x_eq c w R) h)
def spec_l18Draw_x_j1 (a0 : World) (a1 : Option Addr -> Nat -> Nat -> Int -> World -> Prop) (mu : Option Addr -> Nat -> Nat -> Int -> World -> Nat) (a2 : Option Addr) (a3 a4 : Nat) (n : Int) (a5 : Option Addr) (a6 a7 : Nat) (a8 : World) (R : Value -> World -> Prop) : Prop :=
 ∃ a9 : Int, a9 = IntKind.wrap .i64 (n - 1) /\ a1 a5 a6 a7 a9 a8 /\ mu a5 a6 a7 a9 a8 < mu a2 a3 a4 n a0
def spec_l18Draw_x_j0 (c : Option Addr) (r : Nat) (a0 : World) (a1 : Option Addr -> Nat -> Nat -> Int -> World -> Prop) (mu : Option Addr -> Nat -> Nat -> Int -> World -> Nat) (a2 : Option Addr) (a3 a4 : Nat) (n : Int) (W : World) (R : Value -> World -> Prop) : Prop :=
 ∃ blks : List Nat, ∃ a5 a6 a7, (∀ wv_4, EX blks W.drew wv_4 -> Loads P 87 ((⟨r, 0, none⟩ : Addr).add 0) (.slice a5 a6 a7) wv_4) /\ ∃ a8 a9 aa, (∀ wv_5, EX blks W.drew wv_5 -> Loads P 87 ((⟨r, 0, none⟩ : Addr).add 0) (.slice a8 a9 aa) wv_5) /\ ∀ (ss : List (Option Nat)) (ab : World), Fl [.cells ⟨[.string ByteArray.empty, .string ByteArray.empty, .bool false, .slice none 0 0]⟩ 97 (0, 0)] [none] W.drew ss ab ->
 Calls P 83 ⟨[(.pointer c), (.int .i64 ((a9 : Nat) : Int))]⟩ ab fun ac ae =>
 ∃ af, ac = .returned (.int .i64 af) /\
 EX blks ab ae /\ (0 <= (af : Int) /\ (af : Int) < (a6 : Nat)) /\ ptrS a5 fun ad => ∃ ag ah ai aj ak al, (∀ wv_8, EX blks ae wv_8 -> Loads P 97 (ad.add (af.toNat * 4)) (.agg #[.string ag, .string ah, .bool ai, .slice aj ak al]) wv_8) /\ ∀ (ss_1 : List (Option Nat)) (am : World) (an : Nat), Fl [.cells ⟨[.string ByteArray.empty, .string ByteArray.empty, .bool false, .slice none 0 0]⟩ 97 (0, 0)] ss ae ss_1 am -> ss_1[0]? = some (some an) ->
 ∃ wv_10, Stores P 97 ⟨an, 0, none⟩ (.agg #[.string ag, .string ah, .bool ai, .slice aj ak al]) am wv_10 /\
 ∃ blks_1 : List Nat, ∃ ao ap aq, (∀ wv_11, EX blks_1 wv_10.drew wv_11 -> Loads P 87 ((⟨r, 0, none⟩ : Addr).add 0) (.slice ao ap aq) wv_11) /\ ∃ ar au av, (∀ wv_12, EX blks_1 wv_10.drew wv_12 -> Loads P 87 ((⟨r, 0, none⟩ : Addr).add 0) (.slice ar au av) wv_12) /\ ∀ (ss_2 : List (Option Nat)) (aw : World), Fl [.cells ⟨[.string ByteArray.empty, .string ByteArray.empty, .bool false, .slice none 0 0]⟩ 97 (0, 0)] [none] wv_10.drew ss_2 aw ->
 Calls P 83 ⟨[(.pointer c), (.int .i64 ((au : Nat) : Int))]⟩ aw fun ax ay =>
 ∃ az, ax = .returned (.int .i64 az) /\
 EX blks_1 aw ay /\ (0 <= (az : Int) /\ (az : Int) < (ap : Nat)) /\ ptrS ao fun b0 => ∃ b1 b2 b3 b4 b5 b6, (∀ wv_15, EX blks_1 ay wv_15 -> Loads P 97 (b0.add (az.toNat * 4)) (.agg #[.string b1, .string b2, .bool b3, .slice b4 b5 b6]) wv_15) /\ ∀ (ss_3 : List (Option Nat)) (b7 : World) (b8 : Nat), Fl [.cells ⟨[.string ByteArray.empty, .string ByteArray.empty, .bool false, .slice none 0 0]⟩ 97 (0, 0)] ss_2 ay ss_3 b7 -> ss_3[0]? = some (some b8) ->
 ∃ wv_17, Stores P 97 ⟨b8, 0, none⟩ (.agg #[.string b1, .string b2, .bool b3, .slice b4 b5 b6]) b7 wv_17 /\
 ∃ blks_2 : List Nat, ∃ b9, (∀ wv_18, EX blks_2 wv_17.drew wv_18 -> Loads P 9 (((⟨an, 0, none⟩ : Addr).add 1).add 0) (.string b9) wv_18) /\ ∀ (ss_4 : List (Option Nat)) (ba : World), Fl [.cells ⟨[.string ByteArray.empty, .bool false, .slice none 0 0]⟩ 33 (0, 0)] [none] wv_17.drew ss_4 ba ->
 Calls P 83 ⟨[(.pointer c), .int .i64 500]⟩ ba fun bb bc =>
 ∃ bd, bb = .returned (.int .i64 bd) /\
 EX blks_2 ba bc /\ ∀ (ss_5 : List (Option Nat)) (be : World), Fl [.cells ⟨[.string ByteArray.empty, .bool false, .slice none 0 0]⟩ 33 (0, 0)] ss_4 bc ss_5 be ->
 Calls P 82 ⟨[.int .i64 bd]⟩ be fun bf bg =>
 ∃ bh bi bj bk, bf = .returned (.agg #[.bool bh, .slice bi bj bk]) /\
 EX blks_2 be bg /\ ∀ (ss_6 : List (Option Nat)) (bl : World) (bm : Nat), Fl [.cells ⟨[.string ByteArray.empty, .bool false, .slice none 0 0]⟩ 33 (0, 0)] ss_5 bg ss_6 bl -> ss_6[0]? = some (some bm) ->
 ∃ wv_24, Stores P 33 ⟨bm, 0, none⟩ (.agg #[.string b9, .bool bh, .slice bi bj bk]) bl wv_24 /\
 ∃ bn bo bp bq br, Loads P 33 ⟨bm, 0, none⟩ (.agg #[.string bn, .bool bo, .slice bp bq br]) wv_24 /\ Calls P 207 ⟨[.agg #[.string bn, .bool bo, .slice bp bq br]]⟩ wv_24 fun bs bt =>
 ∃ bu bv bw bx bz c0, bs = .returned (.tuple #[.agg #[.string bu, .bool bv, .slice bw bx bz], .bool c0]) /\
 ∀ c1 c2, New bt (.cells ⟨[.string ByteArray.empty, .bool false, .slice none 0 0]⟩ 33 (0, 0)) c1 c2 ->
 ∃ wv_27, Stores P 33 ⟨c1, 0, none⟩ (.agg #[.string bu, .bool bv, .slice bw bx bz]) c2 wv_27 /\
 ∃ c3, Loads P 9 ((⟨an, 0, none⟩ : Addr).add 0) (.string c3) wv_27 /\ ∃ c4 c5 c6 c7 c8, Loads P 33 ⟨bm, 0, none⟩ (.agg #[.string c4, .bool c5, .slice c6 c7 c8]) wv_27 /\ ∀ c9 ca, New wv_27 (.cells ⟨[.string c3, .string c4, .bool c5, .slice c6 c7 c8]⟩ 181 (0, 0)) c9 ca ->
 ∃ cb cc cd ce, Appends P [105, 105] [.slice a2 a3 a4, (.slice (some ⟨c9, 0, none⟩) 1 1)] (.slice cb cc cd) ca ce /\
 ∃ cf, Loads P 9 (((⟨b8, 0, none⟩ : Addr).add 1).add 0) (.string cf) ce /\ ∃ cg, Loads P 9 (((⟨an, 0, none⟩ : Addr).add 1).add 0) (.string cg) ce /\ ((decide (cf = cg)) = true ->
 ∃ ch, Loads P 9 ((⟨b8, 0, none⟩ : Addr).add 0) (.string ch) ce /\ ∃ ci cj ck cl cm, Loads P 33 ⟨c1, 0, none⟩ (.agg #[.string ci, .bool cj, .slice ck cl cm]) ce /\ ∀ cn co, New ce (.cells ⟨[.string ch, .string ci, .bool cj, .slice ck cl cm]⟩ 181 (0, 0)) cn co ->
 ∃ cp cq cr cs, Appends P [105, 105] [.slice cb cc cd, (.slice (some ⟨cn, 0, none⟩) 1 1)] (.slice cp cq cr) co cs /\
 spec_l18Draw_x_j1 a0 a1 mu a2 a3 a4 n cp cq cr cs R) /\
 ((decide (cf = cg)) = false ->
 ∃ ct, Loads P 9 ((⟨an, 0, none⟩ : Addr).add 0) (.string ct) ce /\ ∃ cu cv cw cx cy, Loads P 33 ⟨c1, 0, none⟩ (.agg #[.string cu, .bool cv, .slice cw cx cy]) ce /\ ∀ cz d0, New ce (.cells ⟨[.string ct, .string cu, .bool cv, .slice cw cx cy]⟩ 181 (0, 0)) cz d0 ->
 ∃ d1 d2 d3 d4, Appends P [105, 105] [.slice cb cc cd, (.slice (some ⟨cz, 0, none⟩) 1 1)] (.slice d1 d2 d3) d0 d4 /\
 spec_l18Draw_x_j1 a0 a1 mu a2 a3 a4 n d1 d2 d3 d4 R)
def spec_l18Draw_x (c a0 : Option Addr) (a1 a2 : Nat) (w : World) (R : Value -> World -> Prop) : Prop :=
 ∀ r wv, New w (.cells ⟨[.slice a0 a1 a2]⟩ 89 (0, 0)) r wv ->
 ∀ a3 a4, New wv (.cells ⟨[]⟩ 181 (0, 0)) a3 a4 ->
 Calls P 83 ⟨[(.pointer c), .int .i64 3]⟩ a4 fun e a5 =>
 ∃ a6, e = .returned (.int .i64 a6) /\
 ∃ a7 : Int, a7 = IntKind.wrap .i64 (1 + a6) /\ ∃ (a8 : Option Addr -> Nat -> Nat -> Int -> World -> Prop) (mu : Option Addr -> Nat -> Nat -> Int -> World -> Nat), a8 (some ⟨a3, 0, none⟩) 0 0 a7 a5 /\
 ∀ (a9 : Fr) (aa : World) (ab : Option Addr) (ac ae : Nat) (n : Int), a8 ab ac ae n aa ->
 ((decide ((0 : Int) < n)) = true ->
 ∃ af ag ah, Loads P 87 ((⟨r, 0, none⟩ : Addr).add 0) (.slice af ag ah) aa /\ ((decide ((0 : Int) < ((ag : Nat) : Int))) = true ->
 spec_l18Draw_x_j0 c r aa a8 mu ab ac ae n aa R) /\
 ((decide ((0 : Int) < ((ag : Nat) : Int))) = false ->
 R (.slice ab ac ae) aa)) /\
 ((decide ((0 : Int) < n)) = false ->
 (false = true ->
 spec_l18Draw_x_j0 c r aa a8 mu ab ac ae n aa R) /\
 (false = false ->
 R (.slice ab ac ae) aa))
theorem spec_l18Draw_x_eq (c : Option Addr) (b0_p : Option Addr) (b0_n : Nat) (b0_c : Nat) (w : World) (R : Value -> World -> Prop) : spec_l18Draw_x c b0_p b0_n b0_c w R = fsemX P Tryz.f144 (fun k => cond (Nat.beq k 4) [(5, .one .slice), (6, .one (.int .i64))] ([])) [(.pointer c), (.agg #[(.slice b0_p b0_n b0_c)])] R w := by kernel_rfl
theorem spec_l18Draw_x_ret {c a : Option Addr} {a0 a1 : Nat} (h : spec_l18Draw_x c a a0 a1 w R) : Ret P 144 [.pointer c, .agg #[.slice a a0 a1]] w R := Ret.of_fsemX Tryz.func144 rfl (Eq.mp (spec_l18Draw_x_eq c a a0 a1 w R) h)
end Go.Proofs.YtbgokfhcgcoipaaGreatDoor
namespace Go.Proofs.YtbgokfhcgcoipaaGreatDoor
open Go Go.Proofs.YtbgokfhcgcoipaaGreatDoor.Sx
def names5 : List ByteArray := [S [98, 97, 110, 107], S [98, 111, 120], S [99, 97, 115, 104], S [102, 101, 101, 115], S [116, 97, 120]]
def curs4 : List ByteArray := [S [67, 72, 70], S [69, 85, 82], S [85, 83, 68], S [74, 80, 89]]
theorem curs4_known : ∀ c ∈ curs4, curKnown c = true := by decide +kernel
theorem names5_word : ∀ c ∈ names5, isWord c = true := by decide +kernel
theorem names5_less : ∀ j : Fin 5, ∀ x ∈ names5.take j.val, bLess x (names5[j.val]'j.isLt) = true := by decide +kernel
structure DBk (l : List B3) : Prop where
  bk : BkL l
  all : ∀ x ∈ l, x.1 ∈ names5 /\ x.2.1 ∈ curs4 /\ x.2.2.natAbs <= 7000
  len : l.length <= 5
theorem dbk_nil : DBk [] := ⟨⟨List.Pairwise.nil, fun x hx => by simp at hx, by decide⟩, fun x hx => by simp at hx, by decide⟩
theorem spec_l17Draw_c {w : World} {rc n c : Nat} {p : Option Addr} (hc : Cur w rc p n c) (hb : ByR w p n) (hne : 0 < n -> ∀ q, p.map (·.block) = some q -> q ≠ rc) (hn : n <= 1048576) :
    Ret P n_spec_l17Draw [.pointer (some ⟨rc, 0, none⟩)] w fun v w' => ∃ (l : List B3) (f : List Nat) (p' : Option Addr) (n' c' : Nat), v = .agg ⟨[.slice p' n' c']⟩ /\ OwnRows w' w.heap.size T_impl_Acct 4 p' n' c' (l.map bkR) f /\ DBk l /\ Chg [rc] w w' := by
  refine spec_l17Draw_x_ret ?_
  unfold spec_l17Draw_x
  intro r w1 hn1 r1 w2 hn2
  have e1 := hn1.r_eq; have e2 := hn2.r_eq; have s1 := hn1.size; have s2 := hn2.size
  have hlt := hc.lt
  obtain ⟨w3, st3, b1, y3⟩ := hn2.fill (P := P) (t := T_impl_Book) (xs := [.slice none 0 0]) (by simp [Value.oneCell']) (by kernel_rfl) rfl
  refine ⟨w3, st3, ?_⟩
  intro r2 w4 hn4
  have e4 := hn4.r_eq; have s4 := hn4.size; have l3 := y3.le; have r1lt := b1.lt
  have X4 := hn1.ext.trans (y3.trans hn4.ext)
  have sR : ∀ q ∈ [r1], w.heap.size <= q := fun q hq => by have := List.mem_singleton.1 hq; omega
  refine ⟨fun i W => ∃ (j : Nat) (l : List B3) (f : List Nat) (ap : Option Addr) (an ac : Nat), i = j /\ j <= 5 /\ Blk W r1 T_impl_Book [.slice ap an ac] /\ OwnRows W w4.heap.size T_impl_Acct 4 ap an ac (l.map bkR) f /\ DBk l /\ (∀ x ∈ l, x.1 ∈ names5.take j) /\ l.length <= j /\ Cur W rc p n c /\ Blk W r2 T_string (names5.map Value.string) /\ Blk W r T_impl_Book [.slice none 0 0] /\ Chg [rc] w W /\ w4.heap.size <= W.heap.size, fun i _ => 5 - i.toNat,
    ⟨0, [], [], none, 0, 0, rfl, by omega, b1.ext hn4.ext, rows0 _ _ _ _, dbk_nil, fun x hx => by simp at hx, by simp, hc.ext X4, hn4.blk, hn1.blk.ext (y3.trans hn4.ext), X4.toChg, Nat.le_refl _⟩, ?_⟩
  rintro junk W i ⟨j, l, f, ap, an, ac, rfl, hj, hA, hO, hD, hnm, hll, hcW, hN, hr, hX, hWz⟩
  have nr1 : r1 ≠ rc := by omega
  have nr2 : r2 ≠ rc := by omega
  have nr : r ≠ rc := by omega
  have na : ∀ {a b : Nat}, a ≠ b -> a ∉ [b] := fun h hm => h (List.mem_singleton.1 hm)
  have hbW : ByR W p n := hb.chg hX hne
  refine ifD (fun hlt5 => ?_) (fun hge => ?_)
  · have hj5 : j < names5.length := by show j < 5; omega
    refine ⟨⟨by omega, by omega⟩, names5[j], hN.loadAt j (by rw [Int.toNat_natCast, addr_add]; simp) (by kernel_rfl) (by rw [List.getElem?_map, List.getElem?_eq_getElem hj5]; rfl), ?_⟩
    refine Ret.at (spec_l01Once_c hcW hbW hne hn (k := 4) (by decide) (by decide)) ?_
    rintro v w5 ⟨q, rfl, hc5, ch5⟩
    have f5 : ∀ x ∈ f, x ∉ [rc] := fun x hx => na (by have := hO.lt x hx; omega)
    have hO5 := hO.chg ch5 f5
    have hA5 := hA.chg ch5 (na nr1)
    have hN5 := hN.chg ch5 (na nr2)
    have hr5 := hr.chg ch5 (na nr)
    have hX5 := hX.trans ch5
    have hb5 := hbW.chg ch5 hne
    have z5 := ch5.size
    have next : ∀ (W' : World) (l' : List B3) (f' : List Nat) (ap' : Option Addr) (an' ac' : Nat), Blk W' r1 T_impl_Book [.slice ap' an' ac'] -> OwnRows W' w4.heap.size T_impl_Acct 4 ap' an' ac' (l'.map bkR) f' -> DBk l' -> (∀ x ∈ l', x.1 ∈ names5.take (j + 1)) -> l'.length <= j + 1 -> Cur W' rc p n c -> Blk W' r2 T_string (names5.map Value.string) -> Blk W' r T_impl_Book [.slice none 0 0] -> Chg [rc] w W' -> w4.heap.size <= W'.heap.size ->
        ∃ t42 : Int, t42 = IntKind.wrap .i64 (((j : Nat) : Int) + 1) /\ (∃ (j' : Nat) (l : List B3) (f : List Nat) (ap : Option Addr) (an ac : Nat), t42 = j' /\ j' <= 5 /\ Blk W' r1 T_impl_Book [.slice ap an ac] /\ OwnRows W' w4.heap.size T_impl_Acct 4 ap an ac (l.map bkR) f /\ DBk l /\ (∀ x ∈ l, x.1 ∈ names5.take j') /\ l.length <= j' /\ Cur W' rc p n c /\ Blk W' r2 T_string (names5.map Value.string) /\ Blk W' r T_impl_Book [.slice none 0 0] /\ Chg [rc] w W' /\ w4.heap.size <= W'.heap.size) /\ 5 - t42.toNat < 5 - ((j : Nat) : Int).toNat :=
      fun W' l' f' ap' an' ac' h1 h2 h3 h4 h5 h6 h7 h8 h9 h10 => exW ⟨by omega, by omega⟩ ⟨⟨j + 1, l', f', ap', an', ac', by omega, by omega, h1, h2, h3, h4, h5, h6, h7, h8, h9, h10⟩, by omega⟩
    have sub5 : ∀ x ∈ l, x.1 ∈ names5.take (j + 1) := fun x hx => by
      rw [List.take_succ_eq_append_getElem hj5]; exact List.mem_append_left _ (hnm x hx)
    refine ⟨_, rfl, fun _ => ?_, fun _ => next w5 l f ap an ac hA5 hO5 hD sub5 (by omega) hc5 hN5 hr5 hX5 (by omega)⟩
    intro r3 w6 hn6
    have e6 := hn6.r_eq; have s6 := hn6.size
    have hs6 : Seg w6 r3 0 (curs4.map Value.string) := hn6.blk.seg
    refine Ret.at (spec_l01Str_c (hc5.ext hn6.ext) (hb5.ext hn6.ext) hne hn hs6 (by have := hc5.lt; omega) rfl (by decide) (by decide)) ?_
    rintro v w7 ⟨cur, rfl, hcur, hc7, ch7⟩
    have hck := curs4_known cur hcur
    have z7 := ch7.size
    have hO7 := (hO5.ext hn6.ext).chg ch7 f5
    have hA7 := (hA5.ext hn6.ext).chg ch7 (na nr1)
    have hN7 := (hN5.ext hn6.ext).chg ch7 (na nr2)
    have hr7 := (hr5.ext hn6.ext).chg ch7 (na nr)
    have hX7 := (hX5.trans hn6.ext.toChg).trans ch7
    have hb7 := (hb5.ext hn6.ext).chg ch7 hne
    obtain ⟨s, hs⟩ : ∃ s, names5[j] = s := ⟨_, rfl⟩
    have hsm : s ∈ names5 := hs ▸ List.getElem_mem hj5
    have hsw := names5_word s hsm
    have hless : ∀ x ∈ l, bLess x.1 s = true := fun x hx => by rw [<- hs]; exact names5_less ⟨j, hj5⟩ x.1 (hnm x hx)
    have hlen : l.length = an := by have := hO.rows.1; simpa using this
    have hl5 := hD.len
    have hlt5' : l.length < 5 := by omega
    obtain ⟨ok1, ok2⟩ := hD.bk.open (cur := cur) hless hsw hck (by omega)
    refine ⟨_, rfl, _, _, _, hA7.loadA0 (by kernel_rfl), ?_⟩
    rw [hs]
    refine Ret.at (spec_BookOpen_o hO7.rows (bkR_code l) (by omega) hD.bk.bulk s (by have := word_size hsw; omega) cur (by have := known_size hck; omega)) ?_
    rintro v w8 ⟨bp, bn, bc, fb, hv, ho8, y8⟩
    rw [ok1] at hv
    rw [ok2] at ho8
    subst hv
    refine ⟨_, _, _, _, rfl, ?_⟩
    intro r4 w9 hn9
    have e9 := hn9.r_eq; have s9 := hn9.size
    obtain ⟨w10, st10, b4, y10⟩ := hn9.fill (P := P) (t := T_impl_Book) (xs := [.slice bp bn bc]) (by simp [Value.oneCell']) (by kernel_rfl) rfl
    have D := Ext.drew w10
    have l8 := y8.le; have l10 := y10.le; have lD := D.le
    refine ⟨w10, st10, fun _ => ?_, fun e => absurd e (by simp)⟩
    have Y10 := y8.trans (y10.trans D)
    have nr4 : r4 ≠ rc := by omega
    refine ⟨[rc], _, _, _, fun W hW => ((b4.ext D).chg (show Chg [rc] w10.drew W from hW) (na nr4)).loadA0 (by kernel_rfl), ?_⟩
    refine Ret.at (spec_l01Below_c (hc7.ext Y10) (hb7.ext Y10) hne hn (k := 9000) (by decide) (by decide)) ?_
    rintro v w12 ⟨z, rfl, hz0, hz1, hc12, ch12⟩
    have z12 := ch12.size
    refine ⟨_, rfl, show Chg [rc] w10.drew w12 from ch12, exW ⟨by omega, by omega⟩ ?_⟩
    refine Ret.at (spec_IntOf_c (n := z - 2000) (by omega) (by omega)) ?_
    rintro v w13 ⟨vs13, f13, rfl, ho13, _, y13⟩
    have r13 := ho13.reps
    obtain ⟨g0, gp, gn, gc, gz, rfl, _, _⟩ := open_Signed ho13.reps (enc_code _)
    have l13 := y13.le
    refine ⟨_, _, _, _, rfl, show Chg [rc] w12 w13 from y13.toChg, ?_⟩
    have ho13b := ((ho8.ext (y10.trans D)).chg ch12 (fun x hx => na (by have := ho8.lt x hx; omega))).ext y13
    have hB2 : BkL (l ++ [(s, cur, 0)]) := hD.bk.snoc hless hsw (money_midB hck (by decide)) (by omega)
    have hmz : moneyOk (.str cur :: enc (z - 2000)) = true := money_midB hck (by omega)
    obtain ⟨pk1, pk2⟩ := hB2.post_last hmz
    have hl13 : (l ++ [(s, cur, (0 : Int))]).length = bn := by have := ho8.rows.1; simpa using this
    have hl13' : l.length + 1 = bn := by rw [<- hl13, List.length_append]; rfl
    have rM : Reps w13 [.string cur, .bool g0, .slice gp gn gc] (.str cur :: enc (z - 2000)) := ⟨rfl, r13⟩
    have hbm : bulks (.str cur :: enc (z - 2000)) <= 100000000 := by
      have := known_size hck
      have h4 : (digs (z - 2000).natAbs).length <= 4 := digs_len 4 (by omega)
      simp only [enc, bulks, D0.bulk, List.map_cons, List.map_nil, List.sum_cons, List.sum_nil]
      omega
    refine Ret.at (spec_BookPost_o ho13b.rows (bkR_code _) (by omega) (wide hB2.bulk) s rM rfl hbm) ?_
    rintro v w14 ⟨cp, cn, cc, fc, hv, ho14, y14⟩
    rw [pk1] at hv
    rw [pk2] at ho14
    subst hv
    have Z14 := y13.trans y14
    have hA14 := ((hA7.ext Y10).chg ch12 (na nr1)).ext Z14
    obtain ⟨w15, st15, hA15, ch15, z15⟩ := hA14.storeA0 (P := P) (t := T_impl_Book) (xs := [.slice cp cn cc]) (by kernel_rfl) rfl (by simp [Value.oneCell'])
    have l14 := y14.le
    refine ⟨_, _, _, _, rfl, w15, st15, ?_⟩
    refine next w15 (l ++ [(s, cur, z - 2000)]) fc cp cn cc hA15 ((ho14.mono (by omega)).chg ch15 (fun x hx => na (by have := ho14.lt x hx; omega))) ⟨hD.bk.snoc hless hsw hmz (by omega), fun x hx => ?_, by rw [List.length_append]; show l.length + 1 <= 5; omega⟩ (fun x hx => ?_) (by rw [List.length_append]; show l.length + 1 <= j + 1; omega) ?_ ?_ ?_ ?_ (by omega)
    · rcases List.mem_append.1 hx with hx | hx
      · exact hD.all x hx
      · rw [List.mem_singleton.1 hx]; exact ⟨hsm, hcur, by show (z - 2000).natAbs <= 7000; omega⟩
    · rcases List.mem_append.1 hx with hx | hx
      · exact sub5 x hx
      · rw [List.mem_singleton.1 hx, List.take_succ_eq_append_getElem hj5, hs]
        exact List.mem_append_right _ (List.mem_singleton.2 rfl)
    · exact (hc12.ext Z14).keep ch15 (na (fun e => nr1 e.symm))
    · exact (((hN7.ext Y10).chg ch12 (na nr2)).ext Z14).chg ch15 (na (by omega))
    · exact (((hr7.ext Y10).chg ch12 (na nr)).ext Z14).chg ch15 (na (by omega))
    · have h9 := ((hX7.trans Y10.toChg).trans ch12).trans Z14.toChg
      exact chg_fresh h9 ch15 sR
  · obtain ⟨w16, st16, hr16, ch16, z16⟩ := hr.storeA0 (P := P) (t := T_impl_Book) (xs := [.slice ap an ac]) (by kernel_rfl) rfl (by simp [Value.oneCell'])
    refine ⟨_, _, _, hA.loadA0 (by kernel_rfl), w16, st16, _, _, _, hr16.loadA0 (by kernel_rfl), l, f, _, _, _, rfl, (hO.chg ch16 (fun x hx => na (by have := hO.lt x hx; omega))).mono (by omega), hD, ?_⟩
    exact chg_fresh hX ch16 (fun q hq => by have := List.mem_singleton.1 hq; omega)
theorem spec_MakeBook_c {w : World} {p : Option Addr} {n c : Nat} (h : ByR w p n) (hn : n <= 1048576) : Ret P n_spec_MakeBook [.slice p n c] w fun v w' => ∃ (l : List B3) (f : List Nat) (p' : Option Addr) (n' c' : Nat), v = .agg ⟨[.slice p' n' c']⟩ /\ OwnRows w' w.heap.size T_impl_Acct 4 p' n' c' (l.map bkR) f /\ DBk l /\ Ext w w' := by
  refine spec_MakeBook_ret ?_
  unfold spec_MakeBook
  intro r w1 hn1
  have e1 := hn1.r_eq; have s1 := hn1.size
  refine Ret.at (spec_l01New_c (h.ext hn1.ext) hn) ?_
  rintro v w2 ⟨rc, rfl, hr, hc, y2⟩
  refine ⟨_, rfl, ?_⟩
  have X2 := hn1.ext.trans y2
  have hne : 0 < n -> ∀ q, p.map (·.block) = some q -> q ≠ rc := h.ne (by omega)
  refine Ret.at (spec_l17Draw_c hc (h.ext X2) hne hn) ?_
  rintro v w3 ⟨l, f, ap, an, ac, rfl, hR, hD, ch3⟩
  refine ⟨_, _, _, rfl, ?_⟩
  have b3 := (hn1.blk.ext y2).chg ch3 (fun hm => by have := List.mem_singleton.1 hm; omega)
  obtain ⟨w4, st4, b4, ch4, z4⟩ := b3.storeA0 (P := P) (t := T_impl_Book) (xs := [.slice ap an ac]) (by kernel_rfl) rfl (by simp [Value.oneCell'])
  refine ⟨w4, st4, _, _, _, b4.loadA0 (by kernel_rfl), l, f, _, _, _, rfl, (hR.chg ch4 (fun x hx hm => by have := hR.lt x hx; have := List.mem_singleton.1 hm; have := hc.lt; omega)).mono X2.le, hD, (X2.chg ch3 (fun q hq => by have := List.mem_singleton.1 hq; omega)).chg ch4 (fun q hq => by have := List.mem_singleton.1 hq; omega)⟩
end Go.Proofs.YtbgokfhcgcoipaaGreatDoor
namespace Go.Proofs.YtbgokfhcgcoipaaGreatDoor
open Go Go.Proofs.YtbgokfhcgcoipaaGreatDoor.Sx
def postN : List (List D0) -> List (List D0) -> Option (List (List D0))
  | bk, [] => some bk
  | bk, x :: r => if postOk bk (strOf x) (x.drop 1) then postN (postL bk (strOf x) (x.drop 1)) r else none
theorem postN_drop {bk l : List (List D0)} {j : Nat} (h : j < l.length) : postN bk (l.drop j) = if postOk bk (strOf l[j]) (l[j].drop 1) then postN (postL bk (strOf l[j]) (l[j].drop 1)) (l.drop (j + 1)) else none := by
  rw [List.drop_eq_getElem_cons h]
  rfl
theorem postOk_parts {bk : List (List D0)} {name : ByteArray} {m : List D0} (h : postOk bk name m = true) : bookOk bk = true /\ 0 <= acctAt bk name /\ (addM ((rowAt bk name).drop 1) m).1 = true := by
  simpa only [postOk, Bool.and_eq_true, decide_eq_true_eq] using h
theorem postL_len (bk : List (List D0)) (name : ByteArray) (m : List D0) : (postL bk name m).length = bk.length := by simp [postL]
theorem addM_bulk {x m : List D0} {c : ByteArray} {es : List D0} (hx : x = .str c :: es) (h : (addM x m).1 = true) : bulks (addM x m).2 <= c.size + 50 := by
  unfold addM at h ⊢
  split at h
  · rename_i c1 b1 z1 c2 b2 z2
    simp only [List.cons.injEq, D0.str.injEq] at hx
    obtain ⟨rfl, _⟩ := hx
    unfold mres at h ⊢
    split at h
    · rename_i hal
      rw [if_pos hal]
      simp only at h ⊢
      unfold moneyMk
      rw [if_pos h]
      have hm := h
      simp only [enc, moneyOk, Bool.and_eq_true] at hm
      obtain ⟨_, b', z', he, _, hl⟩ := intOk_enc hm.1.2
      simp only [List.cons.injEq, D0.bool.injEq, D0.ints.injEq, and_true] at he
      obtain ⟨_, he⟩ := he
      rw [enc, he]
      simp only [bulks, D0.bulk, List.map_cons, List.map_nil, List.sum_cons, List.sum_nil]
      omega
    · cases h
  · cases h
theorem bulks_app (a b : List D0) : bulks (a ++ b) = bulks a + bulks b := by simp [bulks]
theorem postL_bulk {bk : List (List D0)} (hc : ∀ x ∈ bk, x.map D0.code = [.str, .str, .bool, .ints]) {name : ByteArray} {m : List D0} {M : Nat} (hb : ∀ x ∈ bk, bulks x <= M) (h : postOk bk name m = true) : ∀ x ∈ postL bk name m, bulks x <= M + 50 := fun x hx => by
  obtain ⟨_, h0, h1⟩ := postOk_parts h
  obtain ⟨j, hj, e1, e2⟩ := acct_in h0
  rcases List.mem_or_eq_of_mem_set hx with h | h
  · have := hb x h; omega
  · have hbj := hb _ (List.getElem_mem hj)
    rw [e2] at h h1
    obtain ⟨a, es, he, c1⟩ := code_str (hc _ (List.getElem_mem hj))
    obtain ⟨c, es2, he2, c2⟩ := code_str c1
    rw [he] at h h1 hbj
    have hd : (D0.str a :: es).drop 1 = .str c :: es2 := he2
    have h3 := addM_bulk hd h1
    rw [h, bulks_app]
    have e4 : bulks ((D0.str a :: es).take 1) = a.size := by simp [bulks, D0.bulk]
    have e5 : bulks (D0.str a :: es) = a.size + (c.size + bulks es2) := by rw [he2]; simp [bulks, D0.bulk]
    omega
theorem postL_code' {bk : List (List D0)} (hc : ∀ x ∈ bk, x.map D0.code = [.str, .str, .bool, .ints]) {name : ByteArray} {m : List D0} (h : postOk bk name m = true) : ∀ x ∈ postL bk name m, x.map D0.code = [.str, .str, .bool, .ints] :=
  postL_code hc m (postOk_parts h).2.1
end Go.Proofs.YtbgokfhcgcoipaaGreatDoor
namespace Go.Proofs.YtbgokfhcgcoipaaGreatDoor
open Go Go.Proofs.YtbgokfhcgcoipaaGreatDoor.Sx
def cmpS (a b : ByteArray) : Int := if bLess a b then -1 else if a = b then 0 else 1
def rowKey (c : ByteArray) : List D0 -> Int
  | .str a :: _ => cmpS a c
  | _ => 0
theorem cmpS_neg {a b : ByteArray} : cmpS a b < 0 ↔ bLess a b = true := by
  unfold cmpS
  by_cases h : bLess a b = true
  · rw [if_pos h]; simp [h]
  · rw [if_neg h]
    by_cases e : a = b
    · rw [if_pos e]; simp [h]
    · rw [if_neg e]; simp [h]
theorem cmpS_zero {a b : ByteArray} (h : bLess a b = false) : cmpS a b = 0 ↔ a = b := by
  unfold cmpS
  rw [if_neg (by simp [h])]
  by_cases e : a = b
  · rw [if_pos e]; simp [e]
  · rw [if_neg e]; simp [e]
theorem own_zero (W : World) (B : Nat) (key : ByteArray) : Owns W B [.string key, .bool false, .slice none 0 0] (.str key :: enc 0) [] := by
  have : enc 0 = [.bool false, .ints []] := by simp [enc, digs_zero]
  rw [this]
  exact Owns.append (Owns.str _ _ _) (Owns.append (Owns.bool _ _ false) (Owns.ints (zs := []) (Own.nil W B T_int 1)))
theorem wrapU {n : Int} (h0 : 0 <= n) (h1 : n < 18446744073709551616) : IntKind.wrap .u64 n = n := by
  have : (IntKind.wrap .u64 n) = n % 18446744073709551616 := rfl
  rw [this]; exact Int.emod_eq_of_lt h0 h1
theorem half {n : Int} (h0 : 0 <= n) : Int.fdiv n (2 ^ (min (1 : Int).toNat (IntKind.bits .u64))) = n / 2 := by
  have : ((2 : Int) ^ (min (1 : Int).toNat (IntKind.bits .u64))) = 2 := rfl
  rw [this, Int.fdiv_eq_ediv_of_nonneg _ (by decide)]
theorem sumsRows_at {s : List (ByteArray × Int)} {j : Nat} {x : List D0} (h : (sumsRows s)[j]? = some x) : ∃ y, s[j]? = some y /\ x = .str y.1 :: enc y.2 := by
  unfold sumsRows at h
  rw [List.getElem?_map] at h
  cases hy : s[j]? with
  | none => rw [hy] at h; cases h
  | some y => rw [hy] at h; simp at h; exact ⟨y, rfl, h.symm⟩
theorem found_eq (s : List (ByteArray × Int)) (c : ByteArray) : (match (sumsRows s)[posOf s c]? with | some x => decide (rowKey c x = 0) | none => false) = hasAt s c := by
  unfold hasAt sumsRows
  rw [List.getElem?_map]
  cases hy : s[posOf s c]? with
  | none => rfl
  | some y =>
    have h0 := posOf_at s c y hy
    show decide (cmpS y.1 c = 0) = decide (y.1 = c)
    rw [decide_eq_decide]
    exact cmpS_zero h0
theorem cmp_Compare_string_c {w : World} (a b : ByteArray) : Ret P n_cmp_Compare_string [.string a, .string b] w fun v w' => v = .int .i64 (cmpS a b) /\ Ext w w' := by
  have nan : ∀ (x : ByteArray) (w : World), Ret P n_cmp_isNaN_string [.string x] w fun v w' => v = .bool false /\ Ext w w' := fun x w => by
    refine cmp_isNaN_string_ret ?_
    unfold cmp_isNaN_string
    exact ⟨by simp, Ext.refl w⟩
  refine cmp_Compare_string_ret ?_
  unfold cmp_Compare_string
  refine Ret.at (nan a w) ?_
  rintro v w1 ⟨hv, y1⟩
  subst hv
  refine ⟨_, rfl, ?_⟩
  refine Ret.at (nan b w1) ?_
  rintro v w2 ⟨hv, y2⟩
  subst hv
  have y := y1.trans y2
  refine ⟨_, rfl, fun h => absurd h (by simp), fun _ => ⟨fun h => absurd h (by simp), fun _ => ⟨fun h => ⟨?_, y⟩, fun h => ⟨fun g => ⟨?_, y⟩, fun g => ⟨?_, y⟩⟩⟩⟩⟩
  · show _ = Value.int .i64 (cmpS a b)
    unfold cmpS; rw [if_pos (show bLess a b = true from h)]
  · unfold cmpS
    rw [if_neg (show ¬ bLess a b = true by show ¬ Op.bytesLess _ _ = true; rw [h]; simp)]
    rw [h] at g
    simp at g
    rw [if_neg g]
  · unfold cmpS
    rw [if_neg (show ¬ bLess a b = true by show ¬ Op.bytesLess _ _ = true; rw [h]; simp)]
    rw [h] at g
    simp at g
    rw [if_pos g]
theorem impl_legSums_1_c {w : World} {xs ys : List Value} {a b : ByteArray} {d e : Bool} {z z2 : List Int} (h : Reps w xs [.str a, .bool d, .ints z]) (g : Reps w ys [.str b, .bool e, .ints z2]) :
    Ret P n_impl_legSums_1 [.agg ⟨xs⟩, .agg ⟨ys⟩] w fun v w' => v = .int .i64 (cmpS a b) /\ Ext w w' := by
  obtain ⟨a0, a1, ap, an, ac, az, rfl, hd, _⟩ := open_Money h rfl
  obtain ⟨b0, b1, bp, bn, bc, bz, rfl, he, _⟩ := open_Money g rfl
  cases hd
  cases he
  refine impl_legSums_1_ret ?_
  unfold impl_legSums_1
  intro r w1 hn1 r1 w2 hn2
  have q0 := hn1.blk.ext hn2.ext; have q1 := hn2.blk
  refine ⟨_, q0.loadAt 0 rfl (by kernel_rfl) rfl, _, q1.loadAt 0 rfl (by kernel_rfl) rfl, ?_⟩
  refine Ret.at (cmp_Compare_string_c a b) ?_
  rintro v w3 ⟨hv, y3⟩
  subst hv
  exact ⟨_, rfl, rfl, (hn1.ext.trans hn2.ext).trans y3⟩
theorem bs_Money_c {w : World} {p : Option Addr} {n c : Nat} {l : List (List D0)} {xs : List Value} {dt : List D0} (h : RowsR w 3 p n c l) (hc : ∀ x ∈ l, x.map D0.code = [.str, .bool, .ints]) (g : Reps w xs dt) (gc : dt.map D0.code = [.str, .bool, .ints]) (f : Value) (q : List D0 -> Int)
    (hf : ∀ cs x w', Ext w w' -> x ∈ l -> Reps w' cs x -> Reps w' xs dt -> CallW P f [.agg ⟨cs⟩, .agg ⟨xs⟩] w' fun e w'' => e = .returned (.int .i64 (q x)) /\ Ext w' w'') (k : Nat) (hk : k <= n)
    (hlo : ∀ j x, l[j]? = some x -> j < k -> q x < 0) (hhi : ∀ j x, l[j]? = some x -> k <= j -> ¬ q x < 0) (hn : n <= 4611686018427387904) :
    Ret P n_slices_BinarySearchFunc_impl_Money_impl_Money_impl_Money [.slice p n c, .agg ⟨xs⟩, f] w fun v w' => v = .tuple #[.int .i64 (k : Nat), .bool (match l[k]? with | some x => decide (q x = 0) | none => false)] /\ Ext w w' := by
  have hln := h.1
  have gr := g
  obtain ⟨t0, t1, tp, tn, tc, tz, rfl, rfl, _⟩ := open_Money g gc
  refine slices_BinarySearchFunc_impl_Money_impl_Money_impl_Money_ret ?_
  unfold slices_BinarySearchFunc_impl_Money_impl_Money_impl_Money
  intro r w1 hn1
  have q0 := hn1.blk
  have row : ∀ j (hj : j < n), ∃ b off cs, p = some ⟨b, off, none⟩ /\ cs.length = 3 /\ Reps w cs (l[j]'(by omega)) /\ Seg w b (off + j * 3) cs := fun j hj => by
    obtain ⟨b, off, hp, hs⟩ := h.2.2.2 (by omega)
    obtain ⟨cs, h1, h2, h3⟩ := hs j _ (List.getElem?_eq_getElem (by omega))
    exact ⟨b, off, cs, hp, h1, h2, h3⟩
  refine ⟨fun i j wr => ∃ a b : Nat, i = a /\ j = b /\ a <= k /\ k <= b /\ b <= n /\ Ext w1 wr, fun i j _ => (j - i).toNat, ⟨0, n, rfl, rfl, Nat.zero_le _, hk, Nat.le_refl _, Ext.refl _⟩, ?_⟩
  intro junk wr i j ⟨a, b, hia, hjb, ha, hb, hbn, hx⟩
  subst hia
  subst hjb
  have hd := hx.trans (Ext.drew wr)
  have X := hn1.ext.trans hd
  refine ifD (fun hlt => ?_) (fun hge => ?_)
  · have hm : (a + b) / 2 < n := by omega
    obtain ⟨pb, po, cs, hp, hcs, hr, hsg⟩ := row ((a + b) / 2) hm
    subst hp
    have hml : (a + b) / 2 < l.length := by omega
    have hmem : l[(a + b) / 2] ∈ l := List.getElem_mem hml
    have hr2 := hr
    obtain ⟨c0, c1, cp, cn, cc, cz, rfl, hdd, _⟩ := open_Money hr (hc _ hmem)
    refine exW ⟨by omega, by omega⟩ ⟨_, (wrapU (by omega) (by omega)).symm, by decide, _, (half (by omega)).symm, exW ⟨by omega, by omega⟩ ⟨⟨by omega, by omega⟩, ?_⟩⟩
    rw [show ((((a : Nat) : Int) + ((b : Nat) : Int)) / 2).toNat = (a + b) / 2 by omega]
    refine ⟨_, _, _, _, _, fun W hW => (hsg.ext (X.trans hW)).loadAAt 0 [.string c0, .bool c1, .slice cp cn cc] (by rw [addr_add, Nat.add_zero]) (by kernel_rfl) rfl, _, _, _, _, _, fun W hW => (q0.ext (hd.trans hW)).loadA0 (by kernel_rfl), ?_⟩
    obtain ⟨g1, first, captured, h1, h2, h3⟩ := hf _ _ _ X hmem (hr2.ext X) (gr.ext X)
    refine ⟨g1, first, captured, h1, h2, Calls.mono h3 fun e w2 ⟨he, hy⟩ => ?_⟩
    refine ⟨_, he, ifD (fun hneg => exW ⟨by omega, by omega⟩ ⟨⟨(a + b) / 2 + 1, b, by omega, rfl, ?_, hb, hbn, hd.trans hy⟩, ?_⟩) (fun hpos => ⟨⟨a, (a + b) / 2, rfl, by omega, ha, ?_, by omega, hd.trans hy⟩, ?_⟩)⟩
    · rcases Nat.lt_or_ge ((a + b) / 2) k with h | h
      · omega
      · exact absurd hneg (hhi _ _ (List.getElem?_eq_getElem hml) h)
    · show (((b : Nat) : Int) - (((a : Int) + (b : Int)) / 2 + 1)).toNat < (((b : Nat) : Int) - ((a : Nat) : Int)).toNat
      omega
    · rcases Nat.lt_or_ge ((a + b) / 2) k with h | h
      · exact absurd (hlo _ _ (List.getElem?_eq_getElem hml) h) hpos
      · omega
    · show ((((a : Int) + (b : Int)) / 2) - ((a : Nat) : Int)).toNat < (((b : Nat) : Int) - ((a : Nat) : Int)).toNat
      omega
  · have hak : a = k := by omega
    subst hak
    refine ifD (fun hlt => ?_) (fun hge2 => ?_)
    · obtain ⟨pb, po, cs, hp, hcs, hr, hsg⟩ := row a (by omega)
      subst hp
      have hml : a < l.length := by omega
      have hmem : l[a] ∈ l := List.getElem_mem hml
      have hr2 := hr
      obtain ⟨c0, c1, cp, cn, cc, cz, rfl, hdd, _⟩ := open_Money hr (hc _ hmem)
      refine ⟨⟨by omega, by omega⟩, ?_⟩
      rw [Int.toNat_natCast]
      refine ⟨_, _, _, _, _, fun W hW => (hsg.ext (X.trans hW)).loadAAt 0 [.string c0, .bool c1, .slice cp cn cc] (by rw [addr_add, Nat.add_zero]) (by kernel_rfl) rfl, _, _, _, _, _, fun W hW => (q0.ext (hd.trans hW)).loadA0 (by kernel_rfl), ?_⟩
      obtain ⟨g1, first, captured, h1, h2, h3⟩ := hf _ _ _ X hmem (hr2.ext X) (gr.ext X)
      refine ⟨g1, first, captured, h1, h2, Calls.mono h3 fun e w2 ⟨he, hy⟩ => ?_⟩
      exact ⟨_, he, by rw [List.getElem?_eq_getElem hml], X.trans hy⟩
    · exact ⟨by rw [List.getElem?_eq_none (by omega)], X⟩
theorem at_Money_c {w : World} {B q : Nat} {p : Option Addr} {n c : Nat} {s : List (ByteArray × Int)} {f : List Nat} {cf : Value} (hq : Blk w q T_impl_ordered_loop_example_g00793_impl_Money [.slice p n c, cf]) (ho : OwnRows w B T_impl_Money 3 p n c (sumsRows s) f) (hord : Ordered s) (hqf : q ∉ f) (hB : B <= w.heap.size) (hn : n <= 1000000)
    (hcf1 : cf.oneCell' = true) (hcf : ∀ cs ys a b d e z z2 w', Ext w w' -> Reps w' cs [.str a, .bool d, .ints z] -> Reps w' ys [.str b, .bool e, .ints z2] -> CallW P cf [.agg ⟨cs⟩, .agg ⟨ys⟩] w' fun e w'' => e = .returned (.int .i64 (cmpS a b)) /\ Ext w' w'') (key : ByteArray) :
    Ret P n_impl_ordered_impl_Money_at [.pointer (some ⟨q, 0, none⟩), .agg ⟨[.string key, .bool false, .slice none 0 0]⟩] w fun v w' => ∃ b n' c' f', v = .pointer (some ⟨b, posOf s key * 3, none⟩) /\ Blk w' q T_impl_ordered_loop_example_g00793_impl_Money [.slice (some ⟨b, 0, none⟩) n' c', cf] /\
      OwnRows w' B T_impl_Money 3 (some ⟨b, 0, none⟩) n' c' (sumsRows (sumAdd s key 0)) f' /\ Chg (q :: (p.map (·.block)).toList) w w' /\ (∀ k ∈ f', k ∈ f ∨ w.heap.size <= k) := by
  have hsl : s.length = n := by have := ho.1; rwa [sumsRows_len] at this
  have hpl := posOf_le s key
  have hql := hq.lt
  refine impl_ordered_impl_Money_at_ret ?_
  unfold impl_ordered_impl_Money_at
  intro r w1 hn1
  have q0 := hn1.blk
  have hd := Ext.drew w1
  have X1 := hn1.ext.trans hd
  have hcode := sumsRows_code (s := s)
  refine ⟨_, _, _, fun W hW => (hq.ext (X1.trans hW)).loadAt 0 rfl (by kernel_rfl) rfl, _, _, _, _, _, fun W hW => (q0.ext (hd.trans hW)).loadA0 (by kernel_rfl), _, fun W hW => (hq.ext (X1.trans hW)).loadAt 1 rfl (by kernel_rfl) rfl, ?_⟩
  have hz : Reps w1.drew [.string key, .bool false, .slice none 0 0] [.str key, .bool false, .ints []] := by
    have := (own_zero w1.drew 0 key).reps
    have e0 : enc 0 = [.bool false, .ints []] := by simp [enc, digs_zero]
    rwa [e0] at this
  refine Ret.at (bs_Money_c (ho.rows.ext X1) hcode hz rfl cf (rowKey key) (fun cs x w' hx hm hr hr2 => ?_) (posOf s key) (by omega) (fun j x hj hlt => ?_) (fun j x hj hge => ?_) (by omega)) ?_
  · obtain ⟨j, hj⟩ := List.getElem?_of_mem hm
    obtain ⟨y, _, rfl⟩ := sumsRows_at hj
    exact hcf _ _ _ _ _ _ _ _ _ (X1.trans hx) hr hr2
  · obtain ⟨y, hy, rfl⟩ := sumsRows_at hj
    exact cmpS_neg.2 (posOf_lo s key j y hy hlt)
  · obtain ⟨y, hy, rfl⟩ := sumsRows_at hj
    intro hh
    have := cmpS_neg.1 hh
    rw [posOf_hi hord hy hge] at this
    cases this
  rintro v w2 ⟨hv, y2⟩
  subst hv
  rw [found_eq]
  have X2 := X1.trans y2
  have fin : ∀ (W : World) (b n' c' : Nat) (f' : List Nat), Blk W q T_impl_ordered_loop_example_g00793_impl_Money [.slice (some ⟨b, 0, none⟩) n' c', cf] -> OwnRows W B T_impl_Money 3 (some ⟨b, 0, none⟩) n' c' (sumsRows (sumAdd s key 0)) f' -> Chg (q :: (p.map (·.block)).toList) w W -> (∀ k ∈ f', k ∈ f ∨ w.heap.size <= k) ->
      impl_ordered_impl_Money_at_j0 (some ⟨q, 0, none⟩) ((posOf s key : Nat) : Int) W (fun v w' => ∃ b n' c' f', v = .pointer (some ⟨b, posOf s key * 3, none⟩) /\ Blk w' q T_impl_ordered_loop_example_g00793_impl_Money [.slice (some ⟨b, 0, none⟩) n' c', cf] /\ OwnRows w' B T_impl_Money 3 (some ⟨b, 0, none⟩) n' c' (sumsRows (sumAdd s key 0)) f' /\ Chg (q :: (p.map (·.block)).toList) w w' /\ (∀ k ∈ f', k ∈ f ∨ w.heap.size <= k)) := by
    intro W b n' c' f' h1 h2 h3 h4
    have hl := h2.1
    rw [sumsRows_len] at hl
    have := (sumAdd_len s key 0).2
    unfold impl_ordered_impl_Money_at_j0
    refine ⟨_, _, _, h1.loadAt 0 rfl (by kernel_rfl) rfl, ⟨by omega, by omega⟩, ?_⟩
    rw [Int.toNat_natCast]
    exact ⟨b, n', c', f', by rw [addr_add, Nat.zero_add], h1, h2, h3, h4⟩
  refine ⟨_, _, rfl, ifN (fun hno => ?_) (fun hyes => ?_)⟩
  · have hd2 := Ext.drew w2
    have X3 := X2.trans hd2
    refine ⟨_, _, _, fun W hW => (hq.ext (X3.trans hW)).loadAt 0 rfl (by kernel_rfl) rfl, _, _, _, _, _, fun W hW => (q0.ext ((hd.trans y2).trans (hd2.trans hW))).loadA0 (by kernel_rfl), ?_⟩
    intro r1 w3 hn3
    have e3 := hn3.r_eq
    have z3 := hn3.size
    refine ⟨hn3.ext, ?_⟩
    have X4 := X3.trans hn3.ext
    have l3 := X3.le
    obtain ⟨xs, hown, h1, hput⟩ := (ho.ext X4).ins (i := posOf s key) (by omega)
    have hpb : p.map (·.block) ≠ some r1 := fun e => by
      have h2 := (ho.lt r1 (by obtain ⟨_, _, _, _, _, hf, _⟩ := ho; rw [hf]; exact List.mem_append_left _ (mem_opt e))).2
      have := X3.le
      omega
    refine Ret.at (ins_Money_c hown h1 hn3.blk rfl (by simp [Value.oneCell']) hpb (by omega) (by have := X4.le; omega) (by omega)) ?_
    rintro v w4 ⟨p', c', hv, hown', hch, hp⟩
    subst hv
    obtain ⟨f', hor, hf'⟩ := hput w4 p' c' _ _ [] hown' hch hp rfl (own_zero w4 B key) List.nodup_nil (fun q hq => by simp at hq) (fun q hq => by simp at hq)
    have hpq : q ∉ (p.map (·.block)).toList := fun hm => hqf (by obtain ⟨_, _, _, _, _, hf, _⟩ := ho; rw [hf]; exact List.mem_append_left _ hm)
    obtain ⟨w5, st5, hb5, ch5, sz5⟩ := ((hq.ext X4).chg hch hpq).store0 (P := P) (t := T_s_impl_Money) (k := 0) (v := .slice p' (n + 1) c') (by kernel_rfl) (by simp) rfl
    refine ⟨_, _, _, rfl, w5, st5, ?_⟩
    have hsum : sumsRows (sumAdd s key 0) = (sumsRows s).take (posOf s key) ++ (.str key :: enc 0) :: (sumsRows s).drop (posOf s key) := by
      rw [sumAdd_new hno]
      simp [sumsRows, List.map_take, List.map_drop]
    rw [<- hsum] at hor
    have hqf' : q ∉ f' := fun hm => by
      rcases hf' q hm with h | h | h
      · exact hqf h
      · simp at h
      · have := X4.le; omega
    have hor5 := hor.chg ch5 (fun k hk hm => hqf' (by simp at hm; rwa [<- hm]))
    obtain ⟨b', ys, rfl, _⟩ := hown'.blk (by omega)
    refine fin w5 b' (n + 1) c' f' hb5 hor5 ?_ (fun k hk => ?_)
    · exact (X4.toChg.trans (hch.mono (fun k hk => List.mem_cons_of_mem _ hk))).trans (ch5.mono (fun k hk => by simp at hk; simp [hk]))
    · rcases hf' k hk with h | h | h
      · exact .inl h
      · simp at h
      · exact .inr (by have := X4.le; omega)
  · obtain ⟨v, hv1, hv2⟩ := sumAdd_has (u := 0) hyes
    have hlt := (List.getElem?_eq_some_iff.1 hv1).1
    have hs : sumAdd s key 0 = s := by
      rw [hv2, Int.add_zero]
      obtain ⟨h1, h2⟩ := List.getElem?_eq_some_iff.1 hv1
      rw [<- h2, List.set_getElem_self]
    obtain ⟨xs, hown, _, _⟩ := ho.ins (i := 0) (by omega)
    obtain ⟨b', ys, rfl, _⟩ := hown.blk (by omega)
    refine fin w2 b' n c f (hq.ext X2) ?_ X2.toChg (fun k hk => .inl hk)
    rw [hs]
    exact ho.ext X2
end Go.Proofs.YtbgokfhcgcoipaaGreatDoor
namespace Go.Proofs.YtbgokfhcgcoipaaGreatDoor
open Go Go.Proofs.YtbgokfhcgcoipaaGreatDoor.Sx
def legKV : List D0 -> ByteArray × Int
  | [_, .str c, .bool b, .ints z] => (c, ival [.bool b, .ints z])
  | _ => (ByteArray.empty, 0)
def sumsTo (l : List (List D0)) (j : Nat) : List (ByteArray × Int) := (l.take j).foldl (fun s x => sumAdd s (legKV x).1 (legKV x).2) []
theorem sumsTo_succ {l : List (List D0)} {j : Nat} (h : j < l.length) : sumsTo l (j + 1) = sumAdd (sumsTo l j) (legKV l[j]).1 (legKV l[j]).2 := by
  unfold sumsTo
  rw [List.take_succ_eq_append_getElem h, List.foldl_append]
  rfl
theorem sumsTo_ordered (l : List (List D0)) : ∀ j, j <= l.length -> Ordered (sumsTo l j)
  | 0, _ => List.Pairwise.nil
  | j + 1, h => by rw [sumsTo_succ (by omega)]; exact sumAdd_ordered (sumsTo_ordered l j (by omega))
theorem sumsTo_len (l : List (List D0)) : ∀ j, j <= l.length -> (sumsTo l j).length <= j
  | 0, _ => Nat.le_refl _
  | j + 1, h => by
    rw [sumsTo_succ (by omega)]
    have := (sumAdd_len (sumsTo l j) (legKV l[j]).1 (legKV l[j]).2).1
    have := sumsTo_len l j (by omega)
    omega
theorem sumAdd_bound {M N : Nat} : ∀ {s : List (ByteArray × Int)} {c : ByteArray} {u : Int}, (∀ x ∈ s, x.2.natAbs <= M) -> u.natAbs <= N -> ∀ x ∈ sumAdd s c u, x.2.natAbs <= M + N
  | [], c, u, _, hu, x, hx => by simp [sumAdd] at hx; subst hx; show u.natAbs <= M + N; omega
  | y :: r, c, u, h, hu, x, hx => by
    have hy := h y List.mem_cons_self
    have hr : ∀ x ∈ r, x.2.natAbs <= M := fun x hx => h x (List.mem_cons_of_mem _ hx)
    unfold sumAdd at hx
    split at hx
    · rcases List.mem_cons.1 hx with hx | hx
      · rw [hx]; omega
      · exact sumAdd_bound hr hu x hx
    · split at hx
      · rcases List.mem_cons.1 hx with hx | hx
        · rw [hx]; show (y.2 + u).natAbs <= M + N; omega
        · have := hr x hx; omega
      · rcases List.mem_cons.1 hx with hx | hx
        · rw [hx]; show u.natAbs <= M + N; omega
        · have := h x hx; omega
theorem money_abs {c : ByteArray} {b : Bool} {z : List Int} (h : moneyOk [.str c, .bool b, .ints z] = true) : ∃ u : Int, [D0.bool b, .ints z] = enc u /\ u = ival [.bool b, .ints z] /\ u.natAbs <= 1000000000000000000000000000000000000 := by
  have hi := moneyOk_int h
  refine ⟨_, (intOk_enc hi).1, rfl, ?_⟩
  have : msOk c [.str c, .bool b, .ints z] = true := by simp only [msOk, h, decide_true, Bool.and_self]
  exact val_bound this
theorem leg_facts {x : List D0} (hc : x.map D0.code = [.str, .str, .bool, .ints]) (h : legOk x = true) : ∃ nm c u, x = .str nm :: .str c :: enc u /\ u.natAbs <= 1000000000000000000000000000000000000 /\ legKV x = (c, u) /\ moneyOk (.str c :: enc u) = true := by
  obtain ⟨nm, es, he, c1⟩ := code_str hc
  obtain ⟨c, es2, he2, c2⟩ := code_str c1
  obtain ⟨b, es3, he3, c3⟩ := code_bool c2
  obtain ⟨z, es4, he4, c4⟩ := code_ints c3
  have := code_nil c4
  subst this; subst he4; subst he3; subst he2; subst he
  simp only [legOk, Bool.and_eq_true] at h
  obtain ⟨u, h1, h2, h3⟩ := money_abs h.2
  refine ⟨nm, c, u, by rw [h1], h3, by rw [h2]; rfl, by rw [<- h1]; exact h.2⟩
theorem legs_facts {l : List (List D0)} (hok : legsOk l = true) : 1 <= l.length /\ l.length <= 8 /\ ∀ x ∈ l, legOk x = true := by
  simp only [legsOk, Bool.and_eq_true, decide_eq_true_eq, List.all_eq_true] at hok
  exact ⟨hok.1.1, hok.1.2, hok.2⟩
theorem sumsTo_bound {l : List (List D0)} (hc : ∀ x ∈ l, x.map D0.code = [.str, .str, .bool, .ints]) (hok : legsOk l = true) : ∀ j, j <= l.length -> ∀ x ∈ sumsTo l j, x.2.natAbs <= j * 1000000000000000000000000000000000000
  | 0, _, x, hx => by simp [sumsTo] at hx
  | j + 1, h, x, hx => by
    rw [sumsTo_succ (by omega)] at hx
    obtain ⟨_, _, hall⟩ := legs_facts hok
    have hm : l[j] ∈ l := List.getElem_mem (by omega)
    obtain ⟨nm, c, u, he, hu, hk, _⟩ := leg_facts (hc _ hm) (hall _ hm)
    rw [hk] at hx
    have := sumAdd_bound (sumsTo_bound hc hok j (by omega)) hu x hx
    rw [Nat.succ_mul]
    exact this
theorem impl_legSums_o {w : World} {p : Option Addr} {n c : Nat} {l : List (List D0)} (h : RowsR w 4 p n c l) (hc : ∀ x ∈ l, x.map D0.code = [.str, .str, .bool, .ints]) (hok : legsOk l = true) :
    Ret P n_impl_legSums [.slice p n c] w fun v w' => ∃ p' n' c' f, v = .slice p' n' c' /\ OwnRows w' w.heap.size T_impl_Money 3 p' n' c' (sumsRows (sumsTo l n)) f /\ Ext w w' := by
  have hln := h.1
  obtain ⟨hl1, hl8, hall⟩ := legs_facts hok
  refine impl_legSums_ret ?_
  unfold impl_legSums
  intro r w1 hn1
  have e1 := hn1.r_eq; have z1 := hn1.size
  obtain ⟨w2, st2, b2, y2⟩ := hn1.fill (P := P) (t := T_impl_ordered_loop_example_g00793_impl_Money) (xs := [.slice none 0 0, .func (.func 209) ⟨[]⟩ ⟨[]⟩]) (by simp [Value.oneCell']) (by kernel_rfl) rfl
  have lb2 := b2.lt
  refine ⟨w2, st2, fun i wr => ∃ (j : Nat) (p' : Option Addr) (n' c' : Nat) (f : List Nat), i = j /\ j <= n /\ Blk wr r T_impl_ordered_loop_example_g00793_impl_Money [.slice p' n' c', .func (.func 209) ⟨[]⟩ ⟨[]⟩] /\ OwnRows wr (w.heap.size + 1) T_impl_Money 3 p' n' c' (sumsRows (sumsTo l j)) f /\ Ext w wr, fun i _ => n - i.toNat, ⟨0, none, 0, 0, [], rfl, Nat.zero_le _, b2, ⟨rfl, [], [], trivial, Own.nil _ _ _ _, by simp, by simp⟩, y2⟩, ?_⟩
  intro junk wr i ⟨j, p', n', c', f, hij, hj, hbr, ho, hx⟩
  subst hij
  refine ifD (fun hlt => ?_) (fun hge => ?_)
  rotate_left
  · have hjn : j = n := by omega
    subst hjn
    exact ⟨_, _, _, hbr.loadAt 0 rfl (by kernel_rfl) rfl, _, _, _, f, rfl, ho.mono (by omega), hx⟩
  have hjn : j < n := by omega
  have hjl : j < l.length := by omega
  obtain ⟨a, cs, hp, hk, hr, hld⟩ := (h.ext hx).at (P := P) (t := T_impl_Leg) (by kernel_rfl) hjn
  subst hp
  have hm : l[j] ∈ l := List.getElem_mem hjl
  obtain ⟨nm, key, u, he, hu, hkv, _⟩ := leg_facts (hc _ hm) (hall _ hm)
  rw [he] at hr
  obtain ⟨s0, s1, s2, sp, sn, sc, sz, rfl, hd, hsi⟩ := open_Leg hr rfl
  simp only [enc, List.cons.injEq, D0.str.injEq, D0.bool.injEq, D0.ints.injEq, and_true] at hd
  obtain ⟨rfl, rfl, rfl, rfl⟩ := hd
  have hru : Reps wr [.bool (decide (u < 0)), .slice sp sn sc] (enc u) := ⟨rfl, ⟨_, _, _, rfl, hsi⟩, trivial⟩
  refine ⟨⟨by omega, by omega⟩, _, _, _, _, _, _, by simpa using hld, ?_⟩
  intro r1 w3 hn3
  have e3 := hn3.r_eq
  obtain ⟨w4, st4, b4, y4⟩ := hn3.fill (P := P) (t := T_impl_Leg) (xs := [.string nm, .string key, .bool (decide (u < 0)), .slice sp sn sc]) (by simp [Value.oneCell']) (by kernel_rfl) rfl
  have lx := hx.le; have l4 := y4.le
  have hrl := hbr.lt
  have hsl := ho.1
  rw [sumsRows_len] at hsl
  have hslen := sumsTo_len l j (by omega)
  refine ⟨w4, st4, _, b4.loadAt 1 rfl (by kernel_rfl) rfl, ?_⟩
  refine Ret.at (at_Money_c (hbr.ext y4) (ho.ext y4) (sumsTo_ordered l j (by omega)) (fun hm => by have := (ho.lt r hm).1; omega) (by omega) (by omega) rfl (fun cs ys a b d e z z2 w' hx2 h1 h2 => ?_) key) ?_
  · refine ⟨_, _, _, rfl, by kernel_rfl, ?_⟩
    refine Calls.mono (impl_legSums_1_c h1 h2) ?_
    rintro e w'' ⟨v, he, hv, y⟩
    subst hv
    exact ⟨he, y⟩
  rintro v w5 ⟨b, n2, c2, f2, hv, hb5, ho5, hch5, hf5⟩
  subst hv
  have hpB : ∀ q ∈ (p'.map (·.block)).toList, w.heap.size + 1 <= q := fun q hq => (ho.lt q (by obtain ⟨_, _, _, _, _, hf, _⟩ := ho; rw [hf]; exact List.mem_append_left _ hq)).1
  have hrl := hbr.lt
  have X5 : Ext w w5 := (hx.trans y4).chg hch5 (fun q hq => by
    rcases List.mem_cons.1 hq with hq | hq
    · omega
    · have := hpB q hq; omega)
  have b4' : Blk w5 r1 T_impl_Leg [.string nm, .string key, .bool (decide (u < 0)), .slice sp sn sc] := b4.chg hch5 (fun hm => by
    rcases List.mem_cons.1 hm with hm | hm
    · omega
    · have := (ho.lt r1 (by obtain ⟨_, _, _, _, _, hf, _⟩ := ho; rw [hf]; exact List.mem_append_left _ hm)).2; omega)
  obtain ⟨v, hv1, hv2⟩ := sumAdd_two (s := sumsTo l j) (c := key) (u := u)
  have hrow : (sumsRows (sumAdd (sumsTo l j) key 0))[posOf (sumsTo l j) key]? = some (.str key :: enc v) := by
    unfold sumsRows
    rw [List.getElem?_map, hv1]
    rfl
  have hvb : v.natAbs <= j * 1000000000000000000000000000000000000 := by
    have := sumAdd_bound (N := 0) (c := key) (u := 0) (sumsTo_bound hc hok j (by omega)) (by simp) _ (List.mem_of_getElem? hv1)
    simpa using this
  have hvb8 : v.natAbs <= 8 * 1000000000000000000000000000000000000 := Nat.le_trans hvb (Nat.mul_le_mul_right _ (by omega))
  obtain ⟨b', xs, cs5, zs, hpb, hbB, hbf, hxl, hcl, hblk, hrep, hput⟩ := ho5.put hrow
  simp only [Option.some.injEq, Addr.mk.injEq, and_true] at hpb
  obtain rfl := hpb
  obtain ⟨k0, k1, kp, kn, kc, kz, rfl, hkd, hki⟩ := open_Money hrep rfl
  simp only [enc, List.cons.injEq, D0.str.injEq, D0.bool.injEq, D0.ints.injEq, and_true] at hkd
  obtain ⟨rfl, rfl, rfl⟩ := hkd
  have d5 := Ext.drew w5
  have hld1 : ∀ W, Ext w5.drew W -> Loads P T_impl_Signed ((⟨b, posOf (sumsTo l j) key * 3, none⟩ : Addr).add 1) (.agg #[.bool (decide (v < 0)), .slice kp kn kc]) W := fun W hW =>
    ((hblk.ext d5).ext hW).loadAAt (posOf (sumsTo l j) key * 3 + 1) [.bool (decide (v < 0)), .slice kp kn kc] (by rw [addr_add]) (by kernel_rfl) (by rw [<- hxl, List.append_assoc, List.drop_length_add_append]; rfl)
  have hrv : Reps w5.drew [.bool (decide (v < 0)), .slice kp kn kc] (enc v) := ⟨rfl, ⟨_, _, _, rfl, hki.ext d5⟩, trivial⟩
  refine ⟨_, rfl, _, _, _, _, hld1, _, _, _, _, fun W hW => ((b4'.ext d5).ext hW).loadAAt 2 [.bool (decide (u < 0)), .slice sp sn sc] rfl (by kernel_rfl) rfl, ?_⟩
  have hru5 : Reps w5.drew [.bool (decide (u < 0)), .slice sp sn sc] (enc u) := by
    have hk2 : IntsR w sp sn sc (digs u.natAbs) := by
      obtain ⟨b0, off0, hp0, hs0⟩ := h.2.2.2 (by omega)
      obtain ⟨cs0, hc0, hr0, hsg0⟩ := hs0 j _ (List.getElem?_eq_getElem hjl)
      rw [he] at hr0
      obtain ⟨q0, q1, q2, qp, qn, qc, qz, rfl, hqd, hqi⟩ := open_Leg hr0 rfl
      simp only [enc, List.cons.injEq, D0.str.injEq, D0.bool.injEq, D0.ints.injEq, and_true] at hqd
      obtain ⟨rfl, rfl, rfl, rfl⟩ := hqd
      have hl2 : Loads P T_impl_Leg ((⟨b0, off0, none⟩ : Addr).add (j * 4)) (.agg ⟨[.string nm, .string key, .bool (decide (u < 0)), .slice qp qn qc]⟩) wr := (hsg0.ext hx).loadAAt 0 _ (by rw [addr_add]; rfl) (by kernel_rfl) rfl
      simp only [Option.some.injEq] at hp0
      subst hp0
      have := hl2.symm.trans hld
      injection this with h1 h2
      simp only [Value.agg.injEq, Array.mk.injEq, List.cons.injEq, Value.slice.injEq, true_and, and_true] at h1
      obtain ⟨rfl, rfl, rfl⟩ := h1
      exact hqi
    exact ⟨rfl, ⟨_, _, _, rfl, hk2.ext (X5.trans d5)⟩, trivial⟩
  have hlim : ∀ x : Int, x.natAbs <= 9 * 1000000000000000000000000000000000000 -> (digs x.natAbs).length <= 10000000 := fun x hx => by have := digs_len_le (n := x.natAbs) (by omega); omega
  refine Ret.at (impl_intAdd_c hrv hru5 (hlim v (Nat.le_trans hvb8 (Nat.mul_le_mul_right _ (by decide)))) (hlim u (Nat.le_trans hu (Nat.le_mul_of_pos_left _ (by decide))))) ?_
  rintro v8 w8 ⟨mp, mn, mc, hv8, hown8, y8⟩
  subst hv8
  have Y8 := d5.trans y8
  have hblk8 := hblk.ext Y8
  have hpl : posOf (sumsTo l j) key * 3 + 3 <= (xs ++ [Value.string key, Value.bool (decide (v < 0)), Value.slice kp kn kc] ++ zs).length := by simp [hxl]
  obtain ⟨w9, st9, hb9, ch9, sz9⟩ := hblk8.storeA (P := P) (t := T_impl_Signed) (k := posOf (sumsTo l j) key * 3 + 1) (xs := [.bool (decide (v + u < 0)), .slice mp mn mc]) (by kernel_rfl) (by simp only [List.length_cons, List.length_nil]; omega) (by simp [Value.oneCell'])
  refine ⟨_, _, _, _, rfl, w9, ?_, ?_⟩
  · rw [addr_add] at st9 ⊢
    rw [Nat.zero_add] at st9
    exact st9
  have hnew : (xs ++ [Value.string key, Value.bool (decide (v < 0)), Value.slice kp kn kc] ++ zs).take (posOf (sumsTo l j) key * 3 + 1) ++ [Value.bool (decide (v + u < 0)), .slice mp mn mc] ++ (xs ++ [Value.string key, Value.bool (decide (v < 0)), Value.slice kp kn kc] ++ zs).drop (posOf (sumsTo l j) key * 3 + 1 + [Value.bool (decide (v + u < 0)), .slice mp mn mc].length) = xs ++ [Value.string key, Value.bool (decide (v + u < 0)), .slice mp mn mc] ++ zs := by
    rw [<- hxl, List.append_assoc xs, List.take_length_add_append, Nat.add_assoc, List.drop_length_add_append]
    simp
  rw [hnew] at hb9
  have hown9 : Owns w9 (w.heap.size + 1) [.string key, .bool (decide (v + u < 0)), .slice mp mn mc] (.str key :: enc (v + u)) ((mp.map (·.block)).toList) := by
    have hb := hblk.lt
    have := (Owns.int2 (b := decide (v + u < 0)) hown8).chg ch9 (fun k hk hm => by
      have h1 := (World.ownsRow.lt hown8 k (by cases mp <;> simp_all [Value.ownBlock])).1
      have h2 := d5.le
      simp at hm; omega)
    have h3 := this.mono (B' := w.heap.size + 1) (by have := d5.le; have := X5.le; omega)
    exact Owns.append (Owns.str _ _ _) h3
  obtain ⟨f9, ho9, hf9⟩ := hput w9 _ _ _ (Y8.toChg.trans ch9) rfl hb9 hown9 (nodup_opt mp) (fun y hy hm => by
    have h1 := (World.ownsRow.lt hown8 y (by cases mp <;> simp_all [Value.ownBlock])).1
    have h2 := (ho5.lt y hm).2
    have h3 := d5.le
    omega)
  refine exW ⟨by omega, by omega⟩ ⟨⟨j + 1, _, _, _, f9, rfl, by omega, (hb5.ext Y8).chg ch9 (by simp; omega), ?_, ?_⟩, by show n - ((j : Int) + 1).toNat < n - (j : Int).toNat; omega⟩
  · rw [sumsTo_succ hjl, hkv]
    show OwnRows w9 _ _ _ _ _ _ (sumsRows (sumAdd (sumsTo l j) key u)) f9
    have : sumsRows (sumAdd (sumsTo l j) key u) = (sumsRows (sumAdd (sumsTo l j) key 0)).set (posOf (sumsTo l j) key) (.str key :: enc (v + u)) := by
      rw [hv2]
      unfold sumsRows
      rw [List.map_set]
    rw [this]
    exact ho9
  · exact (X5.trans Y8).chg ch9 (by simp; omega)
end Go.Proofs.YtbgokfhcgcoipaaGreatDoor
namespace Go.Proofs.YtbgokfhcgcoipaaGreatDoor
open Go Go.Proofs.YtbgokfhcgcoipaaGreatDoor.Sx
theorem Sx.Own.pushM {w : World} {B : Nat} {t e : TypeId} {z : Value} {size bytes : Nat} {g n c m mc : Nat} {a : Addr} {xs news : List Value} (h : Sx.Own w B e size (some ⟨g, 0, none⟩) n c xs)
    (hT : sliceT P t e z size bytes) (hb : B <= w.heap.size) (hcells : ∀ j u, news[j]? = some u -> w.cell? (a.add j) = some u) (hl : news.length = m * size) (h1 : ∀ u ∈ news, u.oneCell' = true)
    (hbytes : (n + m) * bytes <= 140737488355328) (hby : 1 <= bytes) :
    ∃ g' c' w', Appends P [t, t] [.slice (some ⟨g, 0, none⟩) n c, .slice (some a) m mc] (.slice (some ⟨g', 0, none⟩) (n + m) c') w w' /\ Sx.Own w' B e size (some ⟨g', 0, none⟩) (n + m) c' (xs ++ news) /\ Chg [g] w w' /\ (g' = g ∨ w.heap.size <= g') := by
  rcases Nat.eq_zero_or_pos m with h0 | h0
  · subst h0
    have hn : news = [] := List.eq_nil_of_length_eq_zero (by simpa using hl)
    subst hn
    obtain ⟨hu, hi, hz, hs⟩ := hT
    cases hinf : P.info? e with
    | none => rw [hinf] at hi; cases hi
    | some i =>
      rw [hinf] at hi
      simp only [Option.map_some, Option.some.injEq, Prod.mk.injEq] at hi
      rcases h.2 with ⟨e1, e2⟩ | ⟨g2, cap, cur, e1, hB, hg, h3, h4, h5, h6⟩
      · simp at e1
      · simp only [Value.slice.injEq, Option.some.injEq, Addr.mk.injEq, and_true, true_and] at e1
        obtain ⟨rfl, rfl⟩ := e1
        have hsz : n * i.size + ([] : List Value).length <= cur.size := by
          have : n * size <= c * size := Nat.mul_le_mul_right _ h3
          simp only [List.length_nil, Nat.add_zero, hi.2.1, h5]
          exact this
        obtain ⟨v', w', hrun, hown, hgr, _⟩ := run_append_own (P := P) w B t 0 e i z size bytes hu hinf hi.1 hi.2.1 hi.2.2 hz hs (.slice (some ⟨g, 0, none⟩) n c) n xs h a 0 mc [] hl hcells h1 (by omega) (by simpa using hbytes) hb
        have hr := run_append_room (P := P) w t 0 e i hu hinf g n c cur hg a 0 mc [] (by simp) hcells h1 (by omega) hsz
        rw [hr] at hrun
        injection hrun with hv hw
        subst hv
        subst hw
        refine ⟨g, c, _, hr, hown, ⟨hgr.os, hgr.tape, hgr.output, hgr.size, fun k hk hn => hgr.block k hk ?_⟩, .inl rfl⟩
        intro e; simp [Value.ownBlock] at e; simp at hn; omega
  · obtain ⟨p', c', w', hA, hO, hC, hP⟩ := h.pushN (mc := mc) hT hb hcells hl h1 hbytes hby h0
    obtain ⟨g', ys, rfl, _⟩ := hO.blk (by omega)
    refine ⟨g', c', w', hA, hO, hC, ?_⟩
    rcases hP with ⟨hp, _⟩ | ⟨hp, _⟩
    · simp at hp; exact .inl hp
    · exact .inr (hp g' rfl)
end Go.Proofs.YtbgokfhcgcoipaaGreatDoor
namespace Go.Proofs.YtbgokfhcgcoipaaGreatDoor
open Go Go.Proofs.YtbgokfhcgcoipaaGreatDoor.Sx
theorem impl_isZero_c {w : World} {xs : List Value} {s : ByteArray} {b : Bool} {z : List Int} (h : Reps w xs [.str s, .bool b, .ints z]) :
    Ret P n_impl_isZero [.agg ⟨xs⟩] w fun v w' => v = .bool (intOk [.bool b, .ints z] && decide (isign [.bool b, .ints z] = 0)) /\ Ext w w' := by
  obtain ⟨a0, a1, a2p, a2n, a2c, a2z, rfl, hd, ha⟩ := open_Money h rfl
  cases hd
  refine impl_isZero_ret ?_
  unfold impl_isZero
  intro r w1 hn
  refine ⟨_, _, _, _, hn.blk.loadAAt 1 [.bool b, .slice a2p a2n a2c] rfl (by kernel_rfl) rfl, ?_⟩
  refine Ret.at (impl_IntOk_c (dx := [.bool b, .ints z]) ⟨rfl, ⟨_, _, _, rfl, ha.ext hn.ext⟩, trivial⟩ rfl) ?_
  rintro v w2 ⟨hv, y⟩
  subst hv
  have x := hn.ext.trans y
  refine ⟨_, rfl, fun e => ⟨_, _, _, (hn.blk.ext y).loadAt 2 rfl (by kernel_rfl) rfl, ?_, x⟩, fun e => ⟨by rw [e]; rfl, x⟩⟩
  rw [e]
  congr 1
  have hl := ha.1
  simp only [Bool.true_and, isign, e]
  cases z with
  | nil => simp at hl; simp [<- hl]
  | cons q qs =>
    simp at hl
    cases b <;> simp [<- hl] <;> omega
end Go.Proofs.YtbgokfhcgcoipaaGreatDoor
namespace Go.Proofs.YtbgokfhcgcoipaaGreatDoor
open Go Go.Proofs.YtbgokfhcgcoipaaGreatDoor.Sx
def balT (l : List (List D0)) : Bool := legsOk l && (sumsTo l l.length).all fun x => decide (x.2 = 0)
theorem enc_small8 {v : Int} (h : v.natAbs <= 8000000000000000000000000000000000000) : intOk (enc v) = true := by
  exact enc_small (by omega)
theorem isign_zeroV {v : Int} (h : v.natAbs <= 8000000000000000000000000000000000000) : isign (enc v) = 0 ↔ v = 0 := by
  rw [isign_enc (enc_small8 h)]
  constructor
  · intro hh
    split at hh
    · omega
    · split at hh
      · assumption
      · omega
  · intro hh; subst hh; rfl
theorem sums8 {l : List (List D0)} (hc : ∀ x ∈ l, x.map D0.code = [.str, .str, .bool, .ints]) (hok : legsOk l = true) : ∀ x ∈ sumsTo l l.length, x.2.natAbs <= 8000000000000000000000000000000000000 := fun x hx => by
  have h1 := sumsTo_bound hc hok l.length (Nat.le_refl _) x hx
  exact Nat.le_trans h1 (Nat.le_trans (Nat.mul_le_mul_right _ (legs_facts hok).2.1) (by decide))
theorem row_at {s : List (ByteArray × Int)} {j : Nat} (h : j < s.length) (h2 : j < (sumsRows s).length) : (sumsRows s)[j] = .str s[j].1 :: enc s[j].2 := by simp [sumsRows]
theorem impl_Balanced_c {w : World} {p : Option Addr} {n c : Nat} {l : List (List D0)} (h : RowsR w 4 p n c l) (hc : ∀ x ∈ l, x.map D0.code = [.str, .str, .bool, .ints]) (hn : n <= 1048576) (hb : ∀ x ∈ l, bulks x <= 1048576) (ht : Tab w) :
    Ret P n_impl_Balanced [.slice p n c] w fun v w' => v = .bool (balT l) /\ Ext w w' := by
  have hln := h.1
  refine impl_Balanced_ret ?_
  unfold impl_Balanced
  refine Ret.at (impl_LegsOk_c h hc hn hb ht) ?_
  rintro v w1 ⟨hv, y1⟩
  subst hv
  refine ⟨_, rfl, ifN (fun hno => ⟨by simp only [balT, hno, Bool.false_and], y1⟩) (fun hok => ?_)⟩
  refine Ret.at (impl_legSums_o (h.ext y1) hc hok) ?_
  rintro v w2 ⟨p2, n2, c2, f2, hv, ho, y2⟩
  subst hv
  have hrows := ho.rows
  have hsl := hrows.1
  rw [sumsRows_len] at hsl
  have hsz := sums8 hc hok
  rw [hln] at hsz
  have hs2 := sumsTo_len l n (by omega)
  refine ⟨_, _, _, rfl, fun i wr => ∃ j : Nat, i = j /\ j <= n2 /\ (∀ a (ha : a < (sumsTo l n).length), a < j -> (sumsTo l n)[a].2 = 0) /\ Ext w2 wr, fun i _ => n2 - i.toNat, ⟨0, rfl, Nat.zero_le _, fun a _ h => absurd h (by omega), Ext.refl _⟩, ?_⟩
  intro junk wr i ⟨j, hij, hj, hz, hx⟩
  subst hij
  have Y := (y1.trans y2).trans hx
  refine ifD (fun hlt => ?_) (fun hge => ⟨?_, Y⟩)
  · have hjn : j < n2 := by omega
    have hjs : j < (sumsTo l n).length := by omega
    obtain ⟨a, cs, hp, hk, hr, hld⟩ := (hrows.ext hx).at (P := P) (t := T_impl_Money) (by kernel_rfl) hjn
    subst hp
    rw [row_at hjs] at hr
    obtain ⟨k0, k1, kp, kn, kc, kz, rfl, hkd, hki⟩ := open_Money hr rfl
    have hb2 := hsz _ (List.getElem_mem hjs)
    refine ⟨⟨by omega, by omega⟩, _, _, _, _, _, by simpa using hld, ?_⟩
    intro r w3 hn3
    obtain ⟨w4, st4, b4, y4⟩ := hn3.fill (P := P) (t := T_impl_Money) (xs := [.string k0, .bool k1, .slice kp kn kc]) (by simp [Value.oneCell']) (by kernel_rfl) rfl
    refine ⟨w4, st4, _, _, _, _, _, b4.loadA0 (by kernel_rfl), ?_⟩
    refine Ret.at (impl_isZero_c (hr.ext y4)) ?_
    rintro v w5 ⟨hv, y5⟩
    subst hv
    have hzero : (intOk (enc (sumsTo l n)[j].2) && decide (isign (enc (sumsTo l n)[j].2) = 0)) = decide ((sumsTo l n)[j].2 = 0) := by
      rw [enc_small8 hb2, Bool.true_and, decide_eq_decide]
      exact isign_zeroV hb2
    refine ⟨_, rfl, ifN (fun hnz => ⟨?_, Y.trans (y4.trans y5)⟩) (fun hz0 => exW ⟨by omega, by omega⟩ ⟨⟨j + 1, rfl, by omega, fun a ha hlt2 => ?_, hx.trans (y4.trans y5)⟩, by show n2 - ((j : Int) + 1).toNat < n2 - (j : Int).toNat; omega⟩)⟩
    · have hne : (sumsTo l n)[j].2 ≠ 0 := by
        have := hzero.symm.trans hnz
        exact of_decide_eq_false this
      have : balT l = false := by
        unfold balT
        rw [hln, hok, Bool.true_and, Bool.eq_false_iff]
        intro hall
        rw [List.all_eq_true] at hall
        exact hne (of_decide_eq_true (hall _ (List.getElem_mem hjs)))
      rw [this]
    · by_cases haj : a < j
      · exact hz a ha haj
      · have : a = j := by omega
        subst this
        exact of_decide_eq_true (hzero.symm.trans hz0)
  · have : balT l = true := by
      unfold balT
      rw [hln, hok, Bool.true_and, List.all_eq_true]
      intro x hx
      obtain ⟨a, ha, rfl⟩ := List.getElem_of_mem hx
      exact decide_eq_true (hz a ha (by omega))
    rw [this]
end Go.Proofs.YtbgokfhcgcoipaaGreatDoor
