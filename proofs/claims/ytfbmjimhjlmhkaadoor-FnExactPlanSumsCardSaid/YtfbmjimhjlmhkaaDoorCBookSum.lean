/-
  Contracts: the sum of a book's amounts in a currency.
-/
import Derived.Test.YtfbmjimhjlmhkaaDoorCBookOk
import Derived.Test.YtfbmjimhjlmhkaaDoorCDebtsOk
import Derived.Test.YtfbmjimhjlmhkaaDoorCSpecInt
import Derived.Test.YtfbmjimhjlmhkaaDoorDMarkS
namespace Go.Proofs.YtfbmjimhjlmhkaaDoor
open Go Go.Proofs.YtfbmjimhjlmhkaaDoor.Sx
set_option linter.unusedVariables false
set_option linter.unusedSimpArgs false

def sumI (f : List D0 → Int) : List (List D0) → Int
  | [] => 0
  | x :: l => f x + sumI f l
theorem sumI_snoc (f : List D0 → Int) : ∀ (l : List (List D0)) (x : List D0), sumI f (l ++ [x]) = sumI f l + f x
  | [], x => by simp [sumI]
  | y :: l, x => by simp only [List.cons_append, sumI, sumI_snoc f l x]; omega
theorem sumI_take {f : List D0 → Int} {l : List (List D0)} {j : Nat} (hj : j < l.length) : sumI f (l.take (j + 1)) = sumI f (l.take j) + f (l[j]'hj) := by
  rw [take_snoc (List.getElem?_eq_getElem hj), sumI_snoc]
theorem sumI_bound {f : List D0 → Int} {M : Nat} : ∀ (l : List (List D0)), (∀ x ∈ l, (f x).natAbs ≤ M) → (sumI f l).natAbs ≤ l.length * M
  | [], _ => by simp [sumI]
  | x :: l, h => by
    have h1 := h x (.head _); have h2 := sumI_bound l fun y hy => h y (.tail _ hy)
    simp only [sumI, List.length_cons, Nat.succ_mul]
    omega
theorem digs_len_le {n : Nat} (h : n < 1000000000000000000000000000000000000000000000000000000) : (digs n).length ≤ 6 := digs_len 6 (by omega)
theorem money_bound {c : ByteArray} {b : Bool} {z : List Int} (h : moneyOk [.str c, .bool b, .ints z] = true) : (ival [.bool b, .ints z]).natAbs ≤ 1000000000000000000000000000000000000 := by
  have hi := moneyOk_int h
  simp only [moneyOk, Bool.and_eq_true, decide_eq_true_eq] at h
  obtain ⟨_, _, _, h1, hc, _⟩ := intOk_enc hi
  simp only [List.cons.injEq, D0.bool.injEq, D0.ints.injEq, and_true] at h1
  obtain ⟨rfl, rfl⟩ := h1
  have hv := val_nonneg hc.1
  have hlt := val_lt hc.1
  have h6 : (1000000000 : Nat) ^ z.length ≤ 1000000000 ^ 4 := Nat.pow_le_pow_right (by decide) h.2
  have h6' := Int.ofNat_le.2 h6
  rw [Int.natCast_pow, Int.natCast_pow] at h6'
  have h7 : val z < (1000000000 : Int) ^ 4 := Int.lt_of_lt_of_le hlt h6'
  have h8 : ((1000000000 : Int) ^ 4) = 1000000000000000000000000000000000000 := by decide
  rw [h8] at h7
  cases b <;> simp only [ival, if_true, Bool.false_eq_true, if_false] <;> omega
theorem enc_small {z : Int} (h : z.natAbs < 1000000000000000000000000000000000000000000000000000000) : intOk (enc z) = true := by
  have := digs_len_le h
  rw [← icap_fit (by omega)]; exact icap_ok z
theorem iadd_small {x y : Int} (hx : x.natAbs < 100000000000000000000000000000000000000000000000000000) (hy : y.natAbs < 100000000000000000000000000000000000000000000000000000) : iadd (enc x) (enc y) = enc (x + y) := by
  have h3 : (digs (x + y).natAbs).length ≤ 6 := digs_len_le (by omega)
  rw [iadd, enc_small (by omega), enc_small (by omega)]
  simp only [Bool.and_self, if_true]
  rw [ival_enc, ival_enc]
  exact icap_fit (by omega)
theorem tcnts_enc {z : Int} (h : z.natAbs < 1000000000000000000000000000000000000000000000000000000) : tcnts (enc z) ≤ 1000000000 := by
  have := digs_len_le h
  simp only [enc, tcnts]
  omega

def unitsOf (cur : ByteArray) : List D0 → Int
  | [.str a, .str c, .bool b, .ints z] => if c = cur then ival [.bool b, .ints z] else 0
  | _ => 0
def bookSum (l : List (List D0)) (cur : ByteArray) : List D0 := if bookOk l then enc (sumI (unitsOf cur) l) else enc 0
theorem bookOk_spec {l : List (List D0)} (h : bookOk l = true) : l.length ≤ 12 ∧ ∀ i (hi : i < l.length), legOk (l[i]'hi) = true := by
  unfold bookOk at h
  simp only [Bool.and_eq_true, decide_eq_true_eq, List.all_eq_true, List.mem_range] at h
  refine ⟨h.1, fun i hi => ?_⟩
  have := h.2 i hi
  unfold bookRowOk at this
  simp only [Bool.and_eq_true] at this
  rw [getD_row hi] at this
  exact this.1
theorem units_bound {cur : ByteArray} {x : List D0} (h : legOk x = true) : (unitsOf cur x).natAbs ≤ 1000000000000000000000000000000000000 := by
  unfold unitsOf
  split
  · split
    · simp only [legOk, Bool.and_eq_true] at h
      exact money_bound h.2
    · simp
  · simp
theorem book_sum_bound {l : List (List D0)} {cur : ByteArray} {j : Nat} (h : bookOk l = true) : (sumI (unitsOf cur) (l.take j)).natAbs ≤ 12000000000000000000000000000000000000 := by
  obtain ⟨h1, h2⟩ := bookOk_spec h
  have := sumI_bound (f := unitsOf cur) (M := 1000000000000000000000000000000000000) (l.take j) (fun x hx => units_bound (by
    obtain ⟨i, hi, rfl⟩ := List.getElem_of_mem (List.mem_of_mem_take hx)
    exact h2 i hi))
  have h3 : (l.take j).length ≤ 12 := by simp; omega
  have h4 : (l.take j).length * 1000000000000000000000000000000000000 ≤ 12 * 1000000000000000000000000000000000000 := Nat.mul_le_mul_right _ h3
  omega
theorem bookSum_code (l : List (List D0)) (cur : ByteArray) : (bookSum l cur).map D0.code = [.bool, .ints] := by unfold bookSum; split <;> rfl
theorem bookSum_cnt (l : List (List D0)) (cur : ByteArray) : tcnts (bookSum l cur) ≤ 1000000000 := by
  unfold bookSum
  split
  · rename_i h
    have := book_sum_bound (cur := cur) (j := l.length) h
    rw [List.take_of_length_le (by omega)] at this
    exact tcnts_enc (by omega)
  · exact tcnts_enc (by decide)

theorem spec_BookSum_o {w : World} {p : Option Addr} {n c : Nat} {l : List (List D0)} (h : RowsR w 4 p n c l) (hc : ∀ x ∈ l, x.map D0.code = [.str, .str, .bool, .ints]) (hn : n ≤ 1048576) (hb : ∀ x ∈ l, bulks x ≤ 1048576) (cur : ByteArray) :
    Ret P n_spec_BookSum [.agg ⟨[.slice p n c]⟩, .string cur] w fun v w' => ∃ vs f, v = .agg ⟨vs⟩ ∧ Owns w' w.heap.size vs (bookSum l cur) f ∧ f.Nodup ∧ (bookSum l cur).map D0.code = [.bool, .ints] ∧ tcnts (bookSum l cur) ≤ 1000000000 ∧ Ext w w' := by
  have hz := h.1; have hcap := h.2.1; have hcm := h.2.2.1
  refine spec_BookSum_ret ?_
  unfold spec_BookSum
  intro r w1 hn1 r1 w2 hn2 r2 w3 hn3
  have e1 := hn1.r_eq; have e2 := hn2.r_eq; have e3 := hn3.r_eq; have s1 := hn1.size; have s2 := hn2.size; have s3 := hn3.size
  obtain ⟨w4, st, hb4, y4⟩ := hn3.fill (P := P) (t := T_impl_Signed) (xs := [.bool false, .slice none 0 0]) (by simp [Value.oneCell']) (by kernel_rfl) rfl
  have XB := hn1.ext.trans hn2.ext
  have X := XB.trans y4
  have k0 := (hn1.blk.ext hn2.ext).ext y4
  have K1 := hn2.blk
  refine ⟨w4, st, _, _, _, k0.loadA0 (by kernel_rfl), ?_⟩
  refine Ret.at (spec_BookOk_c (h.ext X) hc hn hb) ?_
  rintro v w5 ⟨hv, y5⟩
  subst hv
  have l4 := y4.le; have l5 := y5.le
  refine ⟨_, rfl, ifN (fun hno => ?_) (fun hok => ?_)⟩
  · obtain ⟨w6, st6, hb6, ch, sz⟩ := ((K1.ext y4).ext y5).storeA0 (P := P) (t := T_impl_Signed) (xs := [.bool false, .slice none 0 0]) (by kernel_rfl) rfl (by simp [Value.oneCell'])
    refine ⟨_, _, _, _, (hb4.ext y5).loadA0 (by kernel_rfl), w6, st6, _, _, _, _, hb6.loadA0 (by kernel_rfl), _, _, rfl, ?_, nodup_opt none, bookSum_code l cur, bookSum_cnt l cur, (X.trans y5).chg ch (by simp; omega)⟩
    have : bookSum l cur = [.bool false, .ints []] := by rw [bookSum, hno, ← enc0]; rfl
    rw [this]
    exact Owns.int2 (z := []) (Own.nil w6 _ T_int 1 : Own w6 w.heap.size T_int 1 none 0 0 (([] : List Int).map (Value.int .i64)))
  refine ⟨_, _, _, (k0.ext y5).loadAt 0 rfl (by kernel_rfl) rfl, ?_⟩
  refine ⟨fun i wr => ∃ (j : Nat) (s : Bool) (p : Option Addr) (m c : Nat) (f : List Nat), i = j ∧ j ≤ n ∧ Ext w2 wr ∧ Blk wr r2 T_impl_Signed [.bool s, .slice p m c] ∧ Owns wr (w2.heap.size + 1) [.bool s, .slice p m c] (enc (sumI (unitsOf cur) (l.take j))) f ∧ f.Nodup, fun i _ => n - i.toNat, ⟨0, false, none, 0, 0, [], rfl, by omega, y4.trans y5, hb4.ext y5, ?_, List.nodup_nil⟩, ?_⟩
  · rw [List.take_zero, sumI, enc0]
    exact Owns.int2 (z := []) (Own.nil _ _ T_int 1 : Own _ (w2.heap.size + 1) T_int 1 none 0 0 (([] : List Int).map (Value.int .i64)))
  intro junk wr i ⟨j, s, p2, m2, c2, f, hij, hj, hx, hbk, how, hnd⟩
  subst hij
  have lx := hx.le; have hbl := hbk.lt
  refine ifD (fun hlt => ?_) (fun hge => ?_)
  · have hjn : j < n := by omega
    have hjl : j < l.length := by omega
    obtain ⟨a, cs, hp, hk, hr, hl⟩ := ((h.ext XB).ext hx).at (P := P) (t := T_impl_Acct) (by kernel_rfl) hjn
    subst hp
    have hrr := hr; have hcode := hc _ (List.getElem_mem hjl)
    obtain ⟨a0, a1, a2, a3p, a3n, a3c, a3z, rfl, hd, ha⟩ := open_Acct hr hcode
    have hleg := (bookOk_spec hok).2 j hjl
    rw [hd] at hleg
    have hmok : moneyOk [.str a1, .bool a2, .ints a3z] = true := by
      simp only [legOk, Bool.and_eq_true] at hleg
      exact hleg.2
    have henc := (intOk_enc (moneyOk_int hmok)).1
    have hsum := sumI_take (f := unitsOf cur) hjl
    rw [hd] at hsum
    refine ⟨⟨by omega, by omega⟩, _, _, _, _, _, _, by simpa using hl, ?_⟩
    intro r3 w7 hn7
    have e7 := hn7.r_eq; have s7 := hn7.size
    obtain ⟨w8, st, hb8, y8⟩ := hn7.fill (P := P) (t := T_impl_Acct) hrr.cells1 (by kernel_rfl) rfl
    have l8 := y8.le
    have hbk8 := hbk.ext y8
    refine ⟨w8, st, _, hb8.loadAt 1 rfl (by kernel_rfl) rfl, ifD (fun heq => ?_) (fun hne => ?_)⟩
    · refine ⟨_, _, _, _, hbk8.loadA0 (by kernel_rfl), _, _, _, _, hb8.loadAAt 2 [.bool a2, .slice a3p a3n a3c] rfl (by kernel_rfl) rfl, ?_⟩
      have hu : Reps w8 [.bool a2, .slice a3p a3n a3c] (enc (ival [.bool a2, .ints a3z])) := by
        rw [← henc]
        exact ⟨rfl, ⟨_, _, _, rfl, ha.ext y8⟩, trivial⟩
      have hsb := book_sum_bound (cur := cur) (j := j) hok
      have hub := money_bound hmok
      have hval : unitsOf cur [.str a0, .str a1, .bool a2, .ints a3z] = ival [.bool a2, .ints a3z] := if_pos heq
      rw [hval] at hsum
      refine Ret.at (spec_IntAdd_c (how.ext y8).reps hu (enc_code _) (enc_code _)) ?_
      rintro v w9 ⟨vs9, f9, hv, ho9, hnd9, y9⟩
      subst hv
      rw [iadd_small (x := sumI (unitsOf cur) (l.take j)) (y := ival [.bool a2, .ints a3z]) (by omega) (by omega)] at ho9
      obtain ⟨g0, gp, gn, gc, gz, rfl, hg, hgi⟩ := open_Signed ho9.reps (enc_code _)
      have l9 := y9.le
      obtain ⟨w10, st10, hb10, ch, sz⟩ := (hbk8.ext y9).storeA0 (P := P) (t := T_impl_Signed) (xs := [.bool g0, .slice gp gn gc]) (by kernel_rfl) rfl (by simp [Value.oneCell'])
      refine ⟨_, _, _, _, rfl, w10, st10, ?_⟩
      unfold spec_BookSum_j0
      refine exW ⟨by omega, by omega⟩ ⟨⟨j + 1, g0, gp, gn, gc, _, by omega, by omega, ((hx.trans y8).trans y9).chg ch (by simp; omega), hb10, ?_, hnd9⟩, ?_⟩
      · rw [hsum]
        exact (ho9.chg1 ch (by omega)).mono (by omega)
      · show n - ((j : Int) + 1).toNat < n - (j : Int).toNat
        omega
    · unfold spec_BookSum_j0
      have hval : unitsOf cur [.str a0, .str a1, .bool a2, .ints a3z] = 0 := if_neg hne
      rw [hval, Int.add_zero] at hsum
      refine exW ⟨by omega, by omega⟩ ⟨⟨j + 1, s, p2, m2, c2, f, by omega, by omega, hx.trans y8, hbk8, ?_, hnd⟩, ?_⟩
      · rw [hsum]; exact how.ext y8
      · show n - ((j : Int) + 1).toNat < n - (j : Int).toNat
        omega
  · have hjn : j = n := by omega
    subst hjn
    rw [List.take_of_length_le (by omega)] at how
    obtain ⟨w10, st10, hb10, ch, sz⟩ := (K1.ext hx).storeA0 (P := P) (t := T_impl_Signed) (xs := [.bool s, .slice p2 m2 c2]) (by kernel_rfl) rfl (by simp [Value.oneCell'])
    refine ⟨_, _, _, _, hbk.loadA0 (by kernel_rfl), w10, st10, _, _, _, _, hb10.loadA0 (by kernel_rfl), _, f, rfl, ?_, hnd, bookSum_code l cur, bookSum_cnt l cur, (XB.trans hx).chg ch (by simp; omega)⟩
    unfold bookSum
    rw [if_pos hok]
    exact (how.chg1 ch (by omega)).mono (by omega)

theorem spec_BookSum_c {w : World} {p : Option Addr} {n c : Nat} {l : List (List D0)} (h : RowsR w 4 p n c l) (hc : ∀ x ∈ l, x.map D0.code = [.str, .str, .bool, .ints]) (hn : n ≤ 1048576) (hb : ∀ x ∈ l, bulks x ≤ 1048576) (cur : ByteArray) :
    Ret P n_spec_BookSum [.agg ⟨[.slice p n c]⟩, .string cur] w fun v w' => ∃ vs, v = .agg ⟨vs⟩ ∧ Reps w' vs (bookSum l cur) ∧ (bookSum l cur).map D0.code = [.bool, .ints] ∧ Ext w w' :=
  (spec_BookSum_o h hc hn hb cur).mono fun v w' ⟨vs, f, hv, ho, _, hcd, _, hx⟩ => ⟨vs, hv, ho.reps, hcd, hx⟩

theorem impl_BookSum_c {w : World} {p : Option Addr} {n c : Nat} {l : List (List D0)} (h : RowsR w 4 p n c l) (hc : ∀ x ∈ l, x.map D0.code = [.str, .str, .bool, .ints]) (hn : n ≤ 1048576) (hb : ∀ x ∈ l, bulks x ≤ 1048576) (cur : ByteArray) (ht : Tab w) :
    Ret P n_impl_BookSum [.agg ⟨[.slice p n c]⟩, .string cur] w fun v w' => ∃ vs f, v = .agg ⟨vs⟩ ∧ Owns w' w.heap.size vs (bookSum l cur) f ∧ f.Nodup ∧ (bookSum l cur).map D0.code = [.bool, .ints] ∧ tcnts (bookSum l cur) ≤ 1000000000 ∧ Ext w w' := by
  have hz := h.1; have hcap := h.2.1; have hcm := h.2.2.1
  refine impl_BookSum_ret ?_
  unfold impl_BookSum
  intro r w1 hn1 r1 w2 hn2
  have e1 := hn1.r_eq; have e2 := hn2.r_eq; have s1 := hn1.size; have s2 := hn2.size
  have X := hn1.ext.trans hn2.ext
  have k0 := hn1.blk.ext hn2.ext
  refine ⟨_, _, _, k0.loadA0 (by kernel_rfl), ?_⟩
  refine Ret.at (impl_BookOk_c (h.ext X) hc hn hb (ht.ext X)) ?_
  rintro v w3 ⟨hv, y3⟩
  subst hv
  have l3 := y3.le
  have XB := X.trans y3
  have K1 := hn2.blk.ext y3
  refine ⟨_, rfl, ifN (fun hno => ?_) (fun hok => ?_)⟩
  · obtain ⟨w6, st6, hb6, ch, sz⟩ := K1.storeA0 (P := P) (t := T_impl_Signed) (xs := [.bool false, .slice none 0 0]) (by kernel_rfl) rfl (by simp [Value.oneCell'])
    refine ⟨w6, st6, _, _, _, _, hb6.loadA0 (by kernel_rfl), _, _, rfl, ?_, nodup_opt none, bookSum_code l cur, bookSum_cnt l cur, XB.chg ch (by simp; omega)⟩
    have : bookSum l cur = [.bool false, .ints []] := by rw [bookSum, hno, ← enc0]; rfl
    rw [this]
    exact Owns.int2 (z := []) (Own.nil w6 _ T_int 1 : Own w6 w.heap.size T_int 1 none 0 0 (([] : List Int).map (Value.int .i64)))
  intro r2 w4 hn4
  have e4 := hn4.r_eq; have s4 := hn4.size
  obtain ⟨w5, st, hb5, y5⟩ := hn4.fill (P := P) (t := T_impl_Signed) (xs := [.bool false, .slice none 0 0]) (by simp [Value.oneCell']) (by kernel_rfl) rfl
  have l5 := y5.le
  refine ⟨w5, st, _, _, _, ((k0.ext y3).ext y5).loadAt 0 rfl (by kernel_rfl) rfl, ?_⟩
  refine ⟨fun i wr => ∃ (j : Nat) (s : Bool) (p : Option Addr) (m c : Nat) (f : List Nat), i = j ∧ j ≤ n ∧ Ext w3 wr ∧ Blk wr r2 T_impl_Signed [.bool s, .slice p m c] ∧ Owns wr (w3.heap.size + 1) [.bool s, .slice p m c] (enc (sumI (unitsOf cur) (l.take j))) f ∧ f.Nodup, fun i _ => n - i.toNat, ⟨0, false, none, 0, 0, [], rfl, by omega, y5, hb5, ?_, List.nodup_nil⟩, ?_⟩
  · rw [List.take_zero, sumI, enc0]
    exact Owns.int2 (z := []) (Own.nil _ _ T_int 1 : Own _ (w3.heap.size + 1) T_int 1 none 0 0 (([] : List Int).map (Value.int .i64)))
  intro junk wr i ⟨j, s, p2, m2, c2, f, hij, hj, hx, hbk, how, hnd⟩
  subst hij
  have lx := hx.le; have hbl := hbk.lt
  refine ifD (fun hlt => ?_) (fun hge => ?_)
  · have hjn : j < n := by omega
    have hjl : j < l.length := by omega
    obtain ⟨a, cs, hp, hk, hr, hl⟩ := ((h.ext XB).ext hx).at (P := P) (t := T_impl_Acct) (by kernel_rfl) hjn
    subst hp
    have hrr := hr; have hcode := hc _ (List.getElem_mem hjl)
    obtain ⟨a0, a1, a2, a3p, a3n, a3c, a3z, rfl, hd, ha⟩ := open_Acct hr hcode
    have hleg := (bookOk_spec hok).2 j hjl
    rw [hd] at hleg
    have hmok : moneyOk [.str a1, .bool a2, .ints a3z] = true := by
      simp only [legOk, Bool.and_eq_true] at hleg
      exact hleg.2
    have henc := (intOk_enc (moneyOk_int hmok)).1
    have hsum := sumI_take (f := unitsOf cur) hjl
    rw [hd] at hsum
    refine ⟨⟨by omega, by omega⟩, _, _, _, _, _, _, by simpa using hl, ?_⟩
    intro r3 w7 hn7
    have e7 := hn7.r_eq; have s7 := hn7.size
    obtain ⟨w8, st, hb8, y8⟩ := hn7.fill (P := P) (t := T_impl_Acct) hrr.cells1 (by kernel_rfl) rfl
    have l8 := y8.le
    have hbk8 := hbk.ext y8
    refine ⟨w8, st, _, hb8.loadAt 1 rfl (by kernel_rfl) rfl, ifD (fun heq => ?_) (fun hne => ?_)⟩
    · refine ⟨_, _, _, _, hbk8.loadA0 (by kernel_rfl), _, _, _, _, hb8.loadAAt 2 [.bool a2, .slice a3p a3n a3c] rfl (by kernel_rfl) rfl, ?_⟩
      have hu : Reps w8 [.bool a2, .slice a3p a3n a3c] (enc (ival [.bool a2, .ints a3z])) := by
        rw [← henc]
        exact ⟨rfl, ⟨_, _, _, rfl, ha.ext y8⟩, trivial⟩
      have hsb := book_sum_bound (cur := cur) (j := j) hok
      have hub := money_bound hmok
      have hval : unitsOf cur [.str a0, .str a1, .bool a2, .ints a3z] = ival [.bool a2, .ints a3z] := if_pos heq
      rw [hval] at hsum
      have d1 : (digs (sumI (unitsOf cur) (l.take j)).natAbs).length ≤ 6 := digs_len_le (by omega)
      have d2 : (digs (ival [.bool a2, .ints a3z]).natAbs).length ≤ 6 := digs_len_le (by omega)
      refine Ret.at (impl_intAdd_c (how.ext y8).reps hu (by omega) (by omega)) ?_
      rintro v w9 ⟨gp, gn, gc, hv, hown9, y9⟩
      subst hv
      obtain ⟨g0, hg0⟩ : ∃ g0, g0 = decide (sumI (unitsOf cur) (l.take j) + ival [.bool a2, .ints a3z] < 0) := ⟨_, rfl⟩
      rw [← hg0]
      have ho9 : Owns w9 w8.heap.size [.bool g0, .slice gp gn gc] (enc (sumI (unitsOf cur) (l.take j) + ival [.bool a2, .ints a3z])) (gp.map (·.block)).toList := by
        rw [hg0]; exact Owns.int2 hown9
      have hnd9 := nodup_opt gp
      have l9 := y9.le
      obtain ⟨w10, st10, hb10, ch, sz⟩ := (hbk8.ext y9).storeA0 (P := P) (t := T_impl_Signed) (xs := [.bool g0, .slice gp gn gc]) (by kernel_rfl) rfl (by simp [Value.oneCell'])
      refine ⟨_, _, _, _, rfl, w10, st10, ?_⟩
      unfold impl_BookSum_j0
      refine exW ⟨by omega, by omega⟩ ⟨⟨j + 1, g0, gp, gn, gc, _, by omega, by omega, ((hx.trans y8).trans y9).chg ch (by simp; omega), hb10, ?_, hnd9⟩, ?_⟩
      · rw [hsum]
        exact (ho9.chg1 ch (by omega)).mono (by omega)
      · show n - ((j : Int) + 1).toNat < n - (j : Int).toNat
        omega
    · unfold impl_BookSum_j0
      have hval : unitsOf cur [.str a0, .str a1, .bool a2, .ints a3z] = 0 := if_neg hne
      rw [hval, Int.add_zero] at hsum
      refine exW ⟨by omega, by omega⟩ ⟨⟨j + 1, s, p2, m2, c2, f, by omega, by omega, hx.trans y8, hbk8, ?_, hnd⟩, ?_⟩
      · rw [hsum]; exact how.ext y8
      · show n - ((j : Int) + 1).toNat < n - (j : Int).toNat
        omega
  · have hjn : j = n := by omega
    subst hjn
    rw [List.take_of_length_le (by omega)] at how
    obtain ⟨w10, st10, hb10, ch, sz⟩ := (K1.ext hx).storeA0 (P := P) (t := T_impl_Signed) (xs := [.bool s, .slice p2 m2 c2]) (by kernel_rfl) rfl (by simp [Value.oneCell'])
    refine ⟨_, _, _, _, hbk.loadA0 (by kernel_rfl), w10, st10, _, _, _, _, hb10.loadA0 (by kernel_rfl), _, f, rfl, ?_, hnd, bookSum_code l cur, bookSum_cnt l cur, (XB.trans hx).chg ch (by simp; omega)⟩
    unfold bookSum
    rw [if_pos hok]
    exact (how.chg1 ch (by omega)).mono (by omega)

end Go.Proofs.YtfbmjimhjlmhkaaDoor
