/-
  Contracts: the amount of an account.
-/
import Derived.Test.YtfbmjimhjlmhkaaCCopy
import Derived.Test.YtfbmjimhjlmhkaaCAcctAt
namespace Go.Proofs.Ytfbmjimhjlmhkaa
open Go Go.Proofs.Ytfbmjimhjlmhkaa.Sx
set_option linter.unusedVariables false
set_option linter.unusedSimpArgs false

/-- a list copied into a new row as long as it is -/
theorem Sx.copyI {w : World} {r : Nat} {q : Option Addr} {n d : Nat} {ys zs : List Int} (hb : Blk w r T_int (zs.map (Value.int .i64))) (hz : zs.length = n) (k : IntsR w q n d ys) :
    ∃ w', Copies P [T_s_int, T_s_int] [.slice (some ⟨r, 0, none⟩) n n, .slice q n d] (goInt n) w w' ∧ Blk w' r T_int (ys.map (Value.int .i64)) ∧ Chg [r] w w' ∧ w'.heap.size = w.heap.size := by
  obtain ⟨hu, hi, hz0, hs⟩ := sliceT_int
  cases hinf : P.info? T_int with
  | none => rw [hinf] at hi; cases hi
  | some i =>
    rw [hinf] at hi
    simp only [Option.map_some, Option.some.injEq, Prod.mk.injEq] at hi
    have hy := k.1
    cases q with
    | none =>
      have hm0 : n = 0 := by
        rcases Nat.eq_zero_or_pos n with h0 | h0
        · exact h0
        · obtain ⟨b, off, hp, _⟩ := k.2.2.2 h0; cases hp
      subst hm0
      have h1 : ys = [] := List.eq_nil_of_length_eq_zero hy
      have h2 : zs = [] := List.eq_nil_of_length_eq_zero hz
      subst h1; subst h2
      refine ⟨w, ?_, hb, Chg.refl _ _, rfl⟩
      show (Builtin.copy_ #[T_s_int, T_s_int] 0 #[.slice (some ⟨r, 0, none⟩) 0 0, .slice none 0 d]).run P w = .ok (goInt 0) w
      simp [Builtin.copy_, run_underlying hu, Builtin.lenOf, Builtin.firstCells, sizeOf, typeInfo, hinf, storeCells]
    | some a =>
      have hcells : ∀ j u, (ys.map (Value.int .i64))[j]? = some u → w.cell? (a.add j) = some u := by
        intro j u hj
        have hl : j < n := by
          have := (List.getElem?_eq_some_iff.1 hj).1
          rw [List.length_map, hy] at this; exact this
        obtain ⟨b, off, hp, hseg⟩ := k.2.2.2 (by omega)
        cases hp
        rw [addr_add]
        exact hseg j u hj
      have := run_copy_row (P := P) w T_s_int T_s_int 0 T_int r 0 n n a n d ⟨zs.map (Value.int .i64)⟩ T_int (ys.map (Value.int .i64)) hu (by rw [hinf]; simp [hi.2.1]) hb (by simp [hy]) hcells (by simp [hy, hz]) (by simp [Value.oneCell'])
      have e : ((⟨zs.map (Value.int .i64)⟩ : Array Value).toList.take 0 ++ ys.map (Value.int .i64) ++ (⟨zs.map (Value.int .i64)⟩ : Array Value).toList.drop (0 + (ys.map (Value.int .i64)).length)) = ys.map (Value.int .i64) := by
        rw [List.take_zero, List.nil_append, List.drop_of_length_le (by simp [hy, hz]), List.append_nil]
      rw [e] at this
      refine ⟨_, ?_, setRow_heap w r _ _ T_int _ hb, setRow_chg _ _ _, by simp⟩
      have e2 : (ys.map (Value.int .i64)).length = n := by simp [hy]
      rw [e2] at this
      exact this

theorem spec_l17Money_c {w : World} {xs : List Value} {dx : List D0} (h : Reps w xs dx) (hc : dx.map D0.code = [.str, .bool, .ints]) (hb : bulks dx ≤ 100000000) :
    Ret P n_spec_l17Money [.agg ⟨xs⟩] w fun v w' => ∃ vs' f, v = .agg ⟨vs'⟩ ∧ Owns w' w.heap.size vs' dx f ∧ f.Nodup ∧ Ext w w' := by
  obtain ⟨t0, a0, a1p, a1n, a1c, a1z, rfl, rfl, ha⟩ := open_Money h hc
  have l1 := ha.1
  simp only [bulks, D0.bulk, List.map_cons, List.map_nil, List.sum_cons, List.sum_nil] at hb
  refine spec_l17Money_ret ?_
  unfold spec_l17Money
  intro r w1 hn1 r1 w2 hn2
  have D := Ext.drew w2
  have X := (hn1.ext.trans hn2.ext).trans D
  have k0 := hn1.blk.ext hn2.ext; have k1 := hn2.blk.ext D
  have e2 := hn2.r_eq; have s1 := hn1.size; have s2 := hn2.size; have lD := D.le
  refine ⟨_, fun W hW => (k0.ext (D.trans hW)).loadAt 0 rfl (by kernel_rfl) rfl, _, fun W hW => (k0.ext (D.trans hW)).loadAt 1 rfl (by kernel_rfl) rfl, ?_⟩
  intro r2 w4 hn4
  have e4 := hn4.r_eq
  obtain ⟨p, c, w6, a1, o1, y6⟩ := append0 hn4.blk (ha.ext (X.trans hn4.ext)) (by omega)
  have Y := hn4.ext.trans y6
  refine ⟨hn4.ext, _, _, _, fun W hW => (k0.ext (D.trans hW)).loadAt 2 rfl (by kernel_rfl) rfl, _, _, _, _, a1, y6, ?_⟩
  obtain ⟨w7, st, hb7, ch, sz⟩ := (k1.ext Y).storeA0 (P := P) (t := T_impl_Money) (xs := [.string t0, .bool a0, .slice p a1n c]) (by kernel_rfl) rfl (by simp [Value.oneCell'])
  have n1 : ∀ q, p.map (·.block) = some q → q ∉ [r1] := fun q hq hm => by
    have := (World.ownsRow.lt o1 q (by rw [← hq]; cases p <;> rfl)).1
    simp at hm; omega
  have q1 : Own w7 w.heap.size T_int 1 p a1n c (a1z.map (Value.int .i64)) := (o1.chg ch n1).mono (by omega)
  exact ⟨w7, st, _, _, _, _, _, hb7.loadA0 (by kernel_rfl), _, _, rfl, Owns.append (Owns.str _ _ t0) (Owns.append (Owns.bool _ _ a0) (Owns.ints q1)), nodup_opt p, (X.trans Y).chg ch (by simp; omega)⟩

theorem impl_moneyCopy_c {w : World} {xs : List Value} {dx : List D0} (h : Reps w xs dx) (hc : dx.map D0.code = [.str, .bool, .ints]) (hb : bulks dx ≤ 100000000) :
    Ret P n_impl_moneyCopy [.agg ⟨xs⟩] w fun v w' => ∃ vs' f, v = .agg ⟨vs'⟩ ∧ Owns w' w.heap.size vs' dx f ∧ f.Nodup ∧ Ext w w' := by
  obtain ⟨t0, a0, a1p, a1n, a1c, a1z, rfl, rfl, ha⟩ := open_Money h hc
  have l1 := ha.1
  simp only [bulks, D0.bulk, List.map_cons, List.map_nil, List.sum_cons, List.sum_nil] at hb
  refine impl_moneyCopy_ret ?_
  unfold impl_moneyCopy
  intro r w1 hn1 r1 w2 hn2
  have k0 := hn1.blk.ext hn2.ext
  have e2 := hn2.r_eq; have s1 := hn1.size; have s2 := hn2.size
  refine ⟨_, _, _, k0.loadAt 2 rfl (by kernel_rfl) rfl, ⟨by omega, by omega, by omega⟩, ?_⟩
  intro r2 w3 hn3
  have e3 := hn3.r_eq; have s3 := hn3.size
  have hblk := hn3.blk
  rw [zeroRow_int, Nat.mul_one, show (List.replicate a1n (Value.int .i64 0)) = (List.replicate a1n (0 : Int)).map (Value.int .i64) by simp] at hblk
  obtain ⟨w4, cp, hb4, ch4, sz4⟩ := copyI hblk (by simp) (ha.ext ((hn1.ext.trans hn2.ext).trans hn3.ext))
  have D := Ext.drew w4
  have Y := ((hn1.ext.trans hn2.ext).trans hn3.ext).chg ch4 (by simp; omega)
  have k0 := (k0.ext hn3.ext).chg ch4 (by have := hn1.r_eq; simp; omega)
  have k1 := (hn2.blk.ext hn3.ext).chg ch4 (by simp; omega)
  have lD := D.le
  refine ⟨_, _, _, (hn1.blk.ext (hn2.ext.trans hn3.ext)).loadAt 2 rfl (by kernel_rfl) rfl, _, w4, cp, _, fun W hW => (k0.ext (D.trans hW)).loadAt 0 rfl (by kernel_rfl) rfl, _, fun W hW => (k0.ext (D.trans hW)).loadAt 1 rfl (by kernel_rfl) rfl, ⟨by omega, by omega⟩, ⟨by omega, by omega⟩, ?_⟩
  obtain ⟨w7, st, hb7, ch, sz⟩ := (k1.ext D).storeA0 (P := P) (t := T_impl_Money) (xs := [.string t0, .bool a0, .slice (some ⟨r2, 0, none⟩) a1n a1n]) (by kernel_rfl) rfl (by simp [Value.oneCell'])
  have q1 : Own w7 w.heap.size T_int 1 (some ⟨r2, 0, none⟩) a1n a1n (a1z.map (Value.int .i64)) := Own.of_blk ((hb4.ext D).chg ch (by simp; omega)) (by omega) (by simp [l1]) (by simp only [maxLen]; omega)
  have es : sub (some ⟨r2, 0, none⟩) 0 a1n 1 = some ⟨r2, 0, none⟩ := by simp [sub, Addr.add]
  rw [es, Nat.sub_zero]
  exact ⟨w7, st, _, _, _, _, _, hb7.loadA0 (by kernel_rfl), _, _, rfl, Owns.append (Owns.str _ _ t0) (Owns.append (Owns.bool _ _ a0) (Owns.ints q1)), by simp, (Y.trans D).chg ch (by simp; omega)⟩

def balOf (l : List (List D0)) (name : ByteArray) : List D0 := if acctAt l name < 0 then [.str ByteArray.empty, .bool false, .ints []] else (l.getD (acctAt l name).toNat []).drop 1
theorem acctAt_spec (l : List (List D0)) (name : ByteArray) : acctAt l name = -1 ∨ ∃ j, j < l.length ∧ acctAt l name = j := by
  rcases firstI_spec (fun x => decide (strOf x = name)) l with ⟨h, _⟩ | ⟨j, hj, h, _⟩
  · exact .inl h
  · exact .inr ⟨j, hj, h⟩
theorem getD_in {α : Type} {l : List α} {i : Nat} {d : α} (h : i < l.length) : l.getD i d ∈ l := by
  rw [List.getD_eq_getElem?_getD, List.getElem?_eq_getElem h]; exact List.getElem_mem h
theorem balOf_code {l : List (List D0)} {name : ByteArray} (hc : ∀ x ∈ l, x.map D0.code = [.str, .str, .bool, .ints]) : (balOf l name).map D0.code = [.str, .bool, .ints] := by
  unfold balOf
  rcases acctAt_spec l name with h | ⟨j, hj, h⟩
  · rw [if_pos (by omega)]; rfl
  · rw [if_neg (by omega), h, List.map_drop, hc _ (getD_in (by simpa using hj))]; rfl
theorem bulks_drop1 (x : List D0) : bulks (x.drop 1) ≤ bulks x := by
  cases x with
  | nil => simp [bulks]
  | cons a r => simp [bulks]
theorem balOf_bulks {l : List (List D0)} {name : ByteArray} (hb : ∀ x ∈ l, bulks x ≤ 1048576) : bulks (balOf l name) ≤ 1048576 := by
  unfold balOf
  rcases acctAt_spec l name with h | ⟨j, hj, h⟩
  · rw [if_pos (by omega)]; simp [bulks, D0.bulk]
  · rw [if_neg (by omega), h]
    exact Nat.le_trans (bulks_drop1 _) (hb _ (getD_in (by simpa using hj)))
theorem balOf_none {l : List (List D0)} {name : ByteArray} (h : acctAt l name < 0) : balOf l name = [.str ByteArray.empty, .bool false, .ints []] := by unfold balOf; rw [if_pos h]
theorem balOf_some {l : List (List D0)} {name : ByteArray} {j : Nat} (h : acctAt l name = j) : balOf l name = (l.getD j []).drop 1 := by unfold balOf; rw [if_neg (by omega), h]; rfl

theorem spec_BalanceOf_c {w : World} {p : Option Addr} {n c : Nat} {l : List (List D0)} (h : RowsR w 4 p n c l) (hc : ∀ x ∈ l, x.map D0.code = [.str, .str, .bool, .ints]) (hn : n ≤ 1048576) (hb : ∀ x ∈ l, bulks x ≤ 1048576) (name : ByteArray) :
    Ret P n_spec_BalanceOf [.agg ⟨[.slice p n c]⟩, .string name] w fun v w' => ∃ vs, v = .tuple #[.agg ⟨vs⟩, .bool (decide (0 ≤ acctAt l name))] ∧ Reps w' vs (balOf l name) ∧ (balOf l name).map D0.code = [.str, .bool, .ints] ∧ Ext w w' := by
  have hz := h.1; have hcap := h.2.1; have hcm := h.2.2.1
  refine spec_BalanceOf_ret ?_
  unfold spec_BalanceOf
  intro r w1 hn1 r1 w2 hn2
  have X := hn1.ext.trans hn2.ext
  have k0 := hn1.blk.ext hn2.ext; have k1 := hn2.blk
  have e1 := hn1.r_eq; have e2 := hn2.r_eq; have s1 := hn1.size; have s2 := hn2.size
  refine ⟨_, _, _, k0.loadA0 (by kernel_rfl), ?_⟩
  refine Ret.at (spec_AcctAt_c (h.ext X) hc name) ?_
  rintro v w3 ⟨hv, y3⟩
  subst hv
  have l3 := y3.le
  rcases acctAt_spec l name with h0 | ⟨j, hj, h0⟩
  · refine ⟨_, rfl, ifD (fun _ => ?_) (fun hge => absurd hge (by omega))⟩
    obtain ⟨w4, st, hb4, ch, sz⟩ := (k1.ext y3).storeA0 (P := P) (t := T_impl_Money) (xs := [.string ByteArray.empty, .bool false, .slice none 0 0]) (by kernel_rfl) rfl (by simp [Value.oneCell'])
    refine ⟨w4, st, _, _, _, _, _, hb4.loadA0 (by kernel_rfl), [.string ByteArray.empty, .bool false, .slice none 0 0], ?_, ?_, balOf_code hc, (X.trans y3).chg ch (by simp; omega)⟩
    · rw [decide_eq_false (show ¬ 0 ≤ acctAt l name by omega)]
    · rw [balOf_none (by omega)]
      exact (Owns.append (Owns.str _ _ _) (Owns.append (Owns.bool _ _ false) (Owns.ints (zs := []) (Own.nil w4 w.heap.size T_int 1)))).reps
  · refine ⟨_, rfl, ifD (fun hlt => absurd hlt (by omega)) (fun hge => ?_)⟩
    obtain ⟨b, off, hp, hs⟩ := (h.ext (X.trans y3)).2.2.2 (by omega)
    obtain ⟨cs, hk, hr, hsg⟩ := hs j _ (List.getElem?_eq_getElem hj)
    have hcode := hc _ (List.getElem_mem hj)
    have hbj := hb _ (List.getElem_mem hj)
    obtain ⟨a0, a1, a2, a3p, a3n, a3c, a3z, rfl, hd, ha⟩ := open_Acct hr hcode
    rw [hd] at hbj
    simp only [bulks, D0.bulk, List.map_cons, List.map_nil, List.sum_cons, List.sum_nil] at hbj
    subst hp
    rw [h0]
    have k0' := (k0.ext y3).loadAt (P := P) (t := T_s_impl_Acct) 0 (a := (⟨r, 0, none⟩ : Addr).add 0) rfl (by kernel_rfl) rfl
    refine ⟨_, _, _, k0', ⟨by omega, by omega⟩, _, _, _, _, _, (by simp only [addr_add, Int.toNat_natCast]; exact hsg.loadAAt 1 [.string a1, .bool a2, .slice a3p a3n a3c] rfl (by kernel_rfl) rfl), ?_⟩
    have hm : Reps w3 [.string a1, .bool a2, .slice a3p a3n a3c] [.str a1, .bool a2, .ints a3z] := ⟨rfl, rfl, ⟨_, _, _, rfl, ha⟩, trivial⟩
    refine Ret.at (spec_l17Money_c hm rfl (by simp only [bulks, D0.bulk, List.map_cons, List.map_nil, List.sum_cons, List.sum_nil]; omega)) ?_
    rintro v w4 ⟨vs, f, hv, ho, nd, y4⟩
    subst hv
    obtain ⟨b0, b1, b2p, b2n, b2c, b2z, rfl, hq, _⟩ := open_Money ho.reps rfl
    obtain ⟨w5, st, hb5, ch, sz⟩ := ((k1.ext y3).ext y4).storeA0 (P := P) (t := T_impl_Money) (xs := [.string b0, .bool b1, .slice b2p b2n b2c]) (by kernel_rfl) rfl (by simp [Value.oneCell'])
    have o5 := ho.chg1 ch (by omega)
    refine ⟨_, _, _, _, _, rfl, w5, st, _, _, _, _, _, hb5.loadA0 (by kernel_rfl), [.string b0, .bool b1, .slice b2p b2n b2c], ?_, ?_, balOf_code hc, ((X.trans y3).trans y4).chg ch (by simp; omega)⟩
    · rw [decide_eq_true (show (0 : Int) ≤ (j : Nat) by omega)]
    · rw [balOf_some h0, List.getD_eq_getElem?_getD, List.getElem?_eq_getElem hj]
      show Reps w5 _ ((l[j]'hj).drop 1)
      rw [hd]
      exact o5.reps

theorem impl_BalanceOf_c {w : World} {p : Option Addr} {n c : Nat} {l : List (List D0)} (h : RowsR w 4 p n c l) (hc : ∀ x ∈ l, x.map D0.code = [.str, .str, .bool, .ints]) (hn : n ≤ 1048576) (hb : ∀ x ∈ l, bulks x ≤ 1048576) (name : ByteArray) :
    Ret P n_impl_BalanceOf [.agg ⟨[.slice p n c]⟩, .string name] w fun v w' => ∃ vs f, v = .tuple #[.agg ⟨vs⟩, .bool (decide (0 ≤ acctAt l name))] ∧ Owns w' w.heap.size vs (balOf l name) f ∧ f.Nodup ∧ (balOf l name).map D0.code = [.str, .bool, .ints] ∧ tcnts (balOf l name) ≤ 1000000000 ∧ Ext w w' := by
  have hz := h.1; have hcap := h.2.1; have hcm := h.2.2.1
  have hcnt : tcnts (balOf l name) ≤ 1000000000 := by
    have h1 := tcnts_le (balOf l name); have h2 := balOf_bulks (name := name) hb
    omega
  refine impl_BalanceOf_ret ?_
  unfold impl_BalanceOf
  intro r w1 hn1 r1 w2 hn2
  have X := hn1.ext.trans hn2.ext
  have k0 := hn1.blk.ext hn2.ext; have k1 := hn2.blk
  have e1 := hn1.r_eq; have e2 := hn2.r_eq; have s1 := hn1.size; have s2 := hn2.size
  refine ⟨_, _, _, k0.loadA0 (by kernel_rfl), ?_⟩
  refine Ret.at (impl_AcctAt_c (h.ext X) hc name) ?_
  rintro v w3 ⟨hv, y3⟩
  subst hv
  have l3 := y3.le
  rcases acctAt_spec l name with h0 | ⟨j, hj, h0⟩
  · refine ⟨_, rfl, ifD (fun _ => ?_) (fun hge => absurd hge (by omega))⟩
    obtain ⟨w4, st, hb4, ch, sz⟩ := (k1.ext y3).storeA0 (P := P) (t := T_impl_Money) (xs := [.string ByteArray.empty, .bool false, .slice none 0 0]) (by kernel_rfl) rfl (by simp [Value.oneCell'])
    refine ⟨w4, st, _, _, _, _, _, hb4.loadA0 (by kernel_rfl), [.string ByteArray.empty, .bool false, .slice none 0 0], [], ?_, ?_, List.nodup_nil, balOf_code hc, hcnt, (X.trans y3).chg ch (by simp; omega)⟩
    · rw [decide_eq_false (show ¬ 0 ≤ acctAt l name by omega)]
    · rw [balOf_none (by omega)]
      exact Owns.append (Owns.str _ _ _) (Owns.append (Owns.bool _ _ false) (Owns.ints (zs := []) (Own.nil w4 w.heap.size T_int 1)))
  · refine ⟨_, rfl, ifD (fun hlt => absurd hlt (by omega)) (fun hge => ?_)⟩
    obtain ⟨b, off, hp, hs⟩ := (h.ext (X.trans y3)).2.2.2 (by omega)
    obtain ⟨cs, hk, hr, hsg⟩ := hs j _ (List.getElem?_eq_getElem hj)
    have hcode := hc _ (List.getElem_mem hj)
    have hbj := hb _ (List.getElem_mem hj)
    obtain ⟨a0, a1, a2, a3p, a3n, a3c, a3z, rfl, hd, ha⟩ := open_Acct hr hcode
    rw [hd] at hbj
    simp only [bulks, D0.bulk, List.map_cons, List.map_nil, List.sum_cons, List.sum_nil] at hbj
    subst hp
    rw [h0]
    have k0' := (k0.ext y3).loadAt (P := P) (t := T_s_impl_Acct) 0 (a := (⟨r, 0, none⟩ : Addr).add 0) rfl (by kernel_rfl) rfl
    refine ⟨_, _, _, k0', ⟨by omega, by omega⟩, _, _, _, _, _, (by simp only [addr_add, Int.toNat_natCast]; exact hsg.loadAAt 1 [.string a1, .bool a2, .slice a3p a3n a3c] rfl (by kernel_rfl) rfl), ?_⟩
    have hm : Reps w3 [.string a1, .bool a2, .slice a3p a3n a3c] [.str a1, .bool a2, .ints a3z] := ⟨rfl, rfl, ⟨_, _, _, rfl, ha⟩, trivial⟩
    refine Ret.at (impl_moneyCopy_c hm rfl (by simp only [bulks, D0.bulk, List.map_cons, List.map_nil, List.sum_cons, List.sum_nil]; omega)) ?_
    rintro v w4 ⟨vs, f, hv, ho, nd, y4⟩
    subst hv
    obtain ⟨b0, b1, b2p, b2n, b2c, b2z, rfl, hq, _⟩ := open_Money ho.reps rfl
    obtain ⟨w5, st, hb5, ch, sz⟩ := ((k1.ext y3).ext y4).storeA0 (P := P) (t := T_impl_Money) (xs := [.string b0, .bool b1, .slice b2p b2n b2c]) (by kernel_rfl) rfl (by simp [Value.oneCell'])
    have o5 := (ho.chg1 ch (by omega)).mono (B' := w.heap.size) (by omega)
    refine ⟨_, _, _, _, _, rfl, w5, st, _, _, _, _, _, hb5.loadA0 (by kernel_rfl), [.string b0, .bool b1, .slice b2p b2n b2c], f, ?_, ?_, nd, balOf_code hc, hcnt, ((X.trans y3).trans y4).chg ch (by simp; omega)⟩
    · rw [decide_eq_true (show (0 : Int) ≤ (j : Nat) by omega)]
    · rw [balOf_some h0, List.getD_eq_getElem?_getD, List.getElem?_eq_getElem hj]
      show Owns w5 _ _ ((l[j]'hj).drop 1) f
      rw [hd]
      exact o5

end Go.Proofs.Ytfbmjimhjlmhkaa
