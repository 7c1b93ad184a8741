/-
  Contracts: the remainder of a currency.
-/
import Derived.Test.YtfbmjimhjlmhkaaCCopy
namespace Go.Proofs.Ytfbmjimhjlmhkaa
open Go Go.Proofs.Ytfbmjimhjlmhkaa.Sx
set_option linter.unusedVariables false
set_option linter.unusedSimpArgs false

def rowStr : List D0 → ByteArray
  | .str s :: _ => s
  | _ => ByteArray.empty
def restOf : List (List D0) → ByteArray → List D0
  | [], _ => [.bool false, .ints [], .ints [1]]
  | x :: l, cur => if rowStr x = cur then x.drop 1 else restOf l cur
theorem restOf_code {cur : ByteArray} : ∀ {l : List (List D0)}, (∀ x ∈ l, x.map D0.code = [.str, .bool, .ints, .ints]) → (restOf l cur).map D0.code = [.bool, .ints, .ints]
  | [], _ => rfl
  | x :: l, h => by
    unfold restOf
    split
    · rw [List.map_drop, h x (.head _)]; rfl
    · exact restOf_code fun y hy => h y (.tail _ hy)
theorem bulks_drop (x : List D0) : bulks (x.drop 1) ≤ bulks x := by
  cases x with
  | nil => simp [bulks]
  | cons a r => simp [bulks]
theorem restOf_bulks {cur : ByteArray} : ∀ {l : List (List D0)}, (∀ x ∈ l, bulks x ≤ 1048576) → bulks (restOf l cur) ≤ 1048576
  | [], _ => by simp [restOf, bulks, D0.bulk]
  | x :: l, h => by
    unfold restOf
    split
    · exact Nat.le_trans (bulks_drop x) (h x (.head _))
    · exact restOf_bulks fun y hy => h y (.tail _ hy)
theorem restOf_at {l : List (List D0)} {cur : ByteArray} {j : Nat} (hj : j < l.length) : restOf (l.drop j) cur = if rowStr (l[j]'hj) = cur then (l[j]'hj).drop 1 else restOf (l.drop (j + 1)) cur := by
  rw [List.drop_eq_getElem_cons hj, restOf]

theorem spec_RestOf_c {w : World} {p : Option Addr} {n c : Nat} {l : List (List D0)} (h : RowsR w 4 p n c l) (hc : ∀ x ∈ l, x.map D0.code = [.str, .bool, .ints, .ints]) (hn : n ≤ 1048576) (hb : ∀ x ∈ l, bulks x ≤ 1048576) (cur : ByteArray) :
    Ret P n_spec_RestOf [.slice p n c, .string cur] w fun v w' => ∃ vs, v = .agg ⟨vs⟩ ∧ Reps w' vs (restOf l cur) ∧ (restOf l cur).map D0.code = [.bool, .ints, .ints] ∧ Ext w w' := by
  have hz := h.1; have hcap := h.2.1; have hcm := h.2.2.1
  refine spec_RestOf_ret ?_
  unfold spec_RestOf
  intro r w1 hn1
  have e1 := hn1.r_eq; have s1 := hn1.size
  refine ⟨fun i wr => ∃ j : Nat, i = j ∧ j ≤ n ∧ Ext w1 wr ∧ restOf l cur = restOf (l.drop j) cur, fun i _ => n - i.toNat, ⟨0, rfl, by omega, Ext.refl _, rfl⟩, ?_⟩
  intro junk wr i ⟨j, hij, hj, hx, he⟩
  subst hij
  have X := hn1.ext.trans hx
  have lx := hx.le
  refine ifD (fun hlt => ?_) (fun hge => ?_)
  · have hjn : j < n := by omega
    have hjl : j < l.length := by omega
    obtain ⟨a, cs, hp, hk, hr, hl⟩ := (h.ext X).at (P := P) (t := T_impl_Rest) (by kernel_rfl) hjn
    subst hp
    have hrr := hr; have hcode := hc _ (List.getElem_mem hjl)
    have hbj := hb _ (List.getElem_mem hjl)
    obtain ⟨a0, a1, a2p, a2n, a2c, a2z, a3p, a3n, a3c, a3z, rfl, hd, ha, ha3⟩ := open_Rest hr hcode
    rw [restOf_at hjl, hd] at he
    rw [hd] at hbj
    simp only [bulks, D0.bulk, List.map_cons, List.map_nil, List.sum_cons, List.sum_nil] at hbj
    refine ⟨⟨by omega, by omega⟩, _, _, _, _, _, _, _, _, by simpa using hl, ?_⟩
    intro r1 w2 hn2
    obtain ⟨w3, st, hb3, y3⟩ := hn2.fill (P := P) (t := T_impl_Rest) hrr.cells1 (by kernel_rfl) rfl
    have l3 := y3.le
    refine ⟨w3, st, _, hb3.loadAt 0 rfl (by kernel_rfl) rfl, ifD (fun heq => ?_) (fun hne => ?_)⟩
    · have he := he.trans (if_pos (show rowStr [.str a0, .bool a1, .ints a2z, .ints a3z] = cur from heq))
      refine ⟨_, _, _, _, _, _, _, hb3.loadAAt 1 [.bool a1, .slice a2p a2n a2c, .slice a3p a3n a3c] rfl (by kernel_rfl) rfl, ?_⟩
      have hs : Reps w3 [.bool a1, .slice a2p a2n a2c, .slice a3p a3n a3c] [.bool a1, .ints a2z, .ints a3z] := ⟨rfl, ⟨_, _, _, rfl, ha.ext y3⟩, ⟨_, _, _, rfl, ha3.ext y3⟩, trivial⟩
      refine Ret.at (spec_l19Rat_c hs rfl (by simp only [bulks, D0.bulk, List.map_cons, List.map_nil, List.sum_cons, List.sum_nil]; omega)) ?_
      rintro v w4 ⟨vs, f, hv, ho, y4⟩
      subst hv
      obtain ⟨b0, b1p, b1n, b1c, b1z, b2p, b2n, b2c, b2z, rfl, hq, _⟩ := open_Rat ho.reps rfl
      have Y := (hx.trans y3).trans y4
      obtain ⟨w5, st, hb5, ch, sz⟩ := (hn1.blk.ext Y).storeA0 (P := P) (t := T_impl_Rat) (xs := [.bool b0, .slice b1p b1n b1c, .slice b2p b2n b2c]) (by kernel_rfl) rfl (by simp [Value.oneCell'])
      have o5 := ho.chg1 ch (by omega)
      refine ⟨_, _, _, _, _, _, _, rfl, w5, st, _, _, _, _, _, _, _, hb5.loadA0 (by kernel_rfl), _, rfl, ?_, restOf_code hc, (hn1.ext.trans Y).chg ch (by simp; omega)⟩
      rw [he]
      exact o5.reps
    · have he := he.trans (if_neg (show ¬ rowStr [.str a0, .bool a1, .ints a2z, .ints a3z] = cur from hne))
      refine exW ⟨by omega, by omega⟩ ⟨⟨j + 1, by omega, by omega, hx.trans y3, he⟩, ?_⟩
      show n - ((j : Int) + 1).toNat < n - (j : Int).toNat
      omega
  · rw [List.drop_of_length_le (by omega)] at he
    refine Ret.at (spec_RatZero_c _) ?_
    rintro v w2 ⟨vs, f, hv, ho, nd, y2⟩
    subst hv
    obtain ⟨b0, b1p, b1n, b1c, b1z, b2p, b2n, b2c, b2z, rfl, hq, _⟩ := open_Rat ho.reps rfl
    have Y := hx.trans y2
    obtain ⟨w5, st, hb5, ch, sz⟩ := (hn1.blk.ext Y).storeA0 (P := P) (t := T_impl_Rat) (xs := [.bool b0, .slice b1p b1n b1c, .slice b2p b2n b2c]) (by kernel_rfl) rfl (by simp [Value.oneCell'])
    have o5 := ho.chg1 ch (by omega)
    refine ⟨_, _, _, _, _, _, _, rfl, w5, st, _, _, _, _, _, _, _, hb5.loadA0 (by kernel_rfl), _, rfl, ?_, restOf_code hc, (hn1.ext.trans Y).chg ch (by simp; omega)⟩
    rw [he]
    exact o5.reps

theorem impl_RestOf_c {w : World} {p : Option Addr} {n c : Nat} {l : List (List D0)} (h : RowsR w 4 p n c l) (hc : ∀ x ∈ l, x.map D0.code = [.str, .bool, .ints, .ints]) (hn : n ≤ 1048576) (hb : ∀ x ∈ l, bulks x ≤ 1048576) (cur : ByteArray) :
    Ret P n_impl_RestOf [.slice p n c, .string cur] w fun v w' => ∃ vs f, v = .agg ⟨vs⟩ ∧ Owns w' w.heap.size vs (restOf l cur) f ∧ f.Nodup ∧ (restOf l cur).map D0.code = [.bool, .ints, .ints] ∧ tcnts (restOf l cur) ≤ 1000000000 ∧ Ext w w' := by
  have hz := h.1; have hcap := h.2.1; have hcm := h.2.2.1
  have hcnt : tcnts (restOf l cur) ≤ 1000000000 := by
    have h1 := tcnts_le (restOf l cur); have h2 := restOf_bulks (cur := cur) hb
    omega
  refine impl_RestOf_ret ?_
  unfold impl_RestOf
  intro r w1 hn1
  have e1 := hn1.r_eq; have s1 := hn1.size
  refine ⟨fun i wr => ∃ j : Nat, i = j ∧ j ≤ n ∧ Ext w1 wr ∧ restOf l cur = restOf (l.drop j) cur, fun i _ => n - i.toNat, ⟨0, rfl, by omega, Ext.refl _, rfl⟩, ?_⟩
  intro junk wr i ⟨j, hij, hj, hx, he⟩
  subst hij
  have X := hn1.ext.trans hx
  have lx := hx.le
  refine ifD (fun hlt => ?_) (fun hge => ?_)
  · have hjn : j < n := by omega
    have hjl : j < l.length := by omega
    obtain ⟨a, cs, hp, hk, hr, hl⟩ := (h.ext X).at (P := P) (t := T_impl_Rest) (by kernel_rfl) hjn
    subst hp
    have hrr := hr; have hcode := hc _ (List.getElem_mem hjl)
    have hbj := hb _ (List.getElem_mem hjl)
    obtain ⟨a0, a1, a2p, a2n, a2c, a2z, a3p, a3n, a3c, a3z, rfl, hd, ha, ha3⟩ := open_Rest hr hcode
    rw [restOf_at hjl, hd] at he
    rw [hd] at hbj
    simp only [bulks, D0.bulk, List.map_cons, List.map_nil, List.sum_cons, List.sum_nil] at hbj
    refine ⟨⟨by omega, by omega⟩, _, _, _, _, _, _, _, _, by simpa using hl, ?_⟩
    intro r1 w2 hn2
    obtain ⟨w3, st, hb3, y3⟩ := hn2.fill (P := P) (t := T_impl_Rest) hrr.cells1 (by kernel_rfl) rfl
    have l3 := y3.le
    refine ⟨w3, st, _, hb3.loadAt 0 rfl (by kernel_rfl) rfl, ifD (fun heq => ?_) (fun hne => ?_)⟩
    · have he := he.trans (if_pos (show rowStr [.str a0, .bool a1, .ints a2z, .ints a3z] = cur from heq))
      refine ⟨_, _, _, _, _, _, _, hb3.loadAAt 1 [.bool a1, .slice a2p a2n a2c, .slice a3p a3n a3c] rfl (by kernel_rfl) rfl, ?_⟩
      have hs : Reps w3 [.bool a1, .slice a2p a2n a2c, .slice a3p a3n a3c] [.bool a1, .ints a2z, .ints a3z] := ⟨rfl, ⟨_, _, _, rfl, ha.ext y3⟩, ⟨_, _, _, rfl, ha3.ext y3⟩, trivial⟩
      refine Ret.at (impl_ratCopy_c hs rfl (by simp only [bulks, D0.bulk, List.map_cons, List.map_nil, List.sum_cons, List.sum_nil]; omega)) ?_
      rintro v w4 ⟨vs, f, hv, ho, nd, y4⟩
      subst hv
      obtain ⟨b0, b1p, b1n, b1c, b1z, b2p, b2n, b2c, b2z, rfl, hq, _⟩ := open_Rat ho.reps rfl
      have Y := (hx.trans y3).trans y4
      obtain ⟨w5, st, hb5, ch, sz⟩ := (hn1.blk.ext Y).storeA0 (P := P) (t := T_impl_Rat) (xs := [.bool b0, .slice b1p b1n b1c, .slice b2p b2n b2c]) (by kernel_rfl) rfl (by simp [Value.oneCell'])
      have o5 := (ho.chg1 ch (by omega)).mono (B' := w.heap.size) (by omega)
      refine ⟨_, _, _, _, _, _, _, rfl, w5, st, _, _, _, _, _, _, _, hb5.loadA0 (by kernel_rfl), _, f, rfl, ?_, nd, restOf_code hc, hcnt, (hn1.ext.trans Y).chg ch (by simp; omega)⟩
      rw [he]
      exact o5
    · have he := he.trans (if_neg (show ¬ rowStr [.str a0, .bool a1, .ints a2z, .ints a3z] = cur from hne))
      refine exW ⟨by omega, by omega⟩ ⟨⟨j + 1, by omega, by omega, hx.trans y3, he⟩, ?_⟩
      show n - ((j : Int) + 1).toNat < n - (j : Int).toNat
      omega
  · rw [List.drop_of_length_le (by omega)] at he
    refine Ret.at (impl_RatZero_c _) ?_
    rintro v w2 ⟨vs, f, hv, ho, nd, y2⟩
    subst hv
    obtain ⟨b0, b1p, b1n, b1c, b1z, b2p, b2n, b2c, b2z, rfl, hq, _⟩ := open_Rat ho.reps rfl
    have Y := hx.trans y2
    obtain ⟨w5, st, hb5, ch, sz⟩ := (hn1.blk.ext Y).storeA0 (P := P) (t := T_impl_Rat) (xs := [.bool b0, .slice b1p b1n b1c, .slice b2p b2n b2c]) (by kernel_rfl) rfl (by simp [Value.oneCell'])
    have o5 := (ho.chg1 ch (by omega)).mono (B' := w.heap.size) (by omega)
    refine ⟨_, _, _, _, _, _, _, rfl, w5, st, _, _, _, _, _, _, _, hb5.loadA0 (by kernel_rfl), _, f, rfl, ?_, nd, restOf_code hc, hcnt, (hn1.ext.trans Y).chg ch (by simp; omega)⟩
    rw [he]
    exact o5

end Go.Proofs.Ytfbmjimhjlmhkaa
