/-
  Parts of the proof of fnSettle_holds: CTextN, CText, CPosText, CDebtText, CFnSettleL, CMoneyOf, SxRow, SxOpen, CByR, CRowAt, CFnSettle, CTab, CTabP, CTabX.
  Conditions: none.
-/
import Derived.Shelf.Strings.Repeat
import Derived.Shelf.Strings.BuilderX
import Derived.Lib.SmallJoins
import Derived.Lib.AppendIntMem
import Derived.ProofKit
import Derived.Deep.Slices
import Derived.Test.YtbgokfhcgcoipaaDoorRows
import Derived.OpenShut
import Derived.Lib.LaidTab
import Derived.Test.YtbgokfhcgcoipaaDoorFs3
set_option linter.unusedVariables false
set_option linter.unusedSimpArgs false
namespace Go.ChangeShapes
end Go.ChangeShapes
namespace Go.RowKit
end Go.RowKit
namespace Go.WideShapes
end Go.WideShapes

namespace Go.Proofs.YtbgokfhcgcoipaaDoor
open Go Go.Proofs.YtbgokfhcgcoipaaDoor.Sx
def TabP (w : World) : Prop := Lib.TabIs P w "internal/strconv.uint64pow10" .u64 Lib.pow10Tab
theorem TabP.ext {w w' : World} (h : TabP w) (he : Ext w w') : TabP w' := Joins.tab_stays lays171.m17 h he (Nat.le_refl _)
theorem X105 : Go.Proofs.Builder.Extra P ren105 where
  sizeBuilder := by kernel_rfl
  liesBuilder := by kernel_rfl
  t5 := lays105.t5
  a5 := lays105.a5
  z5 := lays105.z5
  v5 := lays105.v5
  infoByte := by kernel_rfl
  cellsByte := by kernel_rfl
  sizeByte := by kernel_rfl
  neB5 := by decide
theorem ba_ext {a b : ByteArray} (h : a.data.toList = b.data.toList) : a = b := by
  obtain ⟨⟨x⟩⟩ := a; obtain ⟨⟨y⟩⟩ := b
  simp at h; subst h; rfl
def itxt (u : Nat) : ByteArray := ⟨(Lib.decDigits u).toArray⟩
theorem decDigits_small {u : Nat} (h : u < 10) : Lib.decDigits u = [UInt8.ofNat (48 + u)] := by rw [Lib.decDigits, dif_pos h]
theorem decDigits_big {u : Nat} (h : ¬ u < 10) : Lib.decDigits u = Lib.decDigits (u / 10) ++ [UInt8.ofNat (48 + u % 10)] := by rw [Lib.decDigits, dif_neg h]
theorem itxt_small {u : Nat} (h : u < 10) : itxt u = strOfNums [((48 + u : Nat) : Int)] := ba_ext (by rw [strOfNums_data, itxt, decDigits_small h]; rfl)
theorem itxt_big {u : Nat} (h : ¬ u < 10) : itxt u = itxt (u / 10) ++ strOfNums [((48 + u % 10 : Nat) : Int)] := ba_ext (by
  have e : (itxt u).data.toList = Lib.decDigits u := by simp [itxt]
  have e1 : (itxt (u / 10)).data.toList = Lib.decDigits (u / 10) := by simp [itxt]
  rw [e, decDigits_big h, ByteArray.data_append, Array.toList_append, e1, strOfNums_data]; rfl)
theorem itxt_lt : ∀ (k : Nat) {u : Nat}, u < 10 ^ (k + 1) -> (itxt u).size <= k + 1
  | 0, u, h => by rw [itxt_small (by simpa using h), strOfNums_size]; simp
  | k + 1, u, h => by
    by_cases h1 : u < 10
    · rw [itxt_small h1, strOfNums_size]; simp
    · have h2 : u / 10 < 10 ^ (k + 1) := by rw [Nat.pow_succ] at h; omega
      have := itxt_lt k h2
      rw [itxt_big h1, ByteArray.size_append, strOfNums_size]
      simp; omega
theorem itxt_limb {u : Nat} (h : u < 1000000000) : (itxt u).size <= 9 := itxt_lt 8 (by simpa using h)
theorem impl_IntText_c {w : World} {n : Int} (ht : TabP w) (h0 : 0 <= n) (h1 : n <= 9223372036854775807) : Ret P n_impl_IntText [.int .i64 n] w fun v w' => v = .string (itxt n.toNat) /\ Ext w w' := by
  refine impl_IntText_ret ?_
  unfold impl_IntText
  obtain ⟨u, rfl⟩ : ∃ u : Nat, n = u := ⟨n.toNat, by omega⟩
  refine (Any.strconv_Itoa lays171 (u : Int) (by omega) h1 w ht).mono ?_
  rintro e w' ⟨rfl, k, os, rfl⟩
  rw [Lib.itoa_nonneg]
  exact ⟨_, rfl, rfl, Lib.below_grow _ _ (Nat.le_refl _) _ _⟩
def zeros (k : Nat) : ByteArray := ⟨(List.replicate k (48 : UInt8)).toArray⟩
def padT (s : ByteArray) (n : Int) : ByteArray := if n <= (s.size : Nat) ∨ 2000 < n then s else zeros (n - (s.size : Nat)).toNat ++ s
theorem zeros_size (k : Nat) : (zeros k).size = k := by simp [zeros, ByteArray.size]
theorem padT_le {s : ByteArray} {n : Int} {k : Nat} (h1 : s.size <= k) (h2 : n <= k) : (padT s n).size <= k := by
  unfold padT
  split
  · exact h1
  · rw [ByteArray.size_append, zeros_size]; omega
theorem padT_ge {s : ByteArray} {n : Int} (h : n <= 2000) : n <= ((padT s n).size : Nat) := by
  unfold padT
  split
  · omega
  · rw [ByteArray.size_append, zeros_size]; omega
theorem repeat_zeros (c : Nat) : (⟨(Lib.repeatL (S [48]).data.toList c).toArray⟩ : ByteArray) = zeros c := by
  have : ∀ c, Lib.repeatL (S [48]).data.toList c = List.replicate c (48 : UInt8) := fun c => by
    induction c with
    | zero => rfl
    | succ c ih => rw [Lib.repeatL, ih]; rfl
  rw [this]; rfl
theorem impl_Pad_c {w : World} (s : ByteArray) (n : Int) (hs : s.size <= 4611686018427387904) (hn : -4611686018427387904 <= n) : Ret P n_impl_Pad [.string s, .int .i64 n] w fun v w' => v = .string (padT s n) /\ Ext w w' := by
  refine impl_Pad_ret ?_
  unfold impl_Pad
  refine ifD (fun h => ifT ⟨by rw [padT, if_pos (.inl h)], Ext.refl _⟩) (fun h => ifD (fun h2 => ⟨by rw [padT, if_pos (.inr h2)], Ext.refl _⟩) (fun h2 => ?_))
  refine exW ⟨by omega, by omega⟩ ?_
  obtain ⟨c, hc⟩ : ∃ c : Nat, n - (s.size : Nat) = c := ⟨(n - (s.size : Nat)).toNat, by omega⟩
  rw [hc]
  refine (Any.strings_Repeat lays105 X105 (S [48]) c w (by omega) (by show 1 * c <= 140737488355328; omega)).mono ?_
  rintro e w' ⟨rfl, hx⟩
  rw [repeat_zeros]
  refine ⟨_, rfl, ?_, _, rfl, ?_, hx⟩
  · rw [zeros_size]; omega
  · rw [padT, if_neg (by omega), hc]; rfl
def natR : List Int -> ByteArray
  | [] => ByteArray.empty
  | x :: r => padT (itxt x.toNat) 9 ++ natR r
def natT (l : List Int) : ByteArray := match l.reverse with
  | [] => S [48]
  | x :: r => itxt x.toNat ++ natR r
theorem limb_text {x : Int} (h : 0 <= x /\ x < 1000000000) : (itxt x.toNat).size <= 9 /\ (padT (itxt x.toNat) 9).size <= 9 :=
  have h1 := itxt_limb (u := x.toNat) (by omega)
  ⟨h1, padT_le h1 (by decide)⟩
theorem natR_size : ∀ {l : List Int}, Limbs l -> (natR l).size <= l.length * 9
  | [], _ => by simp [natR]
  | x :: r, h => by
    have h := Limbs.cons.1 h
    have h1 := natR_size h.2; have h2 := (limb_text h.1).2
    rw [natR, ByteArray.size_append, List.length_cons]
    omega
theorem natT_size {l : List Int} (h : Limbs l) : (natT l).size <= l.length * 9 + 1 := by
  unfold natT
  cases e : l.reverse with
  | nil => show 1 <= _; omega
  | cons x r =>
    have hl : l.length = r.length + 1 := by rw [<- List.length_reverse, e]; rfl
    have hh : Limbs (x :: r) := fun y hy => h y (by rw [<- List.mem_reverse, e]; exact hy)
    have hh := Limbs.cons.1 hh
    have h1 := natR_size hh.2; have h2 := (limb_text hh.1).1
    show (itxt x.toNat ++ natR r).size <= _
    rw [ByteArray.size_append, hl]; omega
theorem rev_take_succ {l : List Int} {t : Nat} (h : t < l.length) : (l.take (t + 1)).reverse = l.getD t 0 :: (l.take t).reverse := by
  rw [List.take_add_one, List.getElem?_eq_getElem h, List.getD_eq_getElem?_getD, List.getElem?_eq_getElem h]
  simp
theorem natT_top {l : List Int} {n : Nat} (h : l.length = n + 1) : natT l = itxt (l.getD n 0).toNat ++ natR (l.take n).reverse := by
  have := rev_take_succ (l := l) (t := n) (by omega)
  rw [List.take_of_length_le (by omega)] at this
  unfold natT
  rw [this]
theorem impl_natText_c {w : World} {p : Option Addr} {n c : Nat} {z : List Int} (h : IntsR w p n c z) (hlz : Limbs z) (hn : n <= 1000) (ht : TabP w) :
    Ret P n_impl_natText [.slice p n c] w fun v w' => v = .string (natT z) /\ Ext w w' := by
  refine impl_natText_ret ?_
  unfold impl_natText
  have hlen := h.1
  have XS := Ext.refl w
  refine ifD (fun h0 => ⟨?_, XS⟩) (fun h0 => ?_)
  · rw [List.eq_nil_of_length_eq_zero (show z.length = 0 by omega)]; rfl
  · skip
    obtain ⟨m, rfl⟩ : ∃ m, n = m + 1 := ⟨n - 1, by omega⟩
    have e1 : ((m + 1 : Nat) : Int) - 1 = (m : Int) := by omega
    have e2 : ((m + 1 : Nat) : Int) - 2 = (m : Int) - 1 := by omega
    rw [e1, e2]
    have T := hlz.getD m
    obtain ⟨ad, rfl, hl⟩ := ints_at (h.ext XS) (i := (m : Int)) (by omega) (by omega)
    simp only [Int.toNat_natCast] at hl
    refine exW ⟨by omega, by omega⟩ ⟨⟨by omega, by omega⟩, _, by simpa only [Int.toNat_natCast] using hl, ?_⟩
    refine Ret.at (impl_IntText_c (ht.ext XS) T.1 (by omega)) ?_
    rintro v w2 ⟨hv, y2⟩
    subst hv
    refine ⟨_, rfl, exW ⟨by omega, by omega⟩ ⟨fun text i wr => ∃ s : Nat, i = (s : Int) - 1 /\ s <= m /\ text.size <= (m - s) * 9 + 9 /\ natT z = text ++ natR (z.take s).reverse /\ Ext w wr, fun _ i _ => (i + 1).toNat,
      ⟨m, rfl, by omega, by have := (limb_text T).1; omega, natT_top hlen, XS.trans y2⟩, ?_⟩⟩
    intro junk wr text i ⟨s, hi, hs, hsz, htx, hx⟩
    subst hi
    refine ifD (fun hpos => ?_) (fun hend => ?_)
    · obtain ⟨t, rfl⟩ : ∃ t, s = t + 1 := ⟨s - 1, by omega⟩
      have e3 : ((t + 1 : Nat) : Int) - 1 = (t : Int) := by omega
      rw [e3]
      have A := hlz.getD t
      have L := limb_text A
      obtain ⟨ad, hp, hl⟩ := ints_at (h.ext hx) (i := (t : Int)) (by omega) (by omega)
      obtain rfl := Option.some.inj hp
      simp only [Int.toNat_natCast] at hl
      refine ⟨⟨by omega, by omega⟩, _, by simpa only [Int.toNat_natCast] using hl, ?_⟩
      refine Ret.at (impl_IntText_c (ht.ext hx) A.1 (by omega)) ?_
      rintro v w3 ⟨hv, y3⟩
      subst hv
      refine ⟨_, rfl, ?_⟩
      refine Ret.at (impl_Pad_c _ 9 (by omega) (by omega)) ?_
      rintro v w4 ⟨hv, y4⟩
      subst hv
      refine ⟨_, rfl, ?_, _, rfl, exW ⟨by omega, by omega⟩ ⟨⟨t, by omega, by omega, ?_, ?_, (hx.trans y3).trans y4⟩, ?_⟩⟩
      · have : (m - (t + 1)) * 9 <= m * 9 := Nat.mul_le_mul_right _ (by omega)
        omega
      · rw [ByteArray.size_append]
        have : m - t = (m - (t + 1)) + 1 := by omega
        rw [this]; omega
      · rw [htx, rev_take_succ (by omega), natR, ByteArray.append_assoc]
      · show ((t : Int) - 1 + 1).toNat < ((t : Int) + 1).toNat
        omega
    · have hs0 : s = 0 := by omega
      subst hs0
      refine ⟨?_, hx⟩
      rw [htx]
      simp [natR]
def dotT (t : ByteArray) (s : Int) : ByteArray := if 0 < s then (t.extract 0 (((t.size : Nat) : Int) - s).toNat ++ S [46]) ++ t.extract (((t.size : Nat) : Int) - s).toNat t.size else t
def decT : List D0 -> ByteArray
  | [.bool b, .ints z, .int s] => if decOk [.bool b, .ints z, .int s] then (if b then S [45] ++ dotT (padT (natT z) (s + 1)) s else dotT (padT (natT z) (s + 1)) s) else S []
  | _ => S []
theorem dotT_size (t : ByteArray) (s : Int) : (dotT t s).size <= t.size + 1 := by
  unfold dotT
  split
  · rw [ByteArray.size_append, ByteArray.size_append, ByteArray.size_extract, ByteArray.size_extract]
    show _ + 1 + _ <= _
    omega
  · omega
theorem decT_size (d : List D0) : (decT d).size <= 100 := by
  unfold decT
  split
  · rename_i b z s
    split
    · rename_i h
      obtain ⟨_, _, hz, hl, _, _⟩ := decOk_parts h
      have h1 := natT_size hz; have h3 := dotT_size (padT (natT z) (s + 1)) s
      have h2 : (padT (natT z) (s + 1)).size <= 60 := padT_le (by omega) (by omega)
      split
      · rw [ByteArray.size_append]
        show 1 + _ <= _
        omega
      · omega
    · show 0 <= _; omega
  · show 0 <= _; omega
theorem impl_DecText_c {w : World} {xs : List Value} {dx : List D0} (h : Reps w xs dx) (hc : dx.map D0.code = [.bool, .ints, .int]) (ht : TabP w) :
    Ret P n_impl_DecText [.agg ⟨xs⟩] w fun v w' => v = .string (decT dx) /\ Ext w w' := by
  have hr := h
  obtain ⟨a0, a1p, a1n, a1c, a1z, a2, rfl, rfl, ha⟩ := open_Dec h hc
  have hl := ha.1
  refine impl_DecText_ret ?_
  unfold impl_DecText
  intro r w1 hn1
  refine ⟨_, _, _, _, _, hn1.blk.loadA0 (by kernel_rfl), ?_⟩
  refine Ret.at (impl_DecOk_c (hr.ext hn1.ext) rfl) ?_
  rintro v w2 ⟨hv, y2⟩
  subst hv
  have X2 := hn1.ext.trans y2
  refine ⟨_, rfl, ifN (fun e => ⟨by simp only [decT, e, Bool.false_eq_true, if_false], X2⟩) (fun e => ?_)⟩
  obtain ⟨hio, hno, hz, hl6, hs0, hs1⟩ := decOk_parts e
  have D := Ext.drew w2
  have X3 := X2.trans D
  have b := hn1.blk.ext (y2.trans D)
  refine ⟨_, _, _, fun W hW => (b.ext hW).loadAt 1 rfl (by kernel_rfl) rfl, ?_⟩
  refine Ret.at (impl_natText_c (ha.ext X3) hz (by omega) (ht.ext X3)) ?_
  rintro v w4 ⟨hv, y4⟩
  subst hv
  have N1 := natT_size hz
  have N2 : a1z.length * 9 <= 6 * 9 := Nat.mul_le_mul_right _ hl6
  refine ⟨_, rfl, y4, _, fun W hW => (b.ext hW).loadAt 2 rfl (by kernel_rfl) rfl, exW ⟨by omega, by omega⟩ ?_⟩
  refine Ret.at (impl_Pad_c _ (a2 + 1) (by omega) (by omega)) ?_
  rintro v w5 ⟨hv, y5⟩
  subst hv
  have Y5 := y4.trans y5
  have N3 : (padT (natT a1z) (a2 + 1)).size <= 60 := padT_le (by omega) (by omega)
  have N4 := padT_ge (s := natT a1z) (n := a2 + 1) (by omega)
  have X5 := X3.trans Y5
  have b5 := b.ext Y5
  have fin : ∀ t W, Ext w5 W -> t.size <= 1000 -> t = dotT (padT (natT a1z) (a2 + 1)) a2 -> impl_DecText_j0 r t W fun v w' => v = .string (decT [.bool a0, .ints a1z, .int a2]) /\ Ext w w' := by
    intro t W hW hts ht
    unfold impl_DecText_j0
    refine ⟨_, (b5.ext hW).loadAt 0 rfl (by kernel_rfl) rfl, fun e0 => ?_, fun e0 => ?_⟩
    · refine ⟨?_, _, rfl, ?_⟩
      · show 1 + t.size <= 9223372036854775807
        omega
      unfold impl_DecText_j1
      refine ⟨?_, X5.trans hW⟩
      subst e0
      simp only [decT, e, if_true, ht]
    · unfold impl_DecText_j1
      refine ⟨?_, X5.trans hW⟩
      subst e0
      simp only [decT, e, if_true, ht, Bool.false_eq_true, if_false]
  refine ⟨_, rfl, _, b5.loadAt 2 rfl (by kernel_rfl) rfl, ifD (fun hpos => ?_) (fun hz0 => fin _ _ (Ext.refl _) (by omega) (by rw [dotT, if_neg hz0]))⟩
  refine ⟨_, b5.loadAt 2 rfl (by kernel_rfl) rfl, exW ⟨by omega, by omega⟩ ⟨⟨by omega, by omega⟩, ?_, _, rfl, ⟨by omega, by omega⟩, ?_, _, rfl, fin _ _ (Ext.drew _) ?_ (by rw [dotT, if_pos hpos])⟩⟩
  · rw [ByteArray.size_extract]
    show _ + 1 <= _
    omega
  · rw [ByteArray.size_append, ByteArray.size_extract, ByteArray.size_extract]
    show _ + 1 + _ <= _
    omega
  · rw [ByteArray.size_append, ByteArray.size_append, ByteArray.size_extract, ByteArray.size_extract]
    show _ + 1 + _ <= _
    omega
end Go.Proofs.YtbgokfhcgcoipaaDoor
namespace Go.Proofs.YtbgokfhcgcoipaaDoor
open Go Go.Proofs.YtbgokfhcgcoipaaDoor.Sx
def curPlaces (c : ByteArray) : Int := (curFind implTab c).2.2.1
def moneyT : List D0 -> ByteArray
  | [.str c, .bool b, .ints z] => if moneyOk [.str c, .bool b, .ints z] then (c ++ S [32]) ++ decT [.bool b, .ints z, .int (curPlaces c)] else S []
  | _ => S []
theorem known_size {c : ByteArray} (h : curKnown c = true) : c.size <= 50 := by
  have h1 : (implTab.all fun r => decide (r.1.size <= 50)) = true := by decide +kernel
  unfold curKnown curIn at h
  rw [List.any_eq_true] at h
  obtain ⟨r, hr, he⟩ := h
  rw [List.all_eq_true] at h1
  have := of_decide_eq_true (h1 r hr)
  rwa [of_decide_eq_true he] at this
theorem moneyT_size (c : ByteArray) (b : Bool) (z : List Int) : (moneyT [.str c, .bool b, .ints z]).size <= 200 := by
  simp only [moneyT]
  split
  · rename_i h
    have := decT_size [.bool b, .ints z, .int (curPlaces c)]
    have hk : curKnown c = true := by
      simp only [moneyOk, Bool.and_eq_true] at h
      exact h.1.1
    have := known_size hk
    rw [ByteArray.size_append, ByteArray.size_append]
    show c.size + 1 + _ <= _
    omega
  · show 0 <= _; omega
theorem impl_CurPlaces_c {w : World} (c : ByteArray) (ht : Tab w) : Ret P n_impl_CurPlaces [.string c] w fun v w' => v = .int .i64 (curPlaces c) /\ Ext w w' := by
  refine impl_CurPlaces_ret ?_
  unfold impl_CurPlaces
  refine Ret.at (impl_currencyOf_c ht c) ?_
  rintro v w1 ⟨hv, y1⟩
  subst hv
  refine ⟨_, _, _, _, _, rfl, ?_⟩
  intro r w2 hn
  obtain ⟨w3, st, hb3, y3⟩ := hn.fill (P := P) (t := T_impl_currency) (xs := curCells (curFind implTab c)) (by simp [curCells, Value.oneCell']) (by kernel_rfl) rfl
  exact ⟨w3, st, _, hb3.loadAt 2 rfl (by kernel_rfl) rfl, rfl, y1.trans y3⟩
theorem impl_MoneyText_c {w : World} {xs : List Value} {c : ByteArray} {b : Bool} {z : List Int} (h : Reps w xs [.str c, .bool b, .ints z]) (ht : Tab w) (hp : TabP w) :
    Ret P n_impl_MoneyText [.agg ⟨xs⟩] w fun v w' => v = .string (moneyT [.str c, .bool b, .ints z]) /\ Ext w w' := by
  have hr := h
  obtain ⟨t0, a0, a1p, a1n, a1c, a1z, rfl, hd, ha⟩ := open_Money h rfl
  simp only [List.cons.injEq, D0.str.injEq, D0.bool.injEq, D0.ints.injEq, and_true] at hd
  obtain ⟨rfl, rfl, rfl⟩ := hd
  refine impl_MoneyText_ret ?_
  unfold impl_MoneyText
  intro r w1 hn1
  refine ⟨_, _, _, _, _, hn1.blk.loadA0 (by kernel_rfl), ?_⟩
  refine Ret.at (impl_MoneyOk_c (ht.ext hn1.ext) (hr.ext hn1.ext) rfl) ?_
  rintro v w2 ⟨hv, y2⟩
  subst hv
  have X2 := hn1.ext.trans y2
  refine ⟨_, rfl, ifN (fun e => ⟨by simp only [moneyT, e, Bool.false_eq_true, if_false], X2⟩) (fun e => ?_)⟩
  have hcs : c.size <= 50 := known_size (by simp only [moneyOk, Bool.and_eq_true] at e; exact e.1.1)
  have D := Ext.drew w2
  have X3 := X2.trans D
  have bk := hn1.blk.ext (y2.trans D)
  refine ⟨_, fun W hW => (bk.ext hW).loadAt 0 rfl (by kernel_rfl) rfl, ?_, _, rfl, _, _, _, _, fun W hW => (bk.ext hW).loadAAt 1 [.bool b, .slice a1p a1n a1c] rfl (by kernel_rfl) rfl, _, fun W hW => (bk.ext hW).loadAt 0 rfl (by kernel_rfl) rfl, ?_⟩
  · show c.size + 1 <= _
    omega
  refine Ret.at (impl_CurPlaces_c c (ht.ext X3)) ?_
  rintro v w4 ⟨hv, y4⟩
  subst hv
  refine ⟨_, rfl, y4, ?_⟩
  have X4 := X3.trans y4
  have hs : Reps w4 [.bool b, .slice a1p a1n a1c, .int .i64 (curPlaces c)] [.bool b, .ints z, .int (curPlaces c)] := ⟨rfl, ⟨_, _, _, rfl, ha.ext X4⟩, rfl, trivial⟩
  refine Ret.at (impl_DecText_c hs rfl (hp.ext X4)) ?_
  rintro v w5 ⟨hv, y5⟩
  subst hv
  have N := decT_size [.bool b, .ints z, .int (curPlaces c)]
  refine ⟨_, rfl, y5, ?_, _, rfl, ?_, X4.trans y5⟩
  · rw [ByteArray.size_append]
    show c.size + 1 + _ <= _
    omega
  · simp only [moneyT, e, if_true]
end Go.Proofs.YtbgokfhcgcoipaaDoor
namespace Go.Proofs.YtbgokfhcgcoipaaDoor
open Go Go.Proofs.YtbgokfhcgcoipaaDoor.Sx
def posTx (cur : ByteArray) : List D0 -> ByteArray
  | [.str a, .bool b, .ints z] => (a ++ S [32]) ++ moneyT [.str cur, .bool b, .ints z]
  | _ => S []
theorem impl_PosText_c {w : World} (cur : ByteArray) {xs : List Value} {dx : List D0} (h : Reps w xs dx) (hc : dx.map D0.code = [.str, .bool, .ints]) (hb : bulks dx <= 1048576) (ht : Tab w) (hp : TabP w) :
    Ret P n_impl_PosText [.string cur, .agg ⟨xs⟩] w fun v w' => v = .string (posTx cur dx) /\ Ext w w' := by
  obtain ⟨a0, a1, a2p, a2n, a2c, a2z, rfl, rfl, ha⟩ := open_Pos h hc
  simp only [bulks, D0.bulk, List.map_cons, List.map_nil, List.sum_cons, List.sum_nil] at hb
  refine impl_PosText_ret ?_
  unfold impl_PosText
  intro r w1 hn1
  have D := Ext.drew w1
  have bk := hn1.blk.ext D
  have X := hn1.ext.trans D
  have hm : Reps w1.drew [.string cur, .bool a1, .slice a2p a2n a2c] [.str cur, .bool a1, .ints a2z] := ⟨rfl, rfl, ⟨_, _, _, rfl, ha.ext X⟩, trivial⟩
  refine ⟨_, fun W hW => (bk.ext hW).loadAt 0 rfl (by kernel_rfl) rfl, ?_, _, rfl, _, _, _, _, fun W hW => (bk.ext hW).loadAAt 1 [.bool a1, .slice a2p a2n a2c] rfl (by kernel_rfl) rfl, ?_⟩
  · show a0.size + 1 <= _
    omega
  refine Ret.at (impl_MoneyText_c hm (ht.ext (X)) (hp.ext (X))) ?_
  rintro v w2 ⟨hv, y2⟩
  subst hv
  have N := moneyT_size cur a1 a2z
  refine ⟨_, rfl, y2, ?_, _, rfl, rfl, X.trans y2⟩
  rw [ByteArray.size_append]
  show a0.size + 1 + _ <= _
  omega
end Go.Proofs.YtbgokfhcgcoipaaDoor
namespace Go.Proofs.YtbgokfhcgcoipaaDoor
open Go Go.Proofs.YtbgokfhcgcoipaaDoor.Sx
def debtT : List D0 -> ByteArray
  | [.str a, .str b, .str c, .bool s, .ints z] => (((a ++ S [32, 62, 32]) ++ b) ++ S [32]) ++ moneyT [.str c, .bool s, .ints z]
  | _ => S []
theorem impl_DebtText_c {w : World} {xs : List Value} {dx : List D0} (h : Reps w xs dx) (hc : dx.map D0.code = [.str, .str, .str, .bool, .ints]) (hb : bulks dx <= 1048576) (ht : Tab w) (hp : TabP w) :
    Ret P n_impl_DebtText [.agg ⟨xs⟩] w fun v w' => v = .string (debtT dx) /\ Ext w w' := by
  obtain ⟨a0, a1, a2, a3, a4p, a4n, a4c, a4z, rfl, rfl, ha⟩ := open_Debt h hc
  simp only [bulks, D0.bulk, List.map_cons, List.map_nil, List.sum_cons, List.sum_nil] at hb
  refine impl_DebtText_ret ?_
  unfold impl_DebtText
  intro r w1 hn1
  have D := Ext.drew w1
  have bk := hn1.blk.ext D
  have X := hn1.ext.trans D
  have hm : Reps w1.drew [.string a2, .bool a3, .slice a4p a4n a4c] [.str a2, .bool a3, .ints a4z] := ⟨rfl, rfl, ⟨_, _, _, rfl, ha.ext X⟩, trivial⟩
  refine ⟨_, fun W hW => (bk.ext hW).loadAt 0 rfl (by kernel_rfl) rfl, ?_, _, rfl, _, fun W hW => (bk.ext hW).loadAt 1 rfl (by kernel_rfl) rfl, ?_, _, rfl, ?_, _, rfl, _, _, _, _, _, fun W hW => (bk.ext hW).loadAAt 2 [.string a2, .bool a3, .slice a4p a4n a4c] rfl (by kernel_rfl) rfl, ?_⟩
  · show a0.size + 3 <= _
    omega
  · rw [ByteArray.size_append]
    show a0.size + 3 + _ <= _
    omega
  · rw [ByteArray.size_append, ByteArray.size_append]
    show a0.size + 3 + _ + 1 <= _
    omega
  refine Ret.at (impl_MoneyText_c hm (ht.ext (X)) (hp.ext (X))) ?_
  rintro v w2 ⟨hv, y2⟩
  subst hv
  have N := moneyT_size a2 a3 a4z
  refine ⟨_, rfl, y2, ?_, _, rfl, rfl, X.trans y2⟩
  rw [ByteArray.size_append, ByteArray.size_append, ByteArray.size_append]
  show a0.size + 3 + _ + 1 + _ <= _
  omega
end Go.Proofs.YtbgokfhcgcoipaaDoor
namespace Go.Proofs.YtbgokfhcgcoipaaDoor
open Go Go.Proofs.YtbgokfhcgcoipaaDoor.Sx
theorem money_small {c : ByteArray} (hc : curKnown c = true) {z : Int} (h : z.natAbs < 1000000000) : moneyOk (.str c :: enc z) = true := by
  have h4 : (digs z.natAbs).length <= 1 := digs_len 1 (by omega)
  have h5 : intOk (enc z) = true := enc_ok (by omega)
  show (curKnown c && intOk (enc z) && decide ((digs z.natAbs).length <= 4)) = true
  rw [hc, h5, decide_eq_true (show (digs z.natAbs).length <= 4 by omega)]; rfl
def DebtG (cur : ByteArray) (x : List D0) : Prop := ∃ (a b : ByteArray) (z : Int), x = .str a :: .str b :: .str cur :: enc z /\ a ∈ names6 /\ b ∈ names6 /\ a ≠ b /\ 0 < z /\ z <= 4200
theorem DebtD.gen {cur : ByteArray} {x : List D0} (h : DebtD cur x) : DebtG cur x := by
  obtain ⟨a, b, z, h1, h2, h3, h4, h5, h6⟩ := h
  exact ⟨a, b, z, h1, h2, h3, h4, h5, by omega⟩
theorem names6_word : ∀ a ∈ names6, isWord a = true := by decide +kernel
theorem names6_size : ∀ a ∈ names6, a.size <= 3 := by decide
theorem DebtG.ok {cur : ByteArray} {x : List D0} (hc : curKnown cur = true) (h : DebtG cur x) : debtOk cur x = true := by
  obtain ⟨a, b, z, rfl, h2, h3, h4, h5, h6⟩ := h
  have hm := money_small hc (z := z) (by omega)
  have hv : ival (enc z) = z := ival_enc z
  show (moneyOk (.str cur :: enc z) && decide (cur = cur) && decide (0 < ival (enc z)) && isWord a && isWord b && !(decide (a = b))) = true
  rw [hm, hv, decide_eq_true rfl, decide_eq_true h5, names6_word a h2, names6_word b h3, decide_eq_false h4]; rfl
theorem DebtG.code {cur : ByteArray} {x : List D0} (h : DebtG cur x) : x.map D0.code = [.str, .str, .str, .bool, .ints] := by
  obtain ⟨a, b, z, rfl, _⟩ := h
  rfl
theorem DebtG.bulk {cur : ByteArray} {x : List D0} (hc : curKnown cur = true) (h : DebtG cur x) : bulks x <= 1048576 := by
  obtain ⟨a, b, z, rfl, h2, h3, h4, h5, h6⟩ := h
  have hd : (digs z.natAbs).length <= 1 := digs_len 1 (by omega)
  have := names6_size a h2; have := names6_size b h3; have := known_size hc
  simp only [enc, bulks, D0.bulk, List.map_cons, List.map_nil, List.sum_cons, List.sum_nil]
  omega
theorem debtsG_ok {cur : ByteArray} (hc : curKnown cur = true) {l : List (List D0)} (h : ∀ x ∈ l, DebtG cur x) (hl : l.length <= 20) : debtsOk cur l = true := by
  unfold debtsOk
  rw [hc, decide_eq_true hl, List.all_eq_true.2 fun x hx => (h x hx).ok hc]; rfl
theorem posFold_bound {M : Nat} : ∀ (l : List (List D0)) (s : KV) (B : Nat), (∀ y ∈ s, y.2.natAbs <= B) -> (∀ x ∈ l, (debtKV x).2.2.natAbs <= M) -> ∀ y ∈ l.foldl posStep s, y.2.natAbs <= B + 2 * M * l.length
  | [], s, B, h, _, y, hy => by have := h y hy; simp; omega
  | x :: r, s, B, h, hM, y, hy => by
    have hx := hM x (by simp)
    have h1 := sumAdd_bound (c := (debtKV x).2.1) (u := (debtKV x).2.2) (N := M) h hx
    have h2 := sumAdd_bound (c := (debtKV x).1) (u := -(debtKV x).2.2) (N := M) h1 (by rw [Int.natAbs_neg]; exact hx)
    have := posFold_bound r (posStep s x) (B + M + M) h2 (fun z hz => hM z (by simp [hz])) y hy
    rw [List.length_cons, Nat.mul_succ]
    omega
theorem posL_small {cur : ByteArray} {l : List (List D0)} (h : ∀ x ∈ l, DebtD cur x) (hl : l.length <= 7) : ∀ y ∈ posL l, y.2.natAbs <= 4200 := by
  intro y hy
  have := posFold_bound (M := 300) l [] 0 (by simp) (fun x hx => by
    obtain ⟨a, b, z, rfl, _, _, _, h5, h6⟩ := h x hx
    rw [debtKV_row]
    show z.natAbs <= 300
    omega) y hy
  omega
theorem posL_names {cur : ByteArray} {l : List (List D0)} (h : ∀ x ∈ l, DebtD cur x) {k : ByteArray} (hk : hasK (posL l) k) : k ∈ names6 := by
  rcases posFold_has hk with ⟨x, hx, _⟩ | ⟨x, hx, e⟩
  · simp at hx
  · obtain ⟨a, b, z, rfl, h2, h3, _⟩ := h x hx
    rw [debtKV_row] at e
    rcases e with e | e
    · rw [e]; exact h2
    · rw [e]; exact h3
theorem valAt_small {s : KV} {M : Nat} (h : ∀ y ∈ s, y.2.natAbs <= M) (i : Nat) : (valAt s i).natAbs <= M := by
  by_cases hi : i < s.length
  · exact h _ (val_mem hi)
  · have : valAt s i = 0 := by
      unfold valAt
      rw [List.getD_eq_getElem?_getD, List.getElem?_eq_none (by omega)]; rfl
    rw [this]; simp
theorem flat_fold : ∀ (s : KV) (a : Int) (A : Nat), a.natAbs <= A -> (∀ y ∈ s, y.2.natAbs <= 4200) -> A + 4200 * s.length <= 1000000000 -> (s.map fun x => enc x.2).foldl iadd (enc a) = enc (a + total s)
  | [], a, A, _, _, _ => by show enc a = enc (a + 0); rw [Int.add_zero]
  | x :: r, a, A, ha, h, hA => by
    have hx := h x (by simp)
    rw [List.length_cons] at hA
    have ih := flat_fold r (a + x.2) (A + 4200) (by omega) (fun y hy => h y (by simp [hy])) (by omega)
    rw [List.map_cons, List.foldl_cons, iadd_small (by omega) (by omega), ih]
    show enc (a + x.2 + total r) = enc (a + (x.2 + total r))
    rw [Int.add_assoc]
theorem flat_small {s : KV} (h : ∀ y ∈ s, y.2.natAbs <= 4200) (hl : s.length <= 100) (ht : total s = 0) : flat (sumsRows s) = true := by
  have h1 : (sumsRows s).all (fun x => intOk (x.drop 1)) = true := by
    rw [List.all_eq_true]
    intro x hx
    obtain ⟨y, hy, rfl⟩ := List.mem_map.1 hx
    have := h y hy
    have hd : (digs y.2.natAbs).length <= 1 := digs_len 1 (by omega)
    exact enc_ok (by omega)
  have h2 : isumGo ((sumsRows s).map (·.drop 1)) = enc 0 := by
    have e : (sumsRows s).map (·.drop 1) = s.map fun x => enc x.2 := by
      unfold sumsRows; rw [List.map_map]; rfl
    rw [e]
    unfold isumGo
    rw [flat_fold s 0 0 (by simp) h (by omega), ht]; rfl
  unfold flat
  rw [h1, h2, isign_enc (enc_small (by decide))]
  rfl
theorem posRow_bulk {s : KV} (h : ∀ y ∈ s, y.2.natAbs <= 4200) (hk : ∀ y ∈ s, y.1 ∈ names6) : ∀ x ∈ sumsRows s, bulks x <= 1048576 := by
  intro x hx
  obtain ⟨y, hy, rfl⟩ := List.mem_map.1 hx
  have := h y hy; have := names6_size _ (hk y hy)
  have hd : (digs y.2.natAbs).length <= 1 := digs_len 1 (by omega)
  simp only [enc, bulks, D0.bulk, List.map_cons, List.map_nil, List.sum_cons, List.sum_nil]
  omega
theorem filt_at {α : Type} {f : α -> Bool} {s : List α} {i : Nat} (hi : i < s.length) (h : f s[i] = true) : (s.filter f)[((s.take i).filter f).length]? = some s[i] /\ ((s.take (i + 1)).filter f).length = ((s.take i).filter f).length + 1 := by
  have e : s = s.take i ++ s[i] :: s.drop (i + 1) := by rw [<- List.drop_eq_getElem_cons hi, List.take_append_drop]
  constructor
  · conv => lhs; rw [e]
    rw [List.filter_append, List.filter_cons, if_pos h]
    conv => lhs; rw [<- e]
    rw [List.getElem?_append_right (Nat.le_refl _), Nat.sub_self]; rfl
  · rw [List.take_succ_eq_append_getElem hi, List.filter_append, List.length_append]
    simp [List.filter_cons, h]
theorem filt_no {α : Type} {f : α -> Bool} {s : List α} {i : Nat} (hi : i < s.length) (h : f s[i] = false) : ((s.take (i + 1)).filter f).length = ((s.take i).filter f).length := by
  rw [List.take_succ_eq_append_getElem hi, List.filter_append, List.length_append]
  simp [List.filter_cons, h]
theorem debtT_ne {x : List D0} (h : x.map D0.code = [.str, .str, .str, .bool, .ints]) : debtT x ≠ S [] := by
  obtain ⟨a, es, rfl, h1⟩ := code_str h
  obtain ⟨b, es, rfl, h2⟩ := code_str h1
  obtain ⟨c, es, rfl, h3⟩ := code_str h2
  obtain ⟨s, es, rfl, h4⟩ := code_bool h3
  obtain ⟨z, es, rfl, h5⟩ := code_ints h4
  have := code_nil h5; subst this
  intro e
  have e2 := congrArg ByteArray.size e
  simp only [debtT, ByteArray.size_append] at e2
  have : (S [32, 62, 32]).size = 3 := rfl
  have : (S []).size = 0 := rfl
  omega
end Go.Proofs.YtbgokfhcgcoipaaDoor
namespace Go.Proofs.YtbgokfhcgcoipaaDoor
open Go Go.Proofs.YtbgokfhcgcoipaaDoor.Sx
theorem impl_IntSign_c {w : World} {xs : List Value} {z : Int} (h : Reps w xs (enc z)) (hok : intOk (enc z) = true) : Ret P n_impl_IntSign [.agg ⟨xs⟩] w fun v w' => v = .int .i64 (sgn z) /\ Ext w w' := by
  have hr := h
  obtain ⟨a0, a1p, a1n, a1c, a1z, rfl, hd, ha⟩ := open_Signed h rfl
  refine impl_IntSign_ret ?_
  unfold impl_IntSign
  intro r w1 hn1
  refine ⟨_, _, _, _, hn1.blk.loadA0 (by kernel_rfl), ?_⟩
  refine Ret.at (impl_IntOk_c (hr.ext hn1.ext) rfl) ?_
  rintro v w2 ⟨hv, y2⟩
  subst hv
  rw [hok]
  refine ⟨_, rfl, fun e => absurd e (by simp), fun _ => ⟨_, _, _, _, (hn1.blk.ext y2).loadA0 (by kernel_rfl), ?_⟩⟩
  refine Ret.at (impl_intSign_c (hr.ext (hn1.ext.trans y2))) ?_
  rintro v w3 ⟨hv, y3⟩
  subst hv
  exact ⟨_, rfl, rfl, (hn1.ext.trans y2).trans y3⟩
end Go.Proofs.YtbgokfhcgcoipaaDoor
namespace Go.Proofs.YtbgokfhcgcoipaaDoor.Sx
open Go Go.RowKit Go.ChangeShapes Go.WideShapes
def rowedV (P : Program) (ns : List String) : Bool := ns.all fun n => ((P.globalNamed n).bind (P.globals[·]?)).all fun gl => P.readableRec gl.type && decide (gl.type < P.types.size)
section
variable {H : Type} {enc : TypeId × Value -> H} {P : Program}
theorem trodAll_ext (hl : laidOutB P = true) {W W' : World} (hb : Ext W W') (sp' : Nat -> Bool) : ∀ {ts : List TypeId} {vs : List Value} {ds : List (DataW H)} {ps : List MemPlace},
    (∀ t ∈ ts, P.readableRec t = true /\ t < P.types.size) -> (∀ p ∈ ps, p.block < W.heap.size) -> (∀ p ∈ ps, sp' p.block = true) ->
    DataW.TrodAll enc P W 0 (fun _ => true) true ts vs ds ps -> DataW.TrodAll enc P W' 0 sp' true ts vs ds ps
  | [], _, _, _, _, _, _, h => by
    obtain ⟨rfl, rfl, rfl⟩ := trodAll_nil h
    exact rfl
  | t :: ts, _, _, _, hr, hlt, hsp, h => by
    obtain ⟨v, vs1, d, ds1, a, b, rfl, rfl, rfl, h1, h2⟩ := trodAll_cons h
    have hrt := hr t (by simp)
    exact ⟨a, b, WideElems.Trod_stays hl hrt.1 hrt.2 h1 (fun x hx => Below.same hb (hlt x (by simp [hx]))) (fun x hx => hsp x (by simp [hx])),
      trodAll_ext hl hb sp' (fun u hu => hr u (by simp [hu])) (fun x hx => hlt x (by simp [hx])) (fun x hx => hsp x (by simp [hx])) h2, rfl⟩
theorem trodVars_sp (hl : laidOutB P = true) {W W' : World} (hb : Ext W W') (sp' : Nat -> Bool) :
    ∀ {ns : List String} {gs : List (DataW H)} {ps : List MemPlace}, rowedV P ns = true -> (∀ p ∈ ps, sp' p.block = true) -> DataW.TrodVars enc P W (fun _ => true) ns gs ps -> DataW.TrodVars enc P W' sp' ns gs ps
  | [], [], _, _, _, h => h
  | [], _ :: _, _, _, _, h => h.elim
  | _ :: _, [], _, _, _, h => h.elim
  | n :: ns, d :: ds, ps, hv, hsp, h => by
    have hlt := h.lt
    obtain ⟨g, t, cs, fuel, p, q, h1, h2, h3, h4, hs, e⟩ := h
    simp only [rowedV, List.all_cons, Bool.and_eq_true] at hv
    have ht : P.readableRec t = true /\ t < P.types.size := by
      have := hv.1
      rw [h1] at this
      cases hg : P.globals[g]? with
      | none => rw [hg] at h2; cases h2
      | some gl =>
        rw [hg] at h2
        obtain rfl : gl.type = t := Option.some.inj h2
        simpa [hg] using this
    have hp : ∀ x ∈ p, x.block < W.heap.size := fun x hx => hlt x (by rw [e]; simp [hx])
    have h3' : W'.var? P n = some cs := by
      unfold World.var? at h3 ⊢
      rw [h1] at h3 ⊢
      simp only [Option.bind_some] at h3 ⊢
      have hg : g < W.heap.size := by
        cases hh : W.heap[g]? with
        | none => rw [hh] at h3; cases h3
        | some o => exact (Array.getElem?_eq_some_iff.1 hh).1
      rw [hb.block g hg]; exact h3
    exact ⟨g, t, cs, fuel, p, q, h1, h2, h3', DataW.trod_stays (kids_book hl ht.1) (book_sized ht.1) (fun h => by cases h) ⟨ht.2, book_self t⟩ h4 (fun x hx => Below.same hb (hp x hx)) (fun x hx => hsp x (by rw [e]; simp [hx])),
      trodVars_sp hl hb sp' (by simpa [rowedV] using hv.2) (fun x hx => hsp x (by rw [e]; simp [hx])) hs, e⟩
theorem post_of_ext {f : Func} {s : ChangeSpec} {apart fresh handsOn again : Bool} {W W' : World} {args : Array Value} {ds gs : List (DataW H)} {before : List MemPlace} {tb : TypeId}
    (hl : laidOutB P = true) (hpar : ∀ t ∈ f.params.toList, P.readableRec t = true /\ t < P.types.size) (hvr : rowedV P s.vars = true)
    (hrt : f.resultTypes = #[tb]) (htb : P.underlying tb = some .bool)
    (hW : DataW.Whole enc P f.params.toList s.vars apart W args.toList ds gs before) (hx : Ext W W')
    (hfn : s.fn H (ds ++ gs) = { results := [.lit (.bool true)], args := ds, vars := gs }) :
    s.post enc P f apart fresh handsOn again W args (.bool true) W' := by
  have hW0 := hW
  have hlt : ∀ p ∈ before, p.block < W.heap.size := hW.lt
  obtain ⟨pa, pv, hA, hV, rfl, hz, hn⟩ := hW
  have hlta : ∀ p ∈ pa, p.block < W.heap.size := fun p hp => hlt p (by simp [hp])
  have hltv : ∀ p ∈ pv, p.block < W.heap.size := fun p hp => hlt p (by simp [hp])
  have hr : (Value.bool true).resultList f.resultTypes.size = [Value.bool true] := by rw [hrt]; rfl
  refine ⟨ds, gs, pa ++ pv, [], pa, pv, hW0, ?_, ?_, ?_, Below.frame hx _, fun _ => ?_⟩
  · rw [hfn, hr, hrt]
    exact trodAll_mk1 (shut_bool htb _)
  · rw [hfn]
    exact trodAll_ext hl hx _ hpar hlta (fun p hp => by simpa using hlta p hp) hA
  · rw [hfn]
    exact trodVars_sp hl hx _ hvr (fun p hp => by simpa using hltv p hp) hV
  · refine ⟨?_, (.lit (.bool true)) :: ds, gs, pa ++ pv, ⟨[] ++ pa, pv, ?_, ?_, by simp, ?_, ?_⟩, fun p hp _ => hp⟩
    · rw [hr, hrt]
      exact ok_one (f := { f with resultTypes := #[tb] }) rfl rfl (okWide_bool_mk htb _)
    · rw [hr, hrt]
      exact trodAll_append (trodAll_ext hl hx _ hpar hlta (fun _ _ => rfl) hA) (trodAll_mk1 (shut_bool htb _))
    · exact trodVars_sp hl hx _ hvr (fun _ _ => rfl) hV
    · intro b off hp
      have := hlt _ hp
      rw [Below.frozen hx (p := ⟨b, off, none⟩) this]
      exact hz b off hp
    · exact hn
end
end Go.Proofs.YtbgokfhcgcoipaaDoor.Sx
namespace Go.Proofs.YtbgokfhcgcoipaaDoor.Sx
open Go Go.RowKit Go.ChangeShapes Go.WideShapes
section
variable {H : Type} {enc : TypeId × Value -> H} {P : Program} {w : World}
theorem spot_none {a : Addr} {v : Value} (h : w.cell? a = some v) : a = ⟨a.block, a.off, none⟩ := by
  obtain ⟨b, o, spot⟩ := a
  have : spot = none := by simpa using World.cell?_spot h
  subst this; rfl
end
end Go.Proofs.YtbgokfhcgcoipaaDoor.Sx
namespace Go.Proofs.YtbgokfhcgcoipaaDoor
open Go Go.RowKit Go.ChangeShapes Go.Proofs.YtbgokfhcgcoipaaDoor.Sx
theorem bytes_of_trod {H : Type} {enc : TypeId × Value -> H} {P : Program} {w : World} {t e : TypeId} {fuel : Nat} {sp : Nat -> Bool} {hd : Bool} {cs : List Value} {x : DataW H × List MemPlace} (ht : P.underlying t = some (.slice e)) (he : P.underlying e = some (.int .u8)) (hc : P.cellsOf e = 1)
    (h : DataW.trod enc P w 0 sp hd fuel t cs = some x) : ∃ p n c, cs = [.slice p n c] /\ ByR w p n := by
  rcases Go.ChangeShapes.open_ints ht he hc h with ⟨rfl, _⟩ | ⟨a, len, cap, zs, rfl, _, hl, hm, hz, _, hcell, _⟩
  · exact ⟨none, 0, 0, rfl, fun h => absurd h (by omega)⟩
  · have hlz : len <= zs.length := by rw [hz]; split <;> omega
    refine ⟨some a, len, cap, rfl, fun hpos => ?_⟩
    have h0 := hcell 0 (by omega)
    have hs := spot_none h0
    have ha : a = ⟨a.block, a.off, none⟩ := by
      obtain ⟨b, o, s⟩ := a
      simp [Addr.add] at hs
      simp [hs]
    have hlt := World.block_lt_of_cell? w _ h0
    refine ⟨a.block, a.off, zs.take len, by rw [<- ha], by simp; omega, fun j v hj => ?_, by simpa [Addr.add] using hlt⟩
    simp only [List.getElem?_map, List.getElem?_take] at hj
    split at hj
    · rename_i hjl
      have hjz : j < zs.length := by omega
      have := hcell j hjz
      rw [ha, addr_add] at this
      rw [this]
      rw [List.getElem?_eq_getElem hjz] at hj
      simp at hj
      rw [<- hj]
      simp [hjz]
    · simp at hj
end Go.Proofs.YtbgokfhcgcoipaaDoor
namespace Go.Proofs.YtbgokfhcgcoipaaDoor
open Go Go.Proofs.YtbgokfhcgcoipaaDoor.Sx
theorem rows_atX {w : World} {k : Nat} {p : Option Addr} {n c i : Nat} {l : List (List D0)} (h : RowsR w k p n c l) {t : TypeId} (ht : aggT P t k = true) (hi : i < n) :
    ∃ a cs, p = some a /\ cs.length = k /\ Reps w cs (l[i]'(by rw [h.1]; exact hi)) /\ ∀ W, Ext w W -> Loads P t (a.add (i * k)) (.agg ⟨cs⟩) W := by
  obtain ⟨b, off, hp, hs⟩ := h.2.2.2 (by omega)
  obtain ⟨cs, h1, h2, h3⟩ := hs i _ (List.getElem?_eq_getElem (by rw [h.1]; exact hi))
  refine ⟨_, cs, hp, h1, h2, fun W hW => ?_⟩
  rw [addr_add]
  exact loadsA (by rw [h1]; exact ht) (h3.ext hW)
end Go.Proofs.YtbgokfhcgcoipaaDoor
namespace Go.Proofs.YtbgokfhcgcoipaaDoor
open Go Go.Proofs.YtbgokfhcgcoipaaDoor.Sx
theorem sgn_is0s {z : Int} : sgn z = 0 ↔ z = 0 := by unfold sgn; split <;> (try split) <;> omega
theorem laws_FnSettle_c {w : World} {p0 : Option Addr} {n0 c0 : Nat} (h0 : ByR w p0 n0) (ht : Tab w) (hp : TabP w) : Ret P n_laws_FnSettle [.slice p0 n0 c0] w fun v w' => v = .bool true /\ Ext w w' := by
  have h := h0
  refine laws_FnSettle_ret ?_
  unfold laws_FnSettle
  refine ifD (fun _ => ⟨rfl, Ext.refl w⟩) (fun hs => ?_)
  have hn : n0 <= 1048576 := by omega
  refine Ret.at (spec_MakeDebts_c h hn) ?_
  rintro v w1 ⟨cur, lp, ln, lc, l, hv, hcur, hl, hD, hl7, y1⟩
  subst hv
  have hck := curs7_known cur hcur
  have hG : ∀ x ∈ l, DebtG cur x := fun x hx => (hD x hx).gen
  have hcl : ∀ x ∈ l, x.map D0.code = [.str, .str, .str, .bool, .ints] := fun x hx => (hG x hx).code
  have hbl : ∀ x ∈ l, bulks x <= 1048576 := fun x hx => (hG x hx).bulk hck
  have hok := debtsG_ok hck hG (by omega)
  have hln := hl.1
  have hsm := posL_small hD hl7
  have hnm : ∀ y ∈ posL l, y.1 ∈ names6 := fun y hy => posL_names hD ⟨y, hy, rfl⟩
  have hpT : posT cur l = sumsRows (posL l) := by unfold posT; rw [if_pos hok, posTo_all]
  have hplen : (posL l).length <= 14 := by rw [<- posTo_all]; have := posTo_len l l.length (Nat.le_refl _); omega
  have htot : total (posL l) = 0 := by rw [<- posTo_all]; exact posTo_total l _ (Nat.le_refl _)
  obtain ⟨L1, L2, L3, L4⟩ := settle_law (M := 4200) hok (fun z z0 z1 => money_small hck (by omega)) (valAt_small hsm)
  obtain ⟨out, hout⟩ : ∃ out, (settleR cur l).1 = out := ⟨_, rfl⟩
  rw [hout] at L2 L3 L4
  have hGo : ∀ x ∈ out, DebtG cur x := fun x hx => by
    obtain ⟨a, b, z, e, z0, z1, hne, ha, hb⟩ := L4 x hx
    exact ⟨a, b, z, e, posL_names hD ha, posL_names hD hb, hne, z0, by omega⟩
  have hco : ∀ x ∈ out, x.map D0.code = [.str, .str, .str, .bool, .ints] := fun x hx => (hGo x hx).code
  have hbo : ∀ x ∈ out, bulks x <= 1048576 := fun x hx => (hGo x hx).bulk hck
  have holen : out.length <= 14 := by
    by_cases h0 : 0 < (posL l).length
    · have := L3 h0; omega
    · have e0 : posL l = [] := List.eq_nil_of_length_eq_zero (by omega)
      rw [e0] at L2
      have e1 : posL out = [] := L2
      have e2 : out = [] := by
        cases out with
        | nil => rfl
        | cons x r =>
          exfalso
          obtain ⟨a, b, z, e, z0, z1, hne, ha, hb⟩ := L4 x (by simp)
          obtain ⟨y, hy, _⟩ := ha
          rw [e0] at hy
          simp at hy
      rw [e2]; simp
  have hoko := debtsG_ok hck hGo (by omega)
  have hqT : posT cur out = sumsRows ((posL l).filter fun x => decide (x.2 ≠ 0)) := by unfold posT; rw [if_pos hoko, posTo_all, L2]
  refine ⟨_, _, _, _, rfl, ?_⟩
  refine Ret.at (impl_Positions_c cur hl hcl (by omega) hbl (ht.ext y1)) ?_
  rintro v w2 ⟨pp, pn, pc, fp, hv, hP, _, _, y2⟩
  subst hv
  rw [hok]
  rw [hpT] at hP
  have rP := hP.rows
  have x := y1.trans y2
  refine ⟨_, _, _, _, rfl, ?_⟩
  refine Ret.at (impl_Settle_c cur (hl.ext y2) hcl (by omega) hbl (ht.ext x)) ?_
  rintro v w3 ⟨sp, sn, sc, fs, hv, hS, _, _, y3⟩
  subst hv
  rw [L1]
  rw [hout] at hS
  have rS := hS.rows
  have rP := rP.ext y3
  have x := x.trans y3
  refine ⟨_, _, _, _, rfl, ?_⟩
  refine Ret.at (impl_Positions_c cur rS hco (by have := rS.1; omega) hbo (ht.ext x)) ?_
  rintro v w4 ⟨qp, qn, qc, fq, hv, hQ, _, _, y4⟩
  subst hv
  rw [hoko]
  rw [hqT] at hQ
  have rQ := hQ.rows
  have rS := rS.ext y4; have rP := rP.ext y4; have x := x.trans y4
  have lP := rP.1; have lS := rS.1; have lQ := rQ.1
  rw [sumsRows_len] at lP lQ
  refine ⟨_, _, _, _, rfl, fun e => absurd e (by simp), fun _ => ⟨fun e => absurd e (by simp), fun _ => ⟨fun e => absurd e (by simp), fun _ => ?_⟩⟩⟩
  refine Ret.at (impl_Flat_c rP sumsRows_code (by omega) (posRow_bulk hsm hnm)) ?_
  rintro v w5 ⟨hv, y5⟩
  subst hv
  rw [flat_small hsm (by omega) htot]
  have rS := rS.ext y5; have rP := rP.ext y5; have rQ := rQ.ext y5; have x := x.trans y5
  refine ⟨_, rfl, fun e => absurd e (by simp), fun _ => ?_⟩
  refine Ret.at (impl_DebtsOk_c cur rS hco (by omega) hbo (ht.ext x)) ?_
  rintro v w6 ⟨hv, y6⟩
  subst hv
  rw [hoko]
  have rS := rS.ext y6; have rP := rP.ext y6; have rQ := rQ.ext y6; have x := x.trans y6
  obtain ⟨s, hse⟩ : ∃ s, posL l = s := ⟨_, rfl⟩
  rw [hse] at hsm hnm L3 rP rQ lP lQ hplen
  obtain ⟨nz, hnz⟩ : ∃ nz : ByteArray × Int -> Bool, (fun x : ByteArray × Int => decide (x.2 ≠ 0)) = nz := ⟨_, rfl⟩
  have hnzv : ∀ y : ByteArray × Int, nz y = decide (y.2 ≠ 0) := fun y => by rw [<- hnz]
  rw [hnz] at rQ lQ
  have loop : laws_FnSettle_j0 cur pp pn sp sn qp qn w6 fun v w' => v = .bool true /\ Ext w w' := by
    unfold laws_FnSettle_j0
    refine ⟨fun k i W => ∃ j : Nat, i = j /\ j <= pn /\ k = (((s.take j).filter nz).length : Nat) /\ Ext w6 W, fun _ i _ => pn - i.toNat, ⟨0, rfl, by omega, rfl, Ext.refl _⟩, ?_⟩
    rintro junk W k i ⟨j, rfl, hj, rfl, hx⟩
    refine ifD (fun hlt => ?_) (fun hge => ?_)
    · have hjl : j < s.length := by omega
      obtain ⟨a, cs, hpp, hcs, hrr, hld⟩ := rows_atX (rP.ext hx) (t := T_impl_Pos) (by kernel_rfl) (show j < pn by omega)
      have hrow : (sumsRows s)[j]'(by rw [sumsRows_len]; omega) = .str s[j].1 :: enc s[j].2 := by unfold sumsRows; rw [List.getElem_map]
      have hsz := hsm s[j] (List.getElem_mem hjl)
      have hrow2 := hrr
      rw [hrow] at hrow2
      have hbk := posRow_bulk hsm hnm (.str s[j].1 :: enc s[j].2) (by rw [<- hrow]; exact List.getElem_mem _)
      have hrs := hrow2
      obtain ⟨a0, a1, ap, an, ac, az, rfl, _, _⟩ := open_Pos hrow2 rfl
      subst hpp
      refine ⟨⟨by omega, by omega⟩, _, _, _, _, _, by simpa using hld W (Ext.refl W), ?_⟩
      intro r w7 hn7
      obtain ⟨w8, st8, b8, y8⟩ := hn7.fill (P := P) (t := T_impl_Pos) hrs.cells1 (by kernel_rfl) rfl
      refine ⟨w8, st8, _, _, _, _, b8.loadAAt 1 [.bool a1, .slice ap an ac] rfl (by kernel_rfl) rfl, ?_⟩
      refine Ret.at (impl_IntSign_c (hrs.ext y8).2 (enc_small (by omega))) ?_
      rintro v w9 ⟨hv, y9⟩
      subst hv
      have hx9 := (hx.trans y8).trans y9
      refine ⟨_, rfl, ifD (fun hz => ?_) (fun hnzr => ?_)⟩
      · have hz0 := sgn_is0s.1 hz
        unfold laws_FnSettle_j1
        refine exW ⟨by omega, by omega⟩ ⟨⟨j + 1, by omega, by omega, ?_, hx9⟩, by show pn - ((j : Int) + 1).toNat < pn - (j : Int).toNat; omega⟩
        rw [filt_no hjl (by rw [hnzv, hz0]; rfl)]
      · have hv0 : s[j].2 ≠ 0 := fun e => hnzr (sgn_is0s.2 e)
        obtain ⟨g1, g2⟩ := filt_at (f := nz) hjl (by rw [hnzv]; exact decide_eq_true hv0)
        have hkl := (List.getElem?_eq_some_iff.1 g1).1
        obtain ⟨K, hK⟩ : ∃ K, ((s.take j).filter nz).length = K := ⟨_, rfl⟩
        rw [hK] at g1 g2 hkl
        have hKl := List.length_filter_le nz s
        refine ifD (fun hle => absurd hle (by rw [hK]; omega)) (fun _ => ?_)
        have D := Ext.drew w9
        obtain ⟨a', cs', hqp, hcs', hrq, hldq⟩ := rows_atX (rQ.ext (hx9.trans D)) (t := T_impl_Pos) (by kernel_rfl) (show K < qn by omega)
        have hrowq : (sumsRows (s.filter nz))[K]'(by rw [sumsRows_len]; omega) = .str s[j].1 :: enc s[j].2 := by
          unfold sumsRows
          rw [List.getElem_map]
          have := (List.getElem?_eq_some_iff.1 g1).2
          rw [this]
        rw [hrowq] at hrq
        have hrq2 := hrq
        obtain ⟨c0', c1, cp, cn, cc, cz, rfl, _, _⟩ := open_Pos hrq rfl
        subst hqp
        rw [hK]
        refine ⟨⟨by omega, by omega⟩, _, _, _, _, _, fun W' hW => by simpa using hldq W' hW, ?_⟩
        have T1 := (ht.ext x).ext (hx9.trans D); have T2 := (hp.ext x).ext (hx9.trans D)
        refine Ret.at (impl_PosText_c cur hrq2 rfl hbk T1 T2) ?_
        rintro v w10 ⟨hv, y10⟩
        subst hv
        refine ⟨_, rfl, y10, _, _, _, _, _, fun W' hW => ((b8.ext y9).ext (D.trans hW)).loadA0 (by kernel_rfl), ?_⟩
        refine Ret.at (impl_PosText_c cur ((hrs.ext y8).ext ((y9.trans D).trans y10)) rfl hbk (T1.ext y10) (T2.ext y10)) ?_
        rintro v w11 ⟨hv, y11⟩
        subst hv
        refine ⟨_, rfl, ifD (fun hne => absurd rfl hne) (fun _ => ?_)⟩
        unfold laws_FnSettle_j1
        refine exW ⟨by omega, by omega⟩ (exW ⟨by omega, by omega⟩ ⟨⟨j + 1, by omega, by omega, by rw [g2]; omega, ((hx9.trans D).trans y10).trans y11⟩, by show pn - ((j : Int) + 1).toNat < pn - (j : Int).toNat; omega⟩)
    · have hjl : j = s.length := by omega
      refine ⟨fun i W' => ∃ m : Nat, i = m /\ m <= sn /\ Ext w6 W', fun i _ => sn - i.toNat, ⟨0, rfl, by omega, hx⟩, ?_⟩
      rintro junk W' i ⟨m, rfl, hm, hx'⟩
      refine ifD (fun hlt => ?_) (fun hge2 => ⟨?_, x.trans hx'⟩)
      · obtain ⟨a, cs, hpp, hcs, hrr, hld⟩ := rows_atX (rS.ext hx') (t := T_impl_Debt) (by kernel_rfl) (show m < sn by omega)
        have hml : m < out.length := by omega
        have hcd := hco _ (List.getElem_mem hml)
        have hbd := hbo _ (List.getElem_mem hml)
        have hr2 := hrr
        obtain ⟨a0, a1, a2, a3, ap, an, ac, az, rfl, _, _⟩ := open_Debt hrr hcd
        subst hpp
        refine ⟨⟨by omega, by omega⟩, _, _, _, _, _, _, _, by simpa using hld W' (Ext.refl W'), ?_⟩
        intro r w7 hn7
        obtain ⟨w8, st8, b8, y8⟩ := hn7.fill (P := P) (t := T_impl_Debt) hr2.cells1 (by kernel_rfl) rfl
        refine ⟨w8, st8, _, _, _, _, _, _, _, b8.loadA0 (by kernel_rfl), ?_⟩
        refine Ret.at (impl_DebtText_c (hr2.ext y8) hcd hbd ((ht.ext x).ext (hx'.trans y8)) ((hp.ext x).ext (hx'.trans y8))) ?_
        rintro v w9 ⟨hv, y9⟩
        subst hv
        refine ⟨_, rfl, ifD (fun he => absurd he (debtT_ne hcd)) (fun _ => ?_)⟩
        exact exW ⟨by omega, by omega⟩ ⟨⟨m + 1, by omega, by omega, (hx'.trans y8).trans y9⟩, by show sn - ((m : Int) + 1).toNat < sn - (m : Int).toNat; omega⟩
      · congr 1
        refine decide_eq_true ?_
        rw [hjl, List.take_of_length_le (Nat.le_refl _), lQ]
  refine ⟨_, rfl, fun e => absurd e (by simp), fun _ => ifD (fun hpos => ifD (fun hle => absurd hle ?_) (fun _ => loop)) (fun _ => ⟨fun e => absurd e (by simp), fun _ => loop⟩)⟩
  have := L3 (by omega)
  omega
end Go.Proofs.YtbgokfhcgcoipaaDoor
namespace Go.Proofs.YtbgokfhcgcoipaaDoor
open Go Go.Proofs.YtbgokfhcgcoipaaDoor.Sx
def curData {H : Type} (r : CurRow) : DataW H := .agg [.lit (.string r.1.data.toList), .lit (.string r.2.1.data.toList), .lit (.int .i64 r.2.2.1), .lit (.int .i64 r.2.2.2)]
theorem bytes_eq {a b : ByteArray} (h : a.data.toList = b.data.toList) : a = b := by
  obtain ⟨⟨x⟩⟩ := a; obtain ⟨⟨y⟩⟩ := b
  simp at h; subst h; rfl
set_option maxRecDepth 100000 in
theorem cur_cells {H : Type} {enc : TypeId × Value -> H} {w : World} {sp : Nat -> Bool} {hd : Bool} {fuel : Nat} {cs : List Value} {r : CurRow} {p : List MemPlace}
    (h : DataW.trod enc P w 0 sp hd fuel T_impl_currency cs = some (curData r, p)) : cs = curCells r := by
  obtain ⟨fs, hu, hsz, ⟨f0, e0, t0, o0⟩, ⟨f1, e1, t1, o1⟩, ⟨f2, e2, t2, o2⟩, ⟨f3, e3, t3, o3⟩⟩ := cur_fields
  have hu : P.underlying T_impl_currency = some (.struct fs) := hu
  have hs : P.underlying T_string = some .string := by kernel_rfl
  have hi : P.underlying T_int = some (.int .i64) := by kernel_rfl
  have cS : P.cellsOf T_string = 1 := by kernel_rfl
  have cI : P.cellsOf T_int = 1 := by kernel_rfl
  have cC : P.cellsOf T_impl_currency = 4 := by kernel_rfl
  obtain ⟨xs, n, rfl, hx, hlen, hxl, hf⟩ := DataW.trod_struct hu h
  rw [cC] at hlen
  rw [hsz] at hxl
  have h0 := hf 0 f0 e0; have h1 := hf 1 f1 e1; have h2 := hf 2 f2 e2; have h3 := hf 3 f3 e3
  rw [t0, o0, cS] at h0; rw [t1, o1, cS] at h1; rw [t2, o2, cI] at h2; rw [t3, o3, cI] at h3
  match cs, hlen, xs, hxl, hx, h0, h1, h2, h3 with
  | [c0, c1, c2, c3], _, [x0, x1, x2, x3], _, hx, h0, h1, h2, h3 =>
    simp only [List.drop_succ_cons, List.drop_zero, List.take_succ_cons, List.take_zero, List.getElem?_cons_zero, List.getElem?_cons_succ] at h0 h1 h2 h3
    obtain ⟨s0, a0, b0, _⟩ := DataW.trod_string hs h0
    obtain ⟨s1, a1, b1, _⟩ := DataW.trod_string hs h1
    obtain ⟨z2, a2, b2, _⟩ := DataW.trod_int hi h2
    obtain ⟨z3, a3, b3, _⟩ := DataW.trod_int hi h3
    simp only [Prod.mk.injEq, curData, DataW.agg.injEq, List.map_cons, List.map_nil, List.cons.injEq, b0, b1, b2, b3, DataW.lit.injEq, Lit.string.injEq, Lit.int.injEq, true_and, and_true] at hx
    simp only [List.cons.injEq, and_true] at a0 a1 a2 a3
    obtain ⟨⟨q0, q1, q2, q3⟩, _⟩ := hx
    rw [a0, a1, a2, a3, <- bytes_eq q0, <- bytes_eq q1, <- q2, <- q3]
    rfl
theorem flat_of_rows : ∀ (l : List CurRow) (cs : List Value), cs.length = l.length * 4 -> (∀ i (hi : i < l.length), (cs.drop (i * 4)).take 4 = curCells (l[i]'hi)) -> cs = l.flatMap curCells
  | [], cs, h, _ => by simpa using h
  | r :: l, cs, h, hr => by
    have h0 := hr 0 (by simp)
    simp only [Nat.zero_mul, List.drop_zero, List.getElem_cons_zero] at h0
    rw [List.flatMap_cons, <- h0, <- flat_of_rows l (cs.drop 4) (by simp at h ⊢; omega) (fun i hi => by
      have := hr (i + 1) (by simpa using hi)
      rw [List.drop_drop, show 4 + i * 4 = (i + 1) * 4 by omega]
      simpa using this), List.take_append_drop]
def curVar : String := "loop.example/g00793/impl.currencies"
set_option maxRecDepth 100000 in
theorem tab_of_head {W : World} {rest : List (String × DataW Unit)} (h : laidMet P ((curVar, Rows.laid_loop_example_g00793_impl_currencies) :: rest) W) : Tab W := by
  obtain ⟨ps, ⟨g, t, cs, fuel, p, q, hg, ht, hvar, hd, _, _⟩, _⟩ := h
  have hg0 : P.globalNamed curVar = some 0 := by kernel_rfl
  have ht0 : (P.globals[0]?).map (·.type) = some T_20_impl_currency := by kernel_rfl
  obtain rfl := Option.some.inj (hg0.symm.trans hg)
  obtain rfl := Option.some.inj (ht0.symm.trans ht)
  have hu : P.underlying T_20_impl_currency = some (.array 20 T_impl_currency) := und_T_20_impl_currency
  have cC : P.cellsOf T_impl_currency = 4 := by kernel_rfl
  have cA : P.cellsOf T_20_impl_currency = 80 := by kernel_rfl
  obtain ⟨xs, m, rfl, hx, hlen, hxl, hf⟩ := DataW.trod_array hu hd
  rw [cA] at hlen
  have hdat : (Rows.laid_loop_example_g00793_impl_currencies : DataW Unit) = .agg (implTab.map curData) := by rfl
  rw [hdat] at hx
  simp only [Prod.mk.injEq, DataW.agg.injEq] at hx
  have hl := impl_length
  have hcs : cs.toList = implTab.flatMap curCells := by
    refine flat_of_rows implTab _ (by omega) fun i hi => ?_
    have h1 := hf i (by omega)
    rw [cC] at h1
    have h2 : (xs.map (·.1))[i]? = some (curData (implTab[i]'hi)) := by rw [<- hx.1]; simp [hi]
    rw [List.getElem?_map] at h2
    cases h3 : xs[i]? with
    | none => rw [h3] at h2; cases h2
    | some x =>
      rw [h3] at h1 h2
      simp only [Option.map_some, Option.some.injEq] at h2
      obtain ⟨d, pp⟩ := x
      simp only at h2
      subst h2
      exact cur_cells h1
  intro i v hv
  have := World.var?_cell hg0 hvar i
  rw [Nat.zero_add, this, <- hv, <- hcs]
  simp
theorem trodVars_one {H : Type} {enc : TypeId × Value -> H} {w : World} {sp : Nat -> Bool} {n : String} {gs : List (DataW H)} {ps : List MemPlace} (h : DataW.TrodVars enc P w sp [n] gs ps) : ∃ g, gs = [g] := by
  match gs, h with
  | [g], _ => exact ⟨g, rfl⟩
  | g :: g2 :: r, h =>
    obtain ⟨_, _, _, _, _, _, _, _, _, _, h2, _⟩ := h
    exact h2.elim
end Go.Proofs.YtbgokfhcgcoipaaDoor
namespace Go.Proofs.YtbgokfhcgcoipaaDoor
open Go Go.Proofs.YtbgokfhcgcoipaaDoor.Sx
theorem laidMet_tail {W : World} {x : String × DataW Unit} {rest : List (String × DataW Unit)} (h : laidMet P (x :: rest) W) : laidMet P rest W := by
  obtain ⟨ps, hv, hn, hr⟩ := h
  obtain ⟨n, d⟩ := x
  obtain ⟨g, t, cs, fuel, p, q, _, _, _, _, hrest, rfl⟩ := hv
  exact ⟨q, hrest, (List.nodup_append.1 hn).2.1, fun b off hm => hr b off (List.mem_append_right _ hm)⟩
theorem pow_data : (Rows.laid_internal_strconv_uint64pow10 : DataW Unit) = Lib.tabData .u64 Lib.pow10Tab := by kernel_rfl
set_option maxRecDepth 100000 in
theorem tabP_of_head {W : World} {rest : List (String × DataW Unit)} (h : laidMet P (("internal/strconv.uint64pow10", Rows.laid_internal_strconv_uint64pow10) :: rest) W) : TabP W := by
  rw [pow_data] at h
  exact Lib.tabIs_of_head (g := G_pow) (t := TA_pow) (e := TE_pow) (n := 20) (by kernel_rfl) (by kernel_rfl) und_A_pow und_E_pow (by kernel_rfl) (by kernel_rfl) h
def layAt (cs : List Value) : Obj -> Obj
  | .cells _ t frozen => .cells ⟨cs⟩ t frozen
  | o => o
end Go.Proofs.YtbgokfhcgcoipaaDoor
namespace Go.Proofs.YtbgokfhcgcoipaaDoor
open Go Go.Proofs.YtbgokfhcgcoipaaDoor.Sx
theorem tabs_of_laid {W : World} (h : laidMetH P [("math/bits.deBruijn32tab", Rows.laid_math_bits_deBruijn32tab), ("math/bits.deBruijn64tab", Rows.laid_math_bits_deBruijn64tab), ("internal/strconv.uint64pow10", Rows.laid_internal_strconv_uint64pow10), (curVar, Rows.laid_loop_example_g00793_impl_currencies)] W) : Tab W /\ TabP W := by
  have h : laidMet P [("math/bits.deBruijn32tab", Rows.laid_math_bits_deBruijn32tab), ("math/bits.deBruijn64tab", Rows.laid_math_bits_deBruijn64tab), ("internal/strconv.uint64pow10", Rows.laid_internal_strconv_uint64pow10), (curVar, Rows.laid_loop_example_g00793_impl_currencies)] W := h
  have h2 := laidMet_tail (laidMet_tail h)
  exact ⟨tab_of_head (laidMet_tail h2), tabP_of_head h2⟩
noncomputable def laidWorldX (os : Os) (args : Array Value) : World :=
 { World.holding P os ⟨#[], args, []⟩ with heap := (((((World.holding P os ⟨#[], args, []⟩).heap.modify G_cur (layAt (implTab.flatMap curCells))).modify G_pow (layAt (L_pow.map (Value.int .u64)))).modify G_d32 (layAt (L_d32.map (Value.int .u8)))).modify G_d64 (layAt (L_d64.map (Value.int .u8)))) }
end Go.Proofs.YtbgokfhcgcoipaaDoor
