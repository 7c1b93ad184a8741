/-
  Parts of the proof of textSteps_holds: CDivA, SxPush, CDivB, CDivC, CDivS, CGcd, CDecMul, CDecLow, CCopy, CRatB, CDecLowO, CDecT, Tab, CCurr, CWord, CTextNat, CTextIntL, CCutL, CTextDec, CCutI, CJoin, LZ, CCutAt.
  Conditions: none.
-/
import Derived.Shelf.Strings.OnBuilder
import Derived.Lib.SmallJoins
import Derived.Lib.ConvBytes
import Derived.Lib.AtoiAll
import Derived.Lib.ItoaNum
import Derived.Shelf.Small.Strs
import Derived.Test.YtgbknjdjbahdkaaGreatDoorTs3
set_option linter.unusedVariables false
set_option linter.unusedSimpArgs false
namespace Go.RowKit
end Go.RowKit
namespace Go.Shelf
end Go.Shelf

namespace Go.Proofs.YtgbknjdjbahdkaaGreatDoor
open Go Go.Proofs.YtgbknjdjbahdkaaGreatDoor.Sx
theorem mid_get {w : World} {b off : Nat} {xs zs : List Value} {u : List Int} (h : Blk w b T_int (xs ++ u.map (Value.int .i64) ++ zs)) (hA : xs.length = off) {i : Nat} (hi : i < u.length) :
    Loads P T_int ((⟨b, off, none⟩ : Addr).add (i * 1)) (.int .i64 (u.getD i 0)) w := by
  rw [Nat.mul_one]
  refine (h.segMid hA).load (by kernel_rfl) ?_
  rw [List.getElem?_map, List.getD_eq_getElem?_getD, List.getElem?_eq_getElem hi]; rfl
theorem mid_set {w : World} {b off : Nat} {xs zs : List Value} {u : List Int} (h : Blk w b T_int (xs ++ u.map (Value.int .i64) ++ zs)) (hA : xs.length = off) {i : Nat} (hi : i < u.length) (x : Int) :
    ∃ w', Stores P T_int ((⟨b, off, none⟩ : Addr).add (i * 1)) (.int .i64 x) w w' /\ Blk w' b T_int (xs ++ (u.set i x).map (Value.int .i64) ++ zs) /\ Chg [b] w w' /\ w'.heap.size = w.heap.size := by
  obtain ⟨w', h1, h2, h3, h4⟩ := h.storeMid (P := P) (t := T_int) (v := .int .i64 x) hA i (by simpa using hi) (by kernel_rfl) rfl (a := (⟨b, off, none⟩ : Addr).add (i * 1)) (by rw [addr_add, Nat.mul_one])
  exact ⟨w', h1, by rw [List.map_set]; exact h2, h3, h4⟩
theorem getD_set_ne {u : List Int} {i j : Nat} (x : Int) (h : i ≠ j) : (u.set i x).getD j 0 = u.getD j 0 := by
  rw [List.getD_eq_getElem?_getD, List.getElem?_set_ne h, <- List.getD_eq_getElem?_getD]
theorem getD_set_eq {u : List Int} {i : Nat} (x : Int) (h : i < u.length) : (u.set i x).getD i 0 = x := by
  rw [List.getD_eq_getElem?_getD, List.getElem?_set_self h]; rfl
theorem take_set_succ {u : List Int} {j : Nat} {x : Int} (hj : j < u.length) (hl : Limbs (u.take j)) (hx : 0 <= x /\ x < 1000000000) : Limbs ((u.set j x).take (j + 1)) := by
  have e : (u.set j x).take (j + 1) = u.take j ++ [x] := by
    rw [List.take_add_one, List.getElem?_set_self hj, List.take_set_of_le (Nat.le_refl _)]; rfl
  rw [e]
  exact hl.snoc hx
theorem top_sign {X M y : Int} (h0 : 0 <= X) (h1 : X < M) : (X + M * y < 0 ↔ y < 0) := by
  constructor
  · intro h
    by_cases hy : y < 0
    · exact hy
    · have := Int.mul_nonneg (show 0 <= M by omega) (show 0 <= y by omega)
      omega
  · intro hy
    have := Int.mul_le_mul_of_nonneg_left (show y <= -1 by omega) (show 0 <= M by omega)
    omega
theorem val_top {u : List Int} {m : Nat} (h : u.length = m + 1) : val u = val (u.take m) + 1000000000 ^ m * u.getD m 0 := by
  have := val_take_succ u m
  rwa [List.take_of_length_le (by omega)] at this
theorem mul_same {a x y : Int} (h : x = y) : a * x = a * y := by rw [h]
theorem subt_step {u vs : List Int} {j : Nat} {x borrow y b' V : Int} (hj : j < u.length) (hv : val u = V - x * val (vs.take j) + 1000000000 ^ j * borrow)
    (hy : y = u.getD j 0 - vs.getD j 0 * x - borrow + 1000000000 * b') : val (u.set j y) = V - x * val (vs.take (j + 1)) + 1000000000 ^ (j + 1) * b' := by
  rw [val_set u _ hj, val_take_succ, Int.pow_succ, Int.mul_assoc]
  have e : (1000000000 : Int) ^ j * (y - u.getD j 0) = 1000000000 ^ j * (1000000000 * b') - 1000000000 ^ j * borrow - x * (1000000000 ^ j * vs.getD j 0) := by
    have : x * (1000000000 ^ j * vs.getD j 0) = (1000000000 : Int) ^ j * (vs.getD j 0 * x) := by
      rw [Int.mul_comm, Int.mul_assoc]
    rw [this, <- Int.mul_sub, <- Int.mul_sub]; exact mul_same (by omega)
  rw [Int.mul_add]
  omega
theorem impl_subTimes_c {w : World} {b off m c d : Nat} {q : Option Addr} {xs zs : List Value} {u vs : List Int} {x : Int} (h : Blk w b T_int (xs ++ u.map (Value.int .i64) ++ zs)) (hA : xs.length = off) (hu : u.length = m + 1)
    (k : IntsR w q m d vs) (hq : ∀ z, q.map (·.block) = some z -> z ≠ b) (hlu : Limbs u) (hlv : Limbs vs) (hx : 0 <= x /\ x < 1000000000) (hm : m <= 10000000) :
    Ret P n_impl_subTimes [.slice (some ⟨b, off, none⟩) (m + 1) c, .slice q m d, .int .i64 x] w fun v w' => ∃ u' : List Int, v = .bool (decide (val u' < 0)) /\ u'.length = m + 1 /\ Blk w' b T_int (xs ++ u'.map (Value.int .i64) ++ zs) /\ Chg [b] w w' /\ w'.heap.size = w.heap.size /\ Limbs (u'.take m) /\ val u' = val u - x * val vs := by
  refine impl_subTimes_ret ?_
  unfold impl_subTimes
  have hlv1 := k.1
  refine ⟨fun borrow t wr => ∃ (j : Nat) (o : List Int), t = j /\ j <= m /\ o.length = m + 1 /\ Blk wr b T_int (xs ++ o.map (Value.int .i64) ++ zs) /\ Chg [b] w wr /\ wr.heap.size = w.heap.size /\ Limbs (o.take j) /\ (∀ i, j <= i -> o.getD i 0 = u.getD i 0) /\ 0 <= borrow /\ borrow < 1000000000 /\ val o = val u - x * val (vs.take j) + 1000000000 ^ j * borrow, fun _ t _ => m - t.toNat,
    ⟨0, u, rfl, by omega, hu, h, Chg.refl _ _, rfl, by simp [Limbs], fun _ _ => rfl, by omega, by omega, by simp [val]⟩, ?_⟩
  intro junk wr borrow t ⟨j, o, ht, hjm, ho, hb, hch, hsz, hlo, hsame, hb0, hb1, hval⟩
  subst ht
  have kr := k.chg hch (fun z hz hm => hq z hz (by simpa using hm))
  refine ifD (fun hlt => ?_) (fun hge => ?_)
  · have U := hlu.getD j; have V := hlv.getD j
    have M := mul_limb V hx
    rw [<- hsame j (Nat.le_refl _)] at U
    obtain ⟨ad, rfl, hl⟩ := ints_at kr (i := (j : Int)) (by omega) hlt
    simp only [Int.toNat_natCast] at hl
    refine ⟨⟨by omega, by omega⟩, _, by simpa only [Int.toNat_natCast] using hl, ⟨by omega, by omega⟩, _, by simpa only [Int.toNat_natCast] using mid_get hb hA (show j < o.length by omega), exW ⟨by omega, by omega⟩ (exW ⟨by omega, by omega⟩ (exW ⟨by omega, by omega⟩ ?_))⟩
    have fin : ∀ y b' : Int, 0 <= y -> y < 1000000000 -> 0 <= b' -> b' < 1000000000 -> y = o.getD j 0 - vs.getD j 0 * x - borrow + 1000000000 * b' ->
        ∃ w', Stores P T_int ((⟨b, off, none⟩ : Addr).add (j * 1)) (.int .i64 y) wr w' /\ ∃ (i : Nat) (o : List Int), ((j : Int) + 1) = i /\ i <= m /\ o.length = m + 1 /\ Blk w' b T_int (xs ++ o.map (Value.int .i64) ++ zs) /\ Chg [b] w w' /\ w'.heap.size = w.heap.size /\ Limbs (o.take i) /\ (∀ z, i <= z -> o.getD z 0 = u.getD z 0) /\ 0 <= b' /\ b' < 1000000000 /\ val o = val u - x * val (vs.take i) + 1000000000 ^ i * b' := fun y b' y0 y1 b0 b1 e => by
      obtain ⟨w3, st, hb3, ch3, sz3⟩ := mid_set hb hA (show j < o.length by omega) y
      exact ⟨w3, st, j + 1, _, by omega, by omega, by simpa using ho, hb3, hch.trans ch3, by omega, take_set_succ (by omega) hlo ⟨y0, y1⟩, fun z hz => by rw [getD_set_ne _ (by omega)]; exact hsame z (by omega), b0, b1, subt_step (by omega) hval e⟩
    refine ifD (fun hneg => ?_) (fun hpos => ?_)
    · refine exW ⟨by omega, by omega⟩ (exW ⟨by omega, by omega⟩ (exW ⟨by omega, by omega⟩ ⟨by decide, ?_⟩))
      rw [tdiv_limb (by omega)]
      refine exW ⟨by omega, by omega⟩ (exW ⟨by omega, by omega⟩ (exW ⟨by omega, by omega⟩ ?_))
      unfold impl_subTimes_j0
      obtain ⟨w3, st, inv⟩ := fin (o.getD j 0 - vs.getD j 0 * x - borrow + (0 - (o.getD j 0 - vs.getD j 0 * x - borrow) + 1000000000 - 1) / 1000000000 * 1000000000) ((0 - (o.getD j 0 - vs.getD j 0 * x - borrow) + 1000000000 - 1) / 1000000000) (by omega) (by omega) (by omega) (by omega) (by omega)
      refine ⟨⟨by omega, by omega⟩, w3, by simpa only [Int.toNat_natCast] using st, exW ⟨by omega, by omega⟩ ⟨inv, ?_⟩⟩
      show m - ((j : Int) + 1).toNat < m - (j : Int).toNat
      omega
    · unfold impl_subTimes_j0
      obtain ⟨w3, st, inv⟩ := fin (o.getD j 0 - vs.getD j 0 * x - borrow) 0 (by omega) (by omega) (by omega) (by omega) (by omega)
      refine ⟨⟨by omega, by omega⟩, w3, by simpa only [Int.toNat_natCast] using st, exW ⟨by omega, by omega⟩ ⟨inv, ?_⟩⟩
      show m - ((j : Int) + 1).toNat < m - (j : Int).toNat
      omega
  · have hjm' : j = m := by omega
    subst hjm'
    rw [List.take_of_length_le (show vs.length <= j by omega)] at hval
    have U := hlu.getD j
    rw [<- hsame j (Nat.le_refl _)] at U
    refine ⟨⟨by omega, by omega⟩, _, mid_get hb hA (show j < o.length by omega), exW ⟨by omega, by omega⟩ ⟨⟨by omega, by omega⟩, ?_⟩⟩
    obtain ⟨w3, st, hb3, ch3, sz3⟩ := mid_set hb hA (show j < o.length by omega) (o.getD j 0 - borrow)
    have hl3 : (o.set j (o.getD j 0 - borrow)).length = j + 1 := by simpa using ho
    have ht3 : (o.set j (o.getD j 0 - borrow)).take j = o.take j := List.take_set_of_le (Nat.le_refl _)
    have g3 := getD_set_eq (o.getD j 0 - borrow) (show j < o.length by omega)
    have hL3 : Limbs ((o.set j (o.getD j 0 - borrow)).take j) := by rw [ht3]; exact hlo
    refine ⟨w3, st, ⟨by omega, by omega⟩, _, mid_get hb3 hA (show j < _ by omega), _, ?_, hl3, hb3, hch.trans ch3, by omega, hL3, ?_⟩
    · have hn := val_nonneg hL3; have hlt3 := val_lt hL3
      have hlen : ((o.set j (o.getD j 0 - borrow)).take j).length = j := by rw [List.length_take]; omega
      rw [hlen] at hlt3
      have := top_sign (y := (o.set j (o.getD j 0 - borrow)).getD j 0) hn hlt3
      rw [val_top hl3]
      simp only [this]
    · rw [val_set _ _ (by omega)]
      have : (1000000000 : Int) ^ j * (o.getD j 0 - borrow - o.getD j 0) = - (1000000000 ^ j * borrow) := by
        rw [<- Int.mul_neg]; exact mul_same (by omega)
      omega
theorem impl_addBack_c {w : World} {b off m c d : Nat} {q : Option Addr} {xs zs : List Value} {u vs : List Int} (h : Blk w b T_int (xs ++ u.map (Value.int .i64) ++ zs)) (hA : xs.length = off) (hu : u.length = m + 1)
    (k : IntsR w q m d vs) (hq : ∀ z, q.map (·.block) = some z -> z ≠ b) (hlu : Limbs (u.take m)) (hlv : Limbs vs) (ht : -1000000000 <= u.getD m 0 /\ u.getD m 0 <= 1000000000) (hm : m <= 10000000) :
    Ret P n_impl_addBack [.slice (some ⟨b, off, none⟩) (m + 1) c, .slice q m d] w fun v w' => ∃ u' : List Int, v = .tuple #[] /\ u'.length = m + 1 /\ Blk w' b T_int (xs ++ u'.map (Value.int .i64) ++ zs) /\ Chg [b] w w' /\ w'.heap.size = w.heap.size /\ Limbs (u'.take m) /\ val u' = val u + val vs := by
  refine impl_addBack_ret ?_
  unfold impl_addBack
  have hlv1 := k.1
  refine ⟨fun carry t wr => ∃ (j : Nat) (o : List Int), t = j /\ j <= m /\ o.length = m + 1 /\ Blk wr b T_int (xs ++ o.map (Value.int .i64) ++ zs) /\ Chg [b] w wr /\ wr.heap.size = w.heap.size /\ Limbs (o.take j) /\ (∀ i, j <= i -> o.getD i 0 = u.getD i 0) /\ 0 <= carry /\ carry <= 1 /\ val o + 1000000000 ^ j * carry = val u + val (vs.take j), fun _ t _ => m - t.toNat,
    ⟨0, u, rfl, by omega, hu, h, Chg.refl _ _, rfl, by simp [Limbs], fun _ _ => rfl, by omega, by omega, by simp [val]⟩, ?_⟩
  intro junk wr carry t ⟨j, o, htj, hjm, ho, hb, hch, hsz, hlo, hsame, hb0, hb1, hval⟩
  subst htj
  have kr := k.chg hch (fun z hz hm => hq z hz (by simpa using hm))
  refine ifD (fun hlt => ?_) (fun hge => ?_)
  · have V := hlv.getD j
    have U : 0 <= o.getD j 0 /\ o.getD j 0 < 1000000000 := by
      rw [hsame j (Nat.le_refl _)]
      have := hlu.getD j
      rwa [List.getD_eq_getElem?_getD, List.getElem?_take_of_lt (by omega), <- List.getD_eq_getElem?_getD] at this
    obtain ⟨ad, rfl, hl⟩ := ints_at kr (i := (j : Int)) (by omega) hlt
    simp only [Int.toNat_natCast] at hl
    refine ⟨⟨by omega, by omega⟩, _, by simpa only [Int.toNat_natCast] using hl, ⟨by omega, by omega⟩, _, by simpa only [Int.toNat_natCast] using mid_get hb hA (show j < o.length by omega), exW ⟨by omega, by omega⟩ (exW ⟨by omega, by omega⟩ ⟨by decide, _, rfl, ⟨by omega, by omega⟩, ?_⟩)⟩
    rw [tmod_limb (by omega)]
    obtain ⟨w3, st, hb3, ch3, sz3⟩ := mid_set hb hA (show j < o.length by omega) ((carry + (o.getD j 0 + vs.getD j 0)) % 1000000000)
    refine ⟨w3, by simpa only [Int.toNat_natCast] using st, by decide, ?_⟩
    rw [tdiv_limb (by omega)]
    refine exW ⟨by omega, by omega⟩ (exW ⟨by omega, by omega⟩ ⟨⟨j + 1, _, by omega, by omega, by simpa using ho, hb3, hch.trans ch3, by omega, take_set_succ (by omega) hlo (limb_mod _), fun z hz => by rw [getD_set_ne _ (by omega)]; exact hsame z (by omega), by omega, by omega, ?_⟩, ?_⟩)
    · rw [val_set o _ (by omega), val_take_succ, Int.pow_succ, Int.mul_assoc]
      have e : (1000000000 : Int) ^ j * ((carry + (o.getD j 0 + vs.getD j 0)) % 1000000000 - o.getD j 0) + 1000000000 ^ j * (1000000000 * ((carry + (o.getD j 0 + vs.getD j 0)) / 1000000000)) = 1000000000 ^ j * carry + 1000000000 ^ j * vs.getD j 0 := by
        rw [<- Int.mul_add, <- Int.mul_add]; exact mul_same (by omega)
      omega
    · show m - ((j : Int) + 1).toNat < m - (j : Int).toNat
      omega
  · have hjm' : j = m := by omega
    subst hjm'
    rw [List.take_of_length_le (show vs.length <= j by omega)] at hval
    have hs := hsame j (Nat.le_refl _)
    rw [<- hs] at ht
    refine ⟨⟨by omega, by omega⟩, _, mid_get hb hA (show j < o.length by omega), exW ⟨by omega, by omega⟩ ⟨⟨by omega, by omega⟩, ?_⟩⟩
    obtain ⟨w3, st, hb3, ch3, sz3⟩ := mid_set hb hA (show j < o.length by omega) (o.getD j 0 + carry)
    have ht3 : (o.set j (o.getD j 0 + carry)).take j = o.take j := List.take_set_of_le (Nat.le_refl _)
    refine ⟨w3, st, _, rfl, by simpa using ho, hb3, hch.trans ch3, by omega, by rw [ht3]; exact hlo, ?_⟩
    rw [val_set _ _ (by omega)]
    have : (1000000000 : Int) ^ j * (o.getD j 0 + carry - o.getD j 0) = 1000000000 ^ j * carry := mul_same (by omega)
    omega
theorem impl_natSmall_c {w : World} {p : Option Addr} {n c : Nat} {a : List Int} {d : Int} (h : IntsR w p n c a) (ha : Limbs a) (hd : 0 < d /\ d < 1000000000) (hn : n <= 10000000) :
    Ret P n_impl_natSmall [.slice p n c, .int .i64 d] w fun v w' => ∃ p' n' c', v = .tuple #[.slice p' n' c', .int .i64 (val a % d)] /\ Own w' w.heap.size T_int 1 p' n' c' ((digs (val a / d).toNat).map (Value.int .i64)) /\ Ext w w' := by
  refine impl_natSmall_ret ?_
  unfold impl_natSmall
  have hla := h.1
  refine ⟨⟨by omega, by omega, by omega⟩, fun r w1 hn1 => exW ⟨by omega, by omega⟩ ?_⟩
  have hre := hn1.r_eq
  have hb1 := hn1.blk
  rw [zeroRow_int, Nat.mul_one] at hb1
  refine ⟨fun rest i wr => ∃ (s : Nat) (o : List Int), i = (s : Int) - 1 /\ s <= n /\ o.length = n /\ Blk wr r T_int (o.map (Value.int .i64)) /\ Ext w wr /\ Limbs o /\ 0 <= rest /\ rest < d /\ val (a.drop s) = d * val (o.drop s) + rest, fun _ i _ => (i + 1).toNat,
    ⟨n, List.replicate n 0, rfl, by omega, by simp, by simpa using hb1, hn1.ext, fun x hx => by simp at hx; omega, by omega, by omega, by rw [List.drop_of_length_le (by omega), List.drop_of_length_le (by simp)]; simp [val]⟩, ?_⟩
  intro junk wr rest i ⟨s, o, hi, hsn, hol, hblk, hx, hlo, hr0, hr1, hv⟩
  subst hi
  refine ifD (fun hlt => ?_) (fun hge => ?_)
  · obtain ⟨t, rfl⟩ : ∃ t, s = t + 1 := ⟨s - 1, by omega⟩
    have A := ha.getD t
    have e1 : (((t + 1 : Nat) : Int) - 1).toNat = t := by omega
    obtain ⟨ad, rfl, hl⟩ := ints_at (h.ext hx) (i := ((t + 1 : Nat) : Int) - 1) (by omega) (by omega)
    rw [e1] at hl ⊢
    have T1 : rest * 1000000000 + a.getD t 0 < 1000000000 * d := by
      have : rest * 1000000000 <= (d - 1) * 1000000000 := Int.mul_le_mul_of_nonneg_right (by omega) (by omega)
      omega
    have T0 : 0 <= rest * 1000000000 + a.getD t 0 := by omega
    have Y0 : 0 <= (rest * 1000000000 + a.getD t 0) / d := Int.ediv_nonneg T0 (by omega)
    have Y1 : (rest * 1000000000 + a.getD t 0) / d < 1000000000 := Int.ediv_lt_of_lt_mul (by omega) T1
    have Z0 := Int.emod_nonneg (rest * 1000000000 + a.getD t 0) (show d ≠ 0 by omega)
    have Z1 := Int.emod_lt_of_pos (rest * 1000000000 + a.getD t 0) hd.1
    have Q := Int.mul_ediv_add_emod (rest * 1000000000 + a.getD t 0) d
    refine exW ⟨by omega, by omega⟩ ⟨⟨by omega, by omega⟩, _, hl, exW ⟨by omega, by omega⟩ ⟨by omega, ?_⟩⟩
    rw [Int.tdiv_eq_ediv_of_nonneg T0, Int.tmod_eq_emod_of_nonneg T0]
    obtain ⟨w3, st, hb3, ch3, sz3⟩ := blk_set hblk (i := (t : Int)) (by omega) (by omega) ((rest * 1000000000 + a.getD t 0) / d)
    simp only [Int.toNat_natCast] at st hb3
    refine exW ⟨by omega, by omega⟩ ⟨⟨by omega, by omega⟩, w3, st, by omega, _, rfl, exW ⟨by omega, by omega⟩ ⟨⟨t, _, by omega, by omega, by simpa using hol, hb3, hx.chg ch3 (by simp; omega), hlo.set ⟨Y0, Y1⟩, Z0, Z1, ?_⟩, ?_⟩⟩
    · have ea : a.drop t = a.getD t 0 :: a.drop (t + 1) := by
        rw [List.drop_eq_getElem_cons (by omega), List.getD_eq_getElem?_getD, List.getElem?_eq_getElem (by omega)]; rfl
      have eo : (o.set t ((rest * 1000000000 + a.getD t 0) / d)).drop t = (rest * 1000000000 + a.getD t 0) / d :: o.drop (t + 1) := by
        rw [List.drop_eq_getElem_cons (by simp; omega), List.getElem_set_self, List.drop_set_of_lt (by omega)]
      rw [ea, eo, val, val, hv, Int.mul_add d]
      have : d * (1000000000 * val (o.drop (t + 1))) = 1000000000 * (d * val (o.drop (t + 1))) := by rw [Int.mul_left_comm]
      omega
    · show (((t + 1 : Nat) : Int) - 1 - 1 + 1).toNat < (((t + 1 : Nat) : Int) - 1 + 1).toNat
      omega
  · have hs0 : s = 0 := by omega
    subst hs0
    simp only [List.drop_zero] at hv
    have hown : Own wr w.heap.size T_int 1 (some ⟨r, 0, none⟩) n n (o.map (Value.int .i64)) := Own.of_blk hblk (by omega) (by simp [hol]) (by simp only [maxLen]; omega)
    refine Ret.at (impl_trim_c hown.ints) ?_
    rintro v w4 ⟨hv4, hw4, hr4⟩
    subst hv4; subst hw4
    have e1 : val a / d = val o := by rw [hv, Int.mul_comm, Int.add_comm, Int.add_mul_ediv_right _ _ (by omega), Int.ediv_eq_zero_of_lt hr0 hr1, Int.zero_add]
    have e2 : val a % d = rest := by rw [hv, Int.mul_comm, Int.add_comm, Int.add_mul_emod_self_right, Int.emod_eq_of_lt hr0 hr1]
    refine ⟨_, _, _, rfl, _, _, _, by rw [e2], ?_, hx⟩
    rw [e1, <- trimL_eq hlo]
    have hle := trimL_len o
    have := hown.sub (m := (trimL o).length) (by omega)
    rwa [<- trimL_prefix] at this
end Go.Proofs.YtgbknjdjbahdkaaGreatDoor
namespace Go.Proofs.YtgbknjdjbahdkaaGreatDoor.Sx
open Go Go.RowKit
theorem Own.push1 {P : Program} {w : World} {B : Nat} {t e : TypeId} {z : Value} {size bytes : Nat} {p : Option Addr} {n c r : Nat} {xs news : List Value} (h : Own w B e size p n c xs)
    (hT : sliceT P t e z size bytes) (hb : B <= w.heap.size) (hr : Blk w r e news) (hl : news.length = size) (h1 : ∀ u ∈ news, u.oneCell' = true)
    (hbytes : (n + 1) * bytes <= 140737488355328) (hby : 1 <= bytes) :
    ∃ p' c' w', Appends P [t, t] [.slice p n c, .slice (some ⟨r, 0, none⟩) 1 1] (.slice p' (n + 1) c') w w' /\ Own w' B e size p' (n + 1) c' (xs ++ news) /\ Chg (p.map (·.block)).toList w w' /\
      (p'.map (·.block) = p.map (·.block) ∨ ∀ q, p'.map (·.block) = some q -> w.heap.size <= q) := by
  obtain ⟨hu, hi, hz, hs⟩ := hT
  cases hinf : P.info? e with
  | none => rw [hinf] at hi; cases hi
  | some i =>
    rw [hinf] at hi
    simp only [Option.map_some, Option.some.injEq, Prod.mk.injEq] at hi
    have hnm : n + 1 <= maxLen := by
      have : n + 1 <= (n + 1) * bytes := Nat.le_mul_of_pos_right _ hby
      simp only [maxLen]; omega
    have hcells : ∀ j u, news[j]? = some u -> w.cell? ((⟨r, 0, none⟩ : Addr).add j) = some u := fun j u hj => by rw [addr_add, Nat.zero_add, hr.cell, hj]
    obtain ⟨v', w', hrun, hown, hgr, _⟩ := run_append_own (P := P) w B t 0 e i z size bytes hu hinf hi.1 hi.2.1 hi.2.2 hz hs (.slice p n c) n xs h ⟨r, 0, none⟩ 1 1 news (by rw [hl, Nat.one_mul]) hcells h1 hnm hbytes hb
    have hv : ∃ p' c', v' = .slice p' (n + 1) c' := by
      rcases hown.2 with ⟨e1, e2⟩ | ⟨g, cap, cur, e1, _⟩
      · omega
      · exact ⟨_, _, e1⟩
    obtain ⟨p', c', rfl⟩ := hv
    have hob : (Value.slice p n c).ownBlock = p.map (·.block) := by cases p <;> rfl
    refine ⟨p', c', w', hrun, hown, ⟨hgr.os, hgr.tape, hgr.output, hgr.size, fun k hk hn => hgr.block k hk ?_⟩, ?_⟩
    · rw [hob]; intro e; rw [<- e] at hn; simp at hn
    have hrun : (Builtin.append_ #[t, t] 0 #[.slice p n c, .slice (some ⟨r, 0, none⟩) 1 1]).run P w = .ok (.slice p' (n + 1) c') w' := hrun
    rcases h.2 with ⟨e1, e2⟩ | ⟨g, cap, cur, e1, hB, hg, h3, h4, h5, h6⟩
    · simp only [Value.slice.injEq] at e1
      obtain ⟨rfl, rfl, rfl⟩ := e1
      have h0 := run_append_nil (P := P) w t 0 e i z hu hinf hi.1 ⟨r, 0, none⟩ 1 1 news (by rw [hl, hi.2.1, Nat.one_mul]) hcells (by omega) (by omega) (by rw [hi.2.2]; omega)
      rw [h0] at hrun
      injection hrun with hv _
      simp only [Value.slice.injEq] at hv
      exact .inr fun q hq => by rw [<- hv.1] at hq; simp at hq; omega
    · simp only [Value.slice.injEq] at e1
      obtain ⟨rfl, _, rfl⟩ := e1
      by_cases hroom : n + 1 <= c
      · have hsz : n * i.size + news.length <= cur.size := by
          have : (n + 1) * size <= c * size := Nat.mul_le_mul_right _ hroom
          rw [hi.2.1, hl, h5, Nat.succ_mul] at *
          omega
        have h0 := run_append_room (P := P) w t 0 e i hu hinf g n c cur hg ⟨r, 0, none⟩ 1 1 news (by rw [hl, hi.2.1, Nat.one_mul]) hcells h1 hroom hsz
        rw [h0] at hrun
        injection hrun with hv _
        simp only [Value.slice.injEq] at hv
        exact .inl (by rw [<- hv.1])
      · have holds : ∀ j v, xs[j]? = some v -> w.cell? ((⟨g, 0, none⟩ : Addr).add j) = some v := World.ownsRow.cells h rfl
        have hfit : Builtin.nextslicecap (n + 1) c * i.bytes <= 281474976710656 := by
          rw [hi.2.2]; exact growslice_fits (by omega) hbytes
        have h0 := run_append_grow (P := P) w t 0 e i z hu hinf hi.1 ⟨g, 0, none⟩ n c xs (by rw [h.len, hi.2.1]) holds ⟨r, 0, none⟩ 1 1 news (by rw [hl, hi.2.1, Nat.one_mul]) hcells (by omega) (by simp only [maxLen] at hnm; omega) hfit
        rw [h0] at hrun
        injection hrun with hv _
        simp only [Value.slice.injEq] at hv
        exact .inr fun q hq => by rw [<- hv.1] at hq; simp at hq; omega
theorem OwnRows.fresh {w w' : World} {B : Nat} {e : TypeId} {k r : Nat} (hn : New w (.cells ⟨[]⟩ e (0, 0)) r w') (hb : B <= w.heap.size) : OwnRows w' B e k (some ⟨r, 0, none⟩) 0 0 [] [r] :=
  ⟨rfl, [], [], trivial, Own.of_blk0 hn.blk (by have := hn.r_eq; omega) (by simp) (by decide), by simp, by simp⟩
theorem OwnRows.push {P : Program} {w : World} {B : Nat} {t e : TypeId} {z : Value} {k bytes : Nat} {p : Option Addr} {n c r : Nat} {l : List (List D0)} {f fx : List Nat} {cs : List Value} {x : List D0} (h : OwnRows w B e k p n c l f)
    (hT : sliceT P t e z k bytes) (hb : B <= w.heap.size) (hr : Blk w r e cs) (hl : cs.length = k) (ho : Owns w B cs x fx) (hfx : fx.Nodup) (hdis : ∀ q ∈ fx, q ∉ f)
    (hbytes : (n + 1) * bytes <= 140737488355328) (hby : 1 <= bytes) :
    ∃ p' c' w' f', Appends P [t, t] [.slice p n c, .slice (some ⟨r, 0, none⟩) 1 1] (.slice p' (n + 1) c') w w' /\ OwnRows w' B e k p' (n + 1) c' (l ++ [x]) f' /\ Chg (p.map (·.block)).toList w w' /\
      (∀ w0, Ext w0 w -> w0.heap.size <= B -> Ext w0 w') := by
  obtain ⟨hln, css, fs, ha, hown, rfl, hnd⟩ := h
  obtain ⟨p', c', w', hrun, hown', hch, hp⟩ := hown.push1 hT hb hr hl ho.reps.cells1 hbytes hby
  have hpl : ∀ q ∈ (p.map (·.block)).toList, B <= q := fun q hq => (World.ownsRow.lt hown q (by cases p <;> simp_all [Value.ownBlock])).1
  have hnd1 := (List.nodup_append.1 hnd)
  have hpin : ∀ q ∈ fs.flatten, q ∉ (p.map (·.block)).toList := fun q hq hm => hnd1.2.2 q hm q hq rfl
  have hpx : ∀ q ∈ fx, q ∉ (p.map (·.block)).toList := fun q hq hm => hdis q hq (List.mem_append_left _ hm)
  have hlt : ∀ q ∈ fs.flatten ++ fx, q < w.heap.size := fun q hq => by
    rcases List.mem_append.1 hq with hq | hq
    · exact (ha.lt q hq).2
    · exact (ho.lt q hq).2
  refine ⟨p', c', w', (p'.map (·.block)).toList ++ (fs ++ [fx]).flatten, hrun, ⟨by simp [hln], css ++ [cs], fs ++ [fx], (ha.chg hch hpin).snoc hl (ho.chg hch hpx), by simpa using hown', rfl, ?_⟩, hch, fun w0 hx hb0 => hx.chg hch fun q hq => Nat.le_trans hb0 (hpl q hq)⟩
  have e : (fs ++ [fx]).flatten = fs.flatten ++ fx := by simp
  rw [e, List.nodup_append]
  refine ⟨by cases p' <;> simp, ?_, ?_⟩
  · rw [List.nodup_append]
    exact ⟨hnd1.2.1, hfx, fun a ha b hb e => hdis b hb (by rw [<- e]; exact List.mem_append_right _ ha)⟩
  · intro a ha b hb hab
    subst hab
    have hpa := opt_mem ha
    rcases hp with hp | hp
    · rw [hp] at hpa
      have ham : a ∈ (p.map (·.block)).toList := mem_opt hpa
      rcases List.mem_append.1 hb with hb | hb
      · exact hpin a hb ham
      · exact hpx a hb ham
    · have := hp a hpa
      have := hlt a hb
      omega
end Go.Proofs.YtgbknjdjbahdkaaGreatDoor.Sx
namespace Go.Proofs.YtgbknjdjbahdkaaGreatDoor
open Go Go.Proofs.YtgbknjdjbahdkaaGreatDoor.Sx
theorem pow_pos9 (k : Nat) : (0 : Int) < 1000000000 ^ k := Int.pow_pos (by decide)
theorem val_top2 {v : List Int} {m : Nat} (h : v.length = m + 2) : val v = val (v.take m) + 1000000000 ^ m * (1000000000 * v.getD (m + 1) 0 + v.getD m 0) := by
  rw [val_top (m := m + 1) h, val_take_succ, Int.pow_succ, Int.mul_add, Int.mul_assoc]
  omega
theorem val_top3 {u : List Int} {m : Nat} (h : u.length = m + 3) : val u = val (u.take m) + 1000000000 ^ m * ((u.getD (m + 2) 0 * 1000000000 + u.getD (m + 1) 0) * 1000000000 + u.getD m 0) := by
  have e2 : (1000000000 : Int) ^ (m + 2) = 1000000000 ^ m * 1000000000 * 1000000000 := by rw [show m + 2 = (m + 1) + 1 from rfl, Int.pow_succ, Int.pow_succ]
  have e1 : (1000000000 : Int) ^ (m + 1) = 1000000000 ^ m * 1000000000 := Int.pow_succ _ _
  rw [val_top (m := m + 2) h, val_take_succ, val_take_succ, e2, e1]
  have : (1000000000 : Int) ^ m * ((u.getD (m + 2) 0 * 1000000000 + u.getD (m + 1) 0) * 1000000000 + u.getD m 0) = 1000000000 ^ m * u.getD m 0 + 1000000000 ^ m * 1000000000 * u.getD (m + 1) 0 + 1000000000 ^ m * 1000000000 * 1000000000 * u.getD (m + 2) 0 := by
    rw [Int.mul_assoc (1000000000 ^ m * 1000000000), Int.mul_assoc (1000000000 ^ m), Int.mul_assoc (1000000000 ^ m), <- Int.mul_add, <- Int.mul_add]
    exact mul_same (by omega)
  omega
theorem take_bounds {u : List Int} {m : Nat} (h : Limbs u) (hm : m <= u.length) : 0 <= val (u.take m) /\ val (u.take m) < 1000000000 ^ m := by
  have h1 := val_nonneg (h.take m); have h2 := val_lt (h.take m)
  have : (u.take m).length = m := by rw [List.length_take]; omega
  rw [this] at h2
  exact ⟨h1, h2⟩
theorem guess0 {M ul vl T top u2 v1 v2 q D V : Int} (hM : 0 < M) (hul : ul < M) (hvl : 0 <= vl) (hD : D = ul + M * T) (hV : V = vl + M * (1000000000 * v1 + v2)) (hT : T = top * 1000000000 + u2) (hu2 : u2 < 1000000000) (hv2 : 0 <= v2) (hq : 0 <= q) (h : top < (q + 1) * v1) : D < (q + 1) * V := by
  have h1 : (q + 1) * (1000000000 * v1) = 1000000000 * ((q + 1) * v1) := Int.mul_left_comm _ _ _
  have h2 : 0 <= (q + 1) * v2 := Int.mul_nonneg (by omega) hv2
  have h3 : T + 1 <= (q + 1) * (1000000000 * v1 + v2) := by rw [Int.mul_add]; omega
  have h4 : M * (T + 1) <= M * ((q + 1) * (1000000000 * v1 + v2)) := Int.mul_le_mul_of_nonneg_left h3 (by omega)
  have h5 : 0 <= (q + 1) * vl := Int.mul_nonneg (by omega) hvl
  rw [hV, Int.mul_add, Int.mul_left_comm (q + 1) M]
  rw [Int.mul_add] at h4
  omega
theorem guess1 {M ul vl T v12 q D V : Int} (hM : 0 < M) (hul : ul < M) (hvl : 0 <= vl) (hD : D = ul + M * T) (hV : V = vl + M * v12) (hq : 0 <= q) (h : T < q * v12) : D < q * V := by
  have h4 : M * (T + 1) <= M * (q * v12) := Int.mul_le_mul_of_nonneg_left (by omega) (by omega)
  have h5 : 0 <= q * vl := Int.mul_nonneg hq hvl
  rw [hV, Int.mul_add, Int.mul_left_comm q M]
  rw [Int.mul_add] at h4
  omega
theorem guess2 {M ul vl T v1 v2 q D V : Int} (hM : 0 < M) (hul : 0 <= ul) (hvl : 0 <= vl /\ vl < M) (hD : D = ul + M * T) (hV : V = vl + M * (1000000000 * v1 + v2)) (hv1 : 1 <= v1) (hv2 : 0 <= v2) (hq : 0 <= q /\ q < 1000000000) (h : q * (1000000000 * v1 + v2) <= T) : q * V <= D + V := by
  have h1 : q * vl <= q * M := Int.mul_le_mul_of_nonneg_left (by omega) hq.1
  have h2 : M * (q * (1000000000 * v1 + v2)) <= M * T := Int.mul_le_mul_of_nonneg_left h (by omega)
  have h3 : M * q <= M * (1000000000 * v1 + v2) := Int.mul_le_mul_of_nonneg_left (by omega) (by omega)
  rw [Int.mul_comm q M] at h1
  have e : q * V = q * vl + M * (q * (1000000000 * v1 + v2)) := by rw [hV, Int.mul_add, Int.mul_left_comm q M]
  omega
theorem impl_divStep_c {w : World} {b off m c d : Nat} {q : Option Addr} {xs zs : List Value} {u vs : List Int} (h : Blk w b T_int (xs ++ u.map (Value.int .i64) ++ zs)) (hA : xs.length = off) (hu : u.length = m + 1)
    (k : IntsR w q m d vs) (hq : ∀ z, q.map (·.block) = some z -> z ≠ b) (hlu : Limbs u) (hlv : Limbs vs) (htop : 1 <= vs.getD (m - 1) 0) (hm2 : 2 <= m) (hm : m <= 10000000) (hD : val u < 1000000000 * val vs) :
    Ret P n_impl_divStep [.slice (some ⟨b, off, none⟩) (m + 1) c, .slice q m d] w fun v w' => ∃ (x : Int) (u' : List Int), v = .int .i64 x /\ 0 <= x /\ x < 1000000000 /\ u'.length = m + 1 /\ Blk w' b T_int (xs ++ u'.map (Value.int .i64) ++ zs) /\ Chg [b] w w' /\ Limbs u' /\ val u' = val u - x * val vs /\ 0 <= val u' /\ val u' < val vs := by
  refine impl_divStep_ret ?_
  unfold impl_divStep
  have hvl := k.1
  obtain ⟨t, rfl⟩ : ∃ t, m = t + 2 := ⟨m - 2, by omega⟩
  have e1 : t + 2 - 1 = t + 1 := by omega
  rw [e1] at htop
  have U2 := hlu.getD (t + 2); have U1 := hlu.getD (t + 1); have U0 := hlu.getD t
  have V1 := hlv.getD (t + 1); have V0 := hlv.getD t
  have eu := val_top3 hu
  have ev := val_top2 hvl
  have bu := take_bounds (m := t) hlu (by omega); have bv := take_bounds (m := t) hlv (by omega)
  have hM := pow_pos9 t
  have hX := Ext.drew w
  have hbd := h.ext hX
  have kd := k.ext hX
  have i1 : ((t + 2 : Nat) : Int) - 1 = ((t + 1 : Nat) : Int) := by omega
  have i2 : ((t + 2 : Nat) : Int) - 2 = ((t : Nat) : Int) := by omega
  have lu : ∀ {W : World} {i : Nat}, Ext w W -> i < t + 3 -> Loads P T_int ((⟨b, off, none⟩ : Addr).add (i * 1)) (.int .i64 (u.getD i 0)) W := fun hW hi => mid_get (h.ext hW) hA (by omega)
  have lv : ∃ av, q = some av /\ ∀ {W : World} {i : Nat}, Ext w W -> i < t + 2 -> Loads P T_int (av.add (i * 1)) (.int .i64 (vs.getD i 0)) W := by
    obtain ⟨bq, oq, hqe, _⟩ := k.2.2.2 (by omega)
    refine ⟨⟨bq, oq, none⟩, hqe, fun {W i} hW hi => ?_⟩
    obtain ⟨ad, hqa, hl⟩ := ints_at (k.ext hW) (i := (i : Int)) (by omega) (by omega)
    rw [hqe] at hqa
    obtain rfl := Option.some.inj hqa
    simpa only [Int.toNat_natCast] using hl
  obtain ⟨av, rfl, lv⟩ := lv
  have T1 : u.getD (t + 2) 0 * 1000000000 + u.getD (t + 1) 0 < 1000000000000000000 := by omega
  have T0 : 0 <= u.getD (t + 2) 0 * 1000000000 + u.getD (t + 1) 0 := by omega
  generalize htp : u.getD (t + 2) 0 * 1000000000 + u.getD (t + 1) 0 = top at eu T1 T0
  have Q0 : 0 <= top / vs.getD (t + 1) 0 := Int.ediv_nonneg T0 (by omega)
  have Q1 : top / vs.getD (t + 1) 0 <= top := Int.ediv_le_self _ T0
  have Qm := Int.mul_ediv_add_emod top (vs.getD (t + 1) 0)
  have Qr := Int.emod_lt_of_pos top (show 0 < vs.getD (t + 1) 0 by omega)
  have Qr0 := Int.emod_nonneg top (show vs.getD (t + 1) 0 ≠ 0 by omega)
  refine ⟨⟨by omega, by omega⟩, _, fun W hW => lu (hX.trans hW) (by omega), exW ⟨by omega, by omega⟩ (exW ⟨by omega, by omega⟩ ?_)⟩
  rw [i1]
  refine ⟨⟨by omega, by omega⟩, _, fun W hW => by simpa only [Int.toNat_natCast] using lu (i := t + 1) (hX.trans hW) (by omega), ?_⟩
  rw [htp]
  refine exW ⟨by omega, by omega⟩ (exW ⟨by omega, by omega⟩ ⟨⟨by omega, by omega⟩, _, by simpa only [Int.toNat_natCast] using lv (i := t + 1) hX (by omega), by omega, ?_⟩)
  rw [Int.tdiv_eq_ediv_of_nonneg T0]
  refine exW ⟨by omega, by omega⟩ ⟨_, rfl, ?_⟩
  refine ⟨fun z wr => Ext w wr /\ 0 <= z /\ z < 1000000000 /\ z * vs.getD (t + 1) 0 <= top /\ val u < (z + 1) * val vs, fun z _ => z.toNat, ⟨hX, ?_, ?_, ?_, ?_⟩, ?_⟩
  · split <;> omega
  · split <;> omega
  · have : ∀ z, z <= top / vs.getD (t + 1) 0 -> z * vs.getD (t + 1) 0 <= top := fun z hz => by
      have := Int.mul_le_mul_of_nonneg_right hz (show 0 <= vs.getD (t + 1) 0 by omega)
      rw [Int.mul_comm (top / _)] at this
      omega
    apply this; split <;> omega
  · split
    · show val u < (999999999 + 1) * val vs
      omega
    · refine guess0 hM bu.2 bv.1 eu ev rfl U0.2 V0.1 Q0 ?_
      rw [Int.add_mul, Int.mul_comm (top / _)]
      omega
  intro junk wr z ⟨hx, hz0, hz1, hzt, hzD⟩
  have fin : ∀ W, Ext w W -> z * val vs <= val u + val vs -> Ret P n_impl_subTimes [.slice (some ⟨b, off, none⟩) (t + 2 + 1) c, .slice (some av) (t + 2) d, .int .i64 z] W fun v w7 => ∃ bb, v = .bool bb /\ (bb = true -> ∃ t76, t76 = IntKind.wrap .i64 (z - 1) /\ Ret P n_impl_addBack [.slice (some ⟨b, off, none⟩) (t + 2 + 1) c, .slice (some av) (t + 2) d] w7 fun v2 w8 => v2 = .tuple #[] /\ ∃ (x : Int) (u' : List Int), Value.int .i64 t76 = .int .i64 x /\ 0 <= x /\ x < 1000000000 /\ u'.length = t + 2 + 1 /\ Blk w8 b T_int (xs ++ u'.map (Value.int .i64) ++ zs) /\ Chg [b] w w8 /\ Limbs u' /\ val u' = val u - x * val vs /\ 0 <= val u' /\ val u' < val vs) /\
      (bb = false -> ∃ (x : Int) (u' : List Int), Value.int .i64 z = .int .i64 x /\ 0 <= x /\ x < 1000000000 /\ u'.length = t + 2 + 1 /\ Blk w7 b T_int (xs ++ u'.map (Value.int .i64) ++ zs) /\ Chg [b] w w7 /\ Limbs u' /\ val u' = val u - x * val vs /\ 0 <= val u' /\ val u' < val vs) := by
    intro W hW hle
    refine (impl_subTimes_c (h.ext hW) hA hu (k.ext hW) hq hlu hlv ⟨hz0, hz1⟩ hm).mono ?_
    rintro v w7 ⟨u1, hv, hl1, hb1, ch1, sz1, hL1, hval1⟩
    have hvV := val_lt hlv
    rw [hvl] at hvV
    have hlen : (u1.take (t + 2)).length = t + 2 := by rw [List.length_take]; omega
    have lim : ∀ u2 : List Int, u2.length = t + 2 + 1 -> Limbs (u2.take (t + 2)) -> 0 <= val u2 -> val u2 < val vs -> Limbs u2 := fun u2 h1 h2 h3 h4 => by
      have a1 := val_nonneg h2; have a2 := val_lt h2
      have hl : (u2.take (t + 2)).length = t + 2 := by rw [List.length_take]; omega
      rw [hl] at a2
      have a3 := val_top h1
      have hp := pow_pos9 (t + 2)
      have b1 : ¬ u2.getD (t + 2) 0 < 0 := fun hn => by
        have := Int.mul_le_mul_of_nonneg_left (show u2.getD (t + 2) 0 <= -1 by omega) (Int.le_of_lt hp); omega
      have b2 : ¬ 0 < u2.getD (t + 2) 0 := fun hn => by
        have := Int.mul_le_mul_of_nonneg_left (show 1 <= u2.getD (t + 2) 0 by omega) (Int.le_of_lt hp); omega
      have e : u2 = u2.take (t + 2) ++ [u2.getD (t + 2) 0] := by
        conv => lhs; rw [<- List.take_of_length_le (show u2.length <= t + 2 + 1 by omega), List.take_add_one]
        rw [List.getElem?_eq_getElem (by omega), List.getD_eq_getElem?_getD, List.getElem?_eq_getElem (by omega)]; rfl
      rw [e]
      exact h2.snoc (by omega)
    rw [Int.add_mul] at hzD
    refine ⟨_, hv, fun hneg => exW ⟨by omega, by omega⟩ ?_, fun hpos => ?_⟩
    · have hneg := of_decide_eq_true hneg
      have hz1' : 1 <= z := by
        rcases Int.lt_or_le z 1 with h | h
        · have : z = 0 := by omega
          subst this
          have := val_nonneg hlu
          omega
        · exact h
      have a1 := val_nonneg hL1; have a2 := val_lt hL1
      rw [hlen] at a2
      have a3 := val_top hl1
      have hp := pow_pos9 (t + 2)
      have g : -1000000000 <= u1.getD (t + 2) 0 /\ u1.getD (t + 2) 0 <= 1000000000 := by
        constructor
        · rcases Int.lt_or_le (u1.getD (t + 2) 0) (-1000000000) with hn | hn
          · have := Int.mul_le_mul_of_nonneg_left (show u1.getD (t + 2) 0 <= -2 by omega) (Int.le_of_lt hp); omega
          · exact hn
        · rcases Int.lt_or_le 1000000000 (u1.getD (t + 2) 0) with hn | hn
          · have := Int.mul_le_mul_of_nonneg_left (show 0 <= u1.getD (t + 2) 0 by omega) (Int.le_of_lt hp); omega
          · exact hn
      refine (impl_addBack_c hb1 hA hl1 ((k.ext hW).chg ch1 (fun y hy hm => hq y hy (by simpa using hm))) hq hL1 hlv g hm).mono ?_
      rintro v w8 ⟨u2, hv2, hl2, hb2, ch2, sz2, hL2, hval2⟩
      have ev2 : val u2 = val u - (z - 1) * val vs := by rw [Int.sub_mul]; omega
      exact ⟨hv2, z - 1, u2, rfl, by omega, by omega, hl2, hb2, hW.toChg.trans (ch1.trans ch2), lim u2 hl2 hL2 (by omega) (by omega), ev2, by omega, by omega⟩
    · have hpos := of_decide_eq_false hpos
      exact ⟨z, u1, rfl, hz0, hz1, hl1, hb1, hW.toChg.trans ch1, lim u1 hl1 hL1 (by omega) (by omega), hval1, by omega, by omega⟩
  have hxd := hx.trans (Ext.drew wr)
  refine ifD (fun hpos => ?_) (fun hzero => ifF (ifF ?_))
  · have M0 := mul_limb V0 ⟨hz0, hz1⟩
    rw [Int.mul_comm] at M0
    have ZV : 0 <= z * vs.getD (t + 1) 0 := Int.mul_nonneg hz0 (by omega)
    refine exW ⟨by omega, by omega⟩ ?_
    rw [i2]
    refine ⟨⟨by omega, by omega⟩, _, fun W hW => by simpa only [Int.toNat_natCast] using lv (i := t + 1) (hxd.trans hW) (by omega), exW ⟨by omega, by omega⟩ (exW ⟨by omega, by omega⟩ (ifD (fun hr => ?_) (fun hr => ifF ?_)))⟩
    · refine exW ⟨by omega, by omega⟩ ⟨⟨by omega, by omega⟩, _, fun W hW => by simpa only [Int.toNat_natCast] using lv (i := t) (hxd.trans hW) (by omega), exW ⟨by omega, by omega⟩ (exW ⟨by omega, by omega⟩ ⟨⟨by omega, by omega⟩, _, fun W hW => by simpa only [Int.toNat_natCast] using lv (i := t + 1) (hxd.trans hW) (by omega), exW ⟨by omega, by omega⟩ (exW ⟨by omega, by omega⟩ (exW ⟨by omega, by omega⟩ (exW ⟨by omega, by omega⟩ ⟨⟨by omega, by omega⟩, _, fun W hW => by simpa only [Int.toNat_natCast] using lu (i := t) (hxd.trans hW) (by omega), exW ⟨by omega, by omega⟩ (ifD (fun hmore => ?_) (fun hdone => ?_))⟩)))⟩)⟩
      · refine exW ⟨by omega, by omega⟩ ⟨⟨hxd, by omega, by omega, ?_, ?_⟩, ?_⟩
        · rw [Int.sub_mul]; omega
        · have := guess1 (q := z) (T := top * 1000000000 + u.getD t 0) (v12 := 1000000000 * vs.getD (t + 1) 0 + vs.getD t 0) hM bu.2 bv.1 eu ev hz0 (by rw [Int.mul_add, Int.mul_left_comm]; omega)
          rwa [Int.sub_add_cancel]
        · show (z - 1).toNat < z.toNat
          omega
      · refine Ret.at (fin _ hxd (guess2 hM bu.1 bv eu ev (by omega) V0.1 ⟨hz0, hz1⟩ (by rw [Int.mul_add, Int.mul_left_comm]; omega))) ?_
        rintro v w7 ⟨bb, hv, h1, h2⟩
        refine ⟨bb, by rw [hv], fun hb => ?_, h2⟩
        obtain ⟨t76, ht, hr⟩ := h1 hb
        refine ⟨t76, ht, Ret.at hr ?_⟩
        rintro v2 w8 ⟨hv2, hf⟩
        exact ⟨by rw [hv2], hf⟩
    · refine Ret.at (fin _ hxd (guess2 hM bu.1 bv eu ev (by omega) V0.1 ⟨hz0, hz1⟩ (by rw [Int.mul_add, Int.mul_left_comm]; omega))) ?_
      rintro v w7 ⟨bb, hv, h1, h2⟩
      refine ⟨bb, by rw [hv], fun hb => ?_, h2⟩
      obtain ⟨t76, ht, hr⟩ := h1 hb
      refine ⟨t76, ht, Ret.at hr ?_⟩
      rintro v2 w8 ⟨hv2, hf⟩
      exact ⟨by rw [hv2], hf⟩
  · have hz : z = 0 := by omega
    subst hz
    refine Ret.at (fin _ hxd (by have := val_nonneg hlu; have := val_nonneg hlv; omega)) ?_
    rintro v w7 ⟨bb, hv, h1, h2⟩
    refine ⟨bb, by rw [hv], fun hb => ?_, h2⟩
    obtain ⟨t76, ht, hr⟩ := h1 hb
    refine ⟨t76, ht, Ret.at hr ?_⟩
    rintro v2 w8 ⟨hv2, hf⟩
    exact ⟨by rw [hv2], hf⟩
end Go.Proofs.YtgbknjdjbahdkaaGreatDoor
namespace Go.Proofs.YtgbknjdjbahdkaaGreatDoor
open Go Go.Proofs.YtgbknjdjbahdkaaGreatDoor.Sx
theorem val_zeros' (k : Nat) : val (List.replicate k 0) = 0 := by
  induction k with
  | zero => rfl
  | succ s ih => simp [List.replicate_succ, val, ih]
theorem Limbs.zeros (k : Nat) : Limbs (List.replicate k 0) := fun x hx => by simp at hx; omega
theorem pow_mono9 {i j : Nat} (h : i <= j) : (1000000000 : Int) ^ i <= 1000000000 ^ j := by
  have := Int.ofNat_le.2 (Nat.pow_le_pow_right (n := 1000000000) (by decide) h)
  simpa using this
theorem digs_lenI {z : Int} {k : Nat} (h0 : 0 <= z) (h : z < 1000000000 ^ k) : (digs z.toNat).length <= k := by
  apply digs_len
  have : ((z.toNat : Nat) : Int) < ((1000000000 ^ k : Nat) : Int) := by rw [Int.toNat_of_nonneg h0]; simpa using h
  exact Int.ofNat_lt.1 this
theorem digs_lenI' {z : Int} {k : Nat} (h0 : 0 <= z) (h : 1000000000 ^ k <= z) : k < (digs z.toNat).length := by
  rcases Nat.lt_or_ge k (digs z.toNat).length with g | g
  · exact g
  · exfalso
    have h1 := val_lt (digs_limbs z.toNat)
    rw [val_digs, Int.toNat_of_nonneg h0] at h1
    have := pow_mono9 g
    omega
theorem val_digsI {z : Int} (h : 0 <= z) : val (digs z.toNat) = z := by rw [val_digs, Int.toNat_of_nonneg h]
theorem canon_top {b : List Int} {m : Nat} (h : Canon b) (hl : b.length = m + 1) : 1 <= b.getD m 0 := by
  have h1 := h.2
  rw [getLast_getD (by omega), hl, Nat.add_sub_cancel] at h1
  have h2 := h.1.getD m
  have : b.getD m 0 ≠ 0 := fun e => h1 (by rw [e])
  omega
theorem impl_NatOf_c {w : World} {n : Int} (h0 : 0 <= n) (h1 : n <= 9223372036854775807) :
    Ret P n_impl_NatOf [.int .i64 n] w fun v w' => ∃ p' n' c', v = .slice p' n' c' /\ Own w' w.heap.size T_int 1 p' n' c' ((digs n.toNat).map (Value.int .i64)) /\ Ext w w' := by
  refine impl_NatOf_ret ?_
  unfold impl_NatOf
  refine ifD (fun h => absurd h (by omega)) (fun _ => ?_)
  have e : IntKind.wrap .u64 n = n := by
    have : (IntKind.wrap .u64 n) = n % 18446744073709551616 := rfl
    rw [this]; omega
  refine ⟨n, e.symm, ?_⟩
  refine Ret.at (impl_natOf_c h0 (by omega)) ?_
  rintro v w1 ⟨p', n', c', hv, ho, hx⟩
  subst hv
  exact ⟨_, _, _, rfl, _, _, _, rfl, ho, hx⟩
theorem impl_natDiv_c {w : World} {p q : Option Addr} {n c m d : Nat} {a b : List Int} (h : IntsR w p n c a) (k : IntsR w q m d b) (ha : Canon a) (hb : Canon b) (hb0 : 0 < m) (hn : n <= 100000) (hm : m <= 100000) :
    Ret P n_impl_natDiv [.slice p n c, .slice q m d] w fun v w' => ∃ p1 n1 c1 p2 n2 c2, v = .tuple #[.slice p1 n1 c1, .slice p2 n2 c2] /\ Own w' w.heap.size T_int 1 p1 n1 c1 ((digs (val a / val b).toNat).map (Value.int .i64)) /\ Own w' w.heap.size T_int 1 p2 n2 c2 ((digs (val a % val b).toNat).map (Value.int .i64)) /\ (∀ z, p1.map (·.block) = some z -> p2.map (·.block) ≠ some z) /\ Ext w w' := by
  refine impl_natDiv_ret ?_
  unfold impl_natDiv
  have hla := h.1; have hlb := k.1
  have va0 := val_nonneg ha.1
  have vb0 : 0 < val b := canon_pos hb (by intro e; rw [e] at hlb; simp at hlb; omega)
  refine Ret.at (impl_natCmp_c h k) ?_
  rintro v w1 ⟨hv, y1⟩
  subst hv
  refine ⟨_, rfl, ifD (fun hlt => ?_) (fun hge => ifD (fun hone => ?_) (fun hmore => ?_))⟩
  · have hab : val a < val b := by rcases cmpL_val ha hb with h | h | h <;> omega
    intro r w2 hn2
    have e2 := hn2.r_eq
    have x2 := y1.trans hn2.ext
    refine Ret.at (impl_natCopy_c (h.ext x2) (by omega)) ?_
    rintro v w3 ⟨p', c', hv, ho, y3⟩
    subst hv
    refine ⟨_, _, _, rfl, _, _, _, _, _, _, rfl, ?_, ?_, ?_, x2.trans y3⟩
    · rw [Int.ediv_eq_zero_of_lt va0 hab]
      simp only [Int.toNat_zero, digs_zero]
      exact (((Own.fresh hn2).ext y3).mono (by have := y1.le; omega))
    · rw [Int.emod_eq_of_lt va0 hab, digs_val ha]
      exact ho.mono x2.le
    · intro z hz hz2
      have := (World.ownsRow.lt ho z (by rw [<- hz2]; cases p' <;> rfl)).1
      simp at hz
      have := hn2.size
      omega
  · have hm1 : m = 1 := by omega
    subst hm1
    have hB := hb.1.getD 0
    have hT := canon_top (m := 0) hb (by omega)
    have ev : val b = b.getD 0 0 := by
      have := val_top (m := 0) hlb
      simpa [val] using this
    obtain ⟨ad, rfl, hl⟩ := ints_at (k.ext y1) (i := 0) (by omega) (by omega)
    refine ⟨⟨by omega, by omega⟩, _, by simpa only [Int.toNat_zero] using hl, ?_⟩
    rw [ev]
    simp only [Int.toNat_zero]
    refine Ret.at (impl_natSmall_c (h.ext y1) ha.1 ⟨by omega, by omega⟩ (by omega)) ?_
    rintro v w2 ⟨p1, n1, c1, hv, o1, y2⟩
    subst hv
    have Z0 := Int.emod_nonneg (val a) (show b.getD 0 0 ≠ 0 by omega)
    have Z1 := Int.emod_lt_of_pos (val a) (show 0 < b.getD 0 0 by omega)
    refine ⟨_, _, _, _, rfl, ?_⟩
    refine Ret.at (impl_NatOf_c Z0 (by omega)) ?_
    rintro v w3 ⟨p2, n2, c2, hv, o2, y3⟩
    subst hv
    refine ⟨_, _, _, rfl, _, _, _, _, _, _, rfl, (o1.ext y3).mono y1.le, o2.mono (by have := y1.le; have := y2.le; omega), fun z hz hz2 => ?_, y1.trans (y2.trans y3)⟩
    have := (World.ownsRow.lt o2 z (by rw [<- hz2]; cases p2 <;> rfl)).1
    have := (World.ownsRow.lt o1 z (by rw [<- hz]; cases p1 <;> rfl)).2
    omega
  · have hab : val b <= val a := by rcases cmpL_val ha hb with h | h | h <;> omega
    obtain ⟨t, rfl⟩ : ∃ t, m = t + 1 := ⟨m - 1, by omega⟩
    have hB := hb.1.getD t
    have hT := canon_top hb hlb
    have hmn : t + 1 <= n := by
      rcases Nat.lt_or_ge n (t + 1) with g | g
      · have := canon_len ha hb (by omega); omega
      · exact g
    have S0 : 1 <= 1000000000 / (b.getD t 0 + 1) := Int.le_ediv_of_mul_le (by omega) (by omega)
    have S1 : 1000000000 / (b.getD t 0 + 1) <= 500000000 := by
      have : 1000000000 / (b.getD t 0 + 1) < 500000001 := Int.ediv_lt_of_lt_mul (by omega) (by omega)
      omega
    have S2 : 1000000000 / (b.getD t 0 + 1) * (b.getD t 0 + 1) <= 1000000000 := Int.ediv_mul_le _ (by omega)
    generalize hsc : 1000000000 / (b.getD t 0 + 1) = sc at S0 S1 S2
    obtain ⟨ad, rfl, hl⟩ := ints_at (k.ext y1) (i := (t : Int)) (by omega) (by omega)
    simp only [Int.toNat_natCast] at hl
    have i1 : ((t + 1 : Nat) : Int) - 1 = (t : Int) := by omega
    rw [i1]
    refine exW ⟨by omega, by omega⟩ ⟨⟨by omega, by omega⟩, _, by simpa only [Int.toNat_natCast] using hl, exW ⟨by omega, by omega⟩ ⟨by omega, ?_⟩⟩
    rw [Int.tdiv_eq_ediv_of_nonneg (by omega), hsc]
    refine exW ⟨by omega, by omega⟩ fun r1 w2 hn2 => ?_
    have e2 := hn2.r_eq
    have x2 := y1.trans hn2.ext
    have one : ∀ {W W' : World} {r : Nat}, New W (.cells ⟨[.int .i64 sc]⟩ T_int (0, 0)) r W' -> IntsR W' (some ⟨r, 0, none⟩) 1 1 [sc] := fun hn => ⟨rfl, Nat.le_refl _, by omega, fun _ => ⟨_, 0, rfl, hn.blk.seg⟩⟩
    have lsc : Limbs [sc] := fun x hx => by simp at hx; omega
    have vsc : val [sc] = sc := by simp [val]
    refine Ret.at (impl_natMul_c (h.ext x2) (one hn2) ha.1 lsc (by omega) (by omega)) ?_
    rintro v w3 ⟨up, un, uc, hv, ou, y3⟩
    subst hv
    refine ⟨_, _, _, rfl, fun r2 w4 hn4 => ?_⟩
    have x4 := (x2.trans y3).trans hn4.ext
    refine Ret.at (impl_natMul_c (k.ext x4) (one hn4) hb.1 lsc (by omega) (by omega)) ?_
    rintro v w5 ⟨vp, vn, vc, hv, ov, y5⟩
    subst hv
    refine ⟨_, _, _, rfl, ?_⟩
    rw [vsc] at ou ov
    have x5 := x4.trans y5
    have l2 := x2.le; have l3 := y3.le; have l4 := hn4.ext.le; have l5 := y5.le; have l1 := y1.le
    -- the values
    have U0 : 0 <= val a * sc := Int.mul_nonneg va0 (by omega)
    have V0 : val b <= val b * sc := by
      have := Int.mul_le_mul_of_nonneg_left S0 (Int.le_of_lt vb0); omega
    have aL := val_lt ha.1
    rw [hla] at aL
    have hpn := pow_pos9 n
    have U1 : val a * sc < 1000000000 ^ (n + 1) := by
      rw [Int.pow_succ]
      have h1 : val a * sc <= 1000000000 ^ n * sc := Int.mul_le_mul_of_nonneg_right (Int.le_of_lt aL) (by omega)
      have h2 : 1000000000 ^ n * sc < 1000000000 ^ n * 1000000000 := Int.mul_lt_mul_of_pos_left (by omega) hpn
      omega
    have hpt := pow_pos9 t
    have bt := val_top hlb
    have bb := take_bounds (m := t) hb.1 (by omega)
    have Vlow : 1000000000 ^ t * sc <= val b * sc := by
      refine Int.mul_le_mul_of_nonneg_right ?_ (by omega)
      have := Int.mul_le_mul_of_nonneg_left hT (Int.le_of_lt hpt)
      omega
    have Vlow1 : 1000000000 ^ t <= val b * sc := by
      have := Int.mul_le_mul_of_nonneg_left S0 (Int.le_of_lt hpt); omega
    have Vhi : val b * sc < 1000000000 ^ (t + 1) := by
      have h1 : val b * sc < (1000000000 ^ t * (b.getD t 0 + 1)) * sc := by
        refine Int.mul_lt_mul_of_pos_right ?_ (by omega)
        rw [Int.mul_add]; omega
      have h2 : (1000000000 ^ t * (b.getD t 0 + 1)) * sc = 1000000000 ^ t * (sc * (b.getD t 0 + 1)) := by rw [Int.mul_assoc, Int.mul_comm sc]
      have h3 : 1000000000 ^ t * (sc * (b.getD t 0 + 1)) <= 1000000000 ^ t * 1000000000 := Int.mul_le_mul_of_nonneg_left S2 (Int.le_of_lt hpt)
      rw [Int.pow_succ]; omega
    have hvlen : (digs (val b * sc).toNat).length = t + 1 := by
      have h1 := digs_lenI (by omega) Vhi
      have h2 := digs_lenI' (by omega) Vlow1
      omega
    have hvn : vn = t + 1 := by
      have := ov.len
      simp only [List.length_map] at this
      omega
    have hvval := val_digsI (show 0 <= val b * sc by omega)
    have hvtop := canon_top (digs_canon (val b * sc).toNat) hvlen
    have hvlim := digs_limbs (val b * sc).toNat
    have hUval := val_digsI U0
    have hUlen := digs_lenI U0 U1
    generalize hVl : digs (val b * sc).toNat = vs at ov hvlen hvval hvtop hvlim
    generalize hUl : digs (val a * sc).toNat = us at ou hUval hUlen
    have hUlim : Limbs us := by rw [<- hUl]; exact digs_limbs _
    have hun : un = us.length := by have := ou.len; simp only [List.length_map] at this; omega
    subst hvn
    have dis0 : ∀ z, up.map (·.block) = some z -> vp.map (·.block) ≠ some z := fun z hz hz2 => by
      have := (World.ownsRow.lt ou z (by rw [<- hz]; cases up <;> rfl)).2
      have := (World.ownsRow.lt ov z (by rw [<- hz2]; cases vp <;> rfl)).1
      omega
    have ou5 := ((ou.ext hn4.ext).ext y5).mono (base' := w.heap.size) (by omega)
    have ov5 := ov.mono (base' := w.heap.size) (by omega)
    refine ⟨fun P' N' C' wr => ∃ s, N' = us.length + s /\ N' <= n + 1 /\ Own wr w.heap.size T_int 1 P' N' C' ((us ++ List.replicate s 0).map (Value.int .i64)) /\ Own wr w.heap.size T_int 1 vp (t + 1) vc (vs.map (Value.int .i64)) /\ Ext w wr /\ (∀ z, P'.map (·.block) = some z -> vp.map (·.block) ≠ some z), fun _ N' _ _ => n + 1 - N',
      ⟨0, by omega, by omega, by simpa using ou5, ov5, x5, dis0⟩, ?_⟩
    intro junk wr up1 un1 uc1 ⟨s, hs, hsn, ou1, ov1, x6, dis1⟩
    have l6 := x6.le
    refine ifD (fun hgrow => ?_) (fun hfull => ?_)
    · intro r3 w7 hn7
      have e7 := hn7.r_eq
      obtain ⟨p', c', w8, ap, o8, ch8, d8⟩ := (ou1.ext hn7.ext).push1 (P := P) sliceT_int (by have := hn7.ext.le; omega) hn7.blk rfl (by simp [Value.oneCell']) (by omega) (by omega)
      have upl : ∀ z, up1.map (·.block) = some z -> w.heap.size <= z /\ z < wr.heap.size := fun z hz => World.ownsRow.lt ou1 z (by rw [<- hz]; cases up1 <;> rfl)
      have vpl : ∀ z, vp.map (·.block) = some z -> w.heap.size <= z /\ z < wr.heap.size := fun z hz => World.ownsRow.lt ov1 z (by rw [<- hz]; cases vp <;> rfl)
      refine ⟨p', _, c', w8, ap, ⟨s + 1, by omega, by omega, ?_, (ov1.ext hn7.ext).chg ch8 (fun z hz hm => dis1 z (opt_mem hm) hz), (x6.trans hn7.ext).chg ch8 (fun z hz => (upl z (opt_mem hz)).1), fun z hz hz2 => ?_⟩, ?_⟩
      · rw [List.replicate_succ', <- List.append_assoc]
        simpa using o8
      · rcases d8 with d8 | d8
        · exact dis1 z (d8 ▸ hz) hz2
        · have := d8 z hz; have := (vpl z hz2).2; have := hn7.size; omega
      · show n + 1 - (un1 + 1) < n + 1 - un1
        omega
    · have hN : un1 = n + 1 := by omega
      have hi66 : ((un1 : Nat) : Int) - ((t + 1 : Nat) : Int) = ((n - t : Nat) : Int) := by omega
      rw [hi66]
      refine exW ⟨by omega, by omega⟩ ⟨⟨by omega, by omega, by omega⟩, ?_⟩
      rw [Int.toNat_natCast]
      intro r4 w9 hn9
      have e9 := hn9.r_eq; have s9 := hn9.size
      have hb9 := hn9.blk
      rw [zeroRow_int, Nat.mul_one] at hb9
      obtain ⟨bu, ys, rfl, hbu, hblk, hyl, hnc, hcm, hyt⟩ := ou1.blk (by omega)
      have hbul := hblk.lt
      generalize hos : us ++ List.replicate s 0 = o0 at ou1 hyt
      have ho0 : o0.length = n + 1 := by rw [<- hos]; simp; omega
      have hov : val o0 = val a * sc := by rw [<- hos, val_append, val_zeros', Int.mul_zero, Int.add_zero, hUval]
      have hol0 : Limbs o0 := by rw [<- hos]; exact Limbs.append.2 ⟨hUlim, Limbs.zeros s⟩
      have hys : ys = o0.map (Value.int .i64) ++ ys.drop (un1 * 1) := by rw [<- hyt, List.take_append_drop]
      generalize hrs : ys.drop (un1 * 1) = rs at hys
      rw [hys] at hblk
      have vpne : ∀ z, vp.map (·.block) = some z -> z ≠ bu := fun z hz e => dis1 bu rfl (by rw [hz, e])
      have vpl : ∀ z, vp.map (·.block) = some z -> z < wr.heap.size := fun z hz => (World.ownsRow.lt ov1 z (by rw [<- hz]; cases vp <;> rfl)).2
      refine exW ⟨by omega, by omega⟩ ⟨fun i wr2 => ∃ (j : Nat) (o ql : List Int), i = (j : Int) - 1 /\ j <= n - t /\ o.length = n + 1 /\ ql.length = n - t /\ Blk wr2 bu T_int (o.map (Value.int .i64) ++ rs) /\ Blk wr2 r4 T_int (ql.map (Value.int .i64)) /\ IntsR wr2 vp (t + 1) vc vs /\ Ext w wr2 /\ Limbs o /\ Limbs ql /\ (∀ z, z < j -> ql.getD z 0 = 0) /\ val o + val ql * (val b * sc) = val a * sc /\ val o < 1000000000 ^ j * (val b * sc), fun i _ => (i + 1).toNat,
        ⟨n - t, o0, List.replicate (n - t) 0, rfl, by omega, ho0, by simp, hblk.ext hn9.ext, by simpa using hb9, (ov1.ints).ext hn9.ext, x6.trans hn9.ext, hol0, Limbs.zeros _, fun z hz => by simp [List.getD_eq_getElem?_getD, hz], by rw [val_zeros', Int.zero_mul]; omega, ?_⟩, ?_⟩
      · rw [hov]
        have h1 : val a * sc < 1000000000 ^ n * sc := Int.mul_lt_mul_of_pos_right aL (by omega)
        have h2 : (1000000000 : Int) ^ (n - t) * (1000000000 ^ t * sc) <= 1000000000 ^ (n - t) * (val b * sc) := Int.mul_le_mul_of_nonneg_left Vlow (Int.le_of_lt (pow_pos9 _))
        rw [<- Int.mul_assoc, <- Int.pow_add, show n - t + t = n by omega] at h2
        omega
      intro junk2 wr2 i ⟨j, o, ql, hi, hj, hol, hqll, hbu2, hbq, kv, x10, hlo, hlq, hqz, hval, hlt⟩
      subst hi
      have l10 := x10.le
      refine ifD (fun hpos => ?_) (fun hend => ?_)
      · obtain ⟨f, rfl⟩ : ∃ f, j = f + 1 := ⟨j - 1, by omega⟩
        have ef : ((f + 1 : Nat) : Int) - 1 = (f : Int) := by omega
        rw [ef]
        have e81 : (f : Int) + ((t + 1 : Nat) : Int) + 1 = ((f + (t + 1) + 1 : Nat) : Int) := by omega
        refine exW ⟨by omega, by omega⟩ (exW ⟨by omega, by omega⟩ ?_)
        rw [e81]
        simp only [Int.toNat_natCast]
        have hsub : Sx.sub (some ⟨bu, 0, none⟩) f uc1 1 = some ⟨bu, f, none⟩ := by
          unfold Sx.sub
          rw [if_neg (by omega)]
          simp [Addr.add]
          omega
        rw [hsub, show f + (t + 1) + 1 - f = t + 1 + 1 by omega]
        refine ⟨⟨by omega, by omega⟩, ⟨by omega, by omega⟩, ?_⟩
        -- the window
        have esplit : o = o.take f ++ ((o.drop f).take (t + 1 + 1) ++ (o.drop f).drop (t + 1 + 1)) := by rw [List.take_append_drop, List.take_append_drop]
        have lA : (o.take f).length = f := by rw [List.length_take]; omega
        have lU : ((o.drop f).take (t + 1 + 1)).length = t + 1 + 1 := by rw [List.length_take, List.length_drop]; omega
        have hlA : Limbs (o.take f) := hlo.take f
        have hlD : Limbs (o.drop f) := fun x hx => hlo x (List.mem_of_mem_drop hx)
        have hlU := hlD.take (t + 1 + 1)
        have hlC : Limbs ((o.drop f).drop (t + 1 + 1)) := fun x hx => hlD x (List.mem_of_mem_drop hx)
        generalize o.take f = A at esplit lA hlA
        generalize (o.drop f).take (t + 1 + 1) = U at esplit lU hlU
        generalize (o.drop f).drop (t + 1 + 1) = C at esplit hlC
        subst esplit
        have hA0 := val_nonneg hlA; have hA1 := val_lt hlA; have hC0 := val_nonneg hlC; have hU0 := val_nonneg hlU
        rw [lA] at hA1
        rw [val_append, val_append, lA, lU, Int.mul_add, <- Int.mul_assoc, <- Int.pow_add] at hval hlt
        have hpf := pow_pos9 f
        have hCz : val C = 0 := by
          rcases Int.lt_or_le 0 (val C) with g | g
          · exfalso
            have g1 := Int.mul_le_mul_of_nonneg_left (show 1 <= val C by omega) (Int.le_of_lt (pow_pos9 (f + (t + 1 + 1))))
            have g2 := Int.mul_nonneg (Int.le_of_lt hpf) hU0
            have g3 : (1000000000 : Int) ^ (f + 1) * (val b * sc) < 1000000000 ^ (f + 1) * 1000000000 ^ (t + 1) := Int.mul_lt_mul_of_pos_left Vhi (pow_pos9 _)
            rw [<- Int.pow_add, show f + 1 + (t + 1) = f + (t + 1 + 1) by omega] at g3
            omega
          · omega
        rw [hCz, Int.mul_zero, Int.add_zero] at hval hlt
        have hUD : val U < 1000000000 * (val b * sc) := by
          have g1 : (1000000000 : Int) ^ f * val U < 1000000000 ^ f * (1000000000 * (val b * sc)) := by
            have e : (1000000000 : Int) ^ f * (1000000000 * (val b * sc)) = 1000000000 ^ (f + 1) * (val b * sc) := by rw [Int.pow_succ, Int.mul_assoc]
            rw [e]; omega
          exact Int.lt_of_mul_lt_mul_left g1 (Int.le_of_lt hpf)
        have hbw : Blk wr2 bu T_int (A.map (Value.int .i64) ++ U.map (Value.int .i64) ++ (C.map (Value.int .i64) ++ rs)) := by
          have := hbu2
          rw [List.map_append, List.map_append] at this
          simpa only [List.append_assoc] using this
        refine Ret.at (impl_divStep_c hbw (by rw [List.length_map, lA]) lU kv vpne hlU hvlim (by simpa using hvtop) (by omega) (by omega) (by rw [hvval]; exact hUD)) ?_
        rintro v w11 ⟨x, u', hv, x0, x1, hl', hb', ch', hlu', hvu', hu0', hu1'⟩
        subst hv
        rw [hvval] at hvu' hu1'
        have hbq' := hbq.chg ch' (by simp; omega)
        have kv' := kv.chg ch' (fun z hz hm => vpne z hz (by simpa using hm))
        obtain ⟨w12, st, hbq12, ch12, sz12⟩ := blk_set hbq' (i := (f : Int)) (by omega) (by omega) x
        simp only [Int.toNat_natCast] at st hbq12
        have hbu12 := hb'.chg ch12 (by simp; omega)
        refine ⟨x, rfl, ⟨by omega, by omega⟩, w12, st, exW ⟨by omega, by omega⟩ ⟨⟨f, A ++ (u' ++ C), ql.set f x, by omega, by omega, ?_, by simpa using hqll, ?_, hbq12, kv'.chg ch12 (fun z hz hm => by have := vpl z hz; simp at hm; omega), (x10.chg ch' (by simp; omega)).chg ch12 (by simp; omega), ?_, hlq.set ⟨x0, x1⟩, fun z hz => by rw [getD_set_ne _ (by omega)]; exact hqz z (by omega), ?_, ?_⟩, ?_⟩⟩
        · simp only [List.length_append] at hol ⊢; omega
        · simpa only [List.map_append, List.append_assoc] using hbu12
        · exact Limbs.append.2 ⟨hlA, Limbs.append.2 ⟨hlu', hlC⟩⟩
        · rw [val_append, val_append, lA, hCz, Int.mul_zero, Int.add_zero, val_set _ _ (by omega), hqz f (by omega), Int.sub_zero, hvu', Int.mul_sub, Int.add_mul]
          have : (1000000000 : Int) ^ f * x * (val b * sc) = 1000000000 ^ f * (x * (val b * sc)) := Int.mul_assoc _ _ _
          omega
        · rw [val_append, val_append, lA, hCz, Int.mul_zero, Int.add_zero]
          have g1 : (1000000000 : Int) ^ f * (val u' + 1) <= 1000000000 ^ f * (val b * sc) := Int.mul_le_mul_of_nonneg_left (by omega) (Int.le_of_lt hpf)
          rw [Int.mul_add] at g1
          omega
        · show ((f : Int) - 1 + 1).toNat < ((f : Int) + 1).toNat
          omega
      · have hj0 : j = 0 := by omega
        subst hj0
        rw [show (1000000000 : Int) ^ 0 = 1 from rfl, Int.one_mul] at hlt
        have hrd : IntsR wr2 (some ⟨bu, 0, none⟩) un1 uc1 o := by
          refine ⟨by omega, hnc, by simp only [maxLen] at hcm; omega, fun _ => ⟨bu, 0, rfl, ?_⟩⟩
          have := hbu2.seg.take o.length
          rwa [List.take_left' (by simp)] at this
        refine Ret.at (impl_trim_c hrd) ?_
        rintro v w11 ⟨hv, hw, hr⟩
        subst hv; subst hw
        refine ⟨_, _, _, rfl, ?_⟩
        rw [trimL_eq hlo] at hr
        have hlen2 : (digs (val o).toNat).length <= n + 1 := by
          have := trimL_len o
          rw [trimL_eq hlo] at this; omega
        have ho0' := val_nonneg hlo
        rw [trimL_eq hlo]
        refine Ret.at (impl_natSmall_c hr (digs_limbs _) ⟨by omega, by omega⟩ (by omega)) ?_
        rintro v w12 ⟨p2, n2, c2, hv, o2, y12⟩
        subst hv
        rw [val_digsI ho0'] at o2
        refine ⟨_, _, _, _, rfl, ?_⟩
        have hq0 := val_nonneg hlq
        have hown : Own w12 w.heap.size T_int 1 (some ⟨r4, 0, none⟩) (n - t) (n - t) (ql.map (Value.int .i64)) := Own.of_blk (hbq.ext y12) (by omega) (by simp [hqll]) (by simp only [maxLen]; omega)
        refine Ret.at (impl_trim_c hown.ints) ?_
        rintro v w13 ⟨hv, hw, hr13⟩
        subst hv; subst hw
        -- the quotient and the rest
        have hval' : (val a - val ql * val b) * sc = val o := by
          rw [Int.sub_mul, Int.mul_assoc]; omega
        have hR0 : 0 <= val a - val ql * val b := by
          rcases Int.lt_or_le (val a - val ql * val b) 0 with g | g
          · have := Int.mul_le_mul_of_nonneg_right (show val a - val ql * val b <= -1 by omega) (show 0 <= sc by omega)
            omega
          · exact g
        have hR1 : val a - val ql * val b < val b := Int.lt_of_mul_lt_mul_right (a := sc) (by omega) (by omega)
        have hd : val a / val b = val ql := by
          have : val a = (val a - val ql * val b) + val b * val ql := by rw [Int.mul_comm (val b)]; omega
          rw [this, Int.add_mul_ediv_left _ _ (by omega), Int.ediv_eq_zero_of_lt hR0 hR1, Int.zero_add]
        have hr' : val a % val b = val a - val ql * val b := by
          have := Int.mul_ediv_add_emod (val a) (val b)
          rw [hd, Int.mul_comm] at this
          omega
        have hos2 : val o / sc = val a - val ql * val b := by rw [<- hval', Int.mul_ediv_cancel _ (by omega)]
        rw [hos2] at o2
        refine ⟨_, _, _, rfl, _, _, _, _, _, _, rfl, ?_, ?_, fun z hz hz2 => ?_, x10.trans y12⟩
        · rw [hd, <- trimL_eq hlq]
          have hle := trimL_len ql
          have := hown.sub (m := (trimL ql).length) (by omega)
          rwa [<- trimL_prefix] at this
        · rw [hr']
          exact o2.mono l10
        · have := (World.ownsRow.lt o2 z (by rw [<- hz2]; cases p2 <;> rfl)).1
          have := hbq.lt
          simp at hz
          omega
end Go.Proofs.YtgbknjdjbahdkaaGreatDoor
namespace Go.Proofs.YtgbknjdjbahdkaaGreatDoor
open Go Go.Proofs.YtgbknjdjbahdkaaGreatDoor.Sx
theorem spec_l03Small_c {w : World} {p : Option Addr} {n c : Nat} {a : List Int} {d : Int} (h : IntsR w p n c a) (ha : Limbs a) (hd : 0 < d /\ d < 1000000000) (hn : n <= 10000000) :
    Ret P n_spec_l03Small [.slice p n c, .int .i64 d] w fun v w' => ∃ p' n' c', v = .tuple #[.slice p' n' c', .int .i64 (val a % d)] /\ Own w' w.heap.size T_int 1 p' n' c' ((digs (val a / d).toNat).map (Value.int .i64)) /\ Ext w w' := by
  refine spec_l03Small_ret ?_
  unfold spec_l03Small
  have hla := h.1
  refine ⟨⟨by omega, by omega, by omega⟩, fun r w1 hn1 => exW ⟨by omega, by omega⟩ ?_⟩
  have hre := hn1.r_eq
  have hb1 := hn1.blk
  rw [zeroRow_int, Nat.mul_one] at hb1
  refine ⟨fun rest i wr => ∃ (s : Nat) (o : List Int), i = (s : Int) - 1 /\ s <= n /\ o.length = n /\ Blk wr r T_int (o.map (Value.int .i64)) /\ Ext w wr /\ Limbs o /\ 0 <= rest /\ rest < d /\ val (a.drop s) = d * val (o.drop s) + rest, fun _ i _ => (i + 1).toNat,
    ⟨n, List.replicate n 0, rfl, by omega, by simp, by simpa using hb1, hn1.ext, fun x hx => by simp at hx; omega, by omega, by omega, by rw [List.drop_of_length_le (by omega), List.drop_of_length_le (by simp)]; simp [val]⟩, ?_⟩
  intro junk wr rest i ⟨s, o, hi, hsn, hol, hblk, hx, hlo, hr0, hr1, hv⟩
  subst hi
  refine ifD (fun hlt => ?_) (fun hge => ?_)
  · obtain ⟨t, rfl⟩ : ∃ t, s = t + 1 := ⟨s - 1, by omega⟩
    have A := ha.getD t
    have e1 : (((t + 1 : Nat) : Int) - 1).toNat = t := by omega
    obtain ⟨ad, rfl, hl⟩ := ints_at (h.ext hx) (i := ((t + 1 : Nat) : Int) - 1) (by omega) (by omega)
    rw [e1] at hl ⊢
    have T1 : rest * 1000000000 + a.getD t 0 < 1000000000 * d := by
      have : rest * 1000000000 <= (d - 1) * 1000000000 := Int.mul_le_mul_of_nonneg_right (by omega) (by omega)
      omega
    have T0 : 0 <= rest * 1000000000 + a.getD t 0 := by omega
    have Y0 : 0 <= (rest * 1000000000 + a.getD t 0) / d := Int.ediv_nonneg T0 (by omega)
    have Y1 : (rest * 1000000000 + a.getD t 0) / d < 1000000000 := Int.ediv_lt_of_lt_mul (by omega) T1
    have Z0 := Int.emod_nonneg (rest * 1000000000 + a.getD t 0) (show d ≠ 0 by omega)
    have Z1 := Int.emod_lt_of_pos (rest * 1000000000 + a.getD t 0) hd.1
    have Q := Int.mul_ediv_add_emod (rest * 1000000000 + a.getD t 0) d
    refine exW ⟨by omega, by omega⟩ ⟨⟨by omega, by omega⟩, _, hl, exW ⟨by omega, by omega⟩ ⟨by omega, ?_⟩⟩
    rw [Int.tdiv_eq_ediv_of_nonneg T0, Int.tmod_eq_emod_of_nonneg T0]
    obtain ⟨w3, st, hb3, ch3, sz3⟩ := blk_set hblk (i := (t : Int)) (by omega) (by omega) ((rest * 1000000000 + a.getD t 0) / d)
    simp only [Int.toNat_natCast] at st hb3
    refine exW ⟨by omega, by omega⟩ ⟨⟨by omega, by omega⟩, w3, st, by omega, _, rfl, exW ⟨by omega, by omega⟩ ⟨⟨t, _, by omega, by omega, by simpa using hol, hb3, hx.chg ch3 (by simp; omega), hlo.set ⟨Y0, Y1⟩, Z0, Z1, ?_⟩, ?_⟩⟩
    · have ea : a.drop t = a.getD t 0 :: a.drop (t + 1) := by
        rw [List.drop_eq_getElem_cons (by omega), List.getD_eq_getElem?_getD, List.getElem?_eq_getElem (by omega)]; rfl
      have eo : (o.set t ((rest * 1000000000 + a.getD t 0) / d)).drop t = (rest * 1000000000 + a.getD t 0) / d :: o.drop (t + 1) := by
        rw [List.drop_eq_getElem_cons (by simp; omega), List.getElem_set_self, List.drop_set_of_lt (by omega)]
      rw [ea, eo, val, val, hv, Int.mul_add d]
      have : d * (1000000000 * val (o.drop (t + 1))) = 1000000000 * (d * val (o.drop (t + 1))) := by rw [Int.mul_left_comm]
      omega
    · show (((t + 1 : Nat) : Int) - 1 - 1 + 1).toNat < (((t + 1 : Nat) : Int) - 1 + 1).toNat
      omega
  · have hs0 : s = 0 := by omega
    subst hs0
    simp only [List.drop_zero] at hv
    have hown : Own wr w.heap.size T_int 1 (some ⟨r, 0, none⟩) n n (o.map (Value.int .i64)) := Own.of_blk hblk (by omega) (by simp [hol]) (by simp only [maxLen]; omega)
    refine Ret.at (spec_l02Trim_c hown.ints) ?_
    rintro v w4 ⟨hv4, hw4, hr4⟩
    subst hv4; subst hw4
    have e1 : val a / d = val o := by rw [hv, Int.mul_comm, Int.add_comm, Int.add_mul_ediv_right _ _ (by omega), Int.ediv_eq_zero_of_lt hr0 hr1, Int.zero_add]
    have e2 : val a % d = rest := by rw [hv, Int.mul_comm, Int.add_comm, Int.add_mul_emod_self_right, Int.emod_eq_of_lt hr0 hr1]
    refine ⟨_, _, _, rfl, _, _, _, by rw [e2], ?_, hx⟩
    rw [e1, <- trimL_eq hlo]
    have hle := trimL_len o
    have := hown.sub (m := (trimL o).length) (by omega)
    rwa [<- trimL_prefix] at this
theorem spec_l02Sub_o {w : World} {p q : Option Addr} {n c m d : Nat} {a b : List Int} (h : IntsR w p n c a) (k : IntsR w q m d b) (ha : Limbs a) (hb : Limbs b) (hn : n <= 10000000) (hbl : m <= n) (hab : val b <= val a) :
    Ret P n_spec_l02Sub [.slice p n c, .slice q m d] w fun v w' => ∃ p' n' c', v = .slice p' n' c' /\ Own w' w.heap.size T_int 1 p' n' c' ((digs (val a - val b).toNat).map (Value.int .i64)) /\ Ext w w' := by
  refine spec_l02Sub_ret ?_
  unfold spec_l02Sub
  have hla := h.1; have hlb := k.1
  intro r w1 hn1
  let Inv : Option Addr -> Nat -> Nat -> Int -> Int -> World -> Prop := fun p on c less i wr => ∃ (o : List Int), i = on /\ on <= n /\ Own wr w.heap.size T_int 1 p on c (o.map (Value.int .i64)) /\ Ext w wr /\ Limbs o /\ o.length = on /\ 0 <= less /\ less <= 1 /\ val o - 1000000000 ^ on * less = val (a.take on) - val (b.take on)
  refine ⟨Inv, fun _ _ _ _ i _ => n - i.toNat, ⟨[], rfl, by omega, Own.fresh hn1, hn1.ext, Limbs.nil, rfl, by omega, by omega, by simp [val]⟩, ?_⟩
  intro junk wr op j oc less i ⟨o, hi, hjn, hown, hx, hlo, hol, hc0, hc1, hv⟩
  subst hi
  have A := ha.getD j; have B := hb.getD j
  have bb : (j : Int) < m ∨ b.getD j 0 = 0 := by
    by_cases e : j < m
    · left; omega
    · right; exact getD_beyond (by omega)
  have J1 : ∀ l' u, (j : Int) < n -> u = a.getD j 0 - less - b.getD j 0 + 1000000000 * l' -> 0 <= u -> u < 1000000000 -> 0 <= l' -> l' <= 1 ->
      spec_l02Sub_j1 wr Inv (fun _ _ _ _ i _ => n - i.toNat) op j oc less j l' u wr fun v w' => ∃ p' n' c', v = .slice p' n' c' /\ Own w' w.heap.size T_int 1 p' n' c' ((digs (val a - val b).toNat).map (Value.int .i64)) /\ Ext w w' := by
    intro l' u hlt hu h0 h1 h2 h3
    unfold spec_l02Sub_j1
    intro r1 w2 hn2
    obtain ⟨p', c', w3, g1, g2, g3⟩ := Own.push hown hx.le hn2 (by omega)
    refine ⟨_, _, _, _, g1, exW ⟨by omega, by omega⟩ ⟨⟨o ++ [u], by omega, by omega, g2, g3 w hx (Nat.le_refl _), hlo.snoc ⟨h0, h1⟩, by simp [hol], h2, h3, sub_step hol hv rfl hu⟩, ?_⟩⟩
    show n - ((j : Int) + 1).toNat < n - (j : Int).toNat
    omega
  have J0 : ∀ t, (j : Int) < n -> t = a.getD j 0 - less - b.getD j 0 ->
      spec_l02Sub_j0 wr Inv (fun _ _ _ _ i _ => n - i.toNat) op j oc less j t wr fun v w' => ∃ p' n' c', v = .slice p' n' c' /\ Own w' w.heap.size T_int 1 p' n' c' ((digs (val a - val b).toNat).map (Value.int .i64)) /\ Ext w w' := by
    intro t hlt ht
    unfold spec_l02Sub_j0
    exact ifD (fun hneg => exW ⟨by omega, by omega⟩ (J1 1 _ hlt (by omega) (by omega) (by omega) (by omega) (by omega))) (fun hpos => J1 0 _ hlt (by omega) (by omega) (by omega) (by omega) (by omega))
  refine ifD (fun hlt => ?_) (fun hge => ?_)
  · obtain ⟨ad, rfl, hl⟩ := ints_at (h.ext hx) (i := (j : Int)) (by omega) hlt
    refine ⟨⟨by omega, by omega⟩, _, hl, exW ⟨by simp only [Int.toNat_natCast]; omega, by simp only [Int.toNat_natCast]; omega⟩ (ifD (fun hlm => ?_) (fun hge => J0 _ hlt (by simp only [Int.toNat_natCast]; rw [bb.resolve_left hge]; omega)))⟩
    obtain ⟨ad2, rfl, hl2⟩ := ints_at (k.ext hx) (i := (j : Int)) (by omega) hlm
    exact ⟨⟨by omega, by omega⟩, _, hl2, exW ⟨by simp only [Int.toNat_natCast]; omega, by simp only [Int.toNat_natCast]; omega⟩ (J0 _ hlt (by simp only [Int.toNat_natCast]))⟩
  · have hjn' : j = n := by omega
    subst hjn'
    rw [<- hla] at hv
    have hval := sub_end hlo (by omega) (by omega) hab hc0 hc1 hv
    refine Ret.at (spec_l02Trim_c hown.ints) ?_
    rintro v w4 ⟨hv4, hw4, hr4⟩
    subst hv4; subst hw4
    refine ⟨_, _, _, rfl, _, _, _, rfl, ?_, hx⟩
    have e := trimL_eq hlo
    rw [hval] at e
    rw [<- e]
    have hle := trimL_len o
    have := hown.sub (m := (trimL o).length) (by omega)
    rwa [<- trimL_prefix] at this
theorem spec_l03Digit_c {w : World} {p q : Option Addr} {n c m d : Nat} {a b : List Int} (h : IntsR w p n c a) (k : IntsR w q m d b) (ha : Canon a) (hb : Canon b) (hb0 : 0 < m) (hm : m <= 100000) (hlt : val a < 1000000000 * val b) :
    Ret P n_spec_l03Digit [.slice p n c, .slice q m d] w fun v w' => v = .int .i64 (val a / val b) /\ Ext w w' := by
  refine spec_l03Digit_ret ?_
  unfold spec_l03Digit
  have hla := h.1; have hlb := k.1
  have va0 := val_nonneg ha.1
  have vb0 : 0 < val b := canon_pos hb (by intro e; rw [e] at hlb; simp at hlb; omega)
  refine ⟨fun lo hi wr => Ext w wr /\ 0 <= lo /\ lo <= hi /\ hi <= 999999999 /\ lo * val b <= val a /\ val a < (hi + 1) * val b, fun lo hi _ => (hi - lo).toNat, ⟨Ext.refl _, by omega, by omega, by omega, by omega, by omega⟩, ?_⟩
  intro junk wr lo hi ⟨hx, h0, h1, h2, hl, hh⟩
  refine ifD (fun hmore => ?_) (fun hend => ?_)
  · refine exW ⟨by omega, by omega⟩ (exW ⟨by omega, by omega⟩ ⟨by decide, ?_⟩)
    rw [Int.tdiv_eq_ediv_of_nonneg (by omega)]
    refine exW ⟨by omega, by omega⟩ ?_
    have Q1 : lo < (lo + hi + 1) / 2 := by omega
    have Q2 : (lo + hi + 1) / 2 <= hi := by omega
    generalize (lo + hi + 1) / 2 = z at Q1 Q2
    refine Ret.at (spec_NatOf_c (show 0 <= z by omega) (by omega)) ?_
    rintro v w1 ⟨p1, n1, c1, hv, o1, y1⟩
    subst hv
    refine ⟨_, _, _, rfl, ?_⟩
    have ln1 : n1 <= 1 := by
      have e := o1.len
      have := digs_lenI (z := z) (k := 1) (by omega) (by rw [show (1000000000 : Int) ^ 1 = 1000000000 from rfl]; omega)
      simp only [List.length_map] at e
      omega
    refine Ret.at (spec_l02Mul_c (k.ext (hx.trans y1)) o1.ints hb.1 (digs_limbs _) (by omega) (by omega)) ?_
    rintro v w2 ⟨p2, n2, c2, hv, o2, y2⟩
    subst hv
    refine ⟨_, _, _, rfl, ?_⟩
    rw [val_digsI (by omega)] at o2
    have Z0 : 0 <= val b * z := Int.mul_nonneg (by omega) (by omega)
    refine Ret.at (spec_l02Cmp_c o2.ints (h.ext (hx.trans (y1.trans y2)))) ?_
    rintro v w3 ⟨hv, y3⟩
    subst hv
    have hc := cmpL_val (digs_canon (val b * z).toNat) ha
    rw [val_digsI Z0] at hc
    have ezb := Int.mul_comm (val b) z
    refine ⟨_, rfl, ifD (fun hle => ⟨⟨hx.trans (y1.trans (y2.trans y3)), by omega, by omega, by omega, by rcases hc with h | h | h <;> omega, hh⟩, ?_⟩) (fun hgt => exW ⟨by omega, by omega⟩ ⟨⟨hx.trans (y1.trans (y2.trans y3)), by omega, by omega, by omega, hl, ?_⟩, ?_⟩)⟩
    · show (hi - z).toNat < (hi - lo).toNat
      omega
    · rw [Int.sub_add_cancel]; rcases hc with h | h | h <;> omega
    · show (z - 1 - lo).toNat < (hi - lo).toNat
      omega
  · have : lo = hi := by omega
    subst this
    refine ⟨?_, hx⟩
    congr 1
    have e : val a = (val a - lo * val b) + val b * lo := by rw [Int.mul_comm (val b)]; omega
    rw [Int.add_mul, Int.one_mul] at hh
    rw [e, Int.add_mul_ediv_left _ _ (by omega), Int.ediv_eq_zero_of_lt (by omega) (by omega), Int.zero_add]
theorem spec_l03Div_o {w : World} {p q : Option Addr} {n c m d : Nat} {a b : List Int} (h : IntsR w p n c a) (k : IntsR w q m d b) (ha : Limbs a) (hb : Canon b) (hb0 : 0 < m) (hn : n <= 100000) (hm : m <= 100000) :
    Ret P n_spec_l03Div [.slice p n c, .slice q m d] w fun v w' => ∃ p1 n1 c1 p2 n2 c2, v = .tuple #[.slice p1 n1 c1, .slice p2 n2 c2] /\ Own w' w.heap.size T_int 1 p1 n1 c1 ((digs (val a / val b).toNat).map (Value.int .i64)) /\ IntsR w' p2 n2 c2 (digs (val a % val b).toNat) /\ Ext w w' := by
  refine spec_l03Div_ret ?_
  unfold spec_l03Div
  have hla := h.1; have hlb := k.1
  have va0 := val_nonneg ha
  have vb0 : 0 < val b := canon_pos hb (by intro e; rw [e] at hlb; simp at hlb; omega)
  refine ifD (fun hone => ?_) (fun hmore => ?_)
  · have hm1 : m = 1 := by omega
    subst hm1
    have hB := hb.1.getD 0
    have hT := canon_top (m := 0) hb (by omega)
    have ev : val b = b.getD 0 0 := by
      have := val_top (m := 0) hlb
      simpa [val] using this
    obtain ⟨ad, rfl, hl⟩ := ints_at k (i := 0) (by omega) (by omega)
    refine ⟨⟨by omega, by omega⟩, _, by simpa only [Int.toNat_zero] using hl, ?_⟩
    rw [ev]
    simp only [Int.toNat_zero]
    refine Ret.at (spec_l03Small_c h ha ⟨by omega, by omega⟩ (by omega)) ?_
    rintro v w2 ⟨p1, n1, c1, hv, o1, y2⟩
    subst hv
    have Z0 := Int.emod_nonneg (val a) (show b.getD 0 0 ≠ 0 by omega)
    have Z1 := Int.emod_lt_of_pos (val a) (show 0 < b.getD 0 0 by omega)
    refine ⟨_, _, _, _, rfl, ?_⟩
    refine Ret.at (spec_NatOf_c Z0 (by omega)) ?_
    rintro v w3 ⟨p2, n2, c2, hv, o2, y3⟩
    subst hv
    exact ⟨_, _, _, rfl, _, _, _, _, _, _, rfl, o1.ext y3, o2.ints, y2.trans y3⟩
  · refine ⟨⟨by omega, by omega, by omega⟩, ?_⟩
    intro r w1 hn1 r1 w2 hn2
    have e1 := hn1.r_eq; have e2 := hn2.r_eq; have s1 := hn1.size
    have x2 := hn1.ext.trans hn2.ext
    have hb1 := hn1.blk
    rw [zeroRow_int, Nat.mul_one] at hb1
    refine exW ⟨by omega, by omega⟩ ⟨fun rp rn rc i wr => ∃ (s : Nat) (o : List Int) (R : Int), i = (s : Int) - 1 /\ s <= n /\ o.length = n /\ Blk wr r T_int (o.map (Value.int .i64)) /\ Ext w wr /\ Limbs o /\ (∀ z, z < s -> o.getD z 0 = 0) /\ 0 <= R /\ R < val b /\ IntsR wr rp rn rc (digs R.toNat) /\ (∀ z, rp.map (·.block) = some z -> z ≠ r) /\ val (a.drop s) = val b * val (o.drop s) + R, fun _ _ _ i _ => (i + 1).toNat,
      ⟨n, List.replicate n 0, 0, rfl, by omega, by simp, by simpa using hb1.ext hn2.ext, x2, Limbs.zeros _, fun z hz => by simp [List.getD_eq_getElem?_getD, hz], by omega, by omega, ?_, ?_, by rw [List.drop_of_length_le (by omega), List.drop_of_length_le (by simp)]; simp [val]⟩, ?_⟩
    · simp only [Int.toNat_zero, digs_zero]; exact (Own.fresh hn2).ints
    · intro z hz; simp at hz; omega
    intro junk wr rp rn rc i ⟨s, o, R, hi, hsn, hol, hblk, hx, hlo, hoz, hR0, hR1, hR, hRb, hv⟩
    subst hi
    have lx := hx.le
    refine ifD (fun hpos => ?_) (fun hend => ?_)
    · obtain ⟨t, rfl⟩ : ∃ t, s = t + 1 := ⟨s - 1, by omega⟩
      have A := ha.getD t
      have ei : ((t + 1 : Nat) : Int) - 1 = (t : Int) := by omega
      rw [ei]
      obtain ⟨ad, rfl, hl⟩ := ints_at (h.ext hx) (i := (t : Int)) (by omega) (by omega)
      simp only [Int.toNat_natCast] at hl ⊢
      refine ⟨⟨by omega, by omega⟩, _, hl, ?_⟩
      intro r2 w3 hn3
      have e3 := hn3.r_eq
      have lR : (digs R.toNat).length <= m := by
        have hbl := val_lt hb.1
        rw [hlb] at hbl
        exact digs_lenI hR0 (by omega)
      have lR2 := hR.1
      obtain ⟨p4, c4, w4, ap, o4, x4⟩ := Own.appendI (w := w3) (base := wr.heap.size) (p := some ⟨r2, 0, none⟩) (n := 1) (c := 1) (zs := [a.getD t 0]) (Own.of_blk hn3.blk (by omega) rfl (by simp only [maxLen]; omega)) hn3.ext.le (hR.ext hn3.ext) (by omega)
      refine ⟨_, _, _, _, ap, ?_⟩
      have X4 : Ext wr w4 := x4 wr hn3.ext (Nat.le_refl _)
      have hlim4 : Limbs ([a.getD t 0] ++ digs R.toNat) := Limbs.append.2 ⟨Limbs.cons.2 ⟨A, Limbs.nil⟩, digs_limbs _⟩
      have hval4 : val ([a.getD t 0] ++ digs R.toNat) = a.getD t 0 + 1000000000 * R := by
        rw [List.singleton_append, val, val_digsI hR0]
      refine Ret.at (spec_l02Trim_c o4.ints) ?_
      rintro v w5 ⟨hv5, hw5, hr5⟩
      subst hv5; subst hw5
      rw [trimL_eq hlim4, hval4] at hr5 ⊢
      have hN0 : 0 <= a.getD t 0 + 1000000000 * R := by omega
      have hN1 : a.getD t 0 + 1000000000 * R < 1000000000 * val b := by omega
      generalize hN : a.getD t 0 + 1000000000 * R = N at hr5 hN0 hN1
      have hNv := val_digsI hN0
      have hNl : (digs N.toNat).length <= m + 1 := by
        refine digs_lenI hN0 ?_
        have hbl := val_lt hb.1
        rw [hlb] at hbl
        rw [Int.pow_succ]; omega
      refine ⟨_, _, _, rfl, ?_⟩
      have p4b : ∀ z, p4.map (·.block) = some z -> z ≠ r := fun z hz e => by
        have := (World.ownsRow.lt o4 z (by rw [<- hz]; cases p4 <;> rfl)).1
        have := hblk.lt
        omega
      refine Ret.at (spec_l02Cmp_c hr5 (k.ext (hx.trans X4))) ?_
      rintro v w6 ⟨hv6, y6⟩
      subst hv6
      have hc := cmpL_val (digs_canon N.toNat) hb
      rw [hNv] at hc
      have ea : a.drop t = a.getD t 0 :: a.drop (t + 1) := by
        rw [List.drop_eq_getElem_cons (by omega), List.getD_eq_getElem?_getD, List.getElem?_eq_getElem (by omega)]; rfl
      have eo : ∀ x : Int, (o.set t x).drop t = x :: o.drop (t + 1) := fun x => by
        rw [List.drop_eq_getElem_cons (by simp; omega), List.getElem_set_self, List.drop_set_of_lt (by omega)]
      have hstep : ∀ x : Int, val (a.drop t) = val b * val (x :: o.drop (t + 1)) + (N - val b * x) := fun x => by
        rw [ea, val, val, hv, Int.mul_add (val b)]
        have : val b * (1000000000 * val (o.drop (t + 1))) = 1000000000 * (val b * val (o.drop (t + 1))) := by rw [Int.mul_left_comm]
        omega
      have es : o.drop t = 0 :: o.drop (t + 1) := by
        have := hoz t (by omega)
        rw [List.drop_eq_getElem_cons (by omega)]
        rw [List.getD_eq_getElem?_getD, List.getElem?_eq_getElem (by omega)] at this
        simp only [Option.getD_some] at this
        rw [this]
      refine ⟨_, rfl, ifD (fun hless => ?_) (fun hnot => ?_)⟩
      · unfold spec_l03Div_j0
        have X6 := X4.trans y6
        refine exW ⟨by omega, by omega⟩ ⟨⟨t, o, N, by omega, by omega, hol, hblk.ext X6, hx.trans X6, hlo, fun z hz => hoz z (by omega), hN0, by rcases hc with h | h | h <;> omega, hr5.ext y6, p4b, ?_⟩, ?_⟩
        · rw [es, hstep 0, Int.mul_zero, Int.sub_zero]
        · show ((t : Int) - 1 + 1).toNat < ((t : Int) + 1).toNat
          omega
      · have X6 := X4.trans y6
        refine Ret.at (spec_l03Digit_c (hr5.ext y6) (k.ext (hx.trans X6)) (digs_canon _) hb hb0 hm (by rw [hNv]; exact hN1)) ?_
        rintro v w7 ⟨hv7, y7⟩
        subst hv7
        rw [hNv]
        have Q0 : 0 <= N / val b := Int.ediv_nonneg hN0 (by omega)
        have Q1 : N / val b < 1000000000 := Int.ediv_lt_of_lt_mul vb0 (by omega)
        have QE := Int.mul_ediv_add_emod N (val b)
        have QM0 := Int.emod_nonneg N (show val b ≠ 0 by omega)
        have QM1 := Int.emod_lt_of_pos N vb0
        generalize N / val b = x at Q0 Q1 QE
        have X7 := X6.trans y7
        have hblk7 := hblk.ext X7
        obtain ⟨w8, st, hb8, ch8, sz8⟩ := blk_set hblk7 (i := (t : Int)) (by omega) (by omega) x
        simp only [Int.toNat_natCast] at st hb8
        have x8 : Ext w w8 := (hx.trans X7).chg ch8 (by simp; omega)
        refine ⟨_, rfl, ⟨by omega, by omega⟩, w8, st, ?_⟩
        refine Ret.at (spec_NatOf_c Q0 (by omega)) ?_
        rintro v w9 ⟨p9, n9, c9, hv, o9, y9⟩
        subst hv
        refine ⟨_, _, _, rfl, ?_⟩
        have ln9 : n9 <= 1 := by
          have e := o9.len
          have := digs_lenI (z := x) (k := 1) (by omega) (by rw [show (1000000000 : Int) ^ 1 = 1000000000 from rfl]; omega)
          simp only [List.length_map] at e
          omega
        refine Ret.at (spec_l02Mul_c (k.ext (x8.trans y9)) o9.ints hb.1 (digs_limbs _) (by omega) (by omega)) ?_
        rintro v w10 ⟨p10, n10, c10, hv, o10, y10⟩
        subst hv
        refine ⟨_, _, _, rfl, ?_⟩
        rw [val_digsI Q0] at o10
        have M0 : 0 <= val b * x := Int.mul_nonneg (by omega) Q0
        have hr8 := ((hr5.ext (y6.trans y7)).chg ch8 (fun z hz hm => p4b z hz (by simpa using hm))).ext (y9.trans y10)
        have hle : (digs (val b * x).toNat).length <= (digs N.toNat).length := by
          refine digs_lenI M0 ?_
          have := val_lt (digs_limbs N.toNat)
          rw [hNv] at this
          omega
        have l10 := o10.len
        simp only [List.length_map] at l10
        refine Ret.at (spec_l02Sub_o hr8 o10.ints (digs_limbs _) (digs_limbs _) (by omega) (by omega) (by rw [hNv, val_digsI M0]; omega)) ?_
        rintro v w11 ⟨p11, n11, c11, hv, o11, y11⟩
        subst hv
        rw [hNv, val_digsI M0] at o11
        refine ⟨_, _, _, rfl, ?_⟩
        unfold spec_l03Div_j0
        have X11 := y9.trans (y10.trans y11)
        refine exW ⟨by omega, by omega⟩ ⟨⟨t, o.set t x, N - val b * x, by omega, by omega, by simpa using hol, hb8.ext X11, x8.trans X11, hlo.set ⟨Q0, Q1⟩, fun z hz => by rw [getD_set_ne _ (by omega)]; exact hoz z (by omega), by omega, by omega, o11.ints, ?_, ?_⟩, ?_⟩
        · intro z hz e
          have := (World.ownsRow.lt o11 z (by rw [<- hz]; cases p11 <;> rfl)).1
          have := hblk7.lt; have := y9.le; have := y10.le
          omega
        · rw [eo, hstep x]
        · show ((t : Int) - 1 + 1).toNat < ((t : Int) + 1).toNat
          omega
    · have hs0 : s = 0 := by omega
      subst hs0
      simp only [List.drop_zero] at hv
      have hown : Own wr w.heap.size T_int 1 (some ⟨r, 0, none⟩) n n (o.map (Value.int .i64)) := Own.of_blk hblk (by omega) (by simp [hol]) (by simp only [maxLen]; omega)
      refine Ret.at (spec_l02Trim_c hown.ints) ?_
      rintro v w4 ⟨hv4, hw4, hr4⟩
      subst hv4; subst hw4
      have e1 : val a / val b = val o := by rw [hv, Int.mul_comm, Int.add_comm, Int.add_mul_ediv_right _ _ (by omega), Int.ediv_eq_zero_of_lt hR0 hR1, Int.zero_add]
      have e2 : val a % val b = R := by rw [hv, Int.mul_comm, Int.add_comm, Int.add_mul_emod_self_right, Int.emod_eq_of_lt hR0 hR1]
      have hle := trimL_len o
      have hsub := hown.sub (m := (trimL o).length) (by omega)
      rw [<- trimL_prefix, trimL_eq hlo] at hsub
      rw [trimL_eq hlo]
      refine ⟨_, _, _, rfl, _, _, _, _, _, _, rfl, by rw [e1]; exact hsub, by rw [e2]; exact hR, hx⟩
theorem spec_l03Div_c {w : World} {p q : Option Addr} {n c m d : Nat} {a b : List Int} (h : IntsR w p n c a) (k : IntsR w q m d b) (ha : Limbs a) (hb : Canon b) (hb0 : 0 < m) (hn : n <= 100000) (hm : m <= 100000) :
    Ret P n_spec_l03Div [.slice p n c, .slice q m d] w fun v w' => ∃ p1 n1 c1 p2 n2 c2, v = .tuple #[.slice p1 n1 c1, .slice p2 n2 c2] /\ IntsR w' p1 n1 c1 (digs (val a / val b).toNat) /\ IntsR w' p2 n2 c2 (digs (val a % val b).toNat) /\ Ext w w' :=
  (spec_l03Div_o h k ha hb hb0 hn hm).mono fun v w' ⟨p1, n1, c1, p2, n2, c2, hv, o1, i2, y⟩ => ⟨p1, n1, c1, p2, n2, c2, hv, o1.ints, i2, y⟩
end Go.Proofs.YtgbknjdjbahdkaaGreatDoor
namespace Go.Proofs.YtgbknjdjbahdkaaGreatDoor
open Go Go.Proofs.YtgbknjdjbahdkaaGreatDoor.Sx
theorem emod_toNat (x y : Nat) : (((x : Int) % (y : Int)).toNat) = x % y := by
  rw [<- Int.natCast_emod]; exact Int.toNat_natCast _
theorem ediv_toNat (x y : Nat) : (((x : Int) / (y : Int)).toNat) = x / y := by
  rw [<- Int.natCast_ediv]; exact Int.toNat_natCast _
theorem digs_mono_len {x y : Nat} (h : x <= y) : (digs x).length <= (digs y).length := by
  refine digs_len _ ?_
  have h1 := val_lt (digs_limbs y)
  rw [val_digs] at h1
  have : ((y : Nat) : Int) < ((1000000000 ^ (digs y).length : Nat) : Int) := by simpa using h1
  exact Nat.lt_of_le_of_lt h (Int.ofNat_lt.1 this)
theorem digs_one : digs 1 = [1] := by rw [digs_pos (by decide)]; simp [digs_zero]
end Go.Proofs.YtgbknjdjbahdkaaGreatDoor
namespace Go.Proofs.YtgbknjdjbahdkaaGreatDoor
open Go Go.Proofs.YtgbknjdjbahdkaaGreatDoor.Sx
def dnn (m : Nat) (s : Int) : List D0 := [.bool false, .ints (digs m), .int s]
theorem inn_ok {m : Nat} (h : (digs m).length <= 50) : intOk [.bool false, .ints (digs m)] = true := by
  simp only [intOk, natOk_spec.2 ⟨digs_canon m, h⟩, Bool.not_false, Bool.true_or, Bool.and_self]
theorem dnn_ok {m : Nat} {s : Int} (h : (digs m).length <= 6) (hs : 0 <= s /\ s <= 30) : decOk (dnn m s) = true := by
  simp only [decOk, dnn, inn_ok (show (digs m).length <= 50 by omega), decide_eq_true h, decide_eq_true hs, Bool.and_self]
theorem impl_decOf_c {w : World} {B : Nat} {xs : List Value} {m : Nat} {s : Int} {f : List Nat} (h : Owns w B xs [.bool false, .ints (digs m)] f) (hm : (digs m).length <= 6) (hs : 0 <= s /\ s <= 30) :
    Ret P n_impl_decOf [.agg ⟨xs⟩, .int .i64 s] w fun v w' => ∃ vs, v = .tuple #[.agg ⟨vs⟩, .bool true] /\ Owns w' B vs (dnn m s) f /\ Ext w w' := by
  have ho := h
  obtain ⟨a0, ap, an, ac, az, rfl, hd, ha⟩ := open_Signed h.reps rfl
  simp only [List.cons.injEq, D0.bool.injEq, D0.ints.injEq, and_true] at hd
  obtain ⟨rfl, rfl⟩ := hd
  refine impl_decOf_ret ?_
  unfold impl_decOf
  intro r w1 hn1 r1 w2 hn2
  have k1 := hn1.blk.ext hn2.ext
  refine ⟨_, _, _, _, k1.loadA0 (by kernel_rfl), ?_⟩
  intro r2 w3 hn3
  have e1 := hn1.r_eq; have e2 := hn2.r_eq; have z1 := hn1.size
  obtain ⟨w4, st4, hb4, y4⟩ := hn3.fill (P := P) (t := T_impl_Dec) (xs := [.bool false, .slice ap an ac, .int .i64 s]) (by simp [Value.oneCell']) (by kernel_rfl) rfl
  have X := (hn1.ext.trans hn2.ext).trans y4
  refine ⟨w4, st4, _, _, _, _, _, hb4.loadA0 (by kernel_rfl), ?_⟩
  have hm' : Reps w4 [.bool false, .slice ap an ac, .int .i64 s] (dnn m s) := ⟨rfl, ⟨_, _, _, rfl, ha.ext X⟩, rfl, trivial⟩
  refine Ret.at (impl_DecOk_c hm' rfl) ?_
  rintro v w5 ⟨hv, y5⟩
  subst hv
  rw [dnn_ok hm hs]
  obtain ⟨w6, st6, hb6, ch, sz⟩ := ((hn2.blk.ext y4).ext y5).storeA0 (P := P) (t := T_impl_Dec) (xs := [.bool false, .slice ap an ac, .int .i64 s]) (by kernel_rfl) rfl (by simp [Value.oneCell'])
  have Z : Ext w w6 := (X.trans y5).chg ch (by simp; omega)
  have ho6 : Owns w6 B [.bool false, .slice ap an ac, .int .i64 s] (dnn m s) f := by
    have := Owns.append (ho.ext Z) (Owns.int w6 B s)
    rwa [List.append_nil] at this
  exact ⟨_, rfl, ifT ⟨_, _, _, _, _, (hb4.ext y5).loadA0 (by kernel_rfl), w6, st6, _, _, _, _, _, hb6.loadA0 (by kernel_rfl), [.bool false, .slice ap an ac, .int .i64 s], rfl, ho6, Z⟩⟩
theorem spec_l07Dec_c {w : World} {B : Nat} {xs : List Value} {m : Nat} {s : Int} {f : List Nat} (h : Owns w B xs [.bool false, .ints (digs m)] f) (hm : (digs m).length <= 6) (hs : 0 <= s /\ s <= 30) :
    Ret P n_spec_l07Dec [.agg ⟨xs⟩, .int .i64 s] w fun v w' => ∃ vs, v = .tuple #[.agg ⟨vs⟩, .bool true] /\ Owns w' B vs (dnn m s) f /\ Ext w w' := by
  have ho := h
  obtain ⟨a0, ap, an, ac, az, rfl, hd, ha⟩ := open_Signed h.reps rfl
  simp only [List.cons.injEq, D0.bool.injEq, D0.ints.injEq, and_true] at hd
  obtain ⟨rfl, rfl⟩ := hd
  refine spec_l07Dec_ret ?_
  unfold spec_l07Dec
  intro r w1 hn1 r1 w2 hn2
  have k1 := hn1.blk.ext hn2.ext
  refine ⟨_, _, _, _, k1.loadA0 (by kernel_rfl), ?_⟩
  intro r2 w3 hn3
  have e1 := hn1.r_eq; have e2 := hn2.r_eq; have z1 := hn1.size
  obtain ⟨w4, st4, hb4, y4⟩ := hn3.fill (P := P) (t := T_impl_Dec) (xs := [.bool false, .slice ap an ac, .int .i64 s]) (by simp [Value.oneCell']) (by kernel_rfl) rfl
  have X := (hn1.ext.trans hn2.ext).trans y4
  refine ⟨w4, st4, _, _, _, _, _, hb4.loadA0 (by kernel_rfl), ?_⟩
  have hm' : Reps w4 [.bool false, .slice ap an ac, .int .i64 s] (dnn m s) := ⟨rfl, ⟨_, _, _, rfl, ha.ext X⟩, rfl, trivial⟩
  refine Ret.at (spec_DecOk_c hm' rfl) ?_
  rintro v w5 ⟨hv, y5⟩
  subst hv
  rw [dnn_ok hm hs]
  obtain ⟨w6, st6, hb6, ch, sz⟩ := ((hn2.blk.ext y4).ext y5).storeA0 (P := P) (t := T_impl_Dec) (xs := [.bool false, .slice ap an ac, .int .i64 s]) (by kernel_rfl) rfl (by simp [Value.oneCell'])
  have Z : Ext w w6 := (X.trans y5).chg ch (by simp; omega)
  have ho6 : Owns w6 B [.bool false, .slice ap an ac, .int .i64 s] (dnn m s) f := by
    have := Owns.append (ho.ext Z) (Owns.int w6 B s)
    rwa [List.append_nil] at this
  exact ⟨_, rfl, ifN (fun hh => absurd hh (by simp)) (fun _ => ⟨_, _, _, _, _, (hb4.ext y5).loadA0 (by kernel_rfl), w6, st6, _, _, _, _, _, hb6.loadA0 (by kernel_rfl), [.bool false, .slice ap an ac, .int .i64 s], rfl, ho6, Z⟩)⟩
theorem own_out {w : World} {B : Nat} {e : TypeId} {size : Nat} {p : Option Addr} {n c : Nat} {xs : List Value} (h : Own w B e size p n c xs) : ∀ b, p.map (·.block) = some b -> B <= b := fun b hb =>
  (World.ownsRow.lt h b (by cases p <;> simp_all [Value.ownBlock])).1
theorem imul_nn {m k : Nat} (hm : (digs m).length <= 50) (hk : (digs k).length <= 50) (h : (digs (m * k)).length <= 50) : imul [.bool false, .ints (digs m)] [.bool false, .ints (digs k)] = [.bool false, .ints (digs (m * k))] := by
  have e : ((m : Int) * (k : Int)) = ((m * k : Nat) : Int) := by rw [Int.natCast_mul]
  rw [imul, inn_ok hm, inn_ok hk, <- enc_nat m, <- enc_nat k, ival_enc, ival_enc, e, icap_fit (by rw [Int.natAbs_natCast]; exact h), enc_nat]
  rfl
theorem impl_intMul_n {w : World} {xs ys : List Value} {m k : Nat} (h : Reps w xs [.bool false, .ints (digs m)]) (g : Reps w ys [.bool false, .ints (digs k)]) (hm : (digs m).length <= 50) (hk : (digs k).length <= 50) :
    Ret P n_impl_intMul [.agg ⟨xs⟩, .agg ⟨ys⟩] w fun v w' => ∃ vs f, v = .agg ⟨vs⟩ /\ Owns w' w.heap.size vs [.bool false, .ints (digs (m * k))] f /\ Ext w w' := by
  obtain ⟨a0, ap, an, ac, az, rfl, hd, ha⟩ := open_Signed h rfl
  simp only [List.cons.injEq, D0.bool.injEq, D0.ints.injEq, and_true] at hd
  obtain ⟨rfl, rfl⟩ := hd
  obtain ⟨b0, bp, bn, bc, bz, rfl, hd, hb⟩ := open_Signed g rfl
  simp only [List.cons.injEq, D0.bool.injEq, D0.ints.injEq, and_true] at hd
  obtain ⟨rfl, rfl⟩ := hd
  have la := ha.1; have lb := hb.1
  refine impl_intMul_ret ?_
  unfold impl_intMul
  intro r w1 hn1 r1 w2 hn2 r2 w3 hn3
  have e1 := hn1.r_eq; have e2 := hn2.r_eq; have e3 := hn3.r_eq; have z1 := hn1.size; have z2 := hn2.size; have z3 := hn3.size
  have D := Ext.drew w3
  have X := ((hn1.ext.trans hn2.ext).trans hn3.ext).trans D
  have q0 := ((hn1.blk.ext hn2.ext).ext hn3.ext).ext D
  have q1 := (hn2.blk.ext hn3.ext).ext D
  have q2 := hn3.blk.ext D
  have lD := D.le
  refine ⟨_, fun W hW => (q0.ext hW).loadAt 0 rfl (by kernel_rfl) rfl, _, fun W hW => (q1.ext hW).loadAt 0 rfl (by kernel_rfl) rfl, _, _, _, fun W hW => (q0.ext hW).loadAt 1 rfl (by kernel_rfl) rfl, _, _, _, fun W hW => (q1.ext hW).loadAt 1 rfl (by kernel_rfl) rfl, ?_⟩
  refine Ret.at (impl_natMul_c (ha.ext X) (hb.ext X) (digs_limbs m) (digs_limbs k) (by omega) (by omega)) ?_
  rintro v w4 ⟨p', n', c', hv, ho, y4⟩
  subst hv
  have e : (val (digs m) * val (digs k)).toNat = m * k := by rw [val_digs, val_digs, <- Int.natCast_mul, Int.toNat_natCast]
  rw [e] at ho
  refine ⟨_, _, _, rfl, y4, ?_⟩
  refine Ret.at (impl_signed_c (neg := !(false == false)) ho.ints.1) ?_
  rintro v w5 ⟨hv, y5⟩
  subst hv
  obtain ⟨w6, st6, hb6, ch, sz⟩ := ((q2.ext y4).ext y5).storeA0 (P := P) (t := T_impl_Signed) (xs := [.bool ((!(false == false)) && !(digs (m * k)).isEmpty), .slice p' n' c']) (by kernel_rfl) rfl (by simp [Value.oneCell'])
  have Z : Ext w w6 := ((X.trans y4).trans y5).chg ch (by simp; omega)
  have ho6 := (ho.ext y5).chg ch (fun b hb' hm' => by
    have := own_out ho b hb'
    simp at hm'; omega)
  exact ⟨_, _, _, _, rfl, w6, st6, _, _, _, _, hb6.loadA0 (by kernel_rfl), [.bool ((!(false == false)) && !(digs (m * k)).isEmpty), .slice p' n' c'], _, rfl, Owns.int2 (b := false) (ho6.mono (by omega)), Z⟩
theorem impl_DecMul_n {w : World} {xs ys : List Value} {m k : Nat} {s t : Int} (h : Reps w xs (dnn m s)) (g : Reps w ys (dnn k t)) (hm : (digs m).length <= 6) (hk : (digs k).length <= 6) (hs : 0 <= s /\ s <= 30) (ht : 0 <= t /\ t <= 30) (hmk : (digs (m * k)).length <= 6) (hst : s + t <= 30) :
    Ret P n_impl_DecMul [.agg ⟨xs⟩, .agg ⟨ys⟩] w fun v w' => ∃ vs f, v = .tuple #[.agg ⟨vs⟩, .bool true] /\ Owns w' w.heap.size vs (dnn (m * k) (s + t)) f /\ Ext w w' := by
  have hr := h; have gr := g
  obtain ⟨a0, ap, an, ac, az, a2, rfl, hd, ha⟩ := open_Dec h rfl
  simp only [dnn, List.cons.injEq, D0.bool.injEq, D0.ints.injEq, D0.int.injEq, and_true] at hd
  obtain ⟨rfl, rfl, rfl⟩ := hd
  obtain ⟨b0, bp, bn, bc, bz, b2, rfl, hd, hb⟩ := open_Dec g rfl
  simp only [dnn, List.cons.injEq, D0.bool.injEq, D0.ints.injEq, D0.int.injEq, and_true] at hd
  obtain ⟨rfl, rfl, rfl⟩ := hd
  refine impl_DecMul_ret ?_
  unfold impl_DecMul
  intro r w1 hn1 r1 w2 hn2 r2 w3 hn3
  have e1 := hn1.r_eq; have e2 := hn2.r_eq; have e3 := hn3.r_eq; have z1 := hn1.size; have z2 := hn2.size; have z3 := hn3.size
  have X := (hn1.ext.trans hn2.ext).trans hn3.ext
  have q0 := (hn1.blk.ext hn2.ext).ext hn3.ext
  have q1 := hn2.blk.ext hn3.ext
  refine ⟨_, _, _, _, _, q0.loadA0 (by kernel_rfl), ?_⟩
  refine Ret.at (impl_DecOk_c (hr.ext X) rfl) ?_
  rintro v w4 ⟨hv, y4⟩
  subst hv
  rw [dnn_ok hm hs]
  refine ⟨_, rfl, ifN (fun hh => absurd hh (by simp)) (fun _ => ⟨_, _, _, _, _, (q1.ext y4).loadA0 (by kernel_rfl), ?_⟩)⟩
  refine Ret.at (impl_DecOk_c (gr.ext (X.trans y4)) rfl) ?_
  rintro v w5 ⟨hv, y5⟩
  subst hv
  rw [dnn_ok hk ht]
  refine ⟨_, rfl, ifN (fun hh => absurd hh (by simp)) (fun _ => ?_)⟩
  unfold impl_DecMul_j0
  have D := Ext.drew w5
  have Y := (y4.trans y5).trans D
  have X5 := X.trans Y
  have lY := Y.le
  have q0 := q0.ext Y; have q1 := q1.ext Y; have q2 := hn3.blk.ext Y
  refine ⟨_, _, _, _, fun W hW => (q0.ext hW).loadAAt 0 [.bool false, .slice ap an ac] rfl (by kernel_rfl) rfl, _, _, _, _, fun W hW => (q1.ext hW).loadAAt 0 [.bool false, .slice bp bn bc] rfl (by kernel_rfl) rfl, ?_⟩
  have h1 : Reps w5.drew [.bool false, .slice ap an ac] [.bool false, .ints (digs m)] := ⟨rfl, ⟨_, _, _, rfl, ha.ext X5⟩, trivial⟩
  have h2 : Reps w5.drew [.bool false, .slice bp bn bc] [.bool false, .ints (digs k)] := ⟨rfl, ⟨_, _, _, rfl, hb.ext X5⟩, trivial⟩
  refine Ret.at (impl_intMul_n h1 h2 (by omega) (by omega)) ?_
  rintro v w6 ⟨vs6, f6, hv, ho6, y6⟩
  subst hv
  have hp6 := ho6.reps
  obtain ⟨c0, cp, cn, cc, cz, rfl, _, _⟩ := open_Signed hp6 rfl
  refine ⟨_, _, _, _, rfl, y6, _, fun W hW => (q0.ext hW).loadAt 2 rfl (by kernel_rfl) rfl, _, fun W hW => (q1.ext hW).loadAt 2 rfl (by kernel_rfl) rfl, exW ⟨by omega, by omega⟩ ?_⟩
  refine Ret.at (impl_decOf_c ho6 hmk ⟨by omega, by omega⟩) ?_
  rintro v w7 ⟨vs7, hv, ho7, y7⟩
  subst hv
  have hp7 := ho7.reps
  obtain ⟨d0, dp, dn, dc, dz, ds, rfl, _, _⟩ := open_Dec hp7 rfl
  obtain ⟨w8, st8, hb8, ch, sz⟩ := ((q2.ext y6).ext y7).storeA0 (P := P) (t := T_impl_Dec) (xs := [.bool d0, .slice dp dn dc, .int .i64 ds]) (by kernel_rfl) rfl (by simp [Value.oneCell'])
  have Z : Ext w w8 := ((X5.trans y6).trans y7).chg ch (by simp; omega)
  exact ⟨_, _, _, _, _, _, rfl, w8, st8, _, _, _, _, _, hb8.loadA0 (by kernel_rfl), [.bool d0, .slice dp dn dc, .int .i64 ds], _, rfl, (ho7.chg1 ch (by omega)).mono (by omega), Z⟩
theorem spec_DecMul_n {w : World} {xs ys : List Value} {m k : Nat} {s t : Int} (h : Reps w xs (dnn m s)) (g : Reps w ys (dnn k t)) (hm : (digs m).length <= 6) (hk : (digs k).length <= 6) (hs : 0 <= s /\ s <= 30) (ht : 0 <= t /\ t <= 30) (hmk : (digs (m * k)).length <= 6) (hst : s + t <= 30) :
    Ret P n_spec_DecMul [.agg ⟨xs⟩, .agg ⟨ys⟩] w fun v w' => ∃ vs f, v = .tuple #[.agg ⟨vs⟩, .bool true] /\ Owns w' w.heap.size vs (dnn (m * k) (s + t)) f /\ Ext w w' := by
  have hr := h; have gr := g
  obtain ⟨a0, ap, an, ac, az, a2, rfl, hd, ha⟩ := open_Dec h rfl
  simp only [dnn, List.cons.injEq, D0.bool.injEq, D0.ints.injEq, D0.int.injEq, and_true] at hd
  obtain ⟨rfl, rfl, rfl⟩ := hd
  obtain ⟨b0, bp, bn, bc, bz, b2, rfl, hd, hb⟩ := open_Dec g rfl
  simp only [dnn, List.cons.injEq, D0.bool.injEq, D0.ints.injEq, D0.int.injEq, and_true] at hd
  obtain ⟨rfl, rfl, rfl⟩ := hd
  refine spec_DecMul_ret ?_
  unfold spec_DecMul
  intro r w1 hn1 r1 w2 hn2 r2 w3 hn3
  have e1 := hn1.r_eq; have e2 := hn2.r_eq; have e3 := hn3.r_eq; have z1 := hn1.size; have z2 := hn2.size; have z3 := hn3.size
  have X := (hn1.ext.trans hn2.ext).trans hn3.ext
  have q0 := (hn1.blk.ext hn2.ext).ext hn3.ext
  have q1 := hn2.blk.ext hn3.ext
  refine ⟨_, _, _, _, _, q0.loadA0 (by kernel_rfl), ?_⟩
  refine Ret.at (spec_DecOk_c (hr.ext X) rfl) ?_
  rintro v w4 ⟨hv, y4⟩
  subst hv
  rw [dnn_ok hm hs]
  refine ⟨_, rfl, ifN (fun hh => absurd hh (by simp)) (fun _ => ⟨_, _, _, _, _, (q1.ext y4).loadA0 (by kernel_rfl), ?_⟩)⟩
  refine Ret.at (spec_DecOk_c (gr.ext (X.trans y4)) rfl) ?_
  rintro v w5 ⟨hv, y5⟩
  subst hv
  rw [dnn_ok hk ht]
  refine ⟨_, rfl, ifN (fun hh => absurd hh (by simp)) (fun _ => ?_)⟩
  unfold spec_DecMul_j0
  have D := Ext.drew w5
  have Y := (y4.trans y5).trans D
  have X5 := X.trans Y
  have lY := Y.le
  have q0 := q0.ext Y; have q1 := q1.ext Y; have q2 := hn3.blk.ext Y
  refine ⟨_, _, _, _, fun W hW => (q0.ext hW).loadAAt 0 [.bool false, .slice ap an ac] rfl (by kernel_rfl) rfl, _, _, _, _, fun W hW => (q1.ext hW).loadAAt 0 [.bool false, .slice bp bn bc] rfl (by kernel_rfl) rfl, ?_⟩
  have h1 : Reps w5.drew [.bool false, .slice ap an ac] [.bool false, .ints (digs m)] := ⟨rfl, ⟨_, _, _, rfl, ha.ext X5⟩, trivial⟩
  have h2 : Reps w5.drew [.bool false, .slice bp bn bc] [.bool false, .ints (digs k)] := ⟨rfl, ⟨_, _, _, rfl, hb.ext X5⟩, trivial⟩
  refine Ret.at (spec_IntMul_c h1 h2 rfl rfl) ?_
  rintro v w6 ⟨vs6, f6, hv, ho6, _, y6⟩
  subst hv
  rw [imul_nn (by omega) (by omega) (by omega)] at ho6
  have hp6 := ho6.reps
  obtain ⟨c0, cp, cn, cc, cz, rfl, _, _⟩ := open_Signed hp6 rfl
  refine ⟨_, _, _, _, rfl, y6, _, fun W hW => (q0.ext hW).loadAt 2 rfl (by kernel_rfl) rfl, _, fun W hW => (q1.ext hW).loadAt 2 rfl (by kernel_rfl) rfl, exW ⟨by omega, by omega⟩ ?_⟩
  refine Ret.at (spec_l07Dec_c ho6 hmk ⟨by omega, by omega⟩) ?_
  rintro v w7 ⟨vs7, hv, ho7, y7⟩
  subst hv
  have hp7 := ho7.reps
  obtain ⟨d0, dp, dn, dc, dz, ds, rfl, _, _⟩ := open_Dec hp7 rfl
  obtain ⟨w8, st8, hb8, ch, sz⟩ := ((q2.ext y6).ext y7).storeA0 (P := P) (t := T_impl_Dec) (xs := [.bool d0, .slice dp dn dc, .int .i64 ds]) (by kernel_rfl) rfl (by simp [Value.oneCell'])
  have Z : Ext w w8 := ((X5.trans y6).trans y7).chg ch (by simp; omega)
  exact ⟨_, _, _, _, _, _, rfl, w8, st8, _, _, _, _, _, hb8.loadA0 (by kernel_rfl), [.bool d0, .slice dp dn dc, .int .i64 ds], _, rfl, (ho7.chg1 ch (by omega)).mono (by omega), Z⟩
end Go.Proofs.YtgbknjdjbahdkaaGreatDoor
namespace Go.Proofs.YtgbknjdjbahdkaaGreatDoor
open Go Go.Proofs.YtgbknjdjbahdkaaGreatDoor.Sx
theorem IntsR.store3 {w w' : World} {r : Nat} {e : TypeId} {p : Option Addr} {n c m : Nat} (hb : Blk w r e [.bool false, .slice none 0 0, .int .i64 0]) (h : IntsR w p n c (digs m)) (ch : Chg [r] w w') : IntsR w' p n c (digs m) := by
  refine ⟨h.1, h.2.1, h.2.2.1, fun hn => ?_⟩
  obtain ⟨b, off, hp, hs⟩ := h.2.2.2 hn
  refine ⟨b, off, hp, hs.chg ch ?_⟩
  intro hm
  simp at hm
  subst hm
  have hl := h.1
  have hx := digs_last m
  rw [List.getLast?_eq_getElem?, hl] at hx
  have hlt : n - 1 < (digs m).length := by omega
  rw [List.getElem?_eq_getElem hlt] at hx
  have h1 := hs (n - 1) (.int .i64 ((digs m)[n - 1]'hlt)) (by simp [List.getElem?_eq_getElem hlt])
  rw [hb.cell] at h1
  generalize off + (n - 1) = i at h1
  match i, h1 with
  | 0, h1 => simp at h1
  | 1, h1 => simp at h1
  | 2, h1 =>
    simp at h1
    exact hx (by rw [<- h1])
  | i + 3, h1 => simp at h1
theorem digs_pos_len {m : Nat} : 0 < (digs m).length ↔ m ≠ 0 := by
  constructor
  · intro h e
    rw [e, digs_zero] at h
    simp at h
  · intro h
    rw [digs_pos h]
    simp
theorem digs_div_len {m k : Nat} (h : (digs m).length <= 6) : (digs (m / k)).length <= 6 := Nat.le_trans (digs_mono_len (Nat.div_le_self m k)) h
theorem val_div (m k : Nat) : (val (digs m) / val (digs k)).toNat = m / k := by rw [val_digs, val_digs]; exact ediv_toNat m k
theorem val_mod (m k : Nat) : (val (digs m) % val (digs k)).toNat = m % k := by rw [val_digs, val_digs]; exact emod_toNat m k
theorem spec_l07Dec_r {w : World} {xs : List Value} {m : Nat} {s : Int} (h : Reps w xs [.bool false, .ints (digs m)]) (hm : (digs m).length <= 6) (hs : 0 <= s /\ s <= 30) :
    Ret P n_spec_l07Dec [.agg ⟨xs⟩, .int .i64 s] w fun v w' => ∃ vs, v = .tuple #[.agg ⟨vs⟩, .bool true] /\ Reps w' vs (dnn m s) /\ Ext w w' := by
  obtain ⟨a0, ap, an, ac, az, rfl, hd, ha⟩ := open_Signed h rfl
  simp only [List.cons.injEq, D0.bool.injEq, D0.ints.injEq, and_true] at hd
  obtain ⟨rfl, rfl⟩ := hd
  refine spec_l07Dec_ret ?_
  unfold spec_l07Dec
  intro r w1 hn1 r1 w2 hn2
  have k1 := hn1.blk.ext hn2.ext
  refine ⟨_, _, _, _, k1.loadA0 (by kernel_rfl), ?_⟩
  intro r2 w3 hn3
  have e1 := hn1.r_eq; have e2 := hn2.r_eq; have z1 := hn1.size
  obtain ⟨w4, st4, hb4, y4⟩ := hn3.fill (P := P) (t := T_impl_Dec) (xs := [.bool false, .slice ap an ac, .int .i64 s]) (by simp [Value.oneCell']) (by kernel_rfl) rfl
  have X := (hn1.ext.trans hn2.ext).trans y4
  refine ⟨w4, st4, _, _, _, _, _, hb4.loadA0 (by kernel_rfl), ?_⟩
  have hm' : Reps w4 [.bool false, .slice ap an ac, .int .i64 s] (dnn m s) := ⟨rfl, ⟨_, _, _, rfl, ha.ext X⟩, rfl, trivial⟩
  refine Ret.at (spec_DecOk_c hm' rfl) ?_
  rintro v w5 ⟨hv, y5⟩
  subst hv
  rw [dnn_ok hm hs]
  obtain ⟨w6, st6, hb6, ch, sz⟩ := ((hn2.blk.ext y4).ext y5).storeA0 (P := P) (t := T_impl_Dec) (xs := [.bool false, .slice ap an ac, .int .i64 s]) (by kernel_rfl) rfl (by simp [Value.oneCell'])
  have Z : Ext w w6 := (X.trans y5).chg ch (by simp; omega)
  exact ⟨_, rfl, ifN (fun hh => absurd hh (by simp)) (fun _ => ⟨_, _, _, _, _, (hb4.ext y5).loadA0 (by kernel_rfl), w6, st6, _, _, _, _, _, hb6.loadA0 (by kernel_rfl), [.bool false, .slice ap an ac, .int .i64 s], rfl, ⟨rfl, ⟨_, _, _, rfl, ha.ext Z⟩, rfl, trivial⟩, Z⟩)⟩
theorem spec_NatDiv_n {w : World} {p q : Option Addr} {n c n2 c2 x y : Nat} (h : IntsR w p n c (digs x)) (g : IntsR w q n2 c2 (digs y)) (hx : n <= 50) (hy : n2 <= 50) (hy0 : 0 < y) :
    Ret P n_spec_NatDiv [.slice p n c, .slice q n2 c2] w fun v w' => ∃ p1 m1 c1 p2 m2 c2, v = .tuple #[.slice p1 m1 c1, .slice p2 m2 c2] /\ IntsR w' p1 m1 c1 (digs (x / y)) /\ IntsR w' p2 m2 c2 (digs (x % y)) /\ Ext w w' := by
  have l1 := h.1; have l2 := g.1
  have l3 : 0 < (digs y).length := digs_pos_len.2 (by omega)
  refine spec_NatDiv_ret ?_
  unfold spec_NatDiv
  refine Ret.at (spec_NatOk_c h) ?_
  rintro v w1 ⟨hv, y1⟩
  subst hv
  rw [natOk_spec.2 ⟨digs_canon x, by omega⟩]
  refine ⟨_, rfl, ifN (fun hh => absurd hh (by simp)) (fun _ => ?_)⟩
  refine Ret.at (spec_NatOk_c (g.ext y1)) ?_
  rintro v w2 ⟨hv, y2⟩
  subst hv
  rw [natOk_spec.2 ⟨digs_canon y, by omega⟩]
  refine ⟨_, rfl, ifN (fun hh => absurd hh (by simp)) (fun _ => ifD (fun hh => absurd hh (by omega)) (fun _ => ?_))⟩
  have X := y1.trans y2
  refine Ret.at (spec_l03Div_c (h.ext X) (g.ext X) (digs_limbs x) (digs_canon y) (by omega) (by omega) (by omega)) ?_
  rintro v w3 ⟨p1, m1, c1, p2, m2, c2, hv, i1, i2, y3⟩
  subst hv
  rw [val_div] at i1
  rw [val_mod] at i2
  exact ⟨_, _, _, _, _, _, rfl, _, _, _, _, _, _, rfl, i1, i2, X.trans y3⟩
theorem spec_NatCut_n {w : World} {p : Option Addr} {n c x k : Nat} (h : IntsR w p n c (digs x)) (hx : n <= 50) (hk : k <= 30) :
    Ret P n_spec_NatCut [.slice p n c, .int .i64 (k : Int)] w fun v w' => ∃ p1 m1 c1 p2 m2 c2, v = .tuple #[.slice p1 m1 c1, .slice p2 m2 c2] /\ IntsR w' p1 m1 c1 (digs (x / 10 ^ k)) /\ IntsR w' p2 m2 c2 (digs (x % 10 ^ k)) /\ Ext w w' := by
  refine spec_NatCut_ret ?_
  unfold spec_NatCut
  refine Ret.at (spec_l01In_c (k : Int) 0 440 w) ?_
  rintro v w1 ⟨hv, hw⟩
  subst hv; subst hw
  rw [decide_eq_true (show (0 : Int) <= (k : Int) /\ (k : Int) <= 440 by omega)]
  refine ⟨_, rfl, ifN (fun hh => absurd hh (by simp)) (fun _ => ?_)⟩
  refine Ret.at (spec_NatTen_c (k := (k : Int)) (by omega) (by omega)) ?_
  rintro v w2 ⟨p2, n2, c2, hv, ho, y2⟩
  subst hv
  rw [Int.toNat_natCast] at ho
  have hl := ho.ints.1
  have ht := ten_len hk
  refine ⟨_, _, _, rfl, ?_⟩
  refine Ret.at (spec_NatDiv_n (h.ext y2) ho.ints hx (by omega) (Nat.pow_pos (by decide))) ?_
  rintro v w3 ⟨p1, m1, c1, p3, m3, c3, hv, i1, i2, y3⟩
  subst hv
  exact ⟨_, _, _, _, _, _, rfl, _, _, _, _, _, _, rfl, i1, i2, y2.trans y3⟩
theorem impl_decOf_r {w : World} {xs : List Value} {m : Nat} {s : Int} (h : Reps w xs [.bool false, .ints (digs m)]) (hm : (digs m).length <= 6) (hs : 0 <= s /\ s <= 30) :
    Ret P n_impl_decOf [.agg ⟨xs⟩, .int .i64 s] w fun v w' => ∃ vs, v = .tuple #[.agg ⟨vs⟩, .bool true] /\ Reps w' vs (dnn m s) /\ Ext w w' := by
  obtain ⟨a0, ap, an, ac, az, rfl, hd, ha⟩ := open_Signed h rfl
  simp only [List.cons.injEq, D0.bool.injEq, D0.ints.injEq, and_true] at hd
  obtain ⟨rfl, rfl⟩ := hd
  refine impl_decOf_ret ?_
  unfold impl_decOf
  intro r w1 hn1 r1 w2 hn2
  have k1 := hn1.blk.ext hn2.ext
  refine ⟨_, _, _, _, k1.loadA0 (by kernel_rfl), ?_⟩
  intro r2 w3 hn3
  have e1 := hn1.r_eq; have e2 := hn2.r_eq; have z1 := hn1.size
  obtain ⟨w4, st4, hb4, y4⟩ := hn3.fill (P := P) (t := T_impl_Dec) (xs := [.bool false, .slice ap an ac, .int .i64 s]) (by simp [Value.oneCell']) (by kernel_rfl) rfl
  have X := (hn1.ext.trans hn2.ext).trans y4
  refine ⟨w4, st4, _, _, _, _, _, hb4.loadA0 (by kernel_rfl), ?_⟩
  have hm' : Reps w4 [.bool false, .slice ap an ac, .int .i64 s] (dnn m s) := ⟨rfl, ⟨_, _, _, rfl, ha.ext X⟩, rfl, trivial⟩
  refine Ret.at (impl_DecOk_c hm' rfl) ?_
  rintro v w5 ⟨hv, y5⟩
  subst hv
  rw [dnn_ok hm hs]
  obtain ⟨w6, st6, hb6, ch, sz⟩ := ((hn2.blk.ext y4).ext y5).storeA0 (P := P) (t := T_impl_Dec) (xs := [.bool false, .slice ap an ac, .int .i64 s]) (by kernel_rfl) rfl (by simp [Value.oneCell'])
  have Z : Ext w w6 := (X.trans y5).chg ch (by simp; omega)
  exact ⟨_, rfl, ifT ⟨_, _, _, _, _, (hb4.ext y5).loadA0 (by kernel_rfl), w6, st6, _, _, _, _, _, hb6.loadA0 (by kernel_rfl), [.bool false, .slice ap an ac, .int .i64 s], rfl, ⟨rfl, ⟨_, _, _, rfl, ha.ext Z⟩, rfl, trivial⟩, Z⟩⟩
theorem impl_DecAt_n {w : World} {xs : List Value} {m s t : Nat} (h : Reps w xs (dnn m s)) (hm : (digs m).length <= 6) (hs : s <= 30) (ht : t <= s) :
    Ret P n_impl_DecAt [.agg ⟨xs⟩, .int .i64 (t : Int)] w fun v w' => ∃ vs d, v = .tuple #[.agg ⟨vs⟩, .bool (decide (m % 10 ^ (s - t) = 0))] /\ Reps w' vs d /\ d.map D0.code = [.bool, .ints, .int] /\ (m % 10 ^ (s - t) = 0 -> d = dnn (m / 10 ^ (s - t)) t) /\ Ext w w' := by
  have hr := h
  obtain ⟨a0, ap, an, ac, az, a2, rfl, hd, ha⟩ := open_Dec h rfl
  simp only [dnn, List.cons.injEq, D0.bool.injEq, D0.ints.injEq, D0.int.injEq, and_true] at hd
  obtain ⟨rfl, rfl, rfl⟩ := hd
  have hla := ha.1
  refine impl_DecAt_ret ?_
  unfold impl_DecAt
  intro r w1 hn1 r1 w2 hn2
  have e1 := hn1.r_eq; have e2 := hn2.r_eq; have z1 := hn1.size; have z2 := hn2.size
  have X := hn1.ext.trans hn2.ext
  have q0 := hn1.blk.ext hn2.ext
  refine ⟨_, _, _, _, _, q0.loadA0 (by kernel_rfl), ?_⟩
  refine Ret.at (impl_DecOk_c (hr.ext X) rfl) ?_
  rintro v w3 ⟨hv, y3⟩
  subst hv
  rw [dnn_ok hm ⟨by omega, by omega⟩]
  refine ⟨_, rfl, ifN (fun hh => absurd hh (by simp)) (fun _ => ?_)⟩
  refine Ret.at (impl_isScale_c (t : Int) _) ?_
  rintro v w4 ⟨hv, hw⟩
  subst hv; subst hw
  rw [decide_eq_true (show (0 : Int) <= (t : Int) /\ (t : Int) <= 30 by omega)]
  refine ⟨_, rfl, ifN (fun hh => absurd hh (by simp)) (fun _ => ?_)⟩
  unfold impl_DecAt_j0
  have q0 := q0.ext y3; have q1 := hn2.blk.ext y3
  have X3 := X.trans y3
  have l3 := y3.le
  refine ⟨_, q0.loadAt 2 rfl (by kernel_rfl) rfl, ifD (fun hle => ?_) (fun hgt => ?_)⟩
  · have hst : t = s := by omega
    subst hst
    have D := Ext.drew w4
    have X4 := X3.trans D
    have lD := D.le
    have k0 := q0.ext D; have k1 := q1.ext D
    refine Ret.at (R := fun v w' => ∃ r, v = .func (.func n_impl_scaled_1) ⟨[]⟩ ⟨[.pointer (some ⟨r, 0, none⟩)]⟩ /\ Blk w' r T_int [.int .i64 (t : Int)] /\ Ext w4.drew w') ?_ ?_
    · refine impl_scaled_ret ?_
      unfold impl_scaled
      intro r5 w5 hn5
      exact ⟨r5, rfl, hn5.blk, hn5.ext⟩
    rintro v w5 ⟨r5, hv, hb5, y5⟩
    subst hv
    refine ⟨_, rfl, y5, _, _, _, _, _, fun W hW => (k0.ext hW).loadA0 (by kernel_rfl), _, _, _, rfl, by kernel_rfl, ?_⟩
    refine Calls.mono (impl_scaled_1_c (hr.ext (X4.trans y5)) (digs_limbs m) (by omega) (by omega) (by omega) (by omega) hb5) ?_
    rintro e w6 ⟨v, he, vs1, f1, hv, ho1, _, y6⟩
    subst hv
    have e0 : mkS false (digs (val (digs m) * 10 ^ ((t : Int) - (t : Int)).toNat).toNat) = [.bool false, .ints (digs m)] := by
      rw [Int.sub_self, Int.toNat_zero, Int.pow_zero, Int.mul_one, val_digs, Int.toNat_natCast]; rfl
    rw [e0] at ho1
    obtain ⟨g0, gp, gn, gc, gz, rfl, _, _⟩ := open_Signed ho1.reps rfl
    refine ⟨_, _, _, _, he, ?_⟩
    refine Ret.at (impl_decOf_c ho1 hm ⟨by omega, by omega⟩) ?_
    rintro v w7 ⟨vs7, hv, ho7, y7⟩
    subst hv
    have Y := (y5.trans y6).trans y7
    have l5 := y5.le
    obtain ⟨d0, dp, dn, dc, dz, ds, rfl, _, _⟩ := open_Dec ho7.reps rfl
    obtain ⟨w8, st8, hb8, ch, sz⟩ := (k1.ext Y).storeA0 (P := P) (t := T_impl_Dec) (xs := [.bool d0, .slice dp dn dc, .int .i64 ds]) (by kernel_rfl) rfl (by simp [Value.oneCell'])
    have Z : Ext w w8 := (X4.trans Y).chg ch (by simp; omega)
    refine ⟨_, _, _, _, _, _, rfl, w8, st8, _, _, _, _, _, hb8.loadA0 (by kernel_rfl), [.bool d0, .slice dp dn dc, .int .i64 ds], dnn m t, ?_, (ho7.chg1 ch (by omega)).reps, rfl, fun _ => ?_, Z⟩
    · rw [Nat.sub_self, Nat.pow_zero, Nat.mod_one]; rfl
    · rw [Nat.sub_self, Nat.pow_zero, Nat.div_one]
  · have hlt : t < s := by omega
    have ek : ((s : Int) - (t : Int)).toNat = s - t := by omega
    have eks : ((s : Int) - (t : Int)) = ((s - t : Nat) : Int) := by omega
    have D := Ext.drew w4
    have k0 := q0.ext D
    refine ⟨_, _, _, fun W hW => (k0.ext hW).loadAt 1 rfl (by kernel_rfl) rfl, _, fun W hW => (k0.ext hW).loadAt 2 rfl (by kernel_rfl) rfl, exW ⟨by omega, by omega⟩ ?_⟩
    refine Ret.at (impl_natTen_c (k := (s : Int) - (t : Int)) (by omega) (by omega)) ?_
    rintro v w5 ⟨p5, n5, c5, hv, ho5, y5⟩
    subst hv
    rw [ek] at ho5
    have hl5 := ho5.ints.1
    have ht5 := ten_len (k := s - t) (by omega)
    have hp5 : 0 < (digs (10 ^ (s - t))).length := digs_pos_len.2 (Nat.ne_of_gt (Nat.pow_pos (by decide)))
    refine ⟨_, _, _, rfl, y5, ?_⟩
    refine Ret.at (impl_natDiv_c (ha.ext ((X3.trans D).trans y5)) ho5.ints (digs_canon m) (digs_canon _) (by omega) (by omega) (by omega)) ?_
    rintro v w6 ⟨p1, n1, c1, p2, n2, c2, hv, hoq, hor, _, y6⟩
    subst hv
    rw [val_div] at hoq
    rw [val_mod] at hor
    have Y := (D.trans y5).trans y6
    have i1 := hoq.ints; have i2 := hor.ints
    have hml : (digs (m / 10 ^ (s - t))).length <= 6 := digs_div_len hm
    refine ⟨_, _, _, _, _, _, rfl, ifD (fun hrem => ?_) (fun hno => ?_)⟩
    · have hne : m % 10 ^ (s - t) ≠ 0 := digs_pos_len.1 (by have := i2.1; omega)
      obtain ⟨w8, st8, hb8, ch, sz⟩ := (q1.ext Y).storeA0 (P := P) (t := T_impl_Dec) (xs := [.bool false, .slice none 0 0, .int .i64 0]) (by kernel_rfl) rfl (by simp [Value.oneCell'])
      have Z : Ext w w8 := (X3.trans Y).chg ch (by simp; omega)
      exact ⟨w8, st8, _, _, _, _, _, hb8.loadA0 (by kernel_rfl), [.bool false, .slice none 0 0, .int .i64 0], [.bool false, .ints [], .int 0], by rw [decide_eq_false hne], ⟨rfl, ⟨_, _, _, rfl, IntsR.nil _ _ (by omega)⟩, rfl, trivial⟩, rfl, fun hh => absurd hh hne, Z⟩
    · have heq : m % 10 ^ (s - t) = 0 := Decidable.byContradiction fun hh => by
        have := digs_pos_len.2 hh
        have := i2.1
        omega
      refine ⟨_, (q0.ext Y).loadAt 0 rfl (by kernel_rfl) rfl, ?_⟩
      refine Ret.at (impl_signed_c (neg := false) i1.1) ?_
      rintro v w9 ⟨hv, y9⟩
      subst hv
      have Y5 := Y.trans y9
      refine ⟨_, _, _, _, rfl, ?_⟩
      refine Ret.at (impl_decOf_r (xs := [.bool (false && !(digs (m / 10 ^ (s - t))).isEmpty), .slice p1 n1 c1]) ⟨rfl, ⟨_, _, _, rfl, i1.ext y9⟩, trivial⟩ hml ⟨by omega, by omega⟩) ?_
      rintro v w7 ⟨vs7, hv, hp7, y7⟩
      subst hv
      obtain ⟨d0, dp, dn, dc, dz, ds, rfl, hde, hdi⟩ := open_Dec hp7 rfl
      have hde' := hde
      simp only [dnn, List.cons.injEq, D0.bool.injEq, D0.ints.injEq, D0.int.injEq, and_true] at hde'
      obtain ⟨rfl, rfl, rfl⟩ := hde'
      have Y7 := Y5.trans y7
      obtain ⟨w8, st8, hb8, ch, sz⟩ := (q1.ext Y7).storeA0 (P := P) (t := T_impl_Dec) (xs := [.bool false, .slice dp dn dc, .int .i64 (t : Int)]) (by kernel_rfl) rfl (by simp [Value.oneCell'])
      have Z : Ext w w8 := (X3.trans Y7).chg ch (by simp; omega)
      exact ⟨_, _, _, _, _, _, rfl, w8, st8, _, _, _, _, _, hb8.loadA0 (by kernel_rfl), [.bool false, .slice dp dn dc, .int .i64 (t : Int)], dnn (m / 10 ^ (s - t)) t, by rw [decide_eq_true heq], ⟨rfl, ⟨_, _, _, rfl, IntsR.store3 (q1.ext Y7) hdi ch⟩, rfl, trivial⟩, rfl, fun _ => rfl, Z⟩
theorem spec_DecAt_n {w : World} {xs : List Value} {m s t : Nat} (h : Reps w xs (dnn m s)) (hm : (digs m).length <= 6) (hs : s <= 30) (ht : t <= s) :
    Ret P n_spec_DecAt [.agg ⟨xs⟩, .int .i64 (t : Int)] w fun v w' => ∃ vs d, v = .tuple #[.agg ⟨vs⟩, .bool (decide (m % 10 ^ (s - t) = 0))] /\ Reps w' vs d /\ d.map D0.code = [.bool, .ints, .int] /\ (m % 10 ^ (s - t) = 0 -> d = dnn (m / 10 ^ (s - t)) t) /\ Ext w w' := by
  have hr := h
  obtain ⟨a0, ap, an, ac, az, a2, rfl, hd, ha⟩ := open_Dec h rfl
  simp only [dnn, List.cons.injEq, D0.bool.injEq, D0.ints.injEq, D0.int.injEq, and_true] at hd
  obtain ⟨rfl, rfl, rfl⟩ := hd
  have hla := ha.1
  refine spec_DecAt_ret ?_
  unfold spec_DecAt
  intro r w1 hn1 r1 w2 hn2
  have e1 := hn1.r_eq; have e2 := hn2.r_eq; have z1 := hn1.size; have z2 := hn2.size
  have X := hn1.ext.trans hn2.ext
  have q0 := hn1.blk.ext hn2.ext
  refine ⟨_, _, _, _, _, q0.loadA0 (by kernel_rfl), ?_⟩
  refine Ret.at (spec_DecOk_c (hr.ext X) rfl) ?_
  rintro v w3 ⟨hv, y3⟩
  subst hv
  rw [dnn_ok hm ⟨by omega, by omega⟩]
  refine ⟨_, rfl, ifN (fun hh => absurd hh (by simp)) (fun _ => ?_)⟩
  refine Ret.at (spec_l01In_c (t : Int) 0 30 _) ?_
  rintro v w4 ⟨hv, hw⟩
  subst hv; subst hw
  rw [decide_eq_true (show (0 : Int) <= (t : Int) /\ (t : Int) <= 30 by omega)]
  refine ⟨_, rfl, ifN (fun hh => absurd hh (by simp)) (fun _ => ?_)⟩
  unfold spec_DecAt_j0
  have q0 := q0.ext y3; have q1 := hn2.blk.ext y3
  have X3 := X.trans y3
  have l3 := y3.le
  refine ⟨_, q0.loadAt 2 rfl (by kernel_rfl) rfl, ifD (fun hle => ?_) (fun hgt => ?_)⟩
  · have hst : t = s := by omega
    subst hst
    have D := Ext.drew w4
    have X4 := X3.trans D
    have lD := D.le
    have k0 := q0.ext D; have k1 := q1.ext D
    refine ⟨_, _, _, _, fun W hW => (k0.ext hW).loadAAt 0 [.bool false, .slice ap an ac] rfl (by kernel_rfl) rfl, _, fun W hW => (k0.ext hW).loadAt 2 rfl (by kernel_rfl) rfl, exW ⟨by omega, by omega⟩ ?_⟩
    refine Ret.at (spec_l07Ten_c (k := (t : Int) - (t : Int)) (by omega) (by omega)) ?_
    rintro v w5 ⟨vs5, f5, hv, ho5, _, y5⟩
    subst hv
    have e0 : enc ((10 ^ ((t : Int) - (t : Int)).toNat : Nat) : Int) = [.bool false, .ints (digs 1)] := by
      rw [Int.sub_self, Int.toNat_zero, Nat.pow_zero, enc_nat]
    rw [e0] at ho5
    obtain ⟨g0, gp, gn, gc, gz, rfl, _, _⟩ := open_Signed ho5.reps rfl
    refine ⟨_, _, _, _, rfl, y5, ?_⟩
    have h1 : Reps w5 [.bool false, .slice ap an ac] [.bool false, .ints (digs m)] := ⟨rfl, ⟨_, _, _, rfl, ha.ext (X4.trans y5)⟩, trivial⟩
    refine Ret.at (spec_IntMul_c h1 ho5.reps rfl rfl) ?_
    rintro v w6 ⟨vs6, f6, hv, ho6, _, y6⟩
    subst hv
    rw [imul_nn (by omega) (by rw [digs_one]; decide) (by rw [Nat.mul_one]; omega), Nat.mul_one] at ho6
    obtain ⟨g20, g2p, g2n, g2c, g2z, rfl, _, _⟩ := open_Signed ho6.reps rfl
    refine ⟨_, _, _, _, rfl, ?_⟩
    refine Ret.at (spec_l07Dec_c ho6 hm ⟨by omega, by omega⟩) ?_
    rintro v w7 ⟨vs7, hv, ho7, y7⟩
    subst hv
    have Y := (y5.trans y6).trans y7
    have l5 := y5.le
    obtain ⟨d0, dp, dn, dc, dz, ds, rfl, _, _⟩ := open_Dec ho7.reps rfl
    obtain ⟨w8, st8, hb8, ch, sz⟩ := (k1.ext Y).storeA0 (P := P) (t := T_impl_Dec) (xs := [.bool d0, .slice dp dn dc, .int .i64 ds]) (by kernel_rfl) rfl (by simp [Value.oneCell'])
    have Z : Ext w w8 := (X4.trans Y).chg ch (by simp; omega)
    refine ⟨_, _, _, _, _, _, rfl, w8, st8, _, _, _, _, _, hb8.loadA0 (by kernel_rfl), [.bool d0, .slice dp dn dc, .int .i64 ds], dnn m t, ?_, (ho7.chg1 ch (by omega)).reps, rfl, fun _ => ?_, Z⟩
    · rw [Nat.sub_self, Nat.pow_zero, Nat.mod_one]; rfl
    · rw [Nat.sub_self, Nat.pow_zero, Nat.div_one]
  · have hlt : t < s := by omega
    have ek : ((s : Int) - (t : Int)).toNat = s - t := by omega
    have eks : ((s : Int) - (t : Int)) = ((s - t : Nat) : Int) := by omega
    refine ⟨_, _, _, q0.loadAt 1 rfl (by kernel_rfl) rfl, _, q0.loadAt 2 rfl (by kernel_rfl) rfl, exW ⟨by omega, by omega⟩ ?_⟩
    rw [eks]
    refine Ret.at (spec_NatCut_n (ha.ext X3) (by omega) (show s - t <= 30 by omega)) ?_
    rintro v w6 ⟨p1, n1, c1, p2, n2, c2, hv, i1, i2, Y⟩
    subst hv
    have hml : (digs (m / 10 ^ (s - t))).length <= 6 := digs_div_len hm
    refine ⟨_, _, _, _, _, _, rfl, ifD (fun hrem => ?_) (fun hno => ?_)⟩
    · have hne : m % 10 ^ (s - t) ≠ 0 := digs_pos_len.1 (by have := i2.1; omega)
      obtain ⟨w8, st8, hb8, ch, sz⟩ := (q1.ext Y).storeA0 (P := P) (t := T_impl_Dec) (xs := [.bool false, .slice none 0 0, .int .i64 0]) (by kernel_rfl) rfl (by simp [Value.oneCell'])
      have Z : Ext w w8 := (X3.trans Y).chg ch (by simp; omega)
      exact ⟨w8, st8, _, _, _, _, _, hb8.loadA0 (by kernel_rfl), [.bool false, .slice none 0 0, .int .i64 0], [.bool false, .ints [], .int 0], by rw [decide_eq_false hne], ⟨rfl, ⟨_, _, _, rfl, IntsR.nil _ _ (by omega)⟩, rfl, trivial⟩, rfl, fun hh => absurd hh hne, Z⟩
    · have heq : m % 10 ^ (s - t) = 0 := Decidable.byContradiction fun hh => by
        have := digs_pos_len.2 hh
        have := i2.1
        omega
      refine ⟨_, (q0.ext Y).loadAt 0 rfl (by kernel_rfl) rfl, ?_⟩
      have Y5 := Y
      refine Ret.at (spec_l07Dec_r (xs := [.bool false, .slice p1 n1 c1]) ⟨rfl, ⟨_, _, _, rfl, i1⟩, trivial⟩ hml ⟨by omega, by omega⟩) ?_
      rintro v w7 ⟨vs7, hv, hp7, y7⟩
      subst hv
      obtain ⟨d0, dp, dn, dc, dz, ds, rfl, hde, hdi⟩ := open_Dec hp7 rfl
      have hde' := hde
      simp only [dnn, List.cons.injEq, D0.bool.injEq, D0.ints.injEq, D0.int.injEq, and_true] at hde'
      obtain ⟨rfl, rfl, rfl⟩ := hde'
      have Y7 := Y5.trans y7
      obtain ⟨w8, st8, hb8, ch, sz⟩ := (q1.ext Y7).storeA0 (P := P) (t := T_impl_Dec) (xs := [.bool false, .slice dp dn dc, .int .i64 (t : Int)]) (by kernel_rfl) rfl (by simp [Value.oneCell'])
      have Z : Ext w w8 := (X3.trans Y7).chg ch (by simp; omega)
      exact ⟨_, _, _, _, _, _, rfl, w8, st8, _, _, _, _, _, hb8.loadA0 (by kernel_rfl), [.bool false, .slice dp dn dc, .int .i64 (t : Int)], dnn (m / 10 ^ (s - t)) t, by rw [decide_eq_true heq], ⟨rfl, ⟨_, _, _, rfl, IntsR.store3 (q1.ext Y7) hdi ch⟩, rfl, trivial⟩, rfl, fun _ => rfl, Z⟩
theorem impl_DecLow_n {w : World} {xs : List Value} {m s : Nat} (h : Reps w xs (dnn m s)) (hm : (digs m).length <= 6) (hs : s <= 30) :
    Ret P n_impl_DecLow [.agg ⟨xs⟩] w fun v w' => ∃ vs, v = .agg ⟨vs⟩ /\ Reps w' vs (dnn (lowM m s) (lowS m s)) /\ Ext w w' := by
  have hr := h
  obtain ⟨a0, ap, an, ac, az, a2, rfl, hd, ha⟩ := open_Dec h rfl
  simp only [dnn, List.cons.injEq, D0.bool.injEq, D0.ints.injEq, D0.int.injEq, and_true] at hd
  obtain ⟨rfl, rfl, rfl⟩ := hd
  refine impl_DecLow_ret ?_
  unfold impl_DecLow
  intro r w1 hn1 r1 w2 hn2
  have e1 := hn1.r_eq; have e2 := hn2.r_eq; have z1 := hn1.size; have z2 := hn2.size
  have X := hn1.ext.trans hn2.ext
  have q0 := hn1.blk.ext hn2.ext
  refine ⟨fun i wr => ∃ t : Nat, i = t /\ t <= s /\ (∀ u < t, m % 10 ^ (s - u) ≠ 0) /\ Ext w2 wr, fun i _ => (31 - i).toNat, ⟨0, rfl, by omega, fun u hu => absurd hu (by omega), Ext.refl _⟩, ?_⟩
  intro junk wr i ⟨t, hi, ht, hmin, hx⟩
  subst hi
  refine ⟨_, (q0.ext hx).loadAt 2 rfl (by kernel_rfl) rfl, ifD (fun _ => ifD (fun _ => ?_) (fun hh => absurd (show (t : Int) <= 30 by omega) hh)) (fun hh => absurd (show (t : Int) <= (s : Int) by omega) hh)⟩
  unfold impl_DecLow_j0
  refine ⟨_, _, _, _, _, (q0.ext hx).loadA0 (by kernel_rfl), ?_⟩
  refine Ret.at (impl_DecAt_n (hr.ext (X.trans hx)) hm hs ht) ?_
  rintro v w4 ⟨vs, d, hv, hp, hcode, hd, y4⟩
  subst hv
  obtain ⟨d0, dp, dn, dc, dz, ds, rfl, hde, hdi⟩ := open_Dec hp hcode
  refine ⟨_, _, _, _, _, _, rfl, ?_⟩
  intro r5 w5 hn5
  obtain ⟨w6, st6, hb6, y6⟩ := hn5.fill (P := P) (t := T_impl_Dec) (xs := [.bool d0, .slice dp dn dc, .int .i64 ds]) (by simp [Value.oneCell']) (by kernel_rfl) rfl
  have Y := (hx.trans y4).trans y6
  refine ⟨w6, st6, fun hyes => ?_, fun hno => ?_⟩
  · have hyes := of_decide_eq_true hyes
    have hd := hd hyes
    rw [hde] at hd
    simp only [dnn, List.cons.injEq, D0.bool.injEq, D0.ints.injEq, D0.int.injEq, and_true] at hd
    obtain ⟨rfl, rfl, rfl⟩ := hd
    have hlow := lowS_eq ht hyes hmin
    obtain ⟨w7, st7, hb7, ch, sz⟩ := (hn2.blk.ext Y).storeA0 (P := P) (t := T_impl_Dec) (xs := [.bool false, .slice dp dn dc, .int .i64 (t : Int)]) (by kernel_rfl) rfl (by simp [Value.oneCell'])
    refine ⟨_, _, _, _, _, hb6.loadA0 (by kernel_rfl), w7, st7, _, _, _, _, _, hb7.loadA0 (by kernel_rfl), [.bool false, .slice dp dn dc, .int .i64 (t : Int)], rfl, ?_, (X.trans Y).chg ch (by simp; omega)⟩
    rw [lowM, hlow]
    exact ⟨rfl, ⟨_, _, _, rfl, IntsR.store3 (hn2.blk.ext Y) (hdi.ext y6) ch⟩, rfl, trivial⟩
  · have hno := of_decide_eq_false hno
    have hts : t < s := by
      rcases Nat.lt_or_ge t s with hh | hh
      · exact hh
      · exfalso
        apply hno
        rw [show s - t = 0 by omega, Nat.pow_zero, Nat.mod_one]
    refine exW ⟨by omega, by omega⟩ ⟨⟨t + 1, by omega, by omega, fun u hu => ?_, Y⟩, ?_⟩
    · rcases Nat.lt_or_ge u t with hh | hh
      · exact hmin u hh
      · rw [show u = t by omega]; exact hno
    · show (31 - ((t : Int) + 1)).toNat < (31 - (t : Int)).toNat
      omega
theorem spec_DecLow_n {w : World} {xs : List Value} {m s : Nat} (h : Reps w xs (dnn m s)) (hm : (digs m).length <= 6) (hs : s <= 30) :
    Ret P n_spec_DecLow [.agg ⟨xs⟩] w fun v w' => ∃ vs, v = .agg ⟨vs⟩ /\ Reps w' vs (dnn (lowM m s) (lowS m s)) /\ Ext w w' := by
  have hr := h
  obtain ⟨a0, ap, an, ac, az, a2, rfl, hd, ha⟩ := open_Dec h rfl
  simp only [dnn, List.cons.injEq, D0.bool.injEq, D0.ints.injEq, D0.int.injEq, and_true] at hd
  obtain ⟨rfl, rfl, rfl⟩ := hd
  refine spec_DecLow_ret ?_
  unfold spec_DecLow
  intro r w1 hn1 r1 w2 hn2
  have e1 := hn1.r_eq; have e2 := hn2.r_eq; have z1 := hn1.size; have z2 := hn2.size
  have X := hn1.ext.trans hn2.ext
  have q0 := hn1.blk.ext hn2.ext
  refine ⟨fun i wr => ∃ t : Nat, i = t /\ t <= s /\ (∀ u < t, m % 10 ^ (s - u) ≠ 0) /\ Ext w2 wr, fun i _ => (31 - i).toNat, ⟨0, rfl, by omega, fun u hu => absurd hu (by omega), Ext.refl _⟩, ?_⟩
  intro junk wr i ⟨t, hi, ht, hmin, hx⟩
  subst hi
  refine ifD (fun _ => ?_) (fun hh => absurd (show (t : Int) <= 30 by omega) hh)
  refine ⟨_, _, _, _, _, (q0.ext hx).loadA0 (by kernel_rfl), ?_⟩
  refine Ret.at (spec_DecAt_n (hr.ext (X.trans hx)) hm hs ht) ?_
  rintro v w4 ⟨vs, d, hv, hp, hcode, hd, y4⟩
  subst hv
  obtain ⟨d0, dp, dn, dc, dz, ds, rfl, hde, hdi⟩ := open_Dec hp hcode
  refine ⟨_, _, _, _, _, _, rfl, ?_⟩
  intro r5 w5 hn5
  obtain ⟨w6, st6, hb6, y6⟩ := hn5.fill (P := P) (t := T_impl_Dec) (xs := [.bool d0, .slice dp dn dc, .int .i64 ds]) (by simp [Value.oneCell']) (by kernel_rfl) rfl
  have Y := (hx.trans y4).trans y6
  refine ⟨w6, st6, fun hyes => ?_, fun hno => ?_⟩
  · have hyes := of_decide_eq_true hyes
    have hd := hd hyes
    rw [hde] at hd
    simp only [dnn, List.cons.injEq, D0.bool.injEq, D0.ints.injEq, D0.int.injEq, and_true] at hd
    obtain ⟨rfl, rfl, rfl⟩ := hd
    have hlow := lowS_eq ht hyes hmin
    obtain ⟨w7, st7, hb7, ch, sz⟩ := (hn2.blk.ext Y).storeA0 (P := P) (t := T_impl_Dec) (xs := [.bool false, .slice dp dn dc, .int .i64 (t : Int)]) (by kernel_rfl) rfl (by simp [Value.oneCell'])
    refine ⟨_, _, _, _, _, hb6.loadA0 (by kernel_rfl), w7, st7, _, _, _, _, _, hb7.loadA0 (by kernel_rfl), [.bool false, .slice dp dn dc, .int .i64 (t : Int)], rfl, ?_, (X.trans Y).chg ch (by simp; omega)⟩
    rw [lowM, hlow]
    exact ⟨rfl, ⟨_, _, _, rfl, IntsR.store3 (hn2.blk.ext Y) (hdi.ext y6) ch⟩, rfl, trivial⟩
  · have hno := of_decide_eq_false hno
    have hts : t < s := by
      rcases Nat.lt_or_ge t s with hh | hh
      · exact hh
      · exfalso
        apply hno
        rw [show s - t = 0 by omega, Nat.pow_zero, Nat.mod_one]
    refine exW ⟨by omega, by omega⟩ ⟨⟨t + 1, by omega, by omega, fun u hu => ?_, Y⟩, ?_⟩
    · rcases Nat.lt_or_ge u t with hh | hh
      · exact hmin u hh
      · rw [show u = t by omega]; exact hno
    · show (31 - ((t : Int) + 1)).toNat < (31 - (t : Int)).toNat
      omega
end Go.Proofs.YtgbknjdjbahdkaaGreatDoor
namespace Go.Proofs.YtgbknjdjbahdkaaGreatDoor
open Go Go.Proofs.YtgbknjdjbahdkaaGreatDoor.Sx
theorem Sx.Fl.got {os : List Obj} {ss : List (Option Nat)} {w : World} {ss' : List (Option Nat)} {w' : World} (h : Fl os ss w ss' w') : ∀ {k r : Nat} {o : Obj}, ss[k]? = some none -> os[k]? = some o -> ss'[k]? = some (some r) -> w.heap.size <= r /\ w'.heap[r]? = some o := by
  induction h with
  | refl => intro k r o h0 _ h1; rw [h0] at h1; cases h1
  | step h1 h2 h3 ih =>
    rename_i ss w k' o' ss' w'
    intro k r o h0 ho hr
    by_cases hk : k' = k
    · subst hk
      rw [h2] at ho
      cases ho
      have hset : (ss.set k' (some w.heap.size))[k']? = some (some w.heap.size) := by
        rw [List.getElem?_set_self]
        exact (List.getElem?_eq_some_iff.1 h1).1
      have := h3.keeps hset
      rw [this] at hr
      cases hr
      exact ⟨Nat.le_refl _, (h3.ext.block _ (by simp)).trans (heap_alloc_new w _)⟩
    · obtain ⟨a, b⟩ := ih (k := k) (r := r) (o := o) (by rw [List.getElem?_set_ne hk]; exact h0) ho hr
      refine ⟨?_, b⟩
      have : w.heap.size <= (w.alloc o').heap.size := by simp
      omega
end Go.Proofs.YtgbknjdjbahdkaaGreatDoor
namespace Go.Proofs.YtgbknjdjbahdkaaGreatDoor
open Go Go.Proofs.YtgbknjdjbahdkaaGreatDoor.Sx
theorem mkS_of {b : Bool} {m : Nat} {z : Int} (hm : m = z.natAbs) (hb : z ≠ 0 -> b = decide (z < 0)) : mkS b (digs m) = enc z := by
  by_cases hz : z = 0
  · subst hz; subst hm; simp [mkS, enc, digs_zero]
  · rw [hb hz, hm]
    unfold mkS enc
    rw [isEmpty_digs]
    have : z.natAbs ≠ 0 := by omega
    simp [this]
def FlSt (o : Obj) (w0 : World) (ss : List (Option Nat)) (w : World) : Prop := Ext w0 w /\ (ss = [none] ∨ ∃ r, ss = [some r] /\ w0.heap.size <= r /\ w.heap[r]? = some o)
theorem FlSt.ext {o : Obj} {w0 w w' : World} {ss : List (Option Nat)} (h : FlSt o w0 ss w) (y : Ext w w') : FlSt o w0 ss w' := by
  refine ⟨h.1.trans y, ?_⟩
  rcases h.2 with h2 | ⟨r, h2, h3, h4⟩
  · exact .inl h2
  · exact .inr ⟨r, h2, h3, (y.block r (Array.getElem?_eq_some_iff.1 h4).1).trans h4⟩
theorem FlSt.step {o : Obj} {w0 w w' : World} {ss ss' : List (Option Nat)} (h : FlSt o w0 ss w) (f : Fl [o] ss w ss' w') : FlSt o w0 ss' w' := by
  refine ⟨h.1.trans f.ext, ?_⟩
  have hl := f.len
  rcases h.2 with h2 | ⟨r, h2, h3, h4⟩
  · subst h2
    match ss', hl, f with
    | [none], _, _ => exact .inl rfl
    | [some r], _, f =>
      obtain ⟨a, b⟩ := f.got (k := 0) rfl rfl rfl
      exact .inr ⟨r, rfl, Nat.le_trans h.1.le a, b⟩
    | [], hl, _ => simp at hl
    | _ :: _ :: _, hl, _ => simp at hl
  · subst h2
    have hk := f.keeps (k := 0) (r := r) rfl
    match ss', hl, hk with
    | [x], _, hk =>
      simp at hk
      subst hk
      exact .inr ⟨r, rfl, h3, (f.ext.block r (Array.getElem?_eq_some_iff.1 h4).1).trans h4⟩
    | [], hl, _ => simp at hl
    | _ :: _ :: _, hl, _ => simp at hl
theorem FlSt.get {o : Obj} {w0 w : World} {ss : List (Option Nat)} {r : Nat} (h : FlSt o w0 ss w) (hr : ss[0]? = some (some r)) : w0.heap.size <= r /\ w.heap[r]? = some o := by
  rcases h.2 with h2 | ⟨r', h2, h3, h4⟩
  · subst h2; simp at hr
  · subst h2
    simp at hr
    subst hr
    exact ⟨h3, h4⟩
end Go.Proofs.YtgbknjdjbahdkaaGreatDoor
namespace Go.Proofs.YtgbknjdjbahdkaaGreatDoor
open Go Go.Proofs.YtgbknjdjbahdkaaGreatDoor.Sx
def dsn (b : Bool) (m : Nat) (s : Int) : List D0 := [.bool b, .ints (digs m), .int s]
theorem isn_ok {b : Bool} {m : Nat} (hb : b = true -> m ≠ 0) (h : (digs m).length <= 50) : intOk [.bool b, .ints (digs m)] = true := by
  simp only [intOk, natOk_spec.2 ⟨digs_canon m, h⟩, Bool.true_and]
  cases b with
  | false => simp
  | true =>
    have := digs_pos_len.2 (hb rfl)
    simp only [Bool.not_true, Bool.false_or]
    cases hd : digs m with
    | nil => rw [hd] at this; simp at this
    | cons _ _ => simp
theorem dsn_ok {b : Bool} {m : Nat} {s : Int} (hb : b = true -> m ≠ 0) (h : (digs m).length <= 6) (hs : 0 <= s /\ s <= 30) : decOk (dsn b m s) = true := by
  simp only [decOk, dsn, isn_ok hb (show (digs m).length <= 50 by omega), decide_eq_true h, decide_eq_true hs, Bool.and_self]
theorem sgn_digs {b : Bool} {m : Nat} (hb : b = true -> m ≠ 0) : (b && !(digs m).isEmpty) = b := by
  cases b with
  | false => rfl
  | true =>
    have := digs_pos_len.2 (hb rfl)
    cases hd : digs m with
    | nil => rw [hd] at this; simp at this
    | cons _ _ => rfl
theorem imul_one {b : Bool} {m : Nat} (hb : b = true -> m ≠ 0) (hm : (digs m).length <= 50) : imul [.bool b, .ints (digs m)] [.bool false, .ints (digs 1)] = [.bool b, .ints (digs m)] := by
  have e : ([.bool b, .ints (digs m)] : List D0) = enc (if b then -(m : Int) else (m : Int)) := by
    rw [<- mkS_of (b := b) (m := m) (z := if b then -(m : Int) else (m : Int)) (by cases b <;> simp) (fun h => by
      cases b with
      | false => simp
      | true => simp; have := hb rfl; omega)]
    unfold mkS
    rw [sgn_digs hb]
  have e1 : ([.bool false, .ints (digs 1)] : List D0) = enc 1 := by rw [show (1 : Int) = ((1 : Nat) : Int) from rfl, enc_nat]
  rw [imul, isn_ok hb hm, inn_ok (show (digs 1).length <= 50 by rw [digs_one]; decide), e, e1, ival_enc, ival_enc, Int.mul_one, icap_fit (by cases b <;> simp <;> omega)]
  rfl
theorem spec_l07Dec_g {w : World} {B : Nat} {xs : List Value} {m : Nat} {b : Bool} {s : Int} {f : List Nat} (h : Owns w B xs [.bool b, .ints (digs m)] f) (hb : b = true -> m ≠ 0) (hm : (digs m).length <= 6) (hs : 0 <= s /\ s <= 30) :
    Ret P n_spec_l07Dec [.agg ⟨xs⟩, .int .i64 s] w fun v w' => ∃ vs, v = .tuple #[.agg ⟨vs⟩, .bool true] /\ Owns w' B vs (dsn b m s) f /\ Ext w w' := by
  have ho := h
  obtain ⟨a0, ap, an, ac, az, rfl, hd, ha⟩ := open_Signed h.reps rfl
  simp only [List.cons.injEq, D0.bool.injEq, D0.ints.injEq, and_true] at hd
  obtain ⟨rfl, rfl⟩ := hd
  refine spec_l07Dec_ret ?_
  unfold spec_l07Dec
  intro r w1 hn1 r1 w2 hn2
  have k1 := hn1.blk.ext hn2.ext
  refine ⟨_, _, _, _, k1.loadA0 (by kernel_rfl), ?_⟩
  intro r2 w3 hn3
  have e1 := hn1.r_eq; have e2 := hn2.r_eq; have z1 := hn1.size
  obtain ⟨w4, st4, hb4, y4⟩ := hn3.fill (P := P) (t := T_impl_Dec) (xs := [.bool b, .slice ap an ac, .int .i64 s]) (by simp [Value.oneCell']) (by kernel_rfl) rfl
  have X := (hn1.ext.trans hn2.ext).trans y4
  refine ⟨w4, st4, _, _, _, _, _, hb4.loadA0 (by kernel_rfl), ?_⟩
  have hm' : Reps w4 [.bool b, .slice ap an ac, .int .i64 s] (dsn b m s) := ⟨rfl, ⟨_, _, _, rfl, ha.ext X⟩, rfl, trivial⟩
  refine Ret.at (spec_DecOk_c hm' rfl) ?_
  rintro v w5 ⟨hv, y5⟩
  subst hv
  rw [dsn_ok hb hm hs]
  obtain ⟨w6, st6, hb6, ch, sz⟩ := ((hn2.blk.ext y4).ext y5).storeA0 (P := P) (t := T_impl_Dec) (xs := [.bool b, .slice ap an ac, .int .i64 s]) (by kernel_rfl) rfl (by simp [Value.oneCell'])
  have Z : Ext w w6 := (X.trans y5).chg ch (by simp; omega)
  have ho6 : Owns w6 B [.bool b, .slice ap an ac, .int .i64 s] (dsn b m s) f := by
    have := Owns.append (ho.ext Z) (Owns.int w6 B s)
    rwa [List.append_nil] at this
  exact ⟨_, rfl, ifN (fun hh => absurd hh (by simp)) (fun _ => ⟨_, _, _, _, _, (hb4.ext y5).loadA0 (by kernel_rfl), w6, st6, _, _, _, _, _, hb6.loadA0 (by kernel_rfl), [.bool b, .slice ap an ac, .int .i64 s], rfl, ho6, Z⟩)⟩
theorem spec_NatDiv_o {w : World} {p q : Option Addr} {n c n2 c2 x y : Nat} (h : IntsR w p n c (digs x)) (g : IntsR w q n2 c2 (digs y)) (hx : n <= 50) (hy : n2 <= 50) (hy0 : 0 < y) :
    Ret P n_spec_NatDiv [.slice p n c, .slice q n2 c2] w fun v w' => ∃ p1 m1 c1 p2 m2 c2, v = .tuple #[.slice p1 m1 c1, .slice p2 m2 c2] /\ Own w' w.heap.size T_int 1 p1 m1 c1 ((digs (x / y)).map (Value.int .i64)) /\ IntsR w' p2 m2 c2 (digs (x % y)) /\ Ext w w' := by
  have l1 := h.1; have l2 := g.1
  have l3 : 0 < (digs y).length := digs_pos_len.2 (by omega)
  refine spec_NatDiv_ret ?_
  unfold spec_NatDiv
  refine Ret.at (spec_NatOk_c h) ?_
  rintro v w1 ⟨hv, y1⟩
  subst hv
  rw [natOk_spec.2 ⟨digs_canon x, by omega⟩]
  refine ⟨_, rfl, ifN (fun hh => absurd hh (by simp)) (fun _ => ?_)⟩
  refine Ret.at (spec_NatOk_c (g.ext y1)) ?_
  rintro v w2 ⟨hv, y2⟩
  subst hv
  rw [natOk_spec.2 ⟨digs_canon y, by omega⟩]
  refine ⟨_, rfl, ifN (fun hh => absurd hh (by simp)) (fun _ => ifD (fun hh => absurd hh (by omega)) (fun _ => ?_))⟩
  have X := y1.trans y2
  refine Ret.at (spec_l03Div_o (h.ext X) (g.ext X) (digs_limbs x) (digs_canon y) (by omega) (by omega) (by omega)) ?_
  rintro v w3 ⟨p1, m1, c1, p2, m2, c2, hv, i1, i2, y3⟩
  subst hv
  rw [val_div] at i1
  rw [val_mod] at i2
  exact ⟨_, _, _, _, _, _, rfl, _, _, _, _, _, _, rfl, i1.mono X.le, i2, X.trans y3⟩
theorem spec_NatCut_o {w : World} {p : Option Addr} {n c x k : Nat} (h : IntsR w p n c (digs x)) (hx : n <= 50) (hk : k <= 30) :
    Ret P n_spec_NatCut [.slice p n c, .int .i64 (k : Int)] w fun v w' => ∃ p1 m1 c1 p2 m2 c2, v = .tuple #[.slice p1 m1 c1, .slice p2 m2 c2] /\ Own w' w.heap.size T_int 1 p1 m1 c1 ((digs (x / 10 ^ k)).map (Value.int .i64)) /\ IntsR w' p2 m2 c2 (digs (x % 10 ^ k)) /\ Ext w w' := by
  refine spec_NatCut_ret ?_
  unfold spec_NatCut
  refine Ret.at (spec_l01In_c (k : Int) 0 440 w) ?_
  rintro v w1 ⟨hv, hw⟩
  subst hv; subst hw
  rw [decide_eq_true (show (0 : Int) <= (k : Int) /\ (k : Int) <= 440 by omega)]
  refine ⟨_, rfl, ifN (fun hh => absurd hh (by simp)) (fun _ => ?_)⟩
  refine Ret.at (spec_NatTen_c (k := (k : Int)) (by omega) (by omega)) ?_
  rintro v w2 ⟨p2, n2, c2, hv, ho, y2⟩
  subst hv
  rw [Int.toNat_natCast] at ho
  have hl := ho.ints.1
  have ht := ten_len hk
  refine ⟨_, _, _, rfl, ?_⟩
  refine Ret.at (spec_NatDiv_o (h.ext y2) ho.ints hx (by omega) (Nat.pow_pos (by decide))) ?_
  rintro v w3 ⟨p1, m1, c1, p3, m3, c3, hv, i1, i2, y3⟩
  subst hv
  exact ⟨_, _, _, _, _, _, rfl, _, _, _, _, _, _, rfl, i1.mono y2.le, i2, y2.trans y3⟩
theorem spec_DecAt_o {w : World} {xs : List Value} {b : Bool} {m s t : Nat} (h : Reps w xs (dsn b m s)) (hb : b = true -> m ≠ 0) (hm : (digs m).length <= 6) (hs : s <= 30) (ht : t <= s) :
    Ret P n_spec_DecAt [.agg ⟨xs⟩, .int .i64 (t : Int)] w fun v w' => ∃ vs d f, v = .tuple #[.agg ⟨vs⟩, .bool (decide (m % 10 ^ (s - t) = 0))] /\ Owns w' w.heap.size vs d f /\ f.Nodup /\ d.map D0.code = [.bool, .ints, .int] /\ (m % 10 ^ (s - t) = 0 -> d = dsn b (m / 10 ^ (s - t)) t) /\ Ext w w' := by
  have hr := h
  obtain ⟨a0, ap, an, ac, az, a2, rfl, hd, ha⟩ := open_Dec h rfl
  simp only [dsn, List.cons.injEq, D0.bool.injEq, D0.ints.injEq, D0.int.injEq, and_true] at hd
  obtain ⟨rfl, rfl, rfl⟩ := hd
  have hla := ha.1
  refine spec_DecAt_ret ?_
  unfold spec_DecAt
  intro r w1 hn1 r1 w2 hn2
  have e1 := hn1.r_eq; have e2 := hn2.r_eq; have z1 := hn1.size; have z2 := hn2.size
  have X := hn1.ext.trans hn2.ext
  have q0 := hn1.blk.ext hn2.ext
  refine ⟨_, _, _, _, _, q0.loadA0 (by kernel_rfl), ?_⟩
  refine Ret.at (spec_DecOk_c (hr.ext X) rfl) ?_
  rintro v w3 ⟨hv, y3⟩
  subst hv
  rw [dsn_ok hb hm ⟨by omega, by omega⟩]
  refine ⟨_, rfl, ifN (fun hh => absurd hh (by simp)) (fun _ => ?_)⟩
  refine Ret.at (spec_l01In_c (t : Int) 0 30 _) ?_
  rintro v w4 ⟨hv, hw⟩
  subst hv; subst hw
  rw [decide_eq_true (show (0 : Int) <= (t : Int) /\ (t : Int) <= 30 by omega)]
  refine ⟨_, rfl, ifN (fun hh => absurd hh (by simp)) (fun _ => ?_)⟩
  unfold spec_DecAt_j0
  have q0 := q0.ext y3; have q1 := hn2.blk.ext y3
  have X3 := X.trans y3
  have l3 := y3.le
  refine ⟨_, q0.loadAt 2 rfl (by kernel_rfl) rfl, ifD (fun hle => ?_) (fun hgt => ?_)⟩
  · have hst : t = s := by omega
    subst hst
    have D := Ext.drew w4
    have X4 := X3.trans D
    have lD := D.le
    have k0 := q0.ext D; have k1 := q1.ext D
    refine ⟨_, _, _, _, fun W hW => (k0.ext hW).loadAAt 0 [.bool b, .slice ap an ac] rfl (by kernel_rfl) rfl, _, fun W hW => (k0.ext hW).loadAt 2 rfl (by kernel_rfl) rfl, exW ⟨by omega, by omega⟩ ?_⟩
    refine Ret.at (spec_l07Ten_c (k := (t : Int) - (t : Int)) (by omega) (by omega)) ?_
    rintro v w5 ⟨vs5, f5, hv, ho5, _, y5⟩
    subst hv
    have e0 : enc ((10 ^ ((t : Int) - (t : Int)).toNat : Nat) : Int) = [.bool false, .ints (digs 1)] := by
      rw [Int.sub_self, Int.toNat_zero, Nat.pow_zero, enc_nat]
    rw [e0] at ho5
    obtain ⟨g0, gp, gn, gc, gz, rfl, _, _⟩ := open_Signed ho5.reps rfl
    refine ⟨_, _, _, _, rfl, y5, ?_⟩
    have h1 : Reps w5 [.bool b, .slice ap an ac] [.bool b, .ints (digs m)] := ⟨rfl, ⟨_, _, _, rfl, ha.ext (X4.trans y5)⟩, trivial⟩
    refine Ret.at (spec_IntMul_c h1 ho5.reps rfl rfl) ?_
    rintro v w6 ⟨vs6, f1, hv, ho6, nd1, y6⟩
    subst hv
    rw [imul_one hb (by omega)] at ho6
    obtain ⟨g20, g2p, g2n, g2c, g2z, rfl, _, _⟩ := open_Signed ho6.reps rfl
    refine ⟨_, _, _, _, rfl, ?_⟩
    refine Ret.at (spec_l07Dec_g ho6 hb hm ⟨by omega, by omega⟩) ?_
    rintro v w7 ⟨vs7, hv, ho7, y7⟩
    subst hv
    have Y := (y5.trans y6).trans y7
    have l5 := y5.le
    obtain ⟨d0, dp, dn, dc, dz, ds, rfl, _, _⟩ := open_Dec ho7.reps rfl
    obtain ⟨w8, st8, hb8, ch, sz⟩ := (k1.ext Y).storeA0 (P := P) (t := T_impl_Dec) (xs := [.bool d0, .slice dp dn dc, .int .i64 ds]) (by kernel_rfl) rfl (by simp [Value.oneCell'])
    have Z : Ext w w8 := (X4.trans Y).chg ch (by simp; omega)
    refine ⟨_, _, _, _, _, _, rfl, w8, st8, _, _, _, _, _, hb8.loadA0 (by kernel_rfl), [.bool d0, .slice dp dn dc, .int .i64 ds], dsn b m t, f1, ?_, (ho7.chg1 ch (by omega)).mono (by omega), nd1, rfl, fun _ => ?_, Z⟩
    · rw [Nat.sub_self, Nat.pow_zero, Nat.mod_one]; rfl
    · rw [Nat.sub_self, Nat.pow_zero, Nat.div_one]
  · have hlt : t < s := by omega
    have ek : ((s : Int) - (t : Int)).toNat = s - t := by omega
    have eks : ((s : Int) - (t : Int)) = ((s - t : Nat) : Int) := by omega
    refine ⟨_, _, _, q0.loadAt 1 rfl (by kernel_rfl) rfl, _, q0.loadAt 2 rfl (by kernel_rfl) rfl, exW ⟨by omega, by omega⟩ ?_⟩
    rw [eks]
    refine Ret.at (spec_NatCut_o (ha.ext X3) (by omega) (show s - t <= 30 by omega)) ?_
    rintro v w6 ⟨p1, n1, c1, p2, n2, c2, hv, hoq, i2, Y⟩
    subst hv
    have hmq : m % 10 ^ (s - t) = 0 -> b = true -> m / 10 ^ (s - t) ≠ 0 := fun h0 hb1 h1 => hb hb1 (by have := Nat.div_add_mod m (10 ^ (s - t)); rw [h0, h1] at this; simpa using this.symm)
    have hml : (digs (m / 10 ^ (s - t))).length <= 6 := digs_div_len hm
    refine ⟨_, _, _, _, _, _, rfl, ifD (fun hrem => ?_) (fun hno => ?_)⟩
    · have hne : m % 10 ^ (s - t) ≠ 0 := digs_pos_len.1 (by have := i2.1; omega)
      obtain ⟨w8, st8, hb8, ch, sz⟩ := (q1.ext Y).storeA0 (P := P) (t := T_impl_Dec) (xs := [.bool false, .slice none 0 0, .int .i64 0]) (by kernel_rfl) rfl (by simp [Value.oneCell'])
      have Z : Ext w w8 := (X3.trans Y).chg ch (by simp; omega)
      exact ⟨w8, st8, _, _, _, _, _, hb8.loadA0 (by kernel_rfl), [.bool false, .slice none 0 0, .int .i64 0], [.bool false, .ints [], .int 0], [], by rw [decide_eq_false hne], Owns.append (Owns.bool _ _ false) (Owns.append (Owns.ints (zs := []) (Own.nil _ _ _ _)) (Owns.int _ _ 0)), List.nodup_nil, rfl, fun hh => absurd hh hne, Z⟩
    · have heq : m % 10 ^ (s - t) = 0 := Decidable.byContradiction fun hh => by
        have := digs_pos_len.2 hh
        have := i2.1
        omega
      refine ⟨_, (q0.ext Y).loadAt 0 rfl (by kernel_rfl) rfl, ?_⟩
      have Y5 := Y
      have hoq2 : Owns w6 w4.heap.size [.bool b, .slice p1 n1 c1] [.bool b, .ints (digs (m / 10 ^ (s - t)))] (p1.map (·.block)).toList := Owns.append (Owns.bool _ _ b) (Owns.ints hoq)
      refine Ret.at (spec_l07Dec_g hoq2 (hmq heq) hml ⟨by omega, by omega⟩) ?_
      rintro v w7 ⟨vs7, hv, ho7, y7⟩
      subst hv
      obtain ⟨d0, dp, dn, dc, dz, ds, rfl, _, _⟩ := open_Dec ho7.reps rfl
      have Y7 := Y5.trans y7
      obtain ⟨w8, st8, hb8, ch, sz⟩ := (q1.ext Y7).storeA0 (P := P) (t := T_impl_Dec) (xs := [.bool d0, .slice dp dn dc, .int .i64 ds]) (by kernel_rfl) rfl (by simp [Value.oneCell'])
      have Z : Ext w w8 := (X3.trans Y7).chg ch (by simp; omega)
      exact ⟨_, _, _, _, _, _, rfl, w8, st8, _, _, _, _, _, hb8.loadA0 (by kernel_rfl), [.bool d0, .slice dp dn dc, .int .i64 ds], dsn b (m / 10 ^ (s - t)) t, _, by rw [decide_eq_true heq], (ho7.chg1 ch (by omega)).mono (by omega), by cases p1 <;> simp, rfl, fun _ => rfl, Z⟩
theorem spec_DecLow_o {w : World} {xs : List Value} {b : Bool} {m s : Nat} (h : Reps w xs (dsn b m s)) (hb : b = true -> m ≠ 0) (hm : (digs m).length <= 6) (hs : s <= 30) :
    Ret P n_spec_DecLow [.agg ⟨xs⟩] w fun v w' => ∃ vs f, v = .agg ⟨vs⟩ /\ Owns w' w.heap.size vs (dsn b (lowM m s) (lowS m s)) f /\ f.Nodup /\ Ext w w' := by
  have hr := h
  obtain ⟨a0, ap, an, ac, az, a2, rfl, hd, ha⟩ := open_Dec h rfl
  simp only [dsn, List.cons.injEq, D0.bool.injEq, D0.ints.injEq, D0.int.injEq, and_true] at hd
  obtain ⟨rfl, rfl, rfl⟩ := hd
  refine spec_DecLow_ret ?_
  unfold spec_DecLow
  intro r w1 hn1 r1 w2 hn2
  have e1 := hn1.r_eq; have e2 := hn2.r_eq; have z1 := hn1.size; have z2 := hn2.size
  have X := hn1.ext.trans hn2.ext
  have q0 := hn1.blk.ext hn2.ext
  refine ⟨fun i wr => ∃ t : Nat, i = t /\ t <= s /\ (∀ u < t, m % 10 ^ (s - u) ≠ 0) /\ Ext w2 wr, fun i _ => (31 - i).toNat, ⟨0, rfl, by omega, fun u hu => absurd hu (by omega), Ext.refl _⟩, ?_⟩
  intro junk wr i ⟨t, hi, ht, hmin, hx⟩
  subst hi
  refine ifD (fun _ => ?_) (fun hh => absurd (show (t : Int) <= 30 by omega) hh)
  refine ⟨_, _, _, _, _, (q0.ext hx).loadA0 (by kernel_rfl), ?_⟩
  refine Ret.at (spec_DecAt_o (hr.ext (X.trans hx)) hb hm hs ht) ?_
  rintro v w4 ⟨vs, d, f, hv, ho, hnd, hcode, hd, y4⟩
  subst hv
  obtain ⟨d0, dp, dn, dc, dz, ds, rfl, hde, hdi⟩ := open_Dec ho.reps hcode
  refine ⟨_, _, _, _, _, _, rfl, ?_⟩
  intro r5 w5 hn5
  obtain ⟨w6, st6, hb6, y6⟩ := hn5.fill (P := P) (t := T_impl_Dec) (xs := [.bool d0, .slice dp dn dc, .int .i64 ds]) (by simp [Value.oneCell']) (by kernel_rfl) rfl
  have Y := (hx.trans y4).trans y6
  refine ⟨w6, st6, fun hyes => ?_, fun hno => ?_⟩
  · have hyes := of_decide_eq_true hyes
    have hd := hd hyes
    have hlow := lowS_eq ht hyes hmin
    rw [hd] at ho
    obtain ⟨w7, st7, hb7, ch, sz⟩ := (hn2.blk.ext Y).storeA0 (P := P) (t := T_impl_Dec) (xs := [.bool d0, .slice dp dn dc, .int .i64 ds]) (by kernel_rfl) rfl (by simp [Value.oneCell'])
    refine ⟨_, _, _, _, _, hb6.loadA0 (by kernel_rfl), w7, st7, _, _, _, _, _, hb7.loadA0 (by kernel_rfl), [.bool d0, .slice dp dn dc, .int .i64 ds], f, rfl, ?_, hnd, (X.trans Y).chg ch (by simp; omega)⟩
    rw [lowM, hlow]
    have lx := hx.le
    exact ((ho.ext y6).chg1 ch (by omega)).mono (by omega)
  · have hno := of_decide_eq_false hno
    have hts : t < s := by
      rcases Nat.lt_or_ge t s with hh | hh
      · exact hh
      · exfalso
        apply hno
        rw [show s - t = 0 by omega, Nat.pow_zero, Nat.mod_one]
    refine exW ⟨by omega, by omega⟩ ⟨⟨t + 1, by omega, by omega, fun u hu => ?_, Y⟩, ?_⟩
    · rcases Nat.lt_or_ge u t with hh | hh
      · exact hmin u hh
      · rw [show u = t by omega]; exact hno
    · show (31 - ((t : Int) + 1)).toNat < (31 - (t : Int)).toNat
      omega
end Go.Proofs.YtgbknjdjbahdkaaGreatDoor
namespace Go.Proofs.YtgbknjdjbahdkaaGreatDoor
open Go Go.Proofs.YtgbknjdjbahdkaaGreatDoor.Sx
def numOk (l : List UInt8) : Bool := !l.isEmpty && l.all isDig && decide (l.length <= 450) && !(decide (1 < l.length) && decide (l.head? = some 48))
def filt (l : List UInt8) : List UInt8 := l.filter (fun c => c != 46 && c != 45)
def cand (l : List UInt8) : List D0 := [.bool (decide (l.head? = some 45)), .ints (digs (digV (strip (filt l)))), .int (scaleG 0 l : Nat)]
def body (D : List UInt8) (s : Nat) : List UInt8 := if s = 0 then D else D.take (D.length - s) ++ 46 :: D.drop (D.length - s)
def zeroDec : List D0 := [.bool false, .ints [], .int 0]
def tdOk (s : ByteArray) : Bool := decOk (cand s.data.toList) && decide (decT (cand s.data.toList) = s)
theorem dig_ne {c : UInt8} (h : isDig c = true) : c ≠ 46 /\ c ≠ 45 := by
  have := dig_le h
  refine ⟨fun hh => ?_, fun hh => ?_⟩ <;> subst hh
  · exact absurd this.1 (by decide)
  · exact absurd this.1 (by decide)
theorem filt_dig {l : List UInt8} (h : l.all isDig = true) : filt l = l := by
  unfold filt
  rw [List.filter_eq_self]
  intro c hc
  have := dig_ne (List.all_eq_true.1 h c hc)
  simp [this.1, this.2]
theorem filt_append (a b : List UInt8) : filt (a ++ b) = filt a ++ filt b := List.filter_append ..
theorem filt_body {D : List UInt8} {s : Nat} (h : D.all isDig = true) : filt (body D s) = D := by
  unfold body
  split
  · exact filt_dig h
  · have h1 : (D.take (D.length - s)).all isDig = true := List.all_eq_true.2 fun c hc => List.all_eq_true.1 h c (List.mem_of_mem_take hc)
    have h2 : (D.drop (D.length - s)).all isDig = true := List.all_eq_true.2 fun c hc => List.all_eq_true.1 h c (List.mem_of_mem_drop hc)
    rw [filt_append, filt_dig h1]
    show _ ++ filt (D.drop (D.length - s)) = D
    rw [filt_dig h2, List.take_append_drop]
theorem scale_body {D : List UInt8} {s : Nat} {acc : Nat} (h : D.all isDig = true) (hs : s < D.length) : scaleG acc (body D s) = if s = 0 then acc else s := by
  have h0 : ∀ c ∈ D, c ≠ 46 := fun c hc => (dig_ne (List.all_eq_true.1 h c hc)).1
  unfold body
  split
  · exact scaleG_none h0
  · rw [scaleG_dot (fun c hc => h0 c (List.mem_of_mem_take hc)) (fun c hc => h0 c (List.mem_of_mem_drop hc)), List.length_drop]
    omega
theorem body_head {D : List UInt8} {s : Nat} (h : D.all isDig = true) (hs : s < D.length) : ∃ c r, body D s = c :: r /\ isDig c = true := by
  cases D with
  | nil => simp at hs
  | cons c r =>
    have hc : isDig c = true := by simp only [List.all_cons, Bool.and_eq_true] at h; exact h.1
    unfold body
    split
    · exact ⟨c, r, rfl, hc⟩
    · have : (c :: r).length - s = ((c :: r).length - s - 1) + 1 := by omega
      rw [this, List.take_succ_cons]
      exact ⟨c, _, rfl, hc⟩
theorem body_len {D : List UInt8} {s : Nat} : (body D s).length <= D.length + 1 := by
  unfold body
  split
  · omega
  · rw [List.length_append, List.length_cons, List.length_take, List.length_drop]; omega
theorem decT_shape {b : Bool} {z : List Int} {s : Int} (h : decOk [.bool b, .ints z, .int s] = true) :
    ∃ (m t k : Nat), z = digs m /\ s = t /\ t <= 30 /\ (b = true -> m ≠ 0) /\ (digs m).length <= 6 /\ (List.replicate k 48 ++ Lib.decDigits m).all isDig = true /\ t < (List.replicate k (48 : UInt8) ++ Lib.decDigits m).length /\ (List.replicate k (48 : UInt8) ++ Lib.decDigits m).length <= 90 /\
      (decT [.bool b, .ints z, .int s]).data.toList = (if b then [45] else []) ++ body (List.replicate k 48 ++ Lib.decDigits m) t := by
  obtain ⟨hi, hn, hl, hz, h0, h30⟩ := decOk_parts h
  have hcz : digs (val z).toNat = z := digs_val (natOk_spec.1 hn).1
  obtain ⟨m, hm⟩ : ∃ m, (val z).toNat = m := ⟨_, rfl⟩
  rw [hm] at hcz
  obtain ⟨t, ht⟩ : ∃ t : Nat, s = t := ⟨s.toNat, by omega⟩
  subst ht
  subst hcz
  have hb : b = true -> m ≠ 0 := by
    intro hb hm0
    subst hb; subst hm0
    rw [digs_zero] at hi
    simp [intOk] at hi
  have e9 : ((t : Int) + 1) = ((t + 1 : Nat) : Int) := rfl
  have hD := padT_list (n := m) (k := t + 1) (by omega)
  obtain ⟨k, hk⟩ : ∃ k, t + 1 - (Lib.decDigits m).length = k := ⟨_, rfl⟩
  rw [hk] at hD
  have hne : 0 < (Lib.decDigits m).length := List.length_pos_iff.2 (dec_ne m)
  have hlen : (List.replicate k (48 : UInt8) ++ Lib.decDigits m).length = k + (Lib.decDigits m).length := by simp
  have hall : (List.replicate k 48 ++ Lib.decDigits m).all isDig = true := by
    rw [List.all_append, dec_all, Bool.and_true, List.all_eq_true]
    intro c hc
    rw [(List.mem_replicate.1 hc).2]; rfl
  have hsz : (Lib.decDigits m).length <= 55 := by
    have h1 := natT_size hl
    rw [natT_digs, ba_size, itxt] at h1
    have h1 : (Lib.decDigits m).length <= _ := h1
    omega
  refine ⟨m, t, k, rfl, rfl, by omega, hb, hz, hall, by rw [hlen]; omega, by rw [hlen]; omega, ?_⟩
  obtain ⟨D, hDD⟩ : ∃ D, List.replicate k 48 ++ Lib.decDigits m = D := ⟨_, rfl⟩
  rw [hDD] at hD hlen ⊢
  have hpl : (padT (itxt m) ((t : Int) + 1)).size = D.length := by rw [ba_size, e9, hD]
  have hdot : (dotT (padT (itxt m) ((t : Int) + 1)) (t : Int)).data.toList = body D t := by
    unfold dotT body
    by_cases ht0 : t = 0
    · rw [if_neg (by omega), if_pos ht0, e9, hD]
    · have e5 : ((((D.length : Nat) : Int)) - (t : Int)).toNat = D.length - t := by omega
      rw [if_pos (by omega), if_neg ht0, hpl, e5]
      simp only [ByteArray.data_append, Array.toList_append, ByteArray.data_extract, Array.toList_extract, e9, hD]
      rw [hD, List.extract_eq_take_drop, List.extract_eq_take_drop, List.drop_zero, Nat.sub_zero, List.append_assoc, List.take_of_length_le (l := D.drop _) (by rw [List.length_drop]; omega)]
      rfl
  show (if decOk [.bool b, .ints (digs m), .int (t : Int)] then (if b then S [45] ++ dotT (padT (natT (digs m)) ((t : Int) + 1)) t else dotT (padT (natT (digs m)) ((t : Int) + 1)) t) else S []).data.toList = _
  rw [h, if_pos rfl, natT_digs]
  cases b
  · rw [if_neg (by decide), if_neg (by decide)]
    exact hdot
  · rw [if_pos rfl, if_pos rfl, ByteArray.data_append, Array.toList_append, hdot]
theorem numOk_dec {m : Nat} (h : (Lib.decDigits m).length <= 450) : numOk (Lib.decDigits m) = true := by
  unfold numOk
  rw [dec_all, decide_eq_true h]
  have h1 : (Lib.decDigits m).isEmpty = false := by
    cases e : Lib.decDigits m with
    | nil => exact absurd e (dec_ne m)
    | cons _ _ => rfl
  rw [h1]
  by_cases hm : m < 10
  · rw [decDigits_small hm]; rfl
  · obtain ⟨c, r, e, hc⟩ := dec_head m (by omega)
    rw [e]
    simp [hc]
theorem filt_sign {b : Bool} {l : List UInt8} : filt ((if b then [45] else []) ++ l) = filt l := by
  rw [filt_append]; cases b <;> rfl
theorem scale_sign {b : Bool} {l : List UInt8} : scaleG 0 ((if b then [45] else []) ++ l) = scaleG 0 l := by cases b <;> rfl
theorem cand_decT {d : List D0} (hc : d.map D0.code = [.bool, .ints, .int]) (h : decOk d = true) : cand (decT d).data.toList = d /\ numOk (strip (filt (decT d).data.toList)) = true := by
  match d, hc with
  | [.bool b, .ints z, .int s], _ =>
    obtain ⟨m, t, k, rfl, rfl, ht, hb, hm, hall, hlt, hle, e⟩ := decT_shape h
    have hf : filt (decT [.bool b, .ints (digs m), .int (t : Int)]).data.toList = List.replicate k 48 ++ Lib.decDigits m := by
      rw [e, filt_sign, filt_body hall]
    have hsc : scaleG 0 (decT [.bool b, .ints (digs m), .int (t : Int)]).data.toList = t := by
      rw [e, scale_sign, scale_body hall hlt]
      split
      · omega
      · rfl
    have hhd : decide ((decT [.bool b, .ints (digs m), .int (t : Int)]).data.toList.head? = some 45) = b := by
      rw [e]
      obtain ⟨c, r, e2, hc2⟩ := body_head hall hlt
      rw [e2]
      cases b
      · have := (dig_ne hc2).2
        simp [this]
      · rfl
    refine ⟨?_, ?_⟩
    · unfold cand
      rw [hf, hsc, hhd, strip_zeros, digV_dec]
    · rw [hf, strip_zeros]
      refine numOk_dec ?_
      rw [List.length_append] at hle
      omega
end Go.Proofs.YtgbknjdjbahdkaaGreatDoor
namespace Go.Proofs.YtgbknjdjbahdkaaGreatDoor
open Go Go.Proofs.YtgbknjdjbahdkaaGreatDoor.Sx
abbrev CurRow := ByteArray × ByteArray × Int × Int
def implTab : List CurRow := [(S [67, 72, 70], S [55, 53, 54], 2, 5), (S [69, 85, 82], S [57, 55, 56], 2, 1), (S [85, 83, 68], S [56, 52, 48], 2, 1), (S [71, 66, 80], S [56, 50, 54], 2, 1), (S [74, 80, 89], S [51, 57, 50], 0, 1), (S [83, 69, 75], S [55, 53, 50], 2, 100), (S [78, 79, 75], S [53, 55, 56], 2, 100), (S [68, 75, 75], S [50, 48, 56], 2, 50), (S [67, 90, 75], S [50, 48, 51], 2, 100), (S [72, 85, 70], S [51, 52, 56], 2, 500), (S [80, 76, 78], S [57, 56, 53], 2, 1), (S [67, 65, 68], S [49, 50, 52], 2, 5), (S [65, 85, 68], S [48, 51, 54], 2, 5), (S [78, 90, 68], S [53, 53, 52], 2, 10), (S [75, 87, 68], S [52, 49, 52], 3, 5), (S [66, 72, 68], S [48, 52, 56], 3, 5), (S [84, 78, 68], S [55, 56, 56], 3, 10), (S [73, 83, 75], S [51, 53, 50], 0, 1), (S [75, 82, 87], S [52, 49, 48], 0, 10), (S [67, 76, 70], S [57, 57, 48], 4, 1)]
abbrev G_d32 : Nat := 5
def L_d32 : List Int := [0, 1, 28, 2, 29, 14, 24, 3, 30, 22, 20, 15, 25, 17, 4, 8, 31, 27, 13, 23, 21, 19, 16, 7, 26, 12, 18, 6, 11, 5, 10, 9]
abbrev G_d64 : Nat := 6
def L_d64 : List Int := [0, 1, 56, 2, 57, 49, 28, 3, 61, 58, 42, 50, 38, 29, 17, 4, 62, 47, 59, 36, 45, 43, 51, 22, 53, 39, 33, 30, 24, 18, 12, 5, 63, 55, 48, 27, 60, 41, 37, 16, 46, 35, 44, 21, 52, 32, 23, 11, 54, 26, 40, 15, 34, 20, 31, 10, 25, 14, 19, 9, 13, 8, 7, 6]
abbrev G_pow : Nat := 4
abbrev TA_pow : Nat := 198
abbrev TE_pow : Nat := 86
def L_pow : List Int := [1, 10, 100, 1000, 10000, 100000, 1000000, 10000000, 100000000, 1000000000, 10000000000, 100000000000, 1000000000000, 10000000000000, 100000000000000, 1000000000000000, 10000000000000000, 100000000000000000, 1000000000000000000, 10000000000000000000]
theorem und_A_pow : Tryz.prog.underlying TA_pow = some (.array 20 TE_pow) := Tryz.underlying198
theorem und_E_pow : Tryz.prog.underlying TE_pow = some (.int .u64) := Tryz.underlying86
end Go.Proofs.YtgbknjdjbahdkaaGreatDoor
namespace Go.Proofs.YtgbknjdjbahdkaaGreatDoor
open Go Go.Proofs.YtgbknjdjbahdkaaGreatDoor.Sx
def curCells (r : CurRow) : List Value := [.string r.1, .string r.2.1, .int .i64 r.2.2.1, .int .i64 r.2.2.2]
def Tab (w : World) : Prop := Seg w 0 0 (implTab.flatMap curCells)
theorem Tab.ext {w w' : World} (h : Tab w) (he : Ext w w') : Tab w' := Seg.ext h he
end Go.Proofs.YtgbknjdjbahdkaaGreatDoor
namespace Go.Proofs.YtgbknjdjbahdkaaGreatDoor
open Go Go.Proofs.YtgbknjdjbahdkaaGreatDoor.Sx
def bAt (s : ByteArray) (i : Nat) : Int := (((s[i]?).getD 0).toNat : Nat)
def okB (lo hi low high b : Int) : Bool := !((decide (b < lo) || decide (hi < b)) && (decide (b < low) || decide (high < b)))
def isAll (s : ByteArray) (lo hi low high : Int) : Bool := decide (0 < s.size) && (List.range s.size).all fun i => okB lo hi low high (bAt s i)
theorem byte_at {s : ByteArray} {i : Nat} (h : i < s.size) : ∃ b : UInt8, s[((i : Nat) : Int).toNat]? = some b /\ bAt s i = (b.toNat : Nat) := by
  have e : s[i]? = some (s[i]'h) := getElem?_pos s i h
  exact ⟨s[i]'h, by rw [Int.toNat_natCast]; exact e, by unfold bAt; rw [e]; rfl⟩
theorem isAll_no {s : ByteArray} {lo hi low high : Int} {i : Nat} (hi' : i < s.size) (h : okB lo hi low high (bAt s i) = false) : isAll s lo hi low high = false := by
  unfold isAll
  have : ((List.range s.size).all fun i => okB lo hi low high (bAt s i)) = false := by
    rw [Bool.eq_false_iff]
    intro ha
    rw [List.all_eq_true] at ha
    have := ha i (List.mem_range.2 hi')
    rw [h] at this; cases this
  rw [this, Bool.and_false]
theorem isAll_yes {s : ByteArray} {lo hi low high : Int} (h : ∀ i < s.size, okB lo hi low high (bAt s i) = true) : isAll s lo hi low high = decide (0 < s.size) := by
  unfold isAll
  have : ((List.range s.size).all fun i => okB lo hi low high (bAt s i)) = true := by
    rw [List.all_eq_true]
    exact fun i hi => h i (List.mem_range.1 hi)
  rw [this, Bool.and_true]
theorem spec_l01All_c (s : ByteArray) (lo hi low high : Int) (hs : s.size <= 9000000000000000000) (w : World) :
    Ret P n_spec_l01All [.string s, .int .u8 lo, .int .u8 hi, .int .u8 low, .int .u8 high] w fun v w' => v = .bool (isAll s lo hi low high) /\ w' = w := by
  refine spec_l01All_ret ?_
  unfold spec_l01All
  refine ⟨fun i wr => ∃ j : Nat, i = j /\ j <= s.size /\ wr = w /\ ∀ k < j, okB lo hi low high (bAt s k) = true, fun i _ => s.size - i.toNat, ⟨0, rfl, by omega, rfl, by simp⟩, ?_⟩
  intro junk wr i ⟨j, hij, hj, hw, hall⟩
  subst hij; subst hw
  refine ifD (fun hlt => ?_) (fun hge => ⟨?_, rfl⟩)
  · have hjs : j < s.size := by omega
    obtain ⟨b, hb, e⟩ := byte_at hjs
    have bad : okB lo hi low high (b.toNat : Nat) = false -> (fun (v : Value) (w' : World) => v = .bool (isAll s lo hi low high) /\ w' = wr) (.bool false) wr := fun h => ⟨by rw [isAll_no hjs (by rw [e]; exact h)], rfl⟩
    have next : okB lo hi low high (b.toNat : Nat) = true -> ∃ t17 : Int, t17 = IntKind.wrap .i64 ((j : Int) + 1) /\ (fun (i : Int) (wr' : World) => ∃ j : Nat, i = j /\ j <= s.size /\ wr' = wr /\ ∀ k < j, okB lo hi low high (bAt s k) = true) t17 wr /\ (fun (i : Int) (_ : World) => s.size - i.toNat) t17 wr < (fun (i : Int) (_ : World) => s.size - i.toNat) (j : Int) wr := by
      intro h
      refine exW ⟨by omega, by omega⟩ ⟨⟨j + 1, by omega, by omega, rfl, fun k hk => ?_⟩, ?_⟩
      · rcases Nat.lt_or_ge k j with h1 | h1
        · exact hall k h1
        · have : k = j := by omega
          subst this; rw [e]; exact h
      · show s.size - ((j : Int) + 1).toNat < s.size - (j : Int).toNat
        omega
    refine ⟨by omega, b, hb, ifD (fun h1 => ifT ⟨by omega, b, hb, ifD (fun h2 => ifT (bad ?_)) (fun h2 => ⟨by omega, b, hb, ifD (fun h3 => bad ?_) (fun h3 => next ?_)⟩)⟩) (fun h1 => ⟨by omega, b, hb, ifD (fun h2 => ⟨by omega, b, hb, ifD (fun h3 => ifT (bad ?_)) (fun h3 => ⟨by omega, b, hb, ifD (fun h4 => bad ?_) (fun h4 => next ?_)⟩)⟩) (fun h2 => ifF (next ?_))⟩)⟩
    all_goals (simp [okB]; omega)
  · rw [isAll_yes (fun i hi => hall i (by omega))]
    congr 1
    simp
theorem impl_isDigit_c (c : Int) (w : World) : Ret P n_impl_isDigit [.int .u8 c] w fun v w' => v = .bool (decide (48 <= c /\ c <= 57)) /\ w' = w := by
  refine impl_isDigit_ret ?_
  unfold impl_isDigit
  refine ifD (fun h => ⟨?_, rfl⟩) (fun h => ⟨?_, rfl⟩) <;> simp [h]
end Go.Proofs.YtgbknjdjbahdkaaGreatDoor
namespace Go.Proofs.YtgbknjdjbahdkaaGreatDoor
open Go Go.Proofs.YtgbknjdjbahdkaaGreatDoor.Sx
def digS (l : List UInt8) : Bool := !l.isEmpty && l.all isDig
theorem ba_get {s : ByteArray} {i : Nat} (h : i < s.data.toList.length) : s[((i : Nat) : Int).toNat]? = some (s.data.toList[i]'h) := by
  rw [Int.toNat_natCast]
  exact getElem?_pos s i h
theorem isAll_dig (s : ByteArray) : isAll s 48 57 48 57 = digS s.data.toList := by
  have hb : ∀ i (h : i < s.data.toList.length), okB 48 57 48 57 (bAt s i) = isDig (s.data.toList[i]'h) := fun i h => by
    have e : bAt s i = ((s.data.toList[i]'h).toNat : Nat) := by
      have := ba_get h
      rw [Int.toNat_natCast] at this
      unfold bAt
      rw [this]; rfl
    rw [e, Bool.eq_iff_iff]
    simp only [okB, isDig, Bool.and_self, Bool.not_eq_true', Bool.or_eq_false_iff, decide_eq_false_iff_not, Bool.and_eq_true, decide_eq_true_eq]
    omega
  unfold isAll digS
  congr 1
  · show decide (0 < s.data.toList.length) = _
    cases s.data.toList <;> simp
  · show (List.range s.data.toList.length).all _ = _
    rw [Bool.eq_iff_iff, List.all_eq_true, List.all_eq_true]
    constructor
    · intro h c hc
      obtain ⟨i, hi, rfl⟩ := List.mem_iff_getElem.1 hc
      rw [<- hb i hi]
      exact h i (List.mem_range.2 hi)
    · intro h i hi
      rw [hb i (List.mem_range.1 hi)]
      exact h _ (List.getElem_mem _)
theorem take_drop_snoc {l : List UInt8} {a i : Nat} (h : a <= i) (hi : i < l.length) : (l.take (i + 1)).drop a = (l.take i).drop a ++ [l[i]'hi] := by
  rw [List.take_succ_eq_append_getElem hi, List.drop_append_of_le_length (by rw [List.length_take]; omega)]
theorem take_drop_all {l : List UInt8} {a : Nat} (i : Nat) (h : l.all isDig = true) : ((l.take i).drop a).all isDig = true :=
  List.all_eq_true.2 fun c hc => List.all_eq_true.1 h c (List.mem_of_mem_take (List.mem_of_mem_drop hc))
theorem take_drop_lt {l : List UInt8} {a i : Nat} (h : l.all isDig = true) (hi : i <= a + 9) : digV ((l.take i).drop a) < 1000000000 := by
  have h1 := digV_lt (take_drop_all (a := a) i h)
  have h2 : 10 ^ ((l.take i).drop a).length <= 10 ^ 9 := Nat.pow_le_pow_right (by decide) (by rw [List.length_drop, List.length_take]; omega)
  have h3 : (10 : Nat) ^ 9 = 1000000000 := by decide
  omega
theorem drop_chunk {l : List UInt8} {a i : Nat} (h : a <= i) : l.drop a = (l.take i).drop a ++ l.drop i := by
  have h1 := List.take_append_drop (i - a) (l.drop a)
  rw [List.drop_drop] at h1
  rw [<- h1, List.take_drop]
  congr 2 <;> (congr 1; omega)
theorem chunk_val {l : List UInt8} {a i k : Nat} {o : List Int} (h : a <= i) (hi : i + 9 * k = l.length) (ho : o.length = k) (hv : val o = (digV (l.drop i) : Nat)) :
    val (o ++ [((digV ((l.take i).drop a) : Nat) : Int)]) = (digV (l.drop a) : Nat) := by
  have hd : digV (l.drop a) = digV ((l.take i).drop a) * 10 ^ (l.drop i).length + digV (l.drop i) := by
    rw [<- digV_append, <- drop_chunk h]
  rw [val_snoc, hv, ho, hd]
  have e : (10 : Nat) ^ (l.drop i).length = 1000000000 ^ k := by
    rw [List.length_drop, show l.length - i = 9 * k from by omega, Nat.pow_mul]
  rw [e]
  rw [Int.natCast_add, Int.natCast_mul, Int.natCast_pow, Int.add_comm, Int.mul_comm]
  rfl
theorem spec_IsDigits_c (s : ByteArray) (hs : s.size <= 9000000000000000000) (w : World) : Ret P n_spec_IsDigits [.string s] w fun v w' => v = .bool (digS s.data.toList) /\ w' = w := by
  refine spec_IsDigits_ret ?_
  unfold spec_IsDigits
  refine Ret.at (spec_l01All_c s 48 57 48 57 hs w) ?_
  rintro v w1 ⟨hv, hw⟩
  subst hv; subst hw
  exact ⟨_, rfl, by rw [isAll_dig], rfl⟩
theorem spec_TextNat_c {w : World} (s : ByteArray) (hs : s.size <= 9000000000000000000) : Ret P n_spec_TextNat [.string s] w fun v w' => ∃ p n c, v = .tuple #[.slice p n c, .bool (numOk s.data.toList)] /\ IntsR w' p n c (if numOk s.data.toList then digs (digV s.data.toList) else []) /\ Ext w w' := by
  obtain ⟨l, hl⟩ : ∃ l, s.data.toList = l := ⟨_, rfl⟩
  have hsl : s.size = l.length := by rw [ba_size, hl]
  refine spec_TextNat_ret ?_
  unfold spec_TextNat
  refine Ret.at (spec_IsDigits_c s hs w) ?_
  rintro v w1 ⟨hv, hw⟩
  subst hv; subst hw
  have no : numOk l = false -> ∃ p n c, Value.tuple #[.slice none 0 0, .bool false] = .tuple #[.slice p n c, .bool (numOk s.data.toList)] /\ IntsR w1 p n c (if numOk s.data.toList then digs (digV s.data.toList) else []) /\ Ext w1 w1 := fun h => by
    rw [hl, h]
    exact ⟨none, 0, 0, rfl, IntsR.nil w1 none (by omega), Ext.refl _⟩
  have go : numOk l = true -> spec_TextNat_j0 s w1 fun v w' => ∃ p n c, v = .tuple #[.slice p n c, .bool (numOk s.data.toList)] /\ IntsR w' p n c (if numOk s.data.toList then digs (digV s.data.toList) else []) /\ Ext w1 w' := by
    intro h
    have hall : l.all isDig = true := by simp only [numOk, Bool.and_eq_true] at h; exact h.1.1.2
    have hlen : l.length <= 450 := by simp only [numOk, Bool.and_eq_true, decide_eq_true_eq] at h; exact h.1.2
    rw [hl, h]
    unfold spec_TextNat_j0
    intro r wa hna
    refine ⟨fun p on c e wr => ∃ o : List Int, e = (l.length : Int) - 9 * on /\ e <= l.length /\ -9 < e /\ Own wr w1.heap.size T_int 1 p on c (o.map (Value.int .i64)) /\ Ext w1 wr /\ Limbs o /\ o.length = on /\ val o = (digV (l.drop e.toNat) : Nat), fun _ _ _ e _ => (e + 9).toNat, ⟨[], by omega, by omega, by omega, Own.fresh hna, hna.ext, Limbs.nil, rfl, ?_⟩, ?_⟩
    · rw [hsl, Int.toNat_natCast, List.drop_length]; rfl
    intro junk wr op on oc e ⟨o, he, hel, he9, hown, hx, hlo, hol, hv⟩
    have hon := hown.1
    refine ifD (fun hlt => ?_) (fun hge => ?_)
    · obtain ⟨i, hi⟩ : ∃ i : Nat, e = i := ⟨e.toNat, by omega⟩
      subst hi
      have go1 : ∀ (a : Nat), a <= i -> i <= a + 9 -> ((i : Int) - 9).toNat = a -> spec_TextNat_j1 s wr (fun p on c e wr => ∃ o : List Int, e = (l.length : Int) - 9 * on /\ e <= l.length /\ -9 < e /\ Own wr w1.heap.size T_int 1 p on c (o.map (Value.int .i64)) /\ Ext w1 wr /\ Limbs o /\ o.length = on /\ val o = (digV (l.drop e.toNat) : Nat)) (fun _ _ _ e _ => (e + 9).toNat) op on oc (i : Int) (a : Int) wr fun v w' => ∃ p n c, v = .tuple #[.slice p n c, .bool true] /\ IntsR w' p n c (if true = true then digs (digV l) else []) /\ Ext w1 w' := by
        intro a ha h9 hea
        unfold spec_TextNat_j1
        refine ⟨fun n k W => ∃ j : Nat, k = j /\ a <= j /\ j <= i /\ W = wr /\ n = (digV ((l.take j).drop a) : Nat), fun _ k _ => i - k.toNat, ⟨a, rfl, Nat.le_refl _, ha, rfl, by rw [List.drop_take_self]; rfl⟩, ?_⟩
        intro junk2 W n k ⟨j, hkj, haj, hji, hW, hn⟩
        subst hkj; subst hW; subst hn
        refine ifD (fun hlt2 => ?_) (fun hge2 => ?_)
        · have hjl : j < l.length := by omega
          have hb := take_drop_lt (a := a) (i := j) hall (by omega)
          have hb2 := take_drop_lt (a := a) (i := j + 1) hall (by omega)
          rw [take_drop_snoc haj hjl, digV_snoc] at hb2
          have hd := dig_le (List.all_eq_true.1 hall _ (List.getElem_mem hjl))
          refine exW ⟨by omega, by omega⟩ ⟨by omega, l[j]'hjl, by subst hl; exact ba_get hjl, exW ⟨by omega, by omega⟩ (exW ⟨by omega, by omega⟩ (exW ⟨by omega, by omega⟩ (exW ⟨by omega, by omega⟩ ⟨⟨j + 1, rfl, by omega, by omega, rfl, ?_⟩, ?_⟩)))⟩
          · rw [take_drop_snoc haj hjl, digV_snoc]; omega
          · show i - ((j : Int) + 1).toNat < i - (j : Int).toNat
            omega
        · have hji2 : j = i := by omega
          subst hji2
          intro r1 w2 hn2
          have hb := take_drop_lt (a := a) (i := j) hall (by omega)
          obtain ⟨p', c', w3, g1, g2, g3⟩ := Own.push hown hx.le hn2 (by omega)
          refine ⟨_, _, _, _, g1, exW ⟨by omega, by omega⟩ ⟨⟨o ++ [((digV ((l.take j).drop a) : Nat) : Int)], by omega, by omega, by omega, g2, g3 w1 hx (Nat.le_refl _), hlo.snoc ⟨by omega, by omega⟩, by simp [hol], ?_⟩, by show ((j : Int) - 9 + 9).toNat < ((j : Int) + 9).toNat; omega⟩⟩
          rw [hea]
          rw [Int.toNat_natCast] at hv
          exact chunk_val ha (by omega) hol hv
      refine exW ⟨by omega, by omega⟩ (ifD (fun hneg => ?_) (fun hpos => ?_))
      · exact go1 0 (by omega) (by omega) (by omega)
      · have := go1 (i - 9) (by omega) (by omega) (by omega)
        rwa [show (((i - 9 : Nat)) : Int) = (i : Int) - 9 from by omega] at this
    · have e0 : e.toNat = 0 := by omega
      rw [e0, List.drop_zero] at hv
      refine Ret.at (spec_l02Trim_c (hown.ints)) ?_
      rintro v w2 ⟨hv2, hw2, hr⟩
      subst hv2; subst hw2
      rw [trimL_eq hlo, hv, Int.toNat_natCast] at hr ⊢
      exact ⟨_, _, _, rfl, _, _, _, rfl, by rw [if_pos rfl]; exact hr, hx⟩
  have hh : ∀ (h1 : 0 < l.length), l.head? = some (l[0]'h1) := fun h1 => by cases l with
    | nil => cases h1
    | cons _ _ => rfl
  rw [hl] at no go ⊢
  refine ⟨_, rfl, ifN (fun hd => ifT (ifT (no ?_))) (fun hd => ifD (fun h450 => ifT (no ?_)) (fun h450 => ifD (fun h1 => ?_) (fun h1 => ifF (go ?_))))⟩
  · unfold digS at hd
    unfold numOk
    rw [hd]; rfl
  · unfold numOk
    rw [decide_eq_false (show ¬ l.length <= 450 by omega)]
    simp
  · have h0 : 0 < l.length := by omega
    refine ⟨by omega, l[0]'h0, by subst hl; exact ba_get (i := 0) h0, ifD (fun h48 => no ?_) (fun h48 => go ?_)⟩
    · have : l[0]'h0 = 48 := UInt8.toNat_inj.1 (by show _ = 48; omega)
      unfold numOk
      rw [hh h0, this, decide_eq_true (show 1 < l.length by omega)]
      simp
    · unfold digS at hd
      unfold numOk
      have : l[0]'h0 ≠ 48 := fun hc => h48 (by rw [hc]; rfl)
      rw [hd, hh h0, decide_eq_true (show l.length <= 450 by omega)]
      simp [this]
  · unfold digS at hd
    unfold numOk
    rw [hd, decide_eq_true (show l.length <= 450 by omega), decide_eq_false (show ¬ 1 < l.length by omega)]
    rfl
theorem exW8 {e : Int} {Q : Int -> Prop} (h : 0 <= e /\ e < 256) (hq : Q e) : ∃ z, z = IntKind.wrap .u8 e /\ Q z := by
  have wu : ∀ z : Int, 0 <= z -> z < 256 -> IntKind.wrap .u8 z = z := fun z h0 h1 => by
    simp only [IntKind.wrap, IntKind.bits, IntKind.signed]
    simp
    omega
  exact ⟨e, (wu e h.1 h.2).symm, hq⟩
theorem digI (c : UInt8) : decide ((48 : Int) <= ((c.toNat : Nat) : Int) /\ ((c.toNat : Nat) : Int) <= 57) = isDig c := by
  rw [Bool.eq_iff_iff]
  simp only [isDig, Bool.and_eq_true, decide_eq_true_eq]
  omega
theorem ne_empty (s : ByteArray) : decide (s ≠ S []) = !s.data.toList.isEmpty := by
  rw [Bool.eq_iff_iff]
  simp only [decide_eq_true_eq, Bool.not_eq_true']
  constructor
  · intro h
    cases e : s.data.toList with
    | nil => exact absurd (ba_ext (e.trans rfl)) h
    | cons _ _ => rfl
  · intro h hs
    subst hs
    exact absurd h (by decide)
theorem impl_IsDigits_c (s : ByteArray) (hs : s.size <= 9000000000000000000) (w : World) : Ret P n_impl_IsDigits [.string s] w fun v w' => v = .bool (digS s.data.toList) /\ w' = w := by
  obtain ⟨l, hl⟩ : ∃ l, s.data.toList = l := ⟨_, rfl⟩
  have hsl : s.size = l.length := by rw [ba_size, hl]
  refine impl_IsDigits_ret ?_
  unfold impl_IsDigits
  refine ⟨fun i wr => ∃ j : Nat, i = j /\ j <= l.length /\ wr = w /\ (l.take j).all isDig = true, fun i _ => l.length - i.toNat, ⟨0, rfl, by omega, rfl, rfl⟩, ?_⟩
  intro junk wr i ⟨j, hij, hj, hw, hall⟩
  subst hij; subst hw
  refine ifD (fun hlt => ?_) (fun hge => ⟨?_, rfl⟩)
  · have hjl : j < l.length := by omega
    refine ⟨by omega, l[j]'hjl, by subst hl; exact ba_get hjl, ?_⟩
    refine Ret.at (impl_isDigit_c _ wr) ?_
    rintro v w1 ⟨hv, hw⟩
    subst hv; subst hw
    rw [digI]
    refine ⟨_, rfl, ifN (fun hno => ⟨?_, rfl⟩) (fun hyes => exW ⟨by omega, by omega⟩ ⟨⟨j + 1, rfl, by omega, rfl, ?_⟩, by show l.length - ((j : Int) + 1).toNat < l.length - (j : Int).toNat; omega⟩)⟩
    · rw [hl]
      have : l.all isDig = false := by
        rw [Bool.eq_false_iff]
        intro ha
        rw [List.all_eq_true.1 ha _ (List.getElem_mem hjl)] at hno
        cases hno
      unfold digS
      rw [this, Bool.and_false]
    · rw [List.take_succ_eq_append_getElem hjl, List.all_append, hall, List.all_cons, hyes]; simp
  · rw [List.take_of_length_le (by omega)] at hall
    rw [ne_empty, hl]
    unfold digS
    rw [hall, Bool.and_true]
theorem impl_TextNat_o {w : World} (s : ByteArray) (hs : s.size <= 9000000000000000000) : Ret P n_impl_TextNat [.string s] w fun v w' => ∃ p n c, v = .tuple #[.slice p n c, .bool (numOk s.data.toList)] /\ Sx.Own w' w.heap.size T_int 1 p n c ((if numOk s.data.toList then digs (digV s.data.toList) else []).map (Value.int .i64)) /\ Ext w w' := by
  obtain ⟨l, hl⟩ : ∃ l, s.data.toList = l := ⟨_, rfl⟩
  have hsl : s.size = l.length := by rw [ba_size, hl]
  refine impl_TextNat_ret ?_
  unfold impl_TextNat
  refine Ret.at (impl_IsDigits_c s hs w) ?_
  rintro v w1 ⟨hv, hw⟩
  subst hv; subst hw
  have no : numOk l = false -> ∃ p n c, Value.tuple #[.slice none 0 0, .bool false] = .tuple #[.slice p n c, .bool (numOk s.data.toList)] /\ Sx.Own w1 w1.heap.size T_int 1 p n c ((if numOk s.data.toList then digs (digV s.data.toList) else []).map (Value.int .i64)) /\ Ext w1 w1 := fun h => by
    rw [hl, h]
    exact ⟨none, 0, 0, rfl, Own.nil _ _ _ _, Ext.refl _⟩
  have go : numOk l = true -> impl_TextNat_j0 s w1 fun v w' => ∃ p n c, v = .tuple #[.slice p n c, .bool (numOk s.data.toList)] /\ Sx.Own w' w1.heap.size T_int 1 p n c ((if numOk s.data.toList then digs (digV s.data.toList) else []).map (Value.int .i64)) /\ Ext w1 w' := by
    intro h
    have hall : l.all isDig = true := by simp only [numOk, Bool.and_eq_true] at h; exact h.1.1.2
    have hlen : l.length <= 450 := by simp only [numOk, Bool.and_eq_true, decide_eq_true_eq] at h; exact h.1.2
    rw [hl, h]
    unfold impl_TextNat_j0
    intro r wa hna
    refine ⟨fun p on c e wr => ∃ o : List Int, e = (l.length : Int) - 9 * on /\ e <= l.length /\ -9 < e /\ Own wr w1.heap.size T_int 1 p on c (o.map (Value.int .i64)) /\ Ext w1 wr /\ Limbs o /\ o.length = on /\ val o = (digV (l.drop e.toNat) : Nat), fun _ _ _ e _ => (e + 9).toNat, ⟨[], by omega, by omega, by omega, Own.fresh hna, hna.ext, Limbs.nil, rfl, ?_⟩, ?_⟩
    · rw [hsl, Int.toNat_natCast, List.drop_length]; rfl
    intro junk wr op on oc e ⟨o, he, hel, he9, hown, hx, hlo, hol, hv⟩
    have hon := hown.1
    refine ifD (fun hlt => ?_) (fun hge => ?_)
    · obtain ⟨i, hi⟩ : ∃ i : Nat, e = i := ⟨e.toNat, by omega⟩
      subst hi
      obtain ⟨a, ha⟩ : ∃ a : Nat, ((i : Int) - 9).toNat = a := ⟨_, rfl⟩
      have hm : (if (i : Int) - 9 > 0 then (i : Int) - 9 else 0) = (a : Int) := by split <;> omega
      refine exW ⟨by omega, by omega⟩ ⟨_, rfl, ⟨by omega, by omega⟩, ⟨by rw [hm]; omega, by rw [hm]; omega⟩, ?_⟩
      rw [hm, Int.toNat_natCast, Int.toNat_natCast]
      obtain ⟨u, hu⟩ : ∃ u, s.extract a i = u := ⟨_, rfl⟩
      have hul : u.data.toList = (l.take i).drop a := by
        rw [<- hu, <- hl, ByteArray.data_extract, Array.toList_extract, List.extract_eq_take_drop, List.drop_take]
      have hus : u.size = i - a := by rw [ba_size, hul, List.length_drop, List.length_take]; omega
      rw [hu]
      refine ⟨_, _, _, _, Lib.run_convert_string_bytes wr _ _ T_uint8 u (u := .string) (by kernel_rfl) (by kernel_rfl) (by kernel_rfl), ?_⟩
      have xb : Ext wr (Lib.bytesWorld wr T_uint8 u) := Joins.below_bytesWorld _ wr T_uint8 u (Nat.le_refl _)
      have cellAt : ∀ j, j < u.size -> (Lib.bytesWorld wr T_uint8 u).cell? ⟨wr.heap.size, j, none⟩ = some (.int .u8 (u.data.toList.getD j 0).toNat) := fun j hj => Lib.bytesWorld_cell wr T_uint8 u j hj
      obtain ⟨wb, hwb⟩ : ∃ wb, Lib.bytesWorld wr T_uint8 u = wb := ⟨_, rfl⟩
      rw [hwb] at xb cellAt ⊢
      refine ⟨fun n k W => ∃ j : Nat, k = j /\ j <= i - a /\ W = wb /\ n = (digV ((l.take (a + j)).drop a) : Nat), fun _ k _ => i - a - k.toNat, ⟨0, rfl, by omega, rfl, by rw [Nat.add_zero, List.drop_take_self]; rfl⟩, ?_⟩
      intro junk2 W n k ⟨j, hkj, hji, hW, hn⟩
      subst hkj; subst hW; subst hn
      refine ifD (fun hlt2 => ?_) (fun hge2 => ?_)
      · have hjl : a + j < l.length := by omega
        have hb := take_drop_lt (a := a) (i := a + j) hall (by omega)
        have hb2 := take_drop_lt (a := a) (i := a + j + 1) hall (by omega)
        rw [take_drop_snoc (by omega) hjl, digV_snoc] at hb2
        have hd := dig_le (List.all_eq_true.1 hall _ (List.getElem_mem hjl))
        have hg : u.data.toList.getD j 0 = l[a + j]'hjl := by
          rw [hul, List.getD_eq_getElem?_getD, List.getElem?_drop, List.getElem?_take_of_lt (by omega), List.getElem?_eq_getElem hjl]; rfl
        have hc := cellAt j (by omega)
        rw [hg] at hc
        have hld : Loads P T_uint8 ((⟨wr.heap.size, 0, none⟩ : Addr).add ((j : Int).toNat * 1)) (.int .u8 (((l[a + j]'hjl).toNat : Nat) : Int)) W := by
          rw [Int.toNat_natCast, Nat.mul_one, addr_add, Nat.zero_add]
          exact loads1 (by kernel_rfl) hc
        refine ⟨⟨by omega, by omega⟩, (((l[a + j]'hjl).toNat : Nat) : Int), hld, exW ⟨by omega, by omega⟩ (exW8 ⟨by omega, by omega⟩ (exW ⟨by omega, by omega⟩ (exW ⟨by omega, by omega⟩ (exW ⟨by omega, by omega⟩ ⟨⟨j + 1, rfl, by omega, rfl, ?_⟩, ?_⟩))))⟩
        · rw [<- Nat.add_assoc, take_drop_snoc (by omega) hjl, digV_snoc]; omega
        · show i - a - ((j : Int) + 1).toNat < i - a - (j : Int).toNat
          omega
      · have hji2 : a + j = i := by omega
        rw [hji2]
        intro r1 w2 hn2
        have hb := take_drop_lt (a := a) (i := i) hall (by omega)
        obtain ⟨p', c', w3, g1, g2, g3⟩ := Own.push (hown.ext xb) (Nat.le_trans hx.le xb.le) hn2 (by omega)
        refine ⟨_, _, _, _, g1, exW ⟨by omega, by omega⟩ ⟨⟨o ++ [((digV ((l.take i).drop a) : Nat) : Int)], by omega, by omega, by omega, g2, g3 w1 (hx.trans xb) (Nat.le_refl _), hlo.snoc ⟨by omega, by omega⟩, by simp [hol], ?_⟩, by show ((i : Int) - 9 + 9).toNat < ((i : Int) + 9).toNat; omega⟩⟩
        rw [ha]
        rw [Int.toNat_natCast] at hv
        exact chunk_val (by omega) (by omega) hol hv
    · have e0 : e.toNat = 0 := by omega
      rw [e0, List.drop_zero] at hv
      refine Ret.at (impl_trim_c hown.ints) ?_
      rintro v w2 ⟨hv2, hw2, hr⟩
      subst hv2; subst hw2
      refine ⟨_, _, _, rfl, _, _, _, rfl, ?_, hx⟩
      rw [if_pos rfl]
      have he := trimL_eq hlo
      rw [hv, Int.toNat_natCast] at he
      rw [<- he]
      have hle := trimL_len o
      have := hown.sub (m := (trimL o).length) (by omega)
      rwa [<- trimL_prefix] at this
  have hh : ∀ (h1 : 0 < l.length), l.head? = some (l[0]'h1) := fun h1 => by cases l with
    | nil => cases h1
    | cons _ _ => rfl
  rw [hl] at no go ⊢
  refine ⟨_, rfl, ifN (fun hd => ifT (ifT (no ?_))) (fun hd => ifD (fun h450 => ifT (no ?_)) (fun h450 => ?_))⟩
  · unfold digS at hd
    unfold numOk
    rw [hd]; rfl
  · unfold numOk
    rw [decide_eq_false (show ¬ l.length <= 450 by omega)]
    simp
  · have h0 : 0 < l.length := by
      cases l with
      | nil => cases hd
      | cons _ _ => exact Nat.succ_pos _
    unfold digS at hd
    refine ⟨by omega, l[0]'h0, by subst hl; exact ba_get (i := 0) h0, ifD (fun h48 => ifD (fun h1 => no ?_) (fun h1 => go ?_)) (fun h48 => ifF (go ?_))⟩
    · have : l[0]'h0 = 48 := UInt8.toNat_inj.1 (by show _ = 48; omega)
      unfold numOk
      rw [hh h0, this, decide_eq_true (show 1 < l.length by omega)]
      simp
    · unfold numOk
      rw [hd, decide_eq_true (show l.length <= 450 by omega), decide_eq_false (show ¬ 1 < l.length by omega)]
      rfl
    · unfold numOk
      have : l[0]'h0 ≠ 48 := fun hc => h48 (by rw [hc]; rfl)
      rw [hd, hh h0, decide_eq_true (show l.length <= 450 by omega)]
      simp [this]
end Go.Proofs.YtgbknjdjbahdkaaGreatDoor
namespace Go.Proofs.YtgbknjdjbahdkaaGreatDoor
open Go Go.Proofs.YtgbknjdjbahdkaaGreatDoor.Sx
def itxtI (n : Int) : ByteArray := ⟨(Lib.itoa n).toArray⟩
theorem itxtI_data (n : Int) : (itxtI n).data.toList = Lib.itoa n := by simp [itxtI]
theorem itxtI_nn {n : Int} (h : 0 <= n) : itxtI n = itxt n.toNat := by
  unfold itxtI itxt Lib.itoa; rw [if_neg (by omega)]
theorem itxtI_neg {n : Int} (h : n < 0) : itxtI n = S [45] ++ itxt n.natAbs := ba_ext (by
  rw [itxtI_data, ByteArray.data_append, Array.toList_append]
  unfold Lib.itoa
  rw [if_pos h]
  simp [itxt, Sx.S])
def tiV (s : ByteArray) : Option Int := match Lib.atoiAll s.data.toList with
  | .ok v => if Lib.itoa v = s.data.toList then some v else none
  | _ => none
theorem digV_take (l : List UInt8) (j : Nat) : digV (l.take j) <= digV l := by
  have h := digV_append (l.take j) (l.drop j)
  rw [List.take_append_drop] at h
  have : digV (l.take j) <= digV (l.take j) * 10 ^ (l.drop j).length := Nat.le_mul_of_pos_right _ (Nat.pow_pos (by decide))
  omega
theorem decDigits_val (u : Nat) : digV (Lib.decDigits u) = u /\ (Lib.decDigits u).all isDig = true /\ Lib.decDigits u ≠ [] := ⟨digV_dec u, dec_all u, dec_ne u⟩
def foldD (acc : Nat) (l : List UInt8) : Nat := l.foldl (fun n c => n * 10 + (c.toNat - 48)) acc
theorem foldD_le : ∀ (l : List UInt8) (acc : Nat), acc <= foldD acc l
  | [], acc => Nat.le_refl _
  | d :: l, acc => by
    have := foldD_le l (acc * 10 + (d.toNat - 48))
    show acc <= foldD (acc * 10 + (d.toNat - 48)) l
    omega
theorem parse_fold : ∀ (l : List UInt8) (acc : Nat), l.all isDig = true -> foldD acc l < 18446744073709551616 -> Lib.parseUint10 acc l = .ok (foldD acc l)
  | [], acc, _, _ => rfl
  | c :: r, acc, h, hv => by
    rw [List.all_cons, Bool.and_eq_true] at h
    have hd := h.1
    simp only [isDig, Bool.and_eq_true, decide_eq_true_eq] at hd
    have hle := foldD_le r (acc * 10 + (c.toNat - 48))
    have hv' : foldD (acc * 10 + (c.toNat - 48)) r < 18446744073709551616 := hv
    unfold Lib.parseUint10
    rw [if_pos hd, if_neg (by omega), if_neg (by omega), parse_fold r _ h.2 hv']
    rfl
theorem parse_digits (l : List UInt8) (h : l.all isDig = true) (hv : digV l < 18446744073709551616) : Lib.parseUint10 0 l = .ok (digV l) := parse_fold l 0 h hv
theorem atoi_minus {c : UInt8} {r : List UInt8} {u : Nat} (hc : c.toNat = 45) (hp : Lib.parseMag r = .ok u) (hu : u <= 9223372036854775808) : Lib.atoiAll (c :: r) = .ok (-(u : Int)) := by
  unfold Lib.atoiAll
  simp only
  rw [if_pos (.inr hc), hp]
  simp only
  rw [if_neg (fun h => h.1 hc), if_neg (by omega), if_pos hc]
theorem tiV_itoa {s : ByteArray} {v : Int} (h0 : -9223372036854775808 <= v) (h1 : v <= 9223372036854775807) (hs : s.data.toList = Lib.itoa v) : tiV s = some v := by
  have key : Lib.atoiAll (Lib.itoa v) = .ok v := by
    by_cases hv : v < 0
    · obtain ⟨a, b, c⟩ := decDigits_val v.natAbs
      have e : Lib.itoa v = 45 :: Lib.decDigits v.natAbs := by unfold Lib.itoa; rw [if_pos hv]
      rw [e]
      have hp : Lib.parseMag (Lib.decDigits v.natAbs) = .ok v.natAbs := by
        unfold Lib.parseMag
        rw [if_neg c, parse_digits _ b (by rw [a]; omega), a]
      rw [atoi_minus (c := 45) rfl hp (by omega)]
      congr 1; omega
    · obtain ⟨a, b, c⟩ := decDigits_val v.toNat
      have e : Lib.itoa v = Lib.decDigits v.toNat := by unfold Lib.itoa; rw [if_neg hv]
      rw [e]
      have hp : Lib.parseMag (Lib.decDigits v.toNat) = .ok v.toNat := by
        unfold Lib.parseMag
        rw [if_neg c, parse_digits _ b (by rw [a]; omega), a]
      cases hl : Lib.decDigits v.toNat with
      | nil => exact absurd hl c
      | cons d r =>
        rw [hl] at b hp
        rw [List.all_cons, Bool.and_eq_true] at b
        have hd := b.1
        simp only [isDig, Bool.and_eq_true, decide_eq_true_eq] at hd
        unfold Lib.atoiAll
        simp only
        rw [if_neg (by omega), hp]
        simp only
        rw [if_neg (by omega), if_neg (by omega), if_neg (by omega)]
        congr 1; omega
  unfold tiV
  rw [hs, key]
  simp
theorem tiV_some {s : ByteArray} {v : Int} (h : tiV s = some v) : s = itxtI v /\ -9223372036854775808 <= v /\ v <= 9223372036854775807 := by
  unfold tiV at h
  split at h
  · rename_i v' hv
    split at h
    · rename_i he
      cases h
      refine ⟨ba_ext (by rw [itxtI_data, he]), ?_⟩
      unfold Lib.atoiAll at hv
      split at hv
      · cases hv
      · simp only at hv
        split at hv
        · cases hv
        · cases hv
        · split at hv
          · cases hv
          · split at hv
            · cases hv
            · injection hv with hv
              rw [<- hv]
              split <;> omega
    · cases h
  · cases h
end Go.Proofs.YtgbknjdjbahdkaaGreatDoor
namespace Go.Proofs.YtgbknjdjbahdkaaGreatDoor
open Go Go.Proofs.YtgbknjdjbahdkaaGreatDoor.Sx
def cuts (c : UInt8) (acc : List UInt8) : List UInt8 -> List (List UInt8)
  | [] => [acc]
  | x :: r => if x = c then acc :: cuts c [] r else cuts c (acc ++ [x]) r
theorem cuts_none {c : UInt8} : ∀ {l acc : List UInt8}, (∀ x ∈ l, x ≠ c) -> cuts c acc l = [acc ++ l]
  | [], acc, _ => by rw [cuts, List.append_nil]
  | x :: r, acc, h => by
    rw [cuts, if_neg (h x (List.mem_cons_self ..)), cuts_none (fun y hy => h y (List.mem_cons_of_mem _ hy)), List.append_assoc]
    rfl
theorem cuts_dot {c : UInt8} : ∀ {a acc b : List UInt8}, (∀ x ∈ a, x ≠ c) -> cuts c acc (a ++ c :: b) = (acc ++ a) :: cuts c [] b
  | [], acc, b, _ => by rw [List.nil_append, cuts, if_pos rfl, List.append_nil]
  | x :: r, acc, b, h => by
    rw [List.cons_append, cuts, if_neg (h x (List.mem_cons_self ..)), cuts_dot (fun y hy => h y (List.mem_cons_of_mem _ hy)), List.append_assoc]
    rfl
theorem cuts_flat {c : UInt8} : ∀ (l acc : List UInt8), (cuts c acc l).flatten = acc ++ l.filter (fun x => x != c)
  | [], acc => by simp [cuts]
  | x :: r, acc => by
    rw [cuts]
    by_cases h : x = c
    · rw [if_pos h, List.flatten_cons, cuts_flat r]
      simp [h]
    · rw [if_neg h, cuts_flat r]
      simp [h]
theorem cuts_ne {c : UInt8} (l acc : List UInt8) : cuts c acc l ≠ [] := by
  induction l generalizing acc with
  | nil => simp [cuts]
  | cons x r ih => rw [cuts]; split <;> simp [ih]
theorem cuts_len {c : UInt8} : ∀ (l acc : List UInt8), (cuts c acc l).length = l.count c + 1
  | [], acc => rfl
  | x :: r, acc => by
    rw [cuts]
    by_cases h : x = c
    · rw [if_pos h, List.length_cons, cuts_len r, h, List.count_cons_self]
    · rw [if_neg h, cuts_len r, List.count_cons_of_ne h]
end Go.Proofs.YtgbknjdjbahdkaaGreatDoor
namespace Go.Proofs.YtgbknjdjbahdkaaGreatDoor
open Go Go.Proofs.YtgbknjdjbahdkaaGreatDoor.Sx
theorem tdOk_eq (s : ByteArray) : tdOk s = (numOk (strip (filt s.data.toList)) && (decOk (cand s.data.toList) && decide (decT (cand s.data.toList) = s))) := by
  unfold tdOk
  cases h1 : decOk (cand s.data.toList) with
  | false => simp
  | true =>
    by_cases h2 : decT (cand s.data.toList) = s
    · have h3 := (cand_decT (d := cand s.data.toList) rfl h1).2
      rw [h2] at h3
      rw [h3, decide_eq_true h2]; rfl
    · rw [decide_eq_false h2]; simp
theorem spec_l07Dec_a {w : World} {xs : List Value} {b : Bool} {z : List Int} {s : Int} (h : Reps w xs [.bool b, .ints z]) :
    Ret P n_spec_l07Dec [.agg ⟨xs⟩, .int .i64 s] w fun v w' => ∃ vs, v = .tuple #[.agg ⟨vs⟩, .bool (decOk [.bool b, .ints z, .int s])] /\ Reps w' vs (if decOk [.bool b, .ints z, .int s] then [.bool b, .ints z, .int s] else zeroDec) /\ Ext w w' := by
  obtain ⟨a0, ap, an, ac, az, rfl, hd, ha⟩ := open_Signed h rfl
  simp only [List.cons.injEq, D0.bool.injEq, D0.ints.injEq, and_true] at hd
  obtain ⟨rfl, rfl⟩ := hd
  refine spec_l07Dec_ret ?_
  unfold spec_l07Dec
  intro r w1 hn1 r1 w2 hn2
  have k1 := hn1.blk.ext hn2.ext
  refine ⟨_, _, _, _, k1.loadA0 (by kernel_rfl), ?_⟩
  intro r2 w3 hn3
  have e1 := hn1.r_eq; have e2 := hn2.r_eq; have z1 := hn1.size
  obtain ⟨w4, st4, hb4, y4⟩ := hn3.fill (P := P) (t := T_impl_Dec) (xs := [.bool b, .slice ap an ac, .int .i64 s]) (by simp [Value.oneCell']) (by kernel_rfl) rfl
  have X := (hn1.ext.trans hn2.ext).trans y4
  refine ⟨w4, st4, _, _, _, _, _, hb4.loadA0 (by kernel_rfl), ?_⟩
  have hm' : Reps w4 [.bool b, .slice ap an ac, .int .i64 s] [.bool b, .ints z, .int s] := ⟨rfl, ⟨_, _, _, rfl, ha.ext X⟩, rfl, trivial⟩
  refine Ret.at (spec_DecOk_c hm' rfl) ?_
  rintro v w5 ⟨hv, y5⟩
  subst hv
  have hb2 := (hn2.blk.ext y4).ext y5
  refine ⟨_, rfl, ifN (fun hno => ?_) (fun hyes => ?_)⟩
  · obtain ⟨w6, st6, hb6, ch, sz⟩ := hb2.storeA0 (P := P) (t := T_impl_Dec) (xs := [.bool false, .slice none 0 0, .int .i64 0]) (by kernel_rfl) rfl (by simp [Value.oneCell'])
    have Z : Ext w w6 := (X.trans y5).chg ch (by simp; omega)
    refine ⟨w6, st6, _, _, _, _, _, hb6.loadA0 (by kernel_rfl), [.bool false, .slice none 0 0, .int .i64 0], by rw [hno], ?_, Z⟩
    rw [hno]
    exact ⟨rfl, ⟨_, _, _, rfl, IntsR.nil w6 none (by omega)⟩, rfl, trivial⟩
  · obtain ⟨w6, st6, hb6, ch, sz⟩ := hb2.storeA0 (P := P) (t := T_impl_Dec) (xs := [.bool b, .slice ap an ac, .int .i64 s]) (by kernel_rfl) rfl (by simp [Value.oneCell'])
    have Z : Ext w w6 := (X.trans y5).chg ch (by simp; omega)
    refine ⟨_, _, _, _, _, (hb4.ext y5).loadA0 (by kernel_rfl), w6, st6, _, _, _, _, _, hb6.loadA0 (by kernel_rfl), [.bool b, .slice ap an ac, .int .i64 s], by rw [hyes], ?_, Z⟩
    rw [hyes, if_pos rfl]
    exact ⟨rfl, ⟨_, _, _, rfl, ha.ext Z⟩, rfl, trivial⟩
theorem strip_one {l : List UInt8} (h : l.length <= 1) : strip l = l := by
  match l, h with
  | [], _ => rfl
  | [_], _ => rfl
theorem filt_one (c : UInt8) : filt [c] = if c ≠ 46 /\ c ≠ 45 then [c] else [] := by
  unfold filt
  by_cases h1 : c = 46
  · subst h1; rfl
  · by_cases h2 : c = 45
    · subst h2; rfl
    · rw [if_pos ⟨h1, h2⟩]; simp [h1, h2]
theorem byte_eq {c d : UInt8} : (((c.toNat : Nat) : Int) = ((d.toNat : Nat) : Int)) ↔ c = d := by
  rw [<- UInt8.toNat_inj]; omega
theorem spec_TextDec_c {w : World} (s : ByteArray) (hs : s.size <= 4611686018427387904) : Ret P n_spec_TextDec [.string s] w fun v w' => ∃ vs, v = .tuple #[.agg ⟨vs⟩, .bool (tdOk s)] /\ Reps w' vs (if tdOk s then cand s.data.toList else zeroDec) /\ Ext w w' := by
  obtain ⟨l, hl⟩ : ∃ l, s.data.toList = l := ⟨_, rfl⟩
  have hsl : s.size = l.length := by rw [ba_size, hl]
  have htd := tdOk_eq s
  refine spec_TextDec_ret ?_
  unfold spec_TextDec
  intro r w1 hn1
  have e1 := hn1.r_eq; have z1 := hn1.size
  have zero : ∀ W, Ext w W -> Blk W r T_impl_Dec [.bool false, .slice none 0 0, .int .i64 0] -> tdOk s = false -> ∃ wv_7, Stores P T_impl_Dec ⟨r, 0, none⟩ (.agg #[(.bool false), (.slice none 0 0), (.int .i64 0)]) W wv_7 /\
      ∃ (r0 : Bool) (r1_p : Option Addr) (r1_n : Nat) (r1_c : Nat) (r2 : Int), Loads P T_impl_Dec ⟨r, 0, none⟩ (.agg #[(.bool r0), (.slice r1_p r1_n r1_c), (.int .i64 r2)]) wv_7 /\ ∃ vs, (Value.tuple #[(.agg #[(.bool r0), (.slice r1_p r1_n r1_c), (.int .i64 r2)]), (.bool false)]) = .tuple #[.agg ⟨vs⟩, .bool (tdOk s)] /\ Reps wv_7 vs (if tdOk s then cand s.data.toList else zeroDec) /\ Ext w wv_7 := by
    intro W hW hb hno
    obtain ⟨w6, st6, hb6, ch, sz⟩ := hb.storeA0 (P := P) (t := T_impl_Dec) (xs := [.bool false, .slice none 0 0, .int .i64 0]) (by kernel_rfl) rfl (by simp [Value.oneCell'])
    refine ⟨w6, st6, _, _, _, _, _, hb6.loadA0 (by kernel_rfl), [.bool false, .slice none 0 0, .int .i64 0], by rw [hno], ?_, hW.chg ch (by simp; omega)⟩
    rw [hno]
    exact ⟨rfl, ⟨_, _, _, rfl, IntsR.nil w6 none (by omega)⟩, rfl, trivial⟩
  have fin : ∀ (W : World) (rd : Nat) (ok : Bool) (D : List D0) (c0 : Bool) (p : Option Addr) (n c : Nat) (t : Int), Ext w W -> Blk W r T_impl_Dec [.bool false, .slice none 0 0, .int .i64 0] -> Blk W rd T_impl_Dec [.bool c0, .slice p n c, .int .i64 t] -> rd ≠ r -> Reps W [.bool c0, .slice p n c, .int .i64 t] (if decOk D then D else zeroDec) -> D.map D0.code = [.bool, .ints, .int] -> ok = numOk (strip (filt l)) -> (ok = true -> D = cand l) -> spec_TextDec_j1 s r ok (some ⟨rd, 0, none⟩) (decOk D) W fun v w' => ∃ vs, v = .tuple #[.agg ⟨vs⟩, .bool (tdOk s)] /\ Reps w' vs (if tdOk s then cand s.data.toList else zeroDec) /\ Ext w w' := by
    intro W rd ok D c0 p n c t hW hb hd hne hr hcd hok hD
    rw [hl] at htd
    unfold spec_TextDec_j1
    refine ifN (fun hno => ifT (ifT (zero W hW hb ?_))) (fun hyes => ifN (fun hno => ifT (zero W hW hb ?_)) (fun hdo => ?_))
    · rw [htd, <- hok, hno]; rfl
    · rw [htd, <- hD hyes, hno, Bool.false_and, Bool.and_false]
    · rw [hdo, if_pos rfl] at hr
      refine ⟨_, _, _, _, _, hd.loadA0 (by kernel_rfl), ?_⟩
      refine Ret.at (spec_DecText_c hr hcd) ?_
      rintro v w2 ⟨hv, y2⟩
      subst hv
      have htd2 : tdOk s = decide (decT D = s) := by rw [htd, <- hok, hyes, <- hD hyes, hdo]; rfl
      refine ⟨_, rfl, ifD (fun hne2 => zero w2 (hW.trans y2) (hb.ext y2) (by rw [htd2]; exact decide_eq_false hne2)) (fun heq => ?_)⟩
      have heq : decT D = s := by simpa using heq
      obtain ⟨w6, st6, hb6, ch, sz⟩ := (hb.ext y2).storeA0 (P := P) (t := T_impl_Dec) (xs := [.bool c0, .slice p n c, .int .i64 t]) (by kernel_rfl) rfl (by simp [Value.oneCell'])
      have hyes2 : tdOk s = true := by rw [htd2]; exact decide_eq_true heq
      refine ⟨_, _, _, _, _, (hd.ext y2).loadA0 (by kernel_rfl), w6, st6, _, _, _, _, _, hb6.loadA0 (by kernel_rfl), [.bool c0, .slice p n c, .int .i64 t], by rw [hyes2], ?_, (hW.trans y2).chg ch (by simp; omega)⟩
      rw [hyes2, if_pos rfl, hl]
      rw [hD hyes] at hr
      obtain ⟨h0, ⟨q1, q2, q3, hq, hi⟩, h2, _⟩ := hr
      exact ⟨h0, ⟨q1, q2, q3, hq, IntsR.store3 (hb.ext y2) (hi.ext y2) ch⟩, h2, trivial⟩
  -- behind the loops
  have run : ∀ (dg : ByteArray) (sc : Nat), dg.data.toList = strip (filt l) -> sc = scaleG 0 l -> dg.size <= 9000000000000000000 -> Ret P n_spec_TextNat [.string dg] w1 fun v w3 => ∃ p n c, v = .tuple #[.slice p n c, .bool (numOk (strip (filt l)))] /\ IntsR w3 p n c (if numOk (strip (filt l)) then digs (digV (strip (filt l))) else []) /\ Ext w1 w3 := by
    intro dg sc h1 h2 h3
    have := spec_TextNat_c (w := w1) dg h3
    rw [h1] at this
    exact this
  have fin2 : ∀ (w3 : World) (p : Option Addr) (n c : Nat) (neg : Bool) (z : List Int), Ext w1 w3 -> IntsR w3 p n c z -> z = (if numOk (strip (filt l)) then digs (digV (strip (filt l))) else []) -> neg = decide (l.head? = some 45) -> Ret P n_spec_l07Dec [.agg ⟨[.bool neg, .slice p n c]⟩, .int .i64 (scaleG 0 l : Nat)] w3 fun v w4 => ∃ c0 p2 n2 c2 t, v = .tuple #[.agg ⟨[.bool c0, .slice p2 n2 c2, .int .i64 t]⟩, .bool (decOk [.bool neg, .ints z, .int (scaleG 0 l : Nat)])] /\ ∀ (rd : Nat) (w5 : World), New w4 (.cells ⟨[(.bool false), (.slice none 0 0), (.int .i64 0)]⟩ T_impl_Dec (0, 0)) rd w5 ->
      ∃ wv_6, Stores P T_impl_Dec ⟨rd, 0, none⟩ (.agg #[.bool c0, .slice p2 n2 c2, .int .i64 t]) w5 wv_6 /\ spec_TextDec_j1 s r (numOk (strip (filt l))) (some ⟨rd, 0, none⟩) (decOk [.bool neg, .ints z, .int (scaleG 0 l : Nat)]) wv_6 fun v w' => ∃ vs, v = .tuple #[.agg ⟨vs⟩, .bool (tdOk s)] /\ Reps w' vs (if tdOk s then cand s.data.toList else zeroDec) /\ Ext w w' := by
    intro w3 p n c neg z hx hi hz hneg
    have hrp : Reps w3 [.bool neg, .slice p n c] [.bool neg, .ints z] := ⟨rfl, ⟨_, _, _, rfl, hi⟩, trivial⟩
    refine (spec_l07Dec_a (b := neg) (z := z) (s := (scaleG 0 l : Nat)) hrp).mono ?_
    rintro v w4 ⟨vs, hv, hr, y4⟩
    have hcd : (if decOk [.bool neg, .ints z, .int (scaleG 0 l : Nat)] then [D0.bool neg, .ints z, .int (scaleG 0 l : Nat)] else zeroDec).map D0.code = [.bool, .ints, .int] := by split <;> rfl
    obtain ⟨c0, p2, n2, c2, z2, t, rfl, _, _⟩ := open_Dec hr hcd
    refine ⟨c0, p2, n2, c2, t, hv, ?_⟩
    intro rd w5 hn5
    have e5 := hn5.r_eq
    have l1 := hx.le; have l4 := y4.le
    obtain ⟨w6, st6, hb6, y6⟩ := hn5.fill (P := P) (t := T_impl_Dec) (xs := [.bool c0, .slice p2 n2 c2, .int .i64 t]) (by simp [Value.oneCell']) (by kernel_rfl) rfl
    refine ⟨w6, st6, fin w6 rd _ _ c0 p2 n2 c2 t (((hn1.ext.trans hx).trans y4).trans y6) (((hn1.blk.ext hx).ext y4).ext y6) hb6 (by omega) (hr.ext y6) rfl rfl (fun hyes => ?_)⟩
    rw [hz, hyes, if_pos rfl, hneg]; rfl
  have negEq : ∀ (h0 : 0 < l.length), decide ((((l[0]'h0).toNat : Nat) : Int) = 45) = decide (l.head? = some 45) := fun h0 => by
    cases l with
    | nil => cases h0
    | cons c r => exact decide_eq_decide.2 (by
        show ((c.toNat : Nat) : Int) = (((45 : UInt8).toNat : Nat) : Int) ↔ _
        rw [byte_eq]; simp)
  obtain ⟨Inv, hI⟩ : ∃ I : ByteArray -> Int -> Int -> World -> Prop, ∀ dg sc i W, I dg sc i W ↔ ∃ (j k : Nat), i = j /\ j <= l.length /\ sc = (k : Int) /\ dg.data.toList = filt (l.take j) /\ scaleG k (l.drop j) = scaleG 0 l /\ W = w1 := ⟨_, fun _ _ _ _ => Iff.rfl⟩
  obtain ⟨mu, hmu⟩ : ∃ m : ByteArray -> Int -> Int -> World -> Nat, ∀ dg sc i W, m dg sc i W = l.length - i.toNat := ⟨fun _ _ i _ => l.length - i.toNat, fun _ _ _ _ => rfl⟩
  refine ⟨Inv, mu, (hI _ _ _ _).2 ⟨0, 0, rfl, by omega, rfl, rfl, rfl, rfl⟩, ?_⟩
  intro junk wr dg sc i hinv
  obtain ⟨j, k, hij, hj, hk, hdg, hsc, hW⟩ := (hI _ _ _ _).1 hinv
  subst hij; subst hk
  rw [hW]
  clear hinv hW
  have hfl : ∀ m : List UInt8, (filt m).length <= m.length := fun m => List.length_filter_le _ m
  have hdl : dg.size <= j := by
    rw [ba_size, hdg]
    refine Nat.le_trans (hfl _) ?_
    rw [List.length_take]; omega
  refine ifD (fun hlt => ?_) (fun hge => ?_)
  · have hjl : j < l.length := by omega
    have hb : s[((j : Nat) : Int).toNat]? = some (l[j]'hjl) := by subst hl; exact ba_get hjl
    have htk := List.take_succ_eq_append_getElem hjl
    have hdr : l.drop j = l[j]'hjl :: l.drop (j + 1) := List.drop_eq_getElem_cons hjl
    rw [hdr, scaleG] at hsc
    have next : ∀ (dg2 : ByteArray) (k2 : Nat), dg2.data.toList = filt (l.take j) ++ filt [l[j]'hjl] -> scaleG k2 (l.drop (j + 1)) = scaleG 0 l -> ∀ R, spec_TextDec_j0 w1 Inv mu dg (k : Int) (j : Int) dg2 (k2 : Int) w1 R := by
      intro dg2 k2 h1 h2 R
      unfold spec_TextDec_j0
      refine exW ⟨by omega, by omega⟩ ⟨(hI _ _ _ _).2 ⟨j + 1, k2, rfl, by omega, rfl, by rw [htk, filt_append]; exact h1, h2, rfl⟩, by rw [hmu, hmu]; omega⟩
    refine ⟨by omega, l[j]'hjl, hb, ifD (fun h46 => ?_) (fun h46 => ⟨by omega, l[j]'hjl, hb, ifD (fun h45 => ?_) (fun h45 => ?_)⟩)⟩
    · have hc : l[j]'hjl = 46 := byte_eq.1 h46
      have e : ((s.size : Nat) : Int) - 1 - (j : Int) = ((l.length - 1 - j : Nat) : Int) := by omega
      refine exW ⟨by omega, by omega⟩ (exW ⟨by omega, by omega⟩ ?_)
      rw [e]
      rw [if_pos hc, List.length_drop, show l.length - (j + 1) = l.length - 1 - j from by omega] at hsc
      refine next dg _ ?_ hsc _
      rw [hdg, hc]
      show _ = filt (l.take j) ++ []
      rw [List.append_nil]
    · have hc : l[j]'hjl ≠ 46 := fun hc => h46 (by rw [hc]; rfl)
      have hc2 : l[j]'hjl ≠ 45 := fun hc2 => h45 (by rw [hc2]; rfl)
      rw [if_neg hc] at hsc
      have hex : (s.extract (j : Int).toNat ((j : Int) + 1).toNat).data.toList = [l[j]'hjl] := by
        rw [ByteArray.data_extract, Array.toList_extract, hl, List.extract_eq_take_drop, Int.toNat_natCast, show ((j : Int) + 1).toNat - j = 1 from by omega, hdr]
        rfl
      refine exW ⟨by omega, by omega⟩ ⟨⟨by omega, by omega⟩, ⟨by omega, by omega⟩, ?_, _, rfl, next _ _ ?_ hsc _⟩
      · rw [ba_size (s.extract _ _), hex]
        show dg.size + 1 <= _
        omega
      · rw [ByteArray.data_append, Array.toList_append, hdg, hex, filt_one, if_pos ⟨hc, hc2⟩]
    · have hc2 : l[j]'hjl = 45 := by
        have : (((l[j]'hjl).toNat : Nat) : Int) = 45 := by simpa using h45
        exact byte_eq.1 this
      have hc : l[j]'hjl ≠ 46 := fun hc => h46 (by rw [hc]; rfl)
      rw [if_neg hc] at hsc
      refine next dg _ ?_ hsc _
      rw [hdg, hc2]
      show _ = filt (l.take j) ++ []
      rw [List.append_nil]
  · have hjn : j = l.length := by omega
    rw [hjn, List.drop_length, scaleG] at hsc
    rw [hjn, List.take_length] at hdg
    subst hsc
    refine ⟨fun dg2 W => strip dg2.data.toList = strip (filt l) /\ dg2.size <= l.length /\ W = w1, fun dg2 _ => dg2.size, ⟨by rw [hdg], by omega, rfl⟩, ?_⟩
    intro junk1 W dg2 ⟨hst, hsz, hW2⟩
    rw [hW2]
    have hgl : dg2.size = dg2.data.toList.length := ba_size dg2
    have s0 : ∀ (h0 : 0 < l.length), s[0]? = some (l[0]'h0) := fun h0 => by subst hl; exact ba_get (i := 0) h0
    refine ifD (fun h1 => ?_) (fun h1 => ifF ?_)
    · have h0 : 0 < dg2.data.toList.length := by omega
      refine ⟨by omega, dg2.data.toList[0]'h0, ba_get (i := 0) h0, ifD (fun h48 => ?_) (fun h48 => ?_)⟩
      · have hc : dg2.data.toList[0]'h0 = 48 := byte_eq.1 h48
        have hex : (dg2.extract 1 dg2.size).data.toList = dg2.data.toList.drop 1 := by
          rw [ByteArray.data_extract, Array.toList_extract, List.extract_eq_take_drop, List.take_of_length_le (by rw [List.length_drop]; omega)]
        have hes : (dg2.extract 1 dg2.size).size = dg2.size - 1 := by rw [ba_size, hex, List.length_drop, hgl]
        refine ⟨⟨by omega, by omega⟩, ⟨?_, by omega, rfl⟩, by show (dg2.extract 1 dg2.size).size < dg2.size; omega⟩
        rw [hex, <- hst]
        obtain ⟨a, b, r2, hlist⟩ : ∃ a b r2, dg2.data.toList = a :: b :: r2 := by
          match h : dg2.data.toList, h0, hgl with
          | [], h0, _ => cases h0
          | [a], _, hgl => simp at hgl; omega
          | a :: b :: r2, _, _ => exact ⟨a, b, r2, rfl⟩
        have ha : a = 48 := by
          rw [<- hc]
          simp [hlist]
        rw [hlist, ha, strip, if_pos rfl]
        rfl
      · have hdone : dg2.data.toList = strip (filt l) := by
          rw [<- hst]
          obtain ⟨a, b, r2, hlist⟩ : ∃ a b r2, dg2.data.toList = a :: b :: r2 := by
            match h : dg2.data.toList, h0, hgl with
            | [], h0, _ => cases h0
            | [a], _, hgl => simp at hgl; omega
            | a :: b :: r2, _, _ => exact ⟨a, b, r2, rfl⟩
          have ha : a ≠ 48 := fun ha => h48 (by
            have : dg2.data.toList[0]'h0 = 48 := by simp [hlist, ha]
            rw [this]; rfl)
          rw [hlist, strip, if_neg ha]
        refine Ret.at (run dg2 _ hdone rfl (by omega)) ?_
        rintro v w3 ⟨p, n, c, hv, hi, y3⟩
        subst hv
        refine ⟨_, _, _, _, rfl, ifD (fun hp => ⟨by omega, _, s0 (by omega), ?_⟩) (fun hp => ?_)⟩
        · refine Ret.at (fin2 w3 p n c _ _ y3 hi rfl (negEq (by omega))) ?_
          rintro v w4 ⟨c0, p2, n2, c2, t, hv, hgo⟩
          subst hv
          exact ⟨_, _, _, _, _, _, rfl, hgo⟩
        · have hl0 : l = [] := List.length_eq_zero_iff.1 (by omega)
          refine Ret.at (fin2 w3 p n c false _ y3 hi rfl (by rw [hl0]; rfl)) ?_
          rintro v w4 ⟨c0, p2, n2, c2, t, hv, hgo⟩
          subst hv
          exact ⟨_, _, _, _, _, _, rfl, hgo⟩
    · have hdone : dg2.data.toList = strip (filt l) := by rw [<- hst, strip_one (by omega)]
      refine Ret.at (run dg2 _ hdone rfl (by omega)) ?_
      rintro v w3 ⟨p, n, c, hv, hi, y3⟩
      subst hv
      refine ⟨_, _, _, _, rfl, ifD (fun hp => ⟨by omega, _, s0 (by omega), ?_⟩) (fun hp => ?_)⟩
      · refine Ret.at (fin2 w3 p n c _ _ y3 hi rfl (negEq (by omega))) ?_
        rintro v w4 ⟨c0, p2, n2, c2, t, hv, hgo⟩
        subst hv
        refine ⟨_, _, _, _, _, _, rfl, fun rd w5 h5 => ?_⟩
        obtain ⟨w6, st6, h6⟩ := hgo rd w5 h5
        refine ⟨w6, st6, ?_⟩
        unfold spec_TextDec_j1 at h6
        unfold spec_TextDec_j2
        exact h6
      · have hl0 : l = [] := List.length_eq_zero_iff.1 (by omega)
        refine Ret.at (fin2 w3 p n c false _ y3 hi rfl (by rw [hl0]; rfl)) ?_
        rintro v w4 ⟨c0, p2, n2, c2, t, hv, hgo⟩
        subst hv
        refine ⟨_, _, _, _, _, _, rfl, fun rd w5 h5 => ?_⟩
        obtain ⟨w6, st6, h6⟩ := hgo rd w5 h5
        refine ⟨w6, st6, ?_⟩
        unfold spec_TextDec_j1 at h6
        unfold spec_TextDec_j2
        exact h6
end Go.Proofs.YtgbknjdjbahdkaaGreatDoor
namespace Go.Proofs.YtgbknjdjbahdkaaGreatDoor
open Go Go.Proofs.YtgbknjdjbahdkaaGreatDoor.Sx
def dgI (l : List UInt8) : List UInt8 := if l.head? = some 45 then l.drop 1 else l
def partsI (l : List UInt8) : List (List UInt8) := cuts 46 [] (dgI l)
def scI (l : List UInt8) : Nat := if (partsI l).length = 2 then ((partsI l).getD 1 []).length else 0
def whI (l : List UInt8) : List UInt8 := strip ((dgI l).filter (fun x => x != 46))
def candI (l : List UInt8) : List D0 := [.bool (decide (l.head? = some 45) && !(digs (digV (whI l))).isEmpty), .ints (digs (digV (whI l))), .int (scI l : Nat)]
def okI (l : List UInt8) : Bool := decide ((partsI l).length <= 2) && decide ((dgI l).length <= 100) && numOk (whI l)
theorem filter_dig {D : List UInt8} (h : D.all isDig = true) : D.filter (fun x => x != 46) = D := by
  rw [List.filter_eq_self]
  intro c hc
  have := dig_ne (List.all_eq_true.1 h c hc)
  simp [this.1]
theorem filter_body {D : List UInt8} {s : Nat} (h : D.all isDig = true) : (body D s).filter (fun x => x != 46) = D := by
  unfold body
  split
  · exact filter_dig h
  · have h1 : (D.take (D.length - s)).all isDig = true := List.all_eq_true.2 fun c hc => List.all_eq_true.1 h c (List.mem_of_mem_take hc)
    have h2 : (D.drop (D.length - s)).all isDig = true := List.all_eq_true.2 fun c hc => List.all_eq_true.1 h c (List.mem_of_mem_drop hc)
    rw [List.filter_append, filter_dig h1]
    show _ ++ (D.drop (D.length - s)).filter (fun x => x != 46) = D
    rw [filter_dig h2, List.take_append_drop]
theorem cuts_body {D : List UInt8} {s : Nat} (h : D.all isDig = true) (hs : s < D.length) : (cuts 46 [] (body D s)).length <= 2 /\ (if (cuts 46 [] (body D s)).length = 2 then ((cuts 46 [] (body D s)).getD 1 []).length else 0) = s := by
  have h0 : ∀ c ∈ D, c ≠ 46 := fun c hc => (dig_ne (List.all_eq_true.1 h c hc)).1
  unfold body
  split
  · rename_i hz
    rw [cuts_none h0]
    exact ⟨by simp, by simp [hz]⟩
  · rw [cuts_dot (fun c hc => h0 c (List.mem_of_mem_take hc)), cuts_none (fun c hc => h0 c (List.mem_of_mem_drop hc))]
    refine ⟨by simp, ?_⟩
    simp
    omega
theorem readI_yes {s : ByteArray} (h : tdOk s = true) : okI s.data.toList = true /\ candI s.data.toList = cand s.data.toList /\ decT (candI s.data.toList) = s := by
  obtain ⟨l, hl⟩ : ∃ l, s.data.toList = l := ⟨_, rfl⟩
  unfold tdOk at h
  rw [hl] at h ⊢
  simp only [Bool.and_eq_true, decide_eq_true_eq] at h
  obtain ⟨hok, hT⟩ := h
  obtain ⟨m, t, k, hz, ht, ht30, hb, hm, hall, hlt, hle, e⟩ := decT_shape (b := decide (l.head? = some 45)) (z := digs (digV (strip (filt l)))) (s := (scaleG 0 l : Nat)) hok
  have e2 : l = (if decide (l.head? = some 45) = true then [45] else []) ++ body (List.replicate k 48 ++ Lib.decDigits m) t := by
    rw [<- e]
    show l = (decT (cand l)).data.toList
    rw [hT, hl]
  have hd : dgI l = body (List.replicate k 48 ++ Lib.decDigits m) t := by
    unfold dgI
    by_cases h45 : l.head? = some 45
    · rw [if_pos h45]
      rw [decide_eq_true h45, if_pos rfl] at e2
      rw [e2]; rfl
    · rw [if_neg h45]
      rw [decide_eq_false h45, if_neg (by decide), List.nil_append] at e2
      exact e2
  obtain ⟨c1, c2⟩ := cuts_body hall hlt
  have hw : whI l = Lib.decDigits m := by
    unfold whI
    rw [hd, filter_body hall, strip_zeros]
  have hc : candI l = cand l := by
    unfold candI cand scI partsI
    rw [hw, hd, c2, digV_dec, hz, ht, sgn_digs hb]
  refine ⟨?_, hc, by rw [hc]; exact hT⟩
  unfold okI partsI
  rw [hw, hd, decide_eq_true c1, decide_eq_true (Nat.le_trans (body_len) (by omega)), numOk_dec (by rw [List.length_append] at hle; omega)]
  rfl
theorem readI_ok {s : ByteArray} (h1 : okI s.data.toList = true) (h2 : decT (candI s.data.toList) = s) : tdOk s = true := by
  obtain ⟨l, hl⟩ : ∃ l, s.data.toList = l := ⟨_, rfl⟩
  rw [hl] at h1 h2
  have hd : decOk (candI l) = true := by
    cases e : decOk (candI l) with
    | true => rfl
    | false =>
      have h3 : decT (candI l) = S [] := by
        show (if decOk (candI l) then _ else S []) = _
        rw [e]
        rfl
      rw [h2] at h3
      have h4 : l = [] := by rw [<- hl, h3]
      subst h4
      exact absurd h1 (by decide)
  have h3 := (cand_decT (d := candI l) rfl hd).1
  rw [h2, hl] at h3
  unfold tdOk
  rw [hl, h3, hd, decide_eq_true h2]; rfl
end Go.Proofs.YtgbknjdjbahdkaaGreatDoor
namespace Go.Proofs.YtgbknjdjbahdkaaGreatDoor
open Go Go.Proofs.YtgbknjdjbahdkaaGreatDoor.Sx
def StrsR (w : World) (p : Option Addr) (n c : Nat) (l : List ByteArray) : Prop :=
 l.length = n /\ n <= c /\ c <= 9223372036854775807 /\ (0 < n -> ∃ b off, p = some ⟨b, off, none⟩ /\ Seg w b off (l.map Value.string))
theorem StrsR.ext {w w' : World} {p : Option Addr} {n c : Nat} {l : List ByteArray} (h : StrsR w p n c l) (he : Ext w w') : StrsR w' p n c l :=
  ⟨h.1, h.2.1, h.2.2.1, fun hn => let ⟨b, off, hp, hs⟩ := h.2.2.2 hn; ⟨b, off, hp, hs.ext he⟩⟩
theorem StrsR.at {P : Program} {w : World} {p : Option Addr} {n c k : Nat} {l : List ByteArray} (h : StrsR w p n c l) {t : TypeId} (ht : cellT P t = true) (hk : k < n) :
    ∃ a, p = some a /\ Loads P t (a.add (k * 1)) (.string (l[k]'(by rw [h.1]; exact hk))) w := by
  obtain ⟨b, off, hp, hs⟩ := h.2.2.2 (by omega)
  refine ⟨_, hp, ?_⟩
  rw [Nat.mul_one]
  exact hs.load ht (by simp [List.getElem?_eq_getElem (by rw [h.1]; exact hk : k < l.length)])
theorem own_strs {w : World} {base : Nat} {e : TypeId} {p : Option Addr} {n c : Nat} {l : List ByteArray} (h : Own w base e 1 p n c (l.map Value.string)) : StrsR w p n c l :=
  ⟨by simpa using h.len, h.le, h.capLe, fun hn => let ⟨b, hp, _, hs⟩ := h.seg hn; ⟨b, 0, hp, hs⟩⟩
theorem sliceT_string : sliceT P T_s_string T_string (.string ByteArray.empty) 1 16 := ⟨by kernel_rfl, by kernel_rfl, rfl, by decide⟩
def joinT (by' : ByteArray) (l : List ByteArray) : ByteArray := ⟨(Lib.join (l.map (·.data.toList)) by'.data.toList).toArray⟩
theorem joinT_nil (b : ByteArray) : joinT b [] = ByteArray.empty := rfl
theorem joinT_one (b x : ByteArray) : joinT b [x] = x := ba_ext (by simp [joinT, Lib.join_one])
theorem joinT_snoc {b x : ByteArray} : ∀ {l : List ByteArray}, l ≠ [] -> joinT b (l ++ [x]) = (joinT b l ++ b) ++ x
  | [], h => absurd rfl h
  | y :: r, _ => ba_ext (by simp [joinT, Lib.join_cons, Lib.joinTail])
theorem joinT_size {b : ByteArray} {k : Nat} : ∀ {l : List ByteArray}, (∀ x ∈ l, x.size <= k) -> (joinT b l).size <= l.length * (k + b.size) := by
  intro l
  have key : ∀ (n : Nat) (l : List ByteArray), l.length = n -> (∀ x ∈ l, x.size <= k) -> (joinT b l).size <= l.length * (k + b.size) := by
    intro n
    induction n with
    | zero =>
      intro l hl _
      rw [List.eq_nil_of_length_eq_zero hl, joinT_nil]
      show 0 <= _
      omega
    | succ n ih =>
      intro l hl hx
      have hne : l ≠ [] := by intro e; rw [e] at hl; simp at hl
      have hl2 := List.dropLast_concat_getLast hne
      have hd : l.dropLast.length = n := by simp [hl]
      have h1 := ih l.dropLast hd fun x hx' => hx x ((List.dropLast_sublist l).subset hx')
      have h2 := hx _ (List.getLast_mem hne)
      by_cases h0 : l.dropLast = []
      · rw [h0, List.nil_append] at hl2
        rw [<- hl2, joinT_one]
        simp only [List.length_cons, List.length_nil]
        omega
      · rw [<- hl2, joinT_snoc h0, ByteArray.size_append, ByteArray.size_append, List.length_append, List.length_singleton, hd]
        rw [hd] at h1
        rw [Nat.succ_mul]
        omega
  exact key _ l rfl
theorem spec_Join_c {w : World} {p : Option Addr} {n c : Nat} {l : List ByteArray} (h : StrsR w p n c l) (b : ByteArray) {k : Nat} (hk : ∀ x ∈ l, x.size <= k) (hb : n * (k + b.size) <= 140737488355328) :
    Ret P n_spec_Join [.slice p n c, .string b] w fun v w' => v = .string (joinT b l) /\ Ext w w' := by
  have hz := h.1; have hcap := h.2.1; have hcm := h.2.2.1
  refine spec_Join_ret ?_
  unfold spec_Join
  have fit : ∀ j ≤ n, (joinT b (l.take j)).size <= j * (k + b.size) := fun j hj => by
    have := joinT_size (b := b) (k := k) (l := l.take j) fun x hx => hk x (List.mem_of_mem_take hx)
    rwa [List.length_take, Nat.min_eq_left (by omega)] at this
  have mono : ∀ j ≤ n, j * (k + b.size) <= 140737488355328 := fun j hj => Nat.le_trans (Nat.mul_le_mul_right _ hj) hb
  refine ⟨fun s i wr => ∃ j : Nat, i = j /\ j <= n /\ s = joinT b (l.take j) /\ Ext w wr, fun _ i _ => n - i.toNat, ⟨0, rfl, by omega, rfl, Ext.refl _⟩, ?_⟩
  intro junk wr s i ⟨j, hij, hj, hs, hx⟩
  subst hij
  have hf := fit j hj; have hm := mono j hj
  refine ifD (fun hlt => ?_) (fun hge => ⟨by rw [hs, List.take_of_length_le (by omega)], hx⟩)
  have hjn : j < n := by omega
  have hjl : j < l.length := by omega
  obtain ⟨a, hp', hl⟩ := (h.ext hx).at (P := P) (t := T_string) (by kernel_rfl) hjn
  subst hp'
  have hf1 := fit (j + 1) hjn; have hm1 := mono (j + 1) hjn
  have hjk := hk _ (List.getElem_mem hjl)
  have htk : l.take (j + 1) = l.take j ++ [l[j]'hjl] := by rw [List.take_add_one, List.getElem?_eq_getElem hjl]; rfl
  refine ⟨⟨by omega, by omega⟩, _, by simpa using hl, ifD (fun hpos => ⟨?_, _, rfl, ?_⟩) (fun h0 => ?_)⟩
  · have hj0 : (l.take j) ≠ [] := by
      intro e
      have := congrArg List.length e
      rw [List.length_take, List.length_nil] at this
      omega
    have hsn : joinT b (l.take (j + 1)) = (joinT b (l.take j) ++ b) ++ l[j]'hjl := by rw [htk, joinT_snoc hj0]
    rw [hsn, ByteArray.size_append, ByteArray.size_append] at hf1
    rw [hs]; omega
  · have hj0 : (l.take j) ≠ [] := by
      intro e
      have := congrArg List.length e
      rw [List.length_take, List.length_nil] at this
      omega
    have hsn : joinT b (l.take (j + 1)) = (joinT b (l.take j) ++ b) ++ l[j]'hjl := by rw [htk, joinT_snoc hj0]
    unfold spec_Join_j0
    have hf2 := hf1
    rw [hsn, ByteArray.size_append] at hf2
    refine ⟨?_, _, rfl, exW ⟨by omega, by omega⟩ ⟨⟨j + 1, by omega, by omega, ?_, hx⟩, ?_⟩⟩
    · rw [hs]; omega
    · rw [hsn, hs]
    · show n - ((j : Int) + 1).toNat < n - (j : Int).toNat
      omega
  · have hj0 : j = 0 := by omega
    subst hj0
    have hsn : joinT b (l.take (0 + 1)) = l[0]'hjl := by rw [htk, List.take_zero, List.nil_append, joinT_one]
    have hs0 : s = ByteArray.empty := by rw [hs, List.take_zero]; rfl
    unfold spec_Join_j0
    refine ⟨?_, _, rfl, exW ⟨by omega, by omega⟩ ⟨⟨1, by omega, by omega, ?_, hx⟩, ?_⟩⟩
    · rw [hs0]
      rw [hsn] at hf1
      show 0 + _ <= _
      omega
    · rw [show l.take 1 = l.take (0 + 1) from rfl, hsn, hs0, ba_empty_append]
    · show n - (((0 : Nat) : Int) + 1).toNat < n - ((0 : Nat) : Int).toNat
      omega
theorem X156 : Go.Proofs.Builder.Extra P ren156 where
  sizeBuilder := by kernel_rfl
  liesBuilder := by kernel_rfl
  t5 := lays105.t5
  a5 := lays105.a5
  z5 := lays105.z5
  v5 := lays105.v5
  infoByte := by kernel_rfl
  cellsByte := by kernel_rfl
  sizeByte := by kernel_rfl
  neB5 := by decide
theorem impl_Join_c {w : World} {p : Option Addr} {n c : Nat} {l : List ByteArray} (h : StrsR w p n c l) (b : ByteArray) {k : Nat} (hk : ∀ x ∈ l, x.size <= k) (hb : n * (k + b.size) <= 140737488355328) (hn : n <= 140737488355328) :
    Ret P n_impl_Join [.slice p n c, .string b] w fun v w' => v = .string (joinT b l) /\ Ext w w' := by
  refine impl_Join_ret ?_
  unfold impl_Join
  have hz := h.1; have hcap := h.2.1
  have hsz := joinT_size (b := b) hk
  rw [hz] at hsz
  have hlen : (Lib.join (l.map (·.data.toList)) b.data.toList).length <= 140737488355328 := by
    have : (joinT b l).size = (Lib.join (l.map (·.data.toList)) b.data.toList).length := by simp [joinT, ByteArray.size]
    omega
  rcases Nat.eq_zero_or_pos n with h0 | h0
  · subst h0
    have : l = [] := List.eq_nil_of_length_eq_zero hz
    subst this
    refine (Any.strings_Join_none lays156 X156 p c b w).mono ?_
    rintro e w' ⟨rfl, rfl⟩
    exact ⟨_, rfl, rfl, Ext.refl _⟩
  · obtain ⟨r, o, rfl, hs⟩ := h.2.2.2 h0
    have hcells : ∀ (j : Nat) x, l[j]? = some x -> w.cell? ⟨r, o + j, none⟩ = some (.string x) := fun j x hx => hs j _ (by simp [hx])
    have hbk : r < w.heap.size := World.block_lt_of_cell? w _ (hcells 0 _ (List.getElem?_eq_getElem (by omega)))
    have := Any.strings_Join lays156 X156 r o c l b w hcells hbk (by omega) (by omega) hlen
    rw [hz] at this
    refine this.mono ?_
    rintro e w' ⟨rfl, hx⟩
    exact ⟨_, rfl, rfl, hx⟩
end Go.Proofs.YtgbknjdjbahdkaaGreatDoor
namespace Go.Proofs.YtgbknjdjbahdkaaGreatDoor
open Go Go.Shelf
def ren137 : Ren := ⟨fun x => match x with | 137 => 82 | 217 => 119 | 266 => 149 | n => n, fun x => match x with | 9 => 9 | 5 => 5 | 3 => 3 | n => n, fun x => x⟩
theorem lays137 : Lays.n137 Tryz.prog ren137 := {
  mixed := by kernel_rfl,
  f137 := Tryz.func82.trans (congrArg some (by kernel_rfl)),
  f217 := Tryz.func119.trans (congrArg some (by kernel_rfl)),
  f266 := Tryz.func149.trans (congrArg some (by kernel_rfl)),
  t3 := Tryz.underlying3,
  a3 := Tryz.isAgg3,
  z3 := Tryz.sizeOf3,
  v3 := Tryz.zeroValue3,
  t5 := Tryz.underlying5,
  a5 := Tryz.isAgg5,
  z5 := Tryz.sizeOf5,
  v5 := Tryz.zeroValue5,
  t9 := Tryz.underlying9,
  a9 := Tryz.isAgg9,
  z9 := Tryz.sizeOf9,
  v9 := Tryz.zeroValue9 }
end Go.Proofs.YtgbknjdjbahdkaaGreatDoor
namespace Go.Proofs.YtgbknjdjbahdkaaGreatDoor
open Go Go.Proofs.YtgbknjdjbahdkaaGreatDoor.Sx
theorem sliceT_cut : sliceT P T_s_string T_string (.string ByteArray.empty) 1 16 := ⟨by kernel_rfl, by kernel_rfl, rfl, by decide⟩
theorem index_one (c x : UInt8) : decide ((0 : Int) <= Lib.indexByte [c] x) = decide (x = c) := by
  unfold Lib.indexByte
  by_cases h : c = x
  · subst h; simp
  · have h2 : x ≠ c := fun e => h e.symm
    simp [h, h2, Lib.indexByte]
theorem impl_CutAt_o {w : World} (s : ByteArray) (c : UInt8) (hs : s.size <= 1048576) : Ret P n_impl_CutAt [.string s, .string ⟨#[c]⟩] w fun v w' => ∃ (p : Option Addr) (n k : Nat) (ps : List ByteArray), v = .slice p n k /\ Own w' w.heap.size T_string 1 p n k (ps.map Value.string) /\ ps.map (·.data.toList) = cuts c [] s.data.toList /\ Ext w w' := by
  obtain ⟨l, hl⟩ : ∃ l, s.data.toList = l := ⟨_, rfl⟩
  have hsl : s.size = l.length := by rw [ba_size, hl]
  refine impl_CutAt_ret ?_
  unfold impl_CutAt
  intro r w1 hn1
  obtain ⟨Inv, hI⟩ : ∃ I : Option Addr -> Nat -> Nat -> Int -> Int -> World -> Prop, ∀ p n k a i W, I p n k a i W ↔ ∃ (j b : Nat) (ps : List ByteArray), i = j /\ j <= l.length /\ a = b /\ b <= j /\ n <= j /\ Own W w.heap.size T_string 1 p n k (ps.map Value.string) /\ Ext w W /\ ps.map (·.data.toList) ++ cuts c ((l.take j).drop b) (l.drop j) = cuts c [] l := ⟨_, fun _ _ _ _ _ _ => Iff.rfl⟩
  obtain ⟨mu, hmu⟩ : ∃ m : Option Addr -> Nat -> Nat -> Int -> Int -> World -> Nat, ∀ p n k a i W, m p n k a i W = l.length - i.toNat := ⟨fun _ _ _ _ i _ => l.length - i.toNat, fun _ _ _ _ _ _ => rfl⟩
  have e1 := hn1.r_eq
  refine ⟨Inv, mu, (hI _ _ _ _ _ _).2 ⟨0, 0, [], rfl, by omega, rfl, by omega, by omega, Own.of_blk0 hn1.blk (by omega) (by simp) (by decide), hn1.ext, rfl⟩, ?_⟩
  intro junk wr p n k a i hinv
  obtain ⟨j, b, ps, hij, hj, hab, hbj, hnj, ho, hx, hcut⟩ := (hI _ _ _ _ _ _).1 hinv
  subst hij; subst hab
  have lx := hx.le
  have ext : ∀ (b2 j2 : Nat), (s.extract b2 j2).data.toList = (l.take j2).drop b2 := fun b2 j2 => by
    rw [ByteArray.data_extract, Array.toList_extract, hl, List.extract_eq_take_drop, List.drop_take]
  refine ifD (fun hlt => ?_) (fun hge => ?_)
  · have hjl : j < l.length := by omega
    have hdr : l.drop j = l[j]'hjl :: l.drop (j + 1) := List.drop_eq_getElem_cons hjl
    rw [hdr, cuts] at hcut
    refine ⟨by omega, l[j]'hjl, by subst hl; exact ba_get hjl, ?_⟩
    refine (Any.strings_IndexByte lays137 ⟨#[c]⟩ _ wr).mono ?_
    rintro e w2 ⟨rfl, rfl⟩
    have i1 := index_one c (l[j]'hjl)
    have next : ∀ (p2 : Option Addr) (n2 k2 b2 : Nat) (ps2 : List ByteArray) (W : World), b2 <= j + 1 -> n2 <= j + 1 -> Own W w.heap.size T_string 1 p2 n2 k2 (ps2.map Value.string) -> Ext w W -> ps2.map (·.data.toList) ++ cuts c ((l.take (j + 1)).drop b2) (l.drop (j + 1)) = cuts c [] l -> ∀ R, impl_CutAt_j0 w2 Inv mu p n k (b : Int) (j : Int) p2 n2 k2 (b2 : Int) W R := by
      intro p2 n2 k2 b2 ps2 W h1 h2 h3 h4 h5 R
      unfold impl_CutAt_j0
      exact exW ⟨by omega, by omega⟩ ⟨(hI _ _ _ _ _ _).2 ⟨j + 1, b2, ps2, rfl, by omega, rfl, h1, h2, h3, h4, h5⟩, by rw [hmu, hmu]; omega⟩
    have h8 : (((l[j]'hjl).toNat : Nat) : Int).toNat.toUInt8 = l[j]'hjl := by rw [Int.toNat_natCast]; exact UInt8.ofNat_toNat
    rw [h8]
    refine ⟨_, rfl, fun hy => ?_, fun hn => ?_⟩
    · have hc : l[j]'hjl = c := of_decide_eq_true (i1.symm.trans hy)
      rw [if_pos hc] at hcut
      refine ⟨⟨by omega, by omega⟩, ⟨by omega, by omega⟩, ?_⟩
      intro r1 w3 hn3
      have l3 := hn3.ext.le
      obtain ⟨p', k', w4, ha, ho4, ch, _⟩ := (ho.ext hn3.ext).push1 (P := P) sliceT_cut (by omega) hn3.blk rfl (by simp [Value.oneCell']) (by omega) (by decide)
      refine ⟨p', _, k', w4, ha, exW ⟨by omega, by omega⟩ ?_⟩
      have := next p' (n + 1) k' (j + 1) (ps ++ [s.extract b j]) w4 (by omega) (by omega) (by rw [List.map_append]; exact ho4) ((hx.trans hn3.ext).chg ch fun q hq => (World.ownsRow.lt ho q (by cases p <;> simp_all [Value.ownBlock])).1) (by
        rw [List.map_append, List.append_assoc, <- hcut, List.drop_take_self]
        show _ ++ ([(s.extract b j).data.toList] ++ _) = _
        rw [ext]; rfl)
      exact this _
    · have hc : l[j]'hjl ≠ c := of_decide_eq_false (i1.symm.trans hn)
      rw [if_neg hc, <- take_drop_snoc hbj hjl] at hcut
      exact next p n k b ps _ (by omega) (by omega) ho hx hcut _
  · have hjn : j = l.length := by omega
    rw [hjn, List.drop_length, cuts] at hcut
    refine ⟨⟨by omega, by omega⟩, ?_⟩
    intro r1 w3 hn3
    have l3 := hn3.ext.le
    obtain ⟨p', k', w4, ha, ho4, ch, _⟩ := (ho.ext hn3.ext).push1 (P := P) sliceT_cut (by omega) hn3.blk rfl (by simp [Value.oneCell']) (by omega) (by decide)
    refine ⟨p', _, k', w4, ha, p', n + 1, k', ps ++ [s.extract b s.size], rfl, by rw [List.map_append]; exact ho4, ?_, (hx.trans hn3.ext).chg ch fun q hq => (World.ownsRow.lt ho q (by cases p <;> simp_all [Value.ownBlock])).1⟩
    rw [List.map_append, hl, <- hcut]
    show _ ++ [(s.extract b s.size).data.toList] = _
    rw [ext, hsl]
theorem impl_CutAt_c {w : World} (s : ByteArray) (c : UInt8) (hs : s.size <= 1048576) : Ret P n_impl_CutAt [.string s, .string ⟨#[c]⟩] w fun v w' => ∃ p n k ps, v = .slice p n k /\ StrsR w' p n k ps /\ ps.map (·.data.toList) = cuts c [] s.data.toList /\ Ext w w' :=
  (impl_CutAt_o s c hs).mono fun v w' ⟨p, n, k, ps, h1, h2, h3, h4⟩ => ⟨p, n, k, ps, h1, own_strs h2, h3, h4⟩
end Go.Proofs.YtgbknjdjbahdkaaGreatDoor
