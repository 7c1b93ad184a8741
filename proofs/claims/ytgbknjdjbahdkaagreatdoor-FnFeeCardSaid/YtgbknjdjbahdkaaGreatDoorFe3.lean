/-
  Parts of the proof of fnFee_holds: CBase, CInt, CNum, CNat, CAdd, CMul, SxMark, CDivA, SxPush, CDivB, CSigned, CIntAdd, CSpecInt, CNatOf, CDivC, CGcd, CTen, CDec, CCmp, CScaled, CDecCmp, CCopy, CRat, CRatLaw, CLowS, CSpecDec, CDecMul, CDecLow, CAggE, CRatA.
  Conditions: none.
-/
import Derived.Laws.OwnMore
import Derived.Laws.BytesArg
import Derived.Test.YtgbknjdjbahdkaaGreatDoorFe2
set_option linter.unusedVariables false
set_option linter.unusedSimpArgs false
namespace Go.RowKit
end Go.RowKit

namespace Go.Proofs.YtgbknjdjbahdkaaGreatDoor
open Go Go.Proofs.YtgbknjdjbahdkaaGreatDoor.Sx
theorem ints_at {w : World} {p : Option Addr} {n c : Nat} {zs : List Int} (h : IntsR w p n c zs) {i : Int} (h0 : 0 <= i) (h1 : i < n) :
    ∃ a, p = some a /\ Loads P T_int (a.add (i.toNat * 1)) (.int .i64 (zs.getD i.toNat 0)) w := by
  obtain ⟨a, hp, hl⟩ := h.at (P := P) (t := T_int) (k := i.toNat) (by kernel_rfl) (by omega)
  have hz : i.toNat < zs.length := by rw [h.1]; omega
  refine ⟨a, hp, ?_⟩
  rw [List.getD_eq_getElem?_getD, List.getElem?_eq_getElem hz]
  simpa using hl
def isLimb (z : Int) : Bool := decide (0 <= z /\ z <= 999999999)
def natOk (zs : List Int) : Bool := zs.all isLimb && decide (zs.length <= 50) && !(decide (zs.getLast? = some 0))
theorem getLast_getD {zs : List Int} (h : 0 < zs.length) : zs.getLast? = some (zs.getD (zs.length - 1) 0) := by
  rw [List.getLast?_eq_getElem?, List.getD_eq_getElem?_getD, List.getElem?_eq_getElem (by omega)]
  rfl
theorem all_getD {zs : List Int} (h : ∀ k < zs.length, isLimb (zs.getD k 0) = true) : zs.all isLimb = true := by
  rw [List.all_eq_true]
  intro z hz
  obtain ⟨i, hi, rfl⟩ := List.getElem_of_mem hz
  have := h i hi
  rwa [List.getD_eq_getElem?_getD, List.getElem?_eq_getElem hi] at this
theorem not_all_getD {zs : List Int} {k : Nat} (hk : k < zs.length) (h : isLimb (zs.getD k 0) = false) : zs.all isLimb = false := by
  rw [List.getD_eq_getElem?_getD, List.getElem?_eq_getElem hk] at h
  rw [List.all_eq_false]
  exact ⟨_, List.getElem_mem hk, by simpa using h⟩
theorem impl_NatOk_c {w : World} {p : Option Addr} {n c : Nat} {zs : List Int} (h : IntsR w p n c zs) : Ret P n_impl_NatOk [.slice p n c] w fun v w' => v = .bool (natOk zs) /\ Ext w w' := by
  have hlen := h.1; have hcap := h.2.1; have hcm := h.2.2.1
  have J : ∀ wr, Ext w wr -> zs.length <= 50 -> zs.getLast? ≠ some 0 -> impl_NatOk_j0 p n wr fun v w' => v = .bool (natOk zs) /\ Ext w w' := by
    intro wr hx0 h50 hl0
    unfold impl_NatOk_j0
    refine ⟨fun i wr => ∃ k : Nat, i = k /\ k <= n /\ Ext w wr /\ ∀ j < k, isLimb (zs.getD j 0) = true, fun i _ => n - i.toNat, ⟨0, rfl, by omega, hx0, fun j hj => by omega⟩, ?_⟩
    intro junk wr i ⟨k, hik, hk, hx, hall⟩
    subst hik
    refine ifD (fun hlt => ?_) (fun hge => ⟨?_, hx⟩)
    · obtain ⟨a, rfl, hl⟩ := ints_at (h.ext hx) (i := (k : Int)) (by omega) (by omega)
      have no : isLimb (zs.getD k 0) = false -> Value.bool false = .bool (natOk zs) := fun hf => by
        have : zs.all isLimb = false := not_all_getD (k := k) (by omega) hf
        simp [natOk, this]
      refine ⟨⟨by omega, by omega⟩, _, hl, ifD (fun hb => ifT ⟨no (by simp [isLimb]; simp at hb; omega), hx⟩) (fun hb => ifD (fun hb2 => ⟨no (by simp [isLimb]; simp at hb2; omega), hx⟩) (fun hb2 => ?_))⟩
      refine exW ⟨by omega, by omega⟩ ⟨⟨k + 1, by omega, by omega, hx, fun j hj => ?_⟩, by simp; omega⟩
      by_cases hjk : j < k
      · exact hall j hjk
      · obtain rfl : j = k := by omega
        simp [isLimb]; simp at hb hb2; omega
    · have hal : zs.all isLimb = true := all_getD (fun j hj => hall j (by omega))
      simp [natOk, hal, h50, hl0]
  refine impl_NatOk_ret ?_
  unfold impl_NatOk
  refine ifD (fun hgt => ifT ⟨by simp [natOk, show ¬ zs.length <= 50 by omega], Ext.refl _⟩) (fun hle => ifD (fun hpos => ?_) (fun h0 => ifF ?_))
  · obtain ⟨a, rfl, hl⟩ := ints_at h (i := (n : Int) - 1) (by omega) (by omega)
    have e : ((n : Int) - 1).toNat = zs.length - 1 := by omega
    have hg := getLast_getD (show 0 < zs.length by omega)
    rw [<- e] at hg
    refine exW ⟨by omega, by omega⟩ ⟨⟨by omega, by omega⟩, _, hl, ifD (fun hz => ⟨?_, Ext.refl _⟩) (fun hz => J w (Ext.refl _) (by omega) (by rw [hg]; simpa using hz))⟩
    simp only [natOk, hg, hz]; simp
  · have : zs = [] := List.eq_nil_of_length_eq_zero (by omega)
    exact J w (Ext.refl _) (by omega) (by rw [this]; simp)
def lexR : List Int -> List Int -> Int
  | x :: xs, y :: ys => if x < y then -1 else if y < x then 1 else lexR xs ys
  | _, _ => 0
def cmpL (a b : List Int) : Int := if a.length < b.length then -1 else if b.length < a.length then 1 else lexR a.reverse b.reverse
theorem lexR_same : ∀ (a : List Int), lexR a a = 0
  | [] => rfl
  | x :: xs => by simp [lexR, lexR_same xs]
theorem lexR_at : ∀ (t : List Int) {x y : Int} {s r : List Int}, x ≠ y -> lexR (t ++ x :: s) (t ++ y :: r) = if x < y then -1 else 1
  | [], x, y, s, r, h => by
    simp only [List.nil_append, lexR]
    by_cases h1 : x < y
    · simp [h1]
    · simp [h1, show y < x by omega]
  | z :: t, x, y, s, r, h => by simp [lexR, lexR_at t h]
theorem lexR_zero : ∀ (a b : List Int), a.length = b.length -> lexR a b = 0 -> a = b
  | [], [], _, _ => rfl
  | x :: xs, y :: ys, hl, h => by
    simp only [lexR] at h
    by_cases h1 : x < y
    · simp [h1] at h
    · by_cases h2 : y < x
      · simp [h1, h2] at h
      · simp only [h1, h2, if_false] at h
        rw [lexR_zero xs ys (by simpa using hl) h, show x = y by omega]
theorem cmpL_zero {a b : List Int} : cmpL a b = 0 ↔ a = b := by
  constructor
  · intro h
    unfold cmpL at h
    split at h
    · cases h
    · split at h
      · cases h
      · have := lexR_zero _ _ (by simp; omega) h
        simpa using this
  · rintro rfl; simp [cmpL, lexR_same]
theorem cmpL_at {a b : List Int} {i : Nat} (hl : a.length = b.length) (hi : i < a.length) (ht : ∀ j, i < j -> a.getD j 0 = b.getD j 0) (hne : a.getD i 0 ≠ b.getD i 0) : cmpL a b = if a.getD i 0 < b.getD i 0 then -1 else 1 := by
  have hi2 : i < b.length := by omega
  have e1 : a = a.take i ++ a.getD i 0 :: a.drop (i + 1) := by
    rw [List.getD_eq_getElem?_getD, List.getElem?_eq_getElem hi, Option.getD_some, <- List.drop_eq_getElem_cons, List.take_append_drop]
  have e2 : b = b.take i ++ b.getD i 0 :: b.drop (i + 1) := by
    rw [List.getD_eq_getElem?_getD, List.getElem?_eq_getElem hi2, Option.getD_some, <- List.drop_eq_getElem_cons, List.take_append_drop]
  have ed : a.drop (i + 1) = b.drop (i + 1) := by
    apply List.ext_getElem (by simp; omega)
    intro k h1 h2
    have := ht (i + 1 + k) (by omega)
    simp only [List.length_drop] at h1 h2
    rw [List.getD_eq_getElem?_getD, List.getD_eq_getElem?_getD, List.getElem?_eq_getElem (by omega), List.getElem?_eq_getElem (by omega)] at this
    simpa using this
  have r1 : a.reverse = (a.drop (i + 1)).reverse ++ a.getD i 0 :: (a.take i).reverse := (congrArg List.reverse e1).trans (by simp)
  have r2 : b.reverse = (a.drop (i + 1)).reverse ++ b.getD i 0 :: (b.take i).reverse := (congrArg List.reverse e2).trans (by simp [ed])
  unfold cmpL
  rw [if_neg (by omega), if_neg (by omega), r1, r2, lexR_at _ hne]
theorem cmpL_all {a b : List Int} (hl : a.length = b.length) (ht : ∀ j, a.getD j 0 = b.getD j 0) : cmpL a b = 0 := by
  have : a = b := by
    apply List.ext_getElem hl
    intro k h1 h2
    have := ht k
    rw [List.getD_eq_getElem?_getD, List.getD_eq_getElem?_getD, List.getElem?_eq_getElem h1, List.getElem?_eq_getElem h2] at this
    simpa using this
  exact cmpL_zero.2 this
theorem getD_beyond {a : List Int} {j : Nat} (h : a.length <= j) : a.getD j 0 = 0 := by
  rw [List.getD_eq_getElem?_getD, List.getElem?_eq_none h]; rfl
theorem impl_natCmp_c {w : World} {p q : Option Addr} {n c m d : Nat} {zs ys : List Int} (h : IntsR w p n c zs) (k : IntsR w q m d ys) :
    Ret P n_impl_natCmp [.slice p n c, .slice q m d] w fun v w' => v = .int .i64 (cmpL zs ys) /\ Ext w w' := by
  refine impl_natCmp_ret ?_
  unfold impl_natCmp
  have hz := h.1; have hy := k.1; have hcap := h.2.1; have hcm := h.2.2.1
  refine ifD (fun hne => ifD (fun hlt => ⟨?_, Ext.refl _⟩) (fun hge => ⟨?_, Ext.refl _⟩)) (fun heq => ?_)
  · rw [cmpL, if_pos (by omega)]
  · rw [cmpL, if_neg (by omega), if_pos (by omega)]
  · have hnm : n = m := by omega
    refine exW ⟨by omega, by omega⟩ ⟨fun i wr => -1 <= i /\ i < n /\ Ext w wr /\ ∀ j : Nat, i < j -> zs.getD j 0 = ys.getD j 0, fun i _ => (i + 1).toNat, ⟨by omega, by omega, Ext.refl _, fun j hj => by rw [getD_beyond (by omega), getD_beyond (by omega)]⟩, ?_⟩
    intro junk wr i ⟨h1, h2, hx, ht⟩
    refine ifD (fun h0 => ?_) (fun hneg => ⟨?_, hx⟩)
    · have hx1 := hx.trans (Ext.drew wr)
      have hx2 := hx1.trans (Ext.drew _)
      obtain ⟨a, hpa, _⟩ := ints_at h h0 h2
      obtain ⟨b, hqb, _⟩ := ints_at k h0 (show i < m by omega)
      subst hpa; subst hqb
      have l1 : ∀ w', Ext w w' -> Loads P T_int (a.add (i.toNat * 1)) (.int .i64 (zs.getD i.toNat 0)) w' := fun w' hw => by
        obtain ⟨a', ha, hl⟩ := ints_at (h.ext hw) h0 h2
        cases ha; exact hl
      have l2 : ∀ w', Ext w w' -> Loads P T_int (b.add (i.toNat * 1)) (.int .i64 (ys.getD i.toNat 0)) w' := fun w' hw => by
        obtain ⟨a', ha, hl⟩ := ints_at (k.ext hw) h0 (show i < m by omega)
        cases ha; exact hl
      have ht' : ∀ j : Nat, i.toNat < j -> zs.getD j 0 = ys.getD j 0 := fun j hj => ht j (by omega)
      refine ⟨⟨by omega, by omega⟩, _, fun w' hw => l1 w' (hx1.trans hw), ⟨by omega, by omega⟩, _, fun w' hw => l2 w' (hx1.trans hw), ifD (fun hne => ?_) (fun heq2 => ?_)⟩
      · refine ⟨⟨by omega, by omega⟩, _, fun w' hw => l1 w' (hx2.trans hw), ⟨by omega, by omega⟩, _, fun w' hw => l2 w' (hx2.trans hw), ifD (fun hlt => ⟨?_, hx2⟩) (fun hge => ⟨?_, hx2⟩)⟩
        · rw [cmpL_at (by omega) (by omega) ht' hne, if_pos hlt]
        · rw [cmpL_at (by omega) (by omega) ht' hne, if_neg hge]
      · have heq2 : zs.getD i.toNat 0 = ys.getD i.toNat 0 := by simpa using heq2
        refine exW ⟨by omega, by omega⟩ ⟨⟨by omega, by omega, hx1, fun j hj => ?_⟩, by show (i - 1 + 1).toNat < (i + 1).toNat; omega⟩
        by_cases e : j = i.toNat
        · subst e; omega
        · exact ht j (by omega)
    · rw [cmpL_all (by omega) (fun j => ht j (by omega))]
theorem impl_sameInts_c {w : World} {p q : Option Addr} {n c m d : Nat} {zs ys : List Int} (h : IntsR w p n c zs) (k : IntsR w q m d ys) :
    Ret P n_impl_sameInts [.slice p n c, .slice q m d] w fun v w' => v = .bool (decide (zs = ys)) /\ Ext w w' := by
  refine impl_sameInts_ret ?_
  unfold impl_sameInts
  have hz := h.1; have hy := k.1; have hcap := h.2.1; have hcm := h.2.2.1
  refine ifD (fun hne => ⟨dec_no (fun e => hne (by rw [<- hz, <- hy, e])), Ext.refl _⟩) (fun heq => ?_)
  have hnm : n = m := by omega
  refine ⟨fun i wr => ∃ j : Nat, i = j /\ j <= n /\ Ext w wr /\ ∀ k < j, zs.getD k 0 = ys.getD k 0, fun i _ => n - i.toNat, ⟨0, rfl, by omega, Ext.refl _, fun k hk => by omega⟩, ?_⟩
  intro junk wr i ⟨j, hij, hj, hx, he⟩
  subst hij
  refine ifD (fun hlt => ?_) (fun hge => ⟨dec_yes ?_, hx⟩)
  · have hx1 := hx.trans (Ext.drew wr)
    obtain ⟨a, hpa, _⟩ := ints_at h (i := (j : Int)) (by omega) hlt
    obtain ⟨b, hqb, _⟩ := ints_at k (i := (j : Int)) (by omega) (by omega)
    subst hpa; subst hqb
    refine ⟨⟨by omega, by omega⟩, zs.getD j 0, fun w' hw => ?_, ⟨by omega, by omega⟩, ys.getD j 0, fun w' hw => ?_, ifD (fun hne => ⟨dec_no (fun e => ?_), hx1⟩) (fun heq2 => ?_)⟩
    · obtain ⟨a', ha, hl⟩ := ints_at (h.ext (hx1.trans hw)) (i := (j : Int)) (by omega) hlt
      cases ha; exact hl
    · obtain ⟨a', ha, hl⟩ := ints_at (k.ext (hx1.trans hw)) (i := (j : Int)) (by omega) (by omega)
      cases ha; exact hl
    · subst e; exact hne rfl
    · refine exW ⟨by omega, by omega⟩ ⟨⟨j + 1, by omega, by omega, hx1, fun k hk => ?_⟩, by simp; omega⟩
      by_cases e : k = j
      · subst e; simpa using heq2
      · exact he k (by omega)
  · apply List.ext_getElem (by omega)
    intro k h1 h2
    have := he k (by omega)
    rw [List.getD_eq_getElem?_getD, List.getD_eq_getElem?_getD, List.getElem?_eq_getElem h1, List.getElem?_eq_getElem h2] at this
    simpa using this
theorem impl_intSame_c {w : World} {xs ys : List Value} {dx dy : List D0} (h : Reps w xs dx) (k : Reps w ys dy) (hc : dx.map D0.code = [.bool, .ints]) (kc : dy.map D0.code = [.bool, .ints]) :
    Ret P n_impl_intSame [.agg ⟨xs⟩, .agg ⟨ys⟩] w fun v w' => v = .bool (decide (dx = dy)) /\ Ext w w' := by
  obtain ⟨a0, a1p, a1n, a1c, a1z, rfl, rfl, ha⟩ := open_Signed h hc
  obtain ⟨b0, b1p, b1n, b1c, b1z, rfl, rfl, hb⟩ := open_Signed k kc
  refine impl_intSame_ret ?_
  unfold impl_intSame
  intro r w1 hn1 r1 w2 hn2
  have x := hn1.ext.trans hn2.ext
  have k0 := hn1.blk.ext hn2.ext; have k1 := hn2.blk
  refine ⟨_, k0.load (by kernel_rfl) rfl, _, k1.load (by kernel_rfl) rfl, fun e => ?_, fun e => ⟨dec_no (fun h => by simp at h; simp [h] at e), x⟩⟩
  refine ⟨_, _, _, k0.load (by kernel_rfl) rfl, _, _, _, k1.load (by kernel_rfl) rfl, ?_⟩
  refine Ret.at (impl_sameInts_c (ha.ext x) (hb.ext x)) ?_
  rintro v w3 ⟨hv, y⟩
  subst hv
  refine ⟨_, rfl, ?_, x.trans y⟩
  have e : a0 = b0 := by simpa using e
  subst e
  simp
end Go.Proofs.YtgbknjdjbahdkaaGreatDoor
namespace Go.Proofs.YtgbknjdjbahdkaaGreatDoor
open Go Go.Proofs.YtgbknjdjbahdkaaGreatDoor.Sx
def intOk : List D0 -> Bool
  | [.bool b, .ints z] => natOk z && (!b || !z.isEmpty)
  | _ => false
theorem intOk_len {b : Bool} {z : List Int} {n : Nat} (h : z.length = n) : (decide ((0 : Int) < (n : Nat))) = !z.isEmpty := by
  cases z with
  | nil => simp at h; simp [<- h]
  | cons a r => simp at h; simp [<- h]
theorem impl_IntOk_c {w : World} {xs : List Value} {dx : List D0} (h : Reps w xs dx) (hc : dx.map D0.code = [.bool, .ints]) :
    Ret P n_impl_IntOk [.agg ⟨xs⟩] w fun v w' => v = .bool (intOk dx) /\ Ext w w' := by
  obtain ⟨a0, a1p, a1n, a1c, a1z, rfl, rfl, ha⟩ := open_Signed h hc
  refine impl_IntOk_ret ?_
  unfold impl_IntOk
  intro r w1 hn
  have x := hn.ext
  refine ⟨_, _, _, hn.blk.load (by kernel_rfl) rfl, ?_⟩
  refine Ret.at (impl_NatOk_c (ha.ext x)) ?_
  rintro v w2 ⟨hv, y⟩
  subst hv
  have b := hn.blk.ext y; have x := x.trans y
  refine ⟨_, rfl, fun e => ⟨_, b.load (by kernel_rfl) rfl, ifN (fun hb => ⟨?_, x⟩) (fun hb => ?_)⟩, fun e => ⟨by simp [intOk, e], x⟩⟩
  · simp [intOk, e, hb]
  · exact ⟨_, _, _, b.load (by kernel_rfl) rfl, by rw [intOk_len (b := a0) ha.1]; simp [intOk, e, hb], x⟩
end Go.Proofs.YtgbknjdjbahdkaaGreatDoor
namespace Go.Proofs.YtgbknjdjbahdkaaGreatDoor
open Go Go.Proofs.YtgbknjdjbahdkaaGreatDoor.Sx
def val : List Int -> Int
  | [] => 0
  | x :: r => x + 1000000000 * val r
def Limbs (l : List Int) : Prop := ∀ x ∈ l, 0 <= x /\ x < 1000000000
def Canon (l : List Int) : Prop := Limbs l /\ l.getLast? ≠ some 0
def digs (n : Nat) : List Int := if h : n = 0 then [] else ((n % 1000000000 : Nat) : Int) :: digs (n / 1000000000)
termination_by n
decreasing_by omega
theorem natOk_spec {l : List Int} : natOk l = true ↔ Canon l /\ l.length <= 50 := by
  unfold natOk Canon Limbs
  simp only [Bool.and_eq_true, List.all_eq_true, isLimb, decide_eq_true_eq, Bool.not_eq_true', decide_eq_false_iff_not]
  constructor
  · rintro ⟨⟨h1, h2⟩, h3⟩
    exact ⟨⟨fun x hx => by have := h1 x hx; omega, h3⟩, h2⟩
  · rintro ⟨⟨h1, h3⟩, h2⟩
    exact ⟨⟨fun x hx => by have := h1 x hx; omega, h2⟩, h3⟩
theorem Limbs.nil : Limbs [] := fun x hx => by simp at hx
theorem Limbs.cons {x : Int} {r : List Int} : Limbs (x :: r) ↔ (0 <= x /\ x < 1000000000) /\ Limbs r := by simp [Limbs]
theorem Limbs.append {a b : List Int} : Limbs (a ++ b) ↔ Limbs a /\ Limbs b := by
  simp only [Limbs, List.mem_append]
  exact ⟨fun h => ⟨fun x hx => h x (.inl hx), fun x hx => h x (.inr hx)⟩, fun h x hx => hx.elim (h.1 x) (h.2 x)⟩
theorem Limbs.take {a : List Int} (h : Limbs a) (k : Nat) : Limbs (a.take k) := fun x hx => h x (List.mem_of_mem_take hx)
theorem Limbs.getD {a : List Int} (h : Limbs a) (k : Nat) : 0 <= a.getD k 0 /\ a.getD k 0 < 1000000000 := by
  by_cases hk : k < a.length
  · rw [List.getD_eq_getElem?_getD, List.getElem?_eq_getElem hk]
    exact h _ (List.getElem_mem hk)
  · rw [getD_beyond (by omega)]; omega
theorem val_nonneg : ∀ {l : List Int}, Limbs l -> 0 <= val l
  | [], _ => Int.le_refl _
  | x :: r, h => by
    have h := Limbs.cons.1 h
    have := val_nonneg h.2
    simp only [val]; omega
theorem val_append : ∀ (a b : List Int), val (a ++ b) = val a + 1000000000 ^ a.length * val b
  | [], b => by simp [val]
  | x :: r, b => by
    simp only [List.cons_append, val, val_append r b, List.length_cons, Int.pow_succ]
    rw [Int.mul_add, <- Int.add_assoc, <- Int.mul_assoc, Int.mul_comm 1000000000 (1000000000 ^ r.length)]
theorem val_lt : ∀ {l : List Int}, Limbs l -> val l < 1000000000 ^ l.length
  | [], _ => by simp [val]
  | x :: r, h => by
    have h := Limbs.cons.1 h
    have := val_lt h.2
    simp only [val, List.length_cons, Int.pow_succ]
    omega
theorem val_take_succ (l : List Int) (k : Nat) : val (l.take (k + 1)) = val (l.take k) + 1000000000 ^ k * l.getD k 0 := by
  by_cases hk : k < l.length
  · rw [List.take_add_one, List.getElem?_eq_getElem hk, Option.toList_some, val_append, List.getD_eq_getElem?_getD, List.getElem?_eq_getElem hk]
    have : (l.take k).length = k := by simp; omega
    rw [this]; simp [val]
  · rw [List.take_of_length_le (by omega), List.take_of_length_le (by omega), getD_beyond (by omega)]; simp
theorem val_snoc (a : List Int) (x : Int) : val (a ++ [x]) = val a + 1000000000 ^ a.length * x := by
  rw [val_append]; simp [val]
theorem digs_zero : digs 0 = [] := by rw [digs]; simp
theorem digs_pos {n : Nat} (h : n ≠ 0) : digs n = ((n % 1000000000 : Nat) : Int) :: digs (n / 1000000000) := by rw [digs]; simp [h]
theorem digs_limbs : ∀ (n : Nat), Limbs (digs n) := by
  intro n
  induction n using Nat.strongRecOn with
  | ind n ih =>
    by_cases h : n = 0
    · subst h; rw [digs_zero]; exact Limbs.nil
    · rw [digs_pos h, Limbs.cons]
      exact ⟨by omega, ih _ (by omega)⟩
theorem val_digs : ∀ (n : Nat), val (digs n) = n := by
  intro n
  induction n using Nat.strongRecOn with
  | ind n ih =>
    by_cases h : n = 0
    · subst h; rw [digs_zero]; rfl
    · rw [digs_pos h, val, ih _ (by omega)]
      omega
theorem digs_last : ∀ (n : Nat), (digs n).getLast? ≠ some 0 := by
  intro n
  induction n using Nat.strongRecOn with
  | ind n ih =>
    by_cases h : n = 0
    · subst h; rw [digs_zero]; simp
    · rw [digs_pos h]
      by_cases h2 : n / 1000000000 = 0
      · rw [h2, digs_zero]
        simp; omega
      · have := ih (n / 1000000000) (by omega)
        rw [digs_pos h2, List.getLast?_cons_cons, <- digs_pos h2]
        exact this
theorem digs_canon (n : Nat) : Canon (digs n) := ⟨digs_limbs n, digs_last n⟩
theorem digs_nil {n : Nat} : digs n = [] ↔ n = 0 := by
  constructor
  · intro h
    by_cases h0 : n = 0
    · exact h0
    · rw [digs_pos h0] at h; cases h
  · rintro rfl; exact digs_zero
theorem Canon.cons {x : Int} {r : List Int} (h : Canon (x :: r)) : (0 <= x /\ x < 1000000000) /\ Canon r /\ (r = [] -> x ≠ 0) := by
  obtain ⟨h1, h2⟩ := h
  have h1 := Limbs.cons.1 h1
  refine ⟨h1.1, ⟨h1.2, ?_⟩, fun e => ?_⟩
  · intro e
    rw [List.getLast?_cons, e] at h2
    simp at h2
  · subst e; simpa using h2
theorem canon_pos : ∀ {l : List Int}, Canon l -> l ≠ [] -> 0 < val l
  | [], _, h => absurd rfl h
  | x :: r, h, _ => by
    obtain ⟨h1, h2, h3⟩ := h.cons
    simp only [val]
    have := val_nonneg h2.1
    by_cases hr : r = []
    · have := h3 hr; subst hr; simp [val]; omega
    · have := canon_pos h2 hr; omega
theorem digs_val : ∀ {l : List Int}, Canon l -> digs (val l).toNat = l
  | [], _ => by simp [val, digs_zero]
  | x :: r, h => by
    obtain ⟨h1, h2, h3⟩ := h.cons
    have hp := canon_pos h (by simp)
    have hv := val_nonneg h2.1
    have e := digs_val h2
    rw [digs_pos (by omega)]
    simp only [val] at hp ⊢
    have e1 : (x + 1000000000 * val r).toNat % 1000000000 = x.toNat := by omega
    have e2 : (x + 1000000000 * val r).toNat / 1000000000 = (val r).toNat := by omega
    rw [e1, e2, e]
    congr 1; omega
def trimL (l : List Int) : List Int := (l.reverse.dropWhile (fun x => decide (x = 0))).reverse
theorem trimL_snoc (l : List Int) (x : Int) : trimL (l ++ [x]) = if x = 0 then trimL l else l ++ [x] := by
  unfold trimL
  by_cases h : x = 0 <;> simp [h]
theorem trimL_take {l : List Int} {k : Nat} (hk : k < l.length) : trimL (l.take (k + 1)) = if l.getD k 0 = 0 then trimL (l.take k) else l.take (k + 1) := by
  have e : l.take (k + 1) = l.take k ++ [l.getD k 0] := by
    rw [List.take_add_one, List.getD_eq_getElem?_getD, List.getElem?_eq_getElem hk]; rfl
  rw [e, trimL_snoc]
theorem trimL_digs : ∀ (n : Nat) {l : List Int}, l.length = n -> Limbs l -> trimL l = digs (val l).toNat
  | 0, l, hn, h => by
    have : l = [] := List.eq_nil_of_length_eq_zero hn
    subst this; simp [val, digs_zero, trimL]
  | n + 1, l, hn, h => by
    have e : l = l.take n ++ [l.getD n 0] := by
      have : l.take (n + 1) = l := List.take_of_length_le (by omega)
      conv => lhs; rw [<- this]
      rw [List.take_add_one, List.getD_eq_getElem?_getD, List.getElem?_eq_getElem (by omega)]; rfl
    rw [e, trimL_snoc]
    have ht := h.take n
    by_cases hx : l.getD n 0 = 0
    · rw [if_pos hx, trimL_digs n (by simp; omega) ht, val_snoc, hx]
      simp
    · rw [if_neg hx, <- e]
      refine (digs_val ⟨h, ?_⟩).symm
      rw [e]; simpa using hx
theorem trimL_eq {l : List Int} (h : Limbs l) : trimL l = digs (val l).toNat := trimL_digs _ rfl h
theorem trimL_len (l : List Int) : (trimL l).length <= l.length := by
  unfold trimL
  rw [List.length_reverse]
  calc (l.reverse.dropWhile _).length <= l.reverse.length := (List.dropWhile_sublist _).length_le
    _ = l.length := by simp
theorem trimL_prefix (l : List Int) : trimL l = l.take (trimL l).length := by
  unfold trimL
  obtain ⟨t, ht⟩ := List.dropWhile_suffix (fun x : Int => decide (x = 0)) (l := l.reverse)
  generalize l.reverse.dropWhile (fun x => decide (x = 0)) = d at ht ⊢
  have : l = d.reverse ++ t.reverse := by
    have := congrArg List.reverse ht
    simpa using this.symm
  rw [this, List.take_left']
  rfl
theorem lex_val : ∀ (a b : List Int), a.length = b.length -> Limbs a -> Limbs b ->
    (lexR a.reverse b.reverse = -1 /\ val a < val b) ∨ (lexR a.reverse b.reverse = 0 /\ val a = val b) ∨ (lexR a.reverse b.reverse = 1 /\ val b < val a) := by
  have key : ∀ (n : Nat) (a b : List Int), a.length = n -> b.length = n -> Limbs a -> Limbs b ->
    (lexR a.reverse b.reverse = -1 /\ val a < val b) ∨ (lexR a.reverse b.reverse = 0 /\ val a = val b) ∨ (lexR a.reverse b.reverse = 1 /\ val b < val a) := by
    intro n
    induction n with
    | zero =>
      intro a b ha hb _ _
      rw [List.eq_nil_of_length_eq_zero ha, List.eq_nil_of_length_eq_zero hb]
      exact .inr (.inl ⟨rfl, rfl⟩)
    | succ n ih =>
      intro a b ha hb la lb
      have split : ∀ {l : List Int}, l.length = n + 1 -> l = l.take n ++ [l.getD n 0] := by
        intro l hl
        have : l.take (n + 1) = l := List.take_of_length_le (by omega)
        conv => lhs; rw [<- this]
        rw [List.take_add_one, List.getD_eq_getElem?_getD, List.getElem?_eq_getElem (by omega)]; rfl
      have ea := split ha; have eb := split hb
      have lta : (a.take n).length = n := by simp; omega
      have ltb : (b.take n).length = n := by simp; omega
      have i := ih (a.take n) (b.take n) lta ltb (la.take n) (lb.take n)
      have va := val_nonneg (la.take n); have vb := val_nonneg (lb.take n)
      have wa := val_lt (la.take n); have wb := val_lt (lb.take n)
      rw [lta] at wa; rw [ltb] at wb
      have e1 : val a = val (a.take n) + 1000000000 ^ n * a.getD n 0 := by conv => lhs; rw [ea, val_snoc, lta]
      have e2 : val b = val (b.take n) + 1000000000 ^ n * b.getD n 0 := by conv => lhs; rw [eb, val_snoc, ltb]
      have r1 : a.reverse = a.getD n 0 :: (a.take n).reverse := (congrArg List.reverse ea).trans (by simp)
      have r2 : b.reverse = b.getD n 0 :: (b.take n).reverse := (congrArg List.reverse eb).trans (by simp)
      rw [r1, r2, lexR]
      have pow : (0 : Int) < 1000000000 ^ n := Int.pow_pos (by decide)
      by_cases h1 : a.getD n 0 < b.getD n 0
      · rw [if_pos h1]
        refine .inl ⟨rfl, ?_⟩
        have : (1000000000 : Int) ^ n * (a.getD n 0 + 1) <= 1000000000 ^ n * b.getD n 0 := Int.mul_le_mul_of_nonneg_left (by omega) (by omega)
        rw [Int.mul_add, Int.mul_one] at this
        omega
      · rw [if_neg h1]
        by_cases h2 : b.getD n 0 < a.getD n 0
        · rw [if_pos h2]
          refine .inr (.inr ⟨rfl, ?_⟩)
          have : (1000000000 : Int) ^ n * (b.getD n 0 + 1) <= 1000000000 ^ n * a.getD n 0 := Int.mul_le_mul_of_nonneg_left (by omega) (by omega)
          rw [Int.mul_add, Int.mul_one] at this
          omega
        · rw [if_neg h2]
          have he : a.getD n 0 = b.getD n 0 := by omega
          rw [e1, e2, he]
          rcases i with ⟨h, h'⟩ | ⟨h, h'⟩ | ⟨h, h'⟩
          · exact .inl ⟨h, by omega⟩
          · exact .inr (.inl ⟨h, by omega⟩)
          · exact .inr (.inr ⟨h, by omega⟩)
  intro a b hl la lb
  exact key _ a b rfl hl.symm la lb
theorem canon_len {a b : List Int} (ha : Canon a) (hb : Canon b) (h : a.length < b.length) : val a < val b := by
  have h1 := val_lt ha.1
  have hb0 : b ≠ [] := by intro e; subst e; simp at h
  obtain ⟨n, hn⟩ : ∃ n, b.length = n + 1 := ⟨b.length - 1, by omega⟩
  have eb : b = b.take n ++ [b.getD n 0] := by
    have : b.take (n + 1) = b := List.take_of_length_le (by omega)
    conv => lhs; rw [<- this]
    rw [List.take_add_one, List.getD_eq_getElem?_getD, List.getElem?_eq_getElem (by omega)]; rfl
  have hlast : b.getD n 0 ≠ 0 := by
    have := hb.2
    rw [eb] at this
    simpa using this
  have hp := hb.1.getD n
  have ltb : (b.take n).length = n := by simp; omega
  have e2 : val b = val (b.take n) + 1000000000 ^ n * b.getD n 0 := by conv => lhs; rw [eb, val_snoc, ltb]
  have v0 := val_nonneg (hb.1.take n)
  have p1 : (1000000000 : Int) ^ n * 1 <= 1000000000 ^ n * b.getD n 0 := Int.mul_le_mul_of_nonneg_left (by omega) (Int.le_of_lt (Int.pow_pos (by decide)))
  have p2 : (1000000000 : Int) ^ a.length <= 1000000000 ^ n := by
    have : (1000000000 : Nat) ^ a.length <= 1000000000 ^ n := Nat.pow_le_pow_right (by decide) (by omega)
    have := Int.ofNat_le.2 this
    simpa using this
  omega
theorem cmpL_val {a b : List Int} (ha : Canon a) (hb : Canon b) : (cmpL a b = -1 /\ val a < val b) ∨ (cmpL a b = 0 /\ val a = val b) ∨ (cmpL a b = 1 /\ val b < val a) := by
  unfold cmpL
  by_cases h1 : a.length < b.length
  · rw [if_pos h1]; exact .inl ⟨rfl, canon_len ha hb h1⟩
  · rw [if_neg h1]
    by_cases h2 : b.length < a.length
    · rw [if_pos h2]; exact .inr (.inr ⟨rfl, canon_len hb ha h2⟩)
    · rw [if_neg h2]
      exact lex_val a b (by omega) ha.1 hb.1
end Go.Proofs.YtgbknjdjbahdkaaGreatDoor
namespace Go.Proofs.YtgbknjdjbahdkaaGreatDoor
open Go Go.Proofs.YtgbknjdjbahdkaaGreatDoor.Sx
theorem sliceT_int : sliceT P T_s_int T_int (.int .i64 0) 1 8 := ⟨by kernel_rfl, by kernel_rfl, rfl, by decide⟩
theorem run_append_none {P : Program} (w : World) (base : Nat) (t ty e : TypeId) (i : TypeInfo) (size : Nat) (ht : P.underlying t = some (.slice e)) (hi : P.info? e = some i)
    (v : Value) (n c : Nat) (xs : List Value) (hown : w.ownsRow base e size v n xs) :
    (Builtin.append_ #[t, t] ty #[v, .slice none 0 c]).run P w = .ok v w := by
  rcases hown.2 with ⟨rfl, rfl⟩ | ⟨g, cap, cur, rfl, _, _, hnc, _⟩
  · simp [Builtin.append_, run_underlying ht, sizeOf, typeInfo, hi, Builtin.lenOf, Builtin.firstCells]
  · simp [Builtin.append_, run_underlying ht, sizeOf, typeInfo, hi, Builtin.lenOf, Builtin.firstCells, hnc, storeCells]
theorem Sx.Own.appendI {w : World} {base : Nat} {p q : Option Addr} {n c m d : Nat} {zs ys : List Int} (h : Own w base T_int 1 p n c (zs.map (Value.int .i64))) (hb : base <= w.heap.size) (k : IntsR w q m d ys) (hn : n + m <= 100000000) :
    ∃ p' c' w', Appends P [T_s_int, T_s_int] [.slice p n c, .slice q m d] (.slice p' (n + m) c') w w' /\ Own w' base T_int 1 p' (n + m) c' ((zs ++ ys).map (Value.int .i64)) /\
      (∀ w0, Ext w0 w -> w0.heap.size <= base -> Ext w0 w') := by
  obtain ⟨hu, hi, hz, hs⟩ := sliceT_int
  cases hinf : P.info? T_int with
  | none => rw [hinf] at hi; cases hi
  | some i =>
    rw [hinf] at hi
    simp only [Option.map_some, Option.some.injEq, Prod.mk.injEq] at hi
    cases q with
    | none =>
      have hm : m = 0 := by
        rcases Nat.eq_zero_or_pos m with h0 | h0
        · exact h0
        · obtain ⟨b, off, hp, _⟩ := k.2.2.2 h0; cases hp
      subst hm
      have : ys = [] := List.eq_nil_of_length_eq_zero k.1
      subst this
      exact ⟨p, c, w, run_append_none w base T_s_int 0 T_int i 1 hu hinf _ n d _ h, by simpa using h, fun w0 h _ => h⟩
    | some a =>
      have hcells : ∀ j u, (ys.map (Value.int .i64))[j]? = some u -> w.cell? (a.add j) = some u := by
        intro j u hj
        have hl : j < m := by
          have := (List.getElem?_eq_some_iff.1 hj).1
          rw [List.length_map, k.1] at this; exact this
        obtain ⟨b, off, hp, hseg⟩ := k.2.2.2 (by omega)
        cases hp
        rw [addr_add]
        exact hseg j u hj
      have hmax : n + m <= maxLen := by simp only [maxLen]; omega
      obtain ⟨v', w', hrun, hown, hgr, _⟩ := run_append_own (P := P) w base T_s_int 0 T_int i (.int .i64 0) 1 8 hu hinf hi.1 hi.2.1 hi.2.2 hz hs (.slice p n c) n (zs.map (Value.int .i64)) h a m d (ys.map (Value.int .i64)) (by simp [k.1])
        hcells (by simp [Value.oneCell']) hmax (by omega) hb
      have hlt := World.ownsRow.lt h
      have hv : ∃ p' c', v' = .slice p' (n + m) c' := by
        rcases hown.2 with ⟨e1, e2⟩ | ⟨g, cap, cur, e1, _⟩
        · exact ⟨none, 0, by rw [e1, e2]⟩
        · exact ⟨_, _, e1⟩
      obtain ⟨p', c', rfl⟩ := hv
      have hob : (Value.slice p n c).ownBlock = p.map (·.block) := by cases p <;> rfl
      refine ⟨p', c', w', hrun, by rw [List.map_append]; exact hown, fun w0 hx hb0 => ?_⟩
      refine hx.chg (S := (p.map (·.block)).toList) ⟨hgr.os, hgr.tape, hgr.output, hgr.size, fun k hk hn => hgr.block k hk ?_⟩ ?_
      · rw [hob]; intro e; rw [<- e] at hn; simp at hn
      · intro x hx'
        have := (hlt x (by rw [hob]; cases p <;> simp_all)).1
        omega
theorem Sx.Own.push {w w1 : World} {base : Nat} {p : Option Addr} {n c r : Nat} {zs : List Int} {x : Int} (h : Own w base T_int 1 p n c (zs.map (Value.int .i64))) (hb : base <= w.heap.size) (hn : New w (.cells ⟨[.int .i64 x]⟩ T_int (0, 0)) r w1) (hlen : n <= 99999999) :
    ∃ p' c' w', Appends P [T_s_int, T_s_int] [.slice p n c, .slice (some ⟨r, 0, none⟩) 1 1] (.slice p' (n + 1) c') w1 w' /\ Own w' base T_int 1 p' (n + 1) c' ((zs ++ [x]).map (Value.int .i64)) /\
      (∀ w0, Ext w0 w -> w0.heap.size <= base -> Ext w0 w') := by
  obtain ⟨p', c', w', h1, h2, h3⟩ := Own.appendI (h.ext hn.ext) (by have := hn.ext.le; omega) (q := some ⟨r, 0, none⟩) (m := 1) (d := 1) (ys := [x]) ⟨rfl, Nat.le_refl _, by omega, fun _ => ⟨r, 0, rfl, hn.blk.seg⟩⟩ (by omega)
  exact ⟨p', c', w', h1, h2, fun w0 hx hb0 => h3 w0 (hx.trans hn.ext) hb0⟩
theorem Sx.Own.fresh {w w1 : World} {r : Nat} (hn : New w (.cells ⟨[]⟩ T_int (0, 0)) r w1) : Own w1 w.heap.size T_int 1 (some ⟨r, 0, none⟩) 0 0 (([] : List Int).map (Value.int .i64)) :=
  Own.of_blk (n := 0) hn.blk (by rw [hn.r_eq]; exact Nat.le_refl _) rfl (by simp [maxLen])
theorem Sx.Own.sub {w : World} {base : Nat} {p : Option Addr} {n c m : Nat} {zs : List Int} (h : Own w base T_int 1 p n c (zs.map (Value.int .i64))) (hm : m <= n) : Own w base T_int 1 p m c ((zs.take m).map (Value.int .i64)) := by
  have hl := h.1
  simp only [List.length_map, Nat.mul_one] at hl
  refine ⟨by simp; omega, ?_⟩
  rcases h.2 with ⟨h1, h2⟩ | ⟨g, cap, cur, h1, h2, h3, h4, h5, h6, h7⟩
  · simp only [Value.slice.injEq] at h1
    left
    exact ⟨by rw [h1.1, h1.2.2, show m = 0 by omega], by omega⟩
  · simp only [Value.slice.injEq] at h1
    right
    refine ⟨g, cap, cur, by rw [h1.1, h1.2.2], h2, h3, by omega, h5, h6, ?_⟩
    rw [List.map_take, <- h7, List.take_take]
    congr 1
    omega
theorem Sx.IntsR.sub {w : World} {p : Option Addr} {n c m : Nat} {zs : List Int} (h : IntsR w p n c zs) (hm : m <= n) : IntsR w p m c (zs.take m) :=
  ⟨by simp [h.1]; omega, by have := h.2.1; omega, h.2.2.1, fun h0 => let ⟨b, off, hp, hs⟩ := h.2.2.2 (by omega); ⟨b, off, hp, by rw [List.map_take]; exact hs.take m⟩⟩
theorem sub0 (p : Option Addr) (c : Nat) : Sx.sub p 0 c 1 = p := by
  unfold Sx.sub
  split
  · rfl
  · cases p <;> simp [Addr.add]
theorem spec_l02Trim_c {w : World} {p : Option Addr} {n c : Nat} {zs : List Int} (h : IntsR w p n c zs) : Ret P n_spec_l02Trim [.slice p n c] w fun v w' => v = .slice p (trimL zs).length c /\ w' = w /\ IntsR w p (trimL zs).length c (trimL zs) := by
  refine spec_l02Trim_ret ?_
  unfold spec_l02Trim
  have hlen := h.1; have hcap := h.2.1; have hcm := h.2.2.1
  have fin : ∀ k : Nat, k <= n -> trimL zs = zs.take k -> (trimL zs).length = k /\ IntsR w p (trimL zs).length c (trimL zs) := fun k hk e => by
    have : (trimL zs).length = k := by rw [e]; simp; omega
    exact ⟨this, by rw [this, e]; exact h.sub hk⟩
  refine ⟨fun i wr => ∃ k : Nat, i = k /\ k <= n /\ wr = w /\ trimL zs = trimL (zs.take k), fun i _ => i.toNat, ⟨n, rfl, Nat.le_refl _, rfl, by rw [List.take_of_length_le (by omega)]⟩, ?_⟩
  intro junk wr i ⟨k, hik, hk, hw, ht⟩
  subst hik; subst hw
  refine ifD (fun hpos => ?_) (fun h0 => ifF ?_)
  · obtain ⟨a, rfl, hl⟩ := ints_at h (i := (k : Int) - 1) (by omega) (by omega)
    have e : ((k : Int) - 1).toNat = k - 1 := by omega
    have ek : k = (k - 1) + 1 := by omega
    have htk := trimL_take (l := zs) (k := k - 1) (by omega)
    rw [<- ek] at htk
    refine exW ⟨by omega, by omega⟩ ⟨⟨by omega, by omega⟩, _, hl, ifD (fun hz => ?_) (fun hz => ?_)⟩
    · rw [e] at hz
      rw [if_pos hz] at htk
      exact exW ⟨by omega, by omega⟩ ⟨⟨k - 1, by omega, by omega, rfl, ht.trans htk⟩, by show ((k : Int) - 1).toNat < (k : Int).toNat; omega⟩
    · rw [e] at hz
      rw [if_neg hz] at htk
      obtain ⟨f1, f2⟩ := fin k hk (ht.trans htk)
      refine ⟨⟨by omega, by omega⟩, ?_, rfl, f2⟩
      rw [sub0, f1]; rfl
  · obtain ⟨f1, f2⟩ := fin 0 (by omega) (by rw [ht, show k = 0 by omega]; rfl)
    refine ⟨⟨by omega, by omega⟩, ?_, rfl, f2⟩
    rw [sub0, f1, show k = 0 by omega]; rfl
theorem impl_trim_c {w : World} {p : Option Addr} {n c : Nat} {zs : List Int} (h : IntsR w p n c zs) : Ret P n_impl_trim [.slice p n c] w fun v w' => v = .slice p (trimL zs).length c /\ w' = w /\ IntsR w p (trimL zs).length c (trimL zs) := by
  refine impl_trim_ret ?_
  unfold impl_trim
  have hlen := h.1; have hcap := h.2.1; have hcm := h.2.2.1
  have fin : ∀ k : Nat, k <= n -> trimL zs = zs.take k -> (trimL zs).length = k /\ IntsR w p (trimL zs).length c (trimL zs) := fun k hk e => by
    have : (trimL zs).length = k := by rw [e]; simp; omega
    exact ⟨this, by rw [this, e]; exact h.sub hk⟩
  refine ⟨fun q k d wr => q = p /\ d = c /\ k <= n /\ wr = w /\ trimL zs = trimL (zs.take k), fun _ k _ _ => k, ⟨rfl, rfl, Nat.le_refl _, rfl, by rw [List.take_of_length_le (by omega)]⟩, ?_⟩
  intro junk wr q k d ⟨hq, hd, hk, hw, ht⟩
  subst hq; subst hd; subst hw
  refine ifD (fun hpos => ?_) (fun h0 => ifF ?_)
  · obtain ⟨a, rfl, hl⟩ := ints_at h (i := (k : Int) - 1) (by omega) (by omega)
    have e : ((k : Int) - 1).toNat = k - 1 := by omega
    have ek : k = (k - 1) + 1 := by omega
    have htk := trimL_take (l := zs) (k := k - 1) (by omega)
    rw [<- ek] at htk
    refine exW ⟨by omega, by omega⟩ ⟨⟨by omega, by omega⟩, _, hl, ifD (fun hz => ?_) (fun hz => ?_)⟩
    · rw [e] at hz
      rw [if_pos hz] at htk
      refine exW ⟨by omega, by omega⟩ ⟨⟨by omega, by omega⟩, ⟨sub0 _ _, rfl, by omega, rfl, ?_⟩, by show ((k : Int) - 1).toNat - 0 < k; omega⟩
      rw [e]; exact ht.trans htk
    · rw [e] at hz
      rw [if_neg hz] at htk
      obtain ⟨f1, f2⟩ := fin k hk (ht.trans htk)
      exact ⟨by rw [f1], rfl, f2⟩
  · obtain ⟨f1, f2⟩ := fin 0 (by omega) (by rw [ht, show k = 0 by omega]; rfl)
    exact ⟨by rw [f1, show k = 0 by omega], rfl, f2⟩
def capL (l : List Int) : List Int := if l.length <= 50 then l else []
theorem spec_l02Cap_c {w : World} {p : Option Addr} {n c : Nat} {zs : List Int} (h : IntsR w p n c zs) : Ret P n_spec_l02Cap [.slice p n c] w fun v w' => ∃ p' n' c', v = .slice p' n' c' /\ w' = w /\ IntsR w p' n' c' (capL (trimL zs)) := by
  refine spec_l02Cap_ret ?_
  unfold spec_l02Cap
  refine Ret.at (spec_l02Trim_c h) ?_
  rintro v w1 ⟨hv, hw, hr⟩
  subst hv; subst hw
  refine ⟨_, _, _, rfl, ifD (fun hgt => ?_) (fun hle => ?_)⟩
  · exact ⟨none, 0, 0, rfl, rfl, by rw [capL, if_neg (by omega)]; exact IntsR.nil _ _ (by omega)⟩
  · exact ⟨_, _, _, rfl, rfl, by rw [capL, if_pos (by omega)]; exact hr⟩
theorem impl_natCopy_c {w : World} {p : Option Addr} {n c : Nat} {zs : List Int} (h : IntsR w p n c zs) (hn : n <= 100000000) : Ret P n_impl_natCopy [.slice p n c] w fun v w' => ∃ p' c', v = .slice p' n c' /\ Own w' w.heap.size T_int 1 p' n c' (zs.map (Value.int .i64)) /\ Ext w w' := by
  refine impl_natCopy_ret ?_
  unfold impl_natCopy
  intro r w1 hn1
  obtain ⟨p', c', w', h1, h2, h3⟩ := Own.appendI (Own.fresh hn1) hn1.ext.le (h.ext hn1.ext) (by omega)
  rw [Nat.zero_add] at h1 h2
  exact ⟨_, _, _, _, h1, _, _, rfl, by simpa using h2, h3 w hn1.ext (Nat.le_refl _)⟩
end Go.Proofs.YtgbknjdjbahdkaaGreatDoor
namespace Go.Proofs.YtgbknjdjbahdkaaGreatDoor
open Go Go.Proofs.YtgbknjdjbahdkaaGreatDoor.Sx
theorem tmod_limb {t : Int} (h : 0 <= t) : Int.tmod t 1000000000 = t % 1000000000 := Int.tmod_eq_emod_of_nonneg h
theorem tdiv_limb {t : Int} (h : 0 <= t) : Int.tdiv t 1000000000 = t / 1000000000 := Int.tdiv_eq_ediv_of_nonneg h
theorem add_step {a b o : List Int} {k : Nat} {carry t : Int} (hl : o.length = k) (hv : val o + 1000000000 ^ k * carry = val (a.take k) + val (b.take k)) (ht : t = carry + a.getD k 0 + b.getD k 0) :
    val (o ++ [t % 1000000000]) + 1000000000 ^ (k + 1) * (t / 1000000000) = val (a.take (k + 1)) + val (b.take (k + 1)) := by
  rw [val_snoc, hl, val_take_succ, val_take_succ, Int.pow_succ, Int.mul_assoc]
  have e : (1000000000 : Int) ^ k * (t % 1000000000) + 1000000000 ^ k * (1000000000 * (t / 1000000000)) = 1000000000 ^ k * t := by
    rw [<- Int.mul_add]; congr 1; omega
  have e2 : (1000000000 : Int) ^ k * t = 1000000000 ^ k * carry + 1000000000 ^ k * a.getD k 0 + 1000000000 ^ k * b.getD k 0 := by
    rw [ht, Int.mul_add, Int.mul_add]
  omega
theorem limb_mod (t : Int) : 0 <= t % 1000000000 /\ t % 1000000000 < 1000000000 := by omega
theorem Limbs.snoc {o : List Int} {x : Int} (h : Limbs o) (hx : 0 <= x /\ x < 1000000000) : Limbs (o ++ [x]) := Limbs.append.2 ⟨h, Limbs.cons.2 ⟨hx, Limbs.nil⟩⟩
def AddInv (w : World) (a b : List Int) (p : Option Addr) (n c : Nat) (carry i : Int) (wr : World) : Prop :=
 ∃ (k : Nat) (o : List Int), i = k /\ n = k /\ k <= a.length + b.length /\ Own wr w.heap.size T_int 1 p n c (o.map (Value.int .i64)) /\ Ext w wr /\ Limbs o /\ o.length = k /\ 0 <= carry /\ carry <= 1 /\ val o + 1000000000 ^ k * carry = val (a.take k) + val (b.take k)
theorem impl_natAdd_c {w : World} {p q : Option Addr} {n c m d : Nat} {a b : List Int} (h : IntsR w p n c a) (k : IntsR w q m d b) (ha : Limbs a) (hb : Limbs b) (hn : n <= 10000000) (hm : m <= 10000000) :
    Ret P n_impl_natAdd [.slice p n c, .slice q m d] w fun v w' => ∃ p' n' c', v = .slice p' n' c' /\ Own w' w.heap.size T_int 1 p' n' c' ((digs (val a + val b).toNat).map (Value.int .i64)) /\ Ext w w' := by
  refine impl_natAdd_ret ?_
  unfold impl_natAdd
  have hla := h.1; have hlb := k.1
  obtain ⟨M, hM⟩ : ∃ M : Nat, M = max n m := ⟨_, rfl⟩
  have e12 : (if ((m : Nat) : Int) > ((n : Nat) : Int) then ((m : Nat) : Int) else ((n : Nat) : Int)) = M := by split <;> omega
  refine ⟨_, rfl, ?_⟩
  rw [e12]
  refine exW ⟨by omega, by omega⟩ ⟨⟨by omega, by omega, by omega⟩, fun r w1 hn1 => ?_⟩
  refine ⟨AddInv w a b, fun _ _ _ _ i _ => M + 1 - i.toNat, ⟨0, [], rfl, rfl, by omega, ?_, hn1.ext, Limbs.nil, rfl, by omega, by omega, by simp [val]⟩, ?_⟩
  · exact Own.of_blk0 (n := ((M : Int) + 1).toNat) hn1.blk (by rw [hn1.r_eq]; exact Nat.le_refl _) (by simp [zeroRow]) (by simp only [maxLen]; omega)
  intro junk wr op on oc carry i ⟨j, o, hi, hon, hkl, hown, hx, hlo, hol, hc0, hc1, hv⟩
  subst hi; subst hon
  have A := ha.getD on; have B := hb.getD on
  have ab : (on : Int) < n ∨ a.getD on 0 = 0 := by
    by_cases e : on < n
    · left; omega
    · right; exact getD_beyond (by omega)
  have bb : (on : Int) < m ∨ b.getD on 0 = 0 := by
    by_cases e : on < m
    · left; omega
    · right; exact getD_beyond (by omega)
  have J1 : ∀ t, t = carry + a.getD on 0 + b.getD on 0 -> (on : Int) < M -> impl_natAdd_j1 wr (AddInv w a b) (fun _ _ _ _ i _ => M + 1 - i.toNat) op on oc carry on t wr fun v w' => ∃ p' n' c', v = .slice p' n' c' /\ Own w' w.heap.size T_int 1 p' n' c' ((digs (val a + val b).toNat).map (Value.int .i64)) /\ Ext w w' := by
    intro t ht hlt
    unfold impl_natAdd_j1
    refine ⟨by decide, _, rfl, fun r1 w2 hn2 => ?_⟩
    rw [tmod_limb (by omega)] at hn2
    obtain ⟨p', c', w3, h1, h2, h3⟩ := Own.push hown hx.le hn2 (by omega)
    refine ⟨_, _, _, _, h1, by decide, ?_⟩
    rw [tdiv_limb (by omega)]
    refine exW ⟨by omega, by omega⟩ (exW ⟨by omega, by omega⟩ ⟨⟨on + 1, o ++ [t % 1000000000], by omega, rfl, by omega, h2, h3 w hx (Nat.le_refl _), hlo.snoc (limb_mod t), by simp [hol], by omega, by omega, add_step hol hv ht⟩, ?_⟩)
    show M + 1 - ((on : Int) + 1).toNat < M + 1 - (on : Int).toNat
    omega
  have J0 : ∀ t, t = carry + a.getD on 0 -> (on : Int) < M -> impl_natAdd_j0 q m wr (AddInv w a b) (fun _ _ _ _ i _ => M + 1 - i.toNat) op on oc carry on t wr fun v w' => ∃ p' n' c', v = .slice p' n' c' /\ Own w' w.heap.size T_int 1 p' n' c' ((digs (val a + val b).toNat).map (Value.int .i64)) /\ Ext w w' := by
    intro t ht hlt
    unfold impl_natAdd_j0
    refine ifD (fun hlm => ?_) (fun hge => J1 _ (by rw [bb.resolve_left hge]; omega) hlt)
    obtain ⟨ad, rfl, hl⟩ := ints_at (k.ext hx) (i := (on : Int)) (by omega) hlm
    exact ⟨⟨by omega, by omega⟩, _, hl, exW ⟨by simp only [Int.toNat_natCast]; omega, by simp only [Int.toNat_natCast]; omega⟩ (J1 _ (by simp only [Int.toNat_natCast]; omega) hlt)⟩
  refine ⟨_, rfl, ?_⟩
  refine ifD (fun hlt => ifD (fun hln => ?_) (fun hge => J0 _ (by rw [ab.resolve_left hge]; omega) hlt)) (fun hge => ?_)
  · obtain ⟨ad, rfl, hl⟩ := ints_at (h.ext hx) (i := (on : Int)) (by omega) hln
    exact ⟨⟨by omega, by omega⟩, _, hl, exW ⟨by simp only [Int.toNat_natCast]; omega, by simp only [Int.toNat_natCast]; omega⟩ (J0 _ (by simp only [Int.toNat_natCast]) hlt)⟩
  · intro r2 w2 hn2
    have hk : on <= 20000000 := by omega
    obtain ⟨p', c', w3, h1, h2, h3⟩ := Own.push hown hx.le hn2 (by omega)
    refine ⟨_, _, _, _, h1, ?_⟩
    have hlim : Limbs (o ++ [carry]) := hlo.snoc (by omega)
    have hval : val (o ++ [carry]) = val a + val b := by
      rw [val_snoc, hol, hv, List.take_of_length_le (by omega), List.take_of_length_le (by omega)]
    refine Ret.at (impl_trim_c h2.ints) ?_
    rintro v w4 ⟨hv4, hw4, hr4⟩
    subst hv4; subst hw4
    refine ⟨_, _, _, rfl, _, _, _, rfl, ?_, h3 w hx (Nat.le_refl _)⟩
    have e := trimL_eq hlim
    rw [hval] at e
    rw [<- e]
    have hle := trimL_len (o ++ [carry])
    have := h2.sub (m := (trimL (o ++ [carry])).length) (by simp [hol] at hle ⊢; omega)
    rwa [<- trimL_prefix] at this
theorem sub_step {a b o : List Int} {k : Nat} {less t u less' : Int} (hl : o.length = k) (hv : val o - 1000000000 ^ k * less = val (a.take k) - val (b.take k)) (ht : t = a.getD k 0 - less - b.getD k 0) (hu : u = t + 1000000000 * less') :
    val (o ++ [u]) - 1000000000 ^ (k + 1) * less' = val (a.take (k + 1)) - val (b.take (k + 1)) := by
  rw [val_snoc, hl, val_take_succ, val_take_succ, Int.pow_succ, Int.mul_assoc]
  have e2 : (1000000000 : Int) ^ k * u = 1000000000 ^ k * a.getD k 0 - 1000000000 ^ k * less - 1000000000 ^ k * b.getD k 0 + 1000000000 ^ k * (1000000000 * less') := by
    rw [hu, ht, Int.mul_add, Int.mul_sub, Int.mul_sub]
  omega
theorem sub_end {a b o : List Int} {less : Int} (hlo : Limbs o) (ho : o.length = a.length) (hbl : b.length <= a.length) (hab : val b <= val a) (h0 : 0 <= less) (h1 : less <= 1)
    (hv : val o - 1000000000 ^ a.length * less = val (a.take a.length) - val (b.take a.length)) : val o = val a - val b := by
  rw [List.take_of_length_le (Nat.le_refl _), List.take_of_length_le hbl] at hv
  have h := val_lt hlo
  rw [ho] at h
  have : less = 0 ∨ less = 1 := by omega
  rcases this with e | e
  · subst e; omega
  · subst e; omega
theorem impl_natSub_c {w : World} {p q : Option Addr} {n c m d : Nat} {a b : List Int} (h : IntsR w p n c a) (k : IntsR w q m d b) (ha : Limbs a) (hb : Limbs b) (hn : n <= 10000000) (hbl : m <= n) (hab : val b <= val a) :
    Ret P n_impl_natSub [.slice p n c, .slice q m d] w fun v w' => ∃ p' n' c', v = .slice p' n' c' /\ Own w' w.heap.size T_int 1 p' n' c' ((digs (val a - val b).toNat).map (Value.int .i64)) /\ Ext w w' := by
  refine impl_natSub_ret ?_
  unfold impl_natSub
  have hla := h.1; have hlb := k.1
  refine ⟨⟨by omega, by omega, by omega⟩, fun r w1 hn1 => ?_⟩
  have hre := hn1.r_eq
  let Inv : Int -> Int -> World -> Prop := fun less i wr => ∃ (j : Nat) (o : List Int), i = j /\ j <= n /\ Blk wr r T_int (o.map (Value.int .i64) ++ List.replicate (n - j) (Value.int .i64 0)) /\ Ext w wr /\ Limbs o /\ o.length = j /\ 0 <= less /\ less <= 1 /\ val o - 1000000000 ^ j * less = val (a.take j) - val (b.take j)
  refine ⟨Inv, fun _ i _ => n - i.toNat, ⟨0, [], rfl, by omega, ?_, hn1.ext, Limbs.nil, rfl, by omega, by omega, by simp [val]⟩, ?_⟩
  · have := hn1.blk
    rw [zeroRow_int, Nat.mul_one] at this
    simpa using this
  intro junk wr less i ⟨j, o, hi, hjn, hblk, hx, hlo, hol, hc0, hc1, hv⟩
  subst hi
  have A := ha.getD j; have B := hb.getD j
  have bb : (j : Int) < m ∨ b.getD j 0 = 0 := by
    by_cases e : j < m
    · left; omega
    · right; exact getD_beyond (by omega)
  have J1 : ∀ l' u, (j : Int) < n -> u = a.getD j 0 - less - b.getD j 0 + 1000000000 * l' -> 0 <= u -> u < 1000000000 -> 0 <= l' -> l' <= 1 ->
      impl_natSub_j1 n r wr Inv (fun _ i _ => n - i.toNat) less j l' u wr fun v w' => ∃ p' n' c', v = .slice p' n' c' /\ Own w' w.heap.size T_int 1 p' n' c' ((digs (val a - val b).toNat).map (Value.int .i64)) /\ Ext w w' := by
    intro l' u hlt hu h0 h1 h2 h3
    unfold impl_natSub_j1
    have hlen : (o.map (Value.int .i64) ++ List.replicate (n - j) (Value.int .i64 0)).length = n := by simp [hol]; omega
    obtain ⟨w2, hst, hb2, hc, hs⟩ := hblk.store (P := P) (t := T_int) (k := j) (v := .int .i64 u) (by kernel_rfl) (by omega) rfl
    refine ⟨⟨by omega, by omega⟩, w2, by simpa using hst, exW ⟨by omega, by omega⟩ ⟨⟨j + 1, o ++ [u], by omega, by omega, ?_, hx.chg hc (by simp; omega), hlo.snoc ⟨h0, h1⟩, by simp [hol], h2, h3, sub_step hol hv rfl hu⟩, ?_⟩⟩
    · rw [List.set_append_right _ _ (by simp [hol]), List.length_map, hol, Nat.sub_self] at hb2
      obtain ⟨z, hz⟩ : ∃ z, n - j = z + 1 := ⟨n - j - 1, by omega⟩
      rw [hz, List.replicate_succ, List.set_cons_zero] at hb2
      rw [show n - (j + 1) = z by omega]
      simpa using hb2
    · show n - ((j : Int) + 1).toNat < n - (j : Int).toNat
      omega
  have J0 : ∀ t, (j : Int) < n -> t = a.getD j 0 - less - b.getD j 0 ->
      impl_natSub_j0 n r wr Inv (fun _ i _ => n - i.toNat) less j t wr fun v w' => ∃ p' n' c', v = .slice p' n' c' /\ Own w' w.heap.size T_int 1 p' n' c' ((digs (val a - val b).toNat).map (Value.int .i64)) /\ Ext w w' := by
    intro t hlt ht
    unfold impl_natSub_j0
    exact ifD (fun hneg => exW ⟨by omega, by omega⟩ (J1 1 _ hlt (by omega) (by omega) (by omega) (by omega) (by omega))) (fun hpos => J1 0 _ hlt (by omega) (by omega) (by omega) (by omega) (by omega))
  refine ifD (fun hlt => ?_) (fun hge => ?_)
  · obtain ⟨ad, rfl, hl⟩ := ints_at (h.ext hx) (i := (j : Int)) (by omega) hlt
    refine ⟨⟨by omega, by omega⟩, _, hl, exW ⟨by simp only [Int.toNat_natCast]; omega, by simp only [Int.toNat_natCast]; omega⟩ (ifD (fun hlm => ?_) (fun hge => J0 _ hlt (by simp only [Int.toNat_natCast]; rw [bb.resolve_left hge]; omega)))⟩
    obtain ⟨ad2, rfl, hl2⟩ := ints_at (k.ext hx) (i := (j : Int)) (by omega) hlm
    exact ⟨⟨by omega, by omega⟩, _, hl2, exW ⟨by simp only [Int.toNat_natCast]; omega, by simp only [Int.toNat_natCast]; omega⟩ (J0 _ hlt (by simp only [Int.toNat_natCast]))⟩
  · have hjn' : j = n := by omega
    subst hjn'
    rw [Nat.sub_self, List.replicate_zero, List.append_nil] at hblk
    have hown : Own wr w.heap.size T_int 1 (some ⟨r, 0, none⟩) j j (o.map (Value.int .i64)) := Own.of_blk hblk (by omega) (by simp [hol]) (by simp only [maxLen]; omega)
    rw [<- hla] at hv
    have hval := sub_end hlo (by omega) (by omega) hab hc0 hc1 hv
    refine Ret.at (impl_trim_c hown.ints) ?_
    rintro v w4 ⟨hv4, hw4, hr4⟩
    subst hv4; subst hw4
    refine ⟨_, _, _, rfl, _, _, _, rfl, ?_, hx⟩
    have e := trimL_eq hlo
    rw [hval] at e
    rw [<- e]
    have hle := trimL_len o
    have := hown.sub (m := (trimL o).length) (by omega)
    rwa [<- trimL_prefix] at this
end Go.Proofs.YtgbknjdjbahdkaaGreatDoor
namespace Go.Proofs.YtgbknjdjbahdkaaGreatDoor
open Go Go.Proofs.YtgbknjdjbahdkaaGreatDoor.Sx
theorem val_set : ∀ (l : List Int) {k : Nat} (x : Int), k < l.length -> val (l.set k x) = val l + 1000000000 ^ k * (x - l.getD k 0)
  | [], k, x, h => by simp at h
  | y :: r, 0, x, _ => by simp [val]; omega
  | y :: r, k + 1, x, h => by
    have := val_set r (k := k) x (by simpa using h)
    simp only [List.set_cons_succ, val, this, List.getD_cons_succ, Int.pow_succ]
    rw [Int.mul_add, <- Int.mul_assoc, Int.mul_comm 1000000000 (1000000000 ^ k)]
    omega
theorem Limbs.set {l : List Int} {k : Nat} {x : Int} (h : Limbs l) (hx : 0 <= x /\ x < 1000000000) : Limbs (l.set k x) := fun y hy => by
  rcases List.mem_or_eq_of_mem_set hy with h1 | h1
  · exact h y h1
  · rw [h1]; exact hx
theorem mul_limb {x y : Int} (hx : 0 <= x /\ x < 1000000000) (hy : 0 <= y /\ y < 1000000000) : 0 <= x * y /\ x * y <= 999999998000000001 := by
  refine ⟨Int.mul_nonneg hx.1 hy.1, ?_⟩
  have h1 : x * y <= 999999999 * y := Int.mul_le_mul_of_nonneg_right (by omega) hy.1
  omega
theorem mul_step {b o : List Int} {i k : Nat} {carry t x V : Int} (hl : i + k < o.length) (hv : val o + 1000000000 ^ (i + k) * carry = V + x * 1000000000 ^ i * val (b.take k)) (ht : t = carry + (o.getD (i + k) 0 + x * b.getD k 0)) :
    val (o.set (i + k) (t % 1000000000)) + 1000000000 ^ (i + (k + 1)) * (t / 1000000000) = V + x * 1000000000 ^ i * val (b.take (k + 1)) := by
  rw [val_set o _ hl, val_take_succ, show i + (k + 1) = (i + k) + 1 by omega, Int.pow_succ, Int.mul_assoc]
  have e : (1000000000 : Int) ^ (i + k) * (t % 1000000000 - o.getD (i + k) 0) + 1000000000 ^ (i + k) * (1000000000 * (t / 1000000000)) = 1000000000 ^ (i + k) * (carry + x * b.getD k 0) := by
    rw [<- Int.mul_add]; congr 1; omega
  have e2 : x * (1000000000 : Int) ^ i * (val (b.take k) + 1000000000 ^ k * b.getD k 0) = x * 1000000000 ^ i * val (b.take k) + 1000000000 ^ (i + k) * (x * b.getD k 0) := by
    rw [Int.mul_add, Int.pow_add]
    congr 1
    simp only [Int.mul_assoc, Int.mul_comm, Int.mul_left_comm]
  rw [e2]
  rw [Int.mul_add] at e
  omega
theorem carry_step {o : List Int} {k : Nat} {carry t V : Int} (hl : k < o.length) (hv : val o + 1000000000 ^ k * carry = V) (ht : t = carry + o.getD k 0) :
    val (o.set k (t % 1000000000)) + 1000000000 ^ (k + 1) * (t / 1000000000) = V := by
  rw [val_set o _ hl, Int.pow_succ, Int.mul_assoc]
  have e : (1000000000 : Int) ^ k * (t % 1000000000 - o.getD k 0) + 1000000000 ^ k * (1000000000 * (t / 1000000000)) = 1000000000 ^ k * carry := by
    rw [<- Int.mul_add]; congr 1; omega
  omega
theorem mul_row {a b : List Int} {i : Nat} : val (a.take i) * val b + a.getD i 0 * 1000000000 ^ i * val b = val (a.take (i + 1)) * val b := by
  rw [val_take_succ, Int.add_mul]
  congr 2
  rw [Int.mul_comm]
theorem blk_get {w : World} {r : Nat} {o : List Int} (h : Blk w r T_int (o.map (Value.int .i64))) {i : Int} (h0 : 0 <= i) (h1 : i < o.length) : Loads P T_int ((⟨r, 0, none⟩ : Addr).add (i.toNat * 1)) (.int .i64 (o.getD i.toNat 0)) w := by
  rw [Nat.mul_one]
  refine h.load (by kernel_rfl) ?_
  rw [List.getElem?_map, List.getD_eq_getElem?_getD, List.getElem?_eq_getElem (by omega)]; rfl
theorem blk_set {w : World} {r : Nat} {o : List Int} (h : Blk w r T_int (o.map (Value.int .i64))) {i : Int} (h0 : 0 <= i) (h1 : i < o.length) (x : Int) :
    ∃ w', Stores P T_int ((⟨r, 0, none⟩ : Addr).add (i.toNat * 1)) (.int .i64 x) w w' /\ Blk w' r T_int ((o.set i.toNat x).map (Value.int .i64)) /\ Chg [r] w w' /\ w'.heap.size = w.heap.size := by
  obtain ⟨w', h1, h2, h3, h4⟩ := h.store (P := P) (t := T_int) (k := i.toNat) (v := .int .i64 x) (by kernel_rfl) (by simp; omega) rfl
  exact ⟨w', by rw [Nat.mul_one]; exact h1, by rw [List.map_set]; exact h2, h3, h4⟩
theorem impl_natMul_c {w : World} {p q : Option Addr} {n c m d : Nat} {a b : List Int} (h : IntsR w p n c a) (k : IntsR w q m d b) (ha : Limbs a) (hb : Limbs b) (hn : n <= 1000000) (hm : m <= 1000000) :
    Ret P n_impl_natMul [.slice p n c, .slice q m d] w fun v w' => ∃ p' n' c', v = .slice p' n' c' /\ Own w' w.heap.size T_int 1 p' n' c' ((digs (val a * val b).toNat).map (Value.int .i64)) /\ Ext w w' := by
  refine impl_natMul_ret ?_
  unfold impl_natMul
  have hla := h.1; have hlb := k.1
  have vb0 := val_nonneg hb
  have vbl := val_lt hb
  rw [hlb] at vbl
  refine exW ⟨by omega, by omega⟩ (exW ⟨by omega, by omega⟩ ⟨⟨by omega, by omega, by omega⟩, fun r w1 hn1 => ?_⟩)
  have hN : ((n : Int) + (m : Int) + 1).toNat = n + m + 1 := by omega
  rw [hN] at hn1 ⊢
  have hre := hn1.r_eq
  refine ⟨fun i wr => ∃ (j : Nat) (o : List Int), i = j /\ j <= n /\ o.length = n + m + 1 /\ Blk wr r T_int (o.map (Value.int .i64)) /\ Ext w wr /\ Limbs o /\ val o = val (a.take j) * val b, fun i _ => n - i.toNat,
    ⟨0, List.replicate (n + m + 1) 0, rfl, by omega, by simp, ?_, hn1.ext, fun x hx => by simp at hx; omega, ?_⟩, ?_⟩
  · have := hn1.blk
    rw [zeroRow_int, Nat.mul_one] at this
    simpa using this
  · have z : ∀ s : Nat, val (List.replicate s 0) = 0 := fun s => by
      induction s with
      | zero => rfl
      | succ s ih => simp [List.replicate_succ, val, ih]
    rw [z]; simp [val]
  intro junk wr i ⟨j, o, hi, hjn, hol, hblk, hx, hlo, hv⟩
  subst hi
  refine ifD (fun hlt => ?_) (fun hge => ?_)
  · have A := ha.getD j
    obtain ⟨ad, rfl, hl⟩ := ints_at (h.ext hx) (i := (j : Int)) (by omega) hlt
    simp only [Int.toNat_natCast] at hl
    refine ⟨⟨by omega, by omega⟩, _, by simpa only [Int.toNat_natCast] using hl, fun carry t wr2 => ∃ (s : Nat) (o : List Int), t = s /\ s <= m /\ o.length = n + m + 1 /\ Blk wr2 r T_int (o.map (Value.int .i64)) /\ Ext w wr2 /\ Limbs o /\ 0 <= carry /\ carry < 1000000000 /\ val o + 1000000000 ^ (j + s) * carry = val (a.take j) * val b + a.getD j 0 * 1000000000 ^ j * val (b.take s), fun _ t _ => m - t.toNat,
      ⟨0, o, rfl, by omega, hol, hblk, hx, hlo, by omega, by omega, by simp [val, hv]⟩, ?_⟩
    intro junk1 wr2 carry t ⟨s, o2, hs, hsm, hol2, hblk2, hx2, hlo2, hc0, hc1, hv2⟩
    subst hs
    refine ifD (fun hlt2 => ?_) (fun hge2 => ?_)
    · have B := hb.getD s
      have M := mul_limb A B
      obtain ⟨ad2, rfl, hl2⟩ := ints_at (k.ext hx2) (i := (s : Int)) (by omega) hlt2
      have O := hlo2.getD (j + s)
      have es : ((j : Int) + (s : Int)).toNat = j + s := by omega
      refine ⟨⟨by omega, by omega⟩, _, hl2, exW ⟨by omega, by omega⟩ ⟨⟨by omega, by omega⟩, _, blk_get hblk2 (by omega) (by omega), ?_⟩⟩
      rw [es]
      simp only [Int.toNat_natCast]
      refine exW ⟨by omega, by omega⟩ (exW ⟨by omega, by omega⟩ (exW ⟨by omega, by omega⟩ (exW ⟨by omega, by omega⟩ ⟨by decide, _, rfl, ⟨by omega, by omega⟩, ?_⟩)))
      rw [tmod_limb (by omega)]
      obtain ⟨w3, hst, hb3, hch, hsz⟩ := blk_set hblk2 (i := (j : Int) + (s : Int)) (by omega) (by omega) ((carry + (o2.getD (j + s) 0 + a.getD j 0 * b.getD s 0)) % 1000000000)
      rw [es] at hb3
      refine ⟨w3, hst, by decide, ?_⟩
      rw [tdiv_limb (by omega)]
      refine exW ⟨by omega, by omega⟩ (exW ⟨by omega, by omega⟩ ⟨⟨s + 1, _, by omega, by omega, by simpa using hol2, hb3, hx2.chg hch (by simp; omega), hlo2.set (limb_mod _), by omega, by omega, mul_step (by omega) hv2 rfl⟩, ?_⟩)
      show m - ((s : Int) + 1).toNat < m - (s : Int).toNat
      omega
    · have hsm' : s = m := by omega
      subst hsm'
      rw [List.take_of_length_le (show b.length <= s by omega), mul_row] at hv2
      have V0 : 0 <= val (a.take (j + 1)) := val_nonneg (ha.take _)
      have VL : val (a.take (j + 1)) * val b < 1000000000 ^ (j + 1 + s) := by
        have h1 := val_lt (ha.take (j + 1))
        have h2 : (a.take (j + 1)).length = j + 1 := by simp; omega
        rw [h2] at h1
        rw [Int.pow_add]
        exact Int.lt_of_le_of_lt (Int.mul_le_mul_of_nonneg_left (Int.le_of_lt vbl) V0) (Int.mul_lt_mul_of_pos_right h1 (Int.pow_pos (by decide)))
      refine exW ⟨by omega, by omega⟩ ⟨fun carry t wr3 => ∃ (u : Nat) (o : List Int), t = u /\ u <= n + s + 1 /\ o.length = n + s + 1 /\ Blk wr3 r T_int (o.map (Value.int .i64)) /\ Ext w wr3 /\ Limbs o /\ 0 <= carry /\ carry < 1000000000 /\ val o + 1000000000 ^ u * carry = val (a.take (j + 1)) * val b, fun _ t _ => n + s + 2 - t.toNat,
        ⟨j + s, o2, by omega, by omega, hol2, hblk2, hx2, hlo2, hc0, hc1, hv2⟩, ?_⟩
      intro junk2 wr3 carry2 t2 ⟨u, o3, hu, hun, hol3, hblk3, hx3, hlo3, hd0, hd1, hv3⟩
      subst hu
      refine ifD (fun hpos => ?_) (fun hno => ?_)
      · have hu2 : u < j + 1 + s := by
          rcases Nat.lt_or_ge u (j + 1 + s) with h | h
          · exact h
          · exfalso
            have p1 : (1000000000 : Int) ^ (j + 1 + s) <= 1000000000 ^ u := by
              have : (1000000000 : Nat) ^ (j + 1 + s) <= 1000000000 ^ u := Nat.pow_le_pow_right (by decide) h
              have := Int.ofNat_le.2 this
              simpa using this
            have p2 : (1000000000 : Int) ^ u * 1 <= 1000000000 ^ u * carry2 := Int.mul_le_mul_of_nonneg_left (by omega) (Int.le_of_lt (Int.pow_pos (by decide)))
            have := val_nonneg hlo3
            omega
        have O := hlo3.getD u
        refine ⟨⟨by omega, by omega⟩, _, blk_get hblk3 (by omega) (by omega), ?_⟩
        simp only [Int.toNat_natCast]
        refine exW ⟨by omega, by omega⟩ ⟨by decide, _, rfl, ⟨by omega, by omega⟩, ?_⟩
        rw [tmod_limb (by omega)]
        obtain ⟨w4, hst, hb4, hch, hsz⟩ := blk_set hblk3 (i := (u : Int)) (by omega) (by omega) ((carry2 + o3.getD u 0) % 1000000000)
        simp only [Int.toNat_natCast] at hst hb4
        refine ⟨w4, hst, by decide, ?_⟩
        rw [tdiv_limb (by omega)]
        refine exW ⟨by omega, by omega⟩ (exW ⟨by omega, by omega⟩ ⟨⟨u + 1, _, by omega, by omega, by simpa using hol3, hb4, hx3.chg hch (by simp; omega), hlo3.set (limb_mod _), by omega, by omega, carry_step (by omega) hv3 rfl⟩, ?_⟩)
        show n + s + 2 - ((u : Int) + 1).toNat < n + s + 2 - (u : Int).toNat
        omega
      · have hc : carry2 = 0 := by omega
        subst hc
        refine exW ⟨by omega, by omega⟩ ⟨⟨j + 1, o3, by omega, by omega, hol3, hblk3, hx3, hlo3, by omega⟩, ?_⟩
        show n - ((j : Int) + 1).toNat < n - (j : Int).toNat
        omega
  · have hjn' : j = n := by omega
    subst hjn'
    rw [List.take_of_length_le (by omega)] at hv
    have hown : Own wr w.heap.size T_int 1 (some ⟨r, 0, none⟩) (j + m + 1) (j + m + 1) (o.map (Value.int .i64)) := Own.of_blk hblk (by omega) (by simp [hol]) (by simp only [maxLen]; omega)
    refine Ret.at (impl_trim_c hown.ints) ?_
    rintro v w4 ⟨hv4, hw4, hr4⟩
    subst hv4; subst hw4
    refine ⟨_, _, _, rfl, _, _, _, rfl, ?_, hx⟩
    have e := trimL_eq hlo
    rw [hv] at e
    rw [<- e]
    have hle := trimL_len o
    have := hown.sub (m := (trimL o).length) (by omega)
    rwa [<- trimL_prefix] at this
end Go.Proofs.YtgbknjdjbahdkaaGreatDoor
namespace Go.Proofs.YtgbknjdjbahdkaaGreatDoor.Sx
open Go
def D0.cnt : D0 -> Int
  | .ints z => (z.length : Nat)
  | _ => 1
def cnts : List D0 -> Int
  | [] => 0
  | d :: r => d.cnt + cnts r
def tcnts : List D0 -> Int
  | [] => 0
  | .ints z :: r => (z.length : Nat) + tcnts r
  | _ :: r => tcnts r
def cntL : List (List D0) -> Int
  | [] => 0
  | x :: l => cnts x + cntL l
theorem cnts_le : ∀ (l : List D0), cnts l <= ((bulks l + l.length : Nat) : Int)
  | [] => by simp [cnts]
  | d :: r => by
    have h2 := cnts_le r
    have h1 : d.cnt <= (d.bulk : Nat) + 1 := by cases d <;> simp [D0.cnt, D0.bulk] <;> omega
    simp only [cnts, bulks, List.map_cons, List.sum_cons, List.length_cons] at h2 ⊢
    omega
theorem cntL_le {m : Nat} : ∀ (l : List (List D0)), (∀ x ∈ l, x.length <= m) -> cntL l <= (((l.map bulks).sum + l.length * m : Nat) : Int)
  | [], _ => by simp [cntL]
  | x :: l, h => by
    have h1 := cnts_le x; have h2 := cntL_le l fun y hy => h y (.tail _ hy); have h3 := h x (.head _)
    simp only [cntL, List.map_cons, List.sum_cons, List.length_cons, Nat.succ_mul] at h2 ⊢
    omega
theorem mem_opt {o : Option Nat} {q : Nat} (h : o = some q) : q ∈ o.toList := by subst h; simp
theorem opt_mem {o : Option Nat} {q : Nat} (h : q ∈ o.toList) : o = some q := by cases o <;> simp_all
theorem code_ints {ds : List D0} {cs : List C0} (h : ds.map D0.code = .ints :: cs) : ∃ z es, ds = .ints z :: es /\ es.map D0.code = cs := by
  match ds, h with
  | .ints z :: es, h => exact ⟨z, es, rfl, (List.cons.inj h).2⟩
theorem code_bool {ds : List D0} {cs : List C0} (h : ds.map D0.code = .bool :: cs) : ∃ z es, ds = .bool z :: es /\ es.map D0.code = cs := by
  match ds, h with
  | .bool z :: es, h => exact ⟨z, es, rfl, (List.cons.inj h).2⟩
theorem code_int {ds : List D0} {cs : List C0} (h : ds.map D0.code = .int :: cs) : ∃ z es, ds = .int z :: es /\ es.map D0.code = cs := by
  match ds, h with
  | .int z :: es, h => exact ⟨z, es, rfl, (List.cons.inj h).2⟩
theorem code_nil {ds : List D0} (h : ds.map D0.code = []) : ds = [] := by simpa using h
theorem Owns.done {w : World} {B : Nat} {vs : List Value} {ds : List D0} {f : List Nat} (h : Owns w B vs ds f) (hc : ds.map D0.code = []) : vs = [] /\ ds = [] /\ f = [] := by
  match vs, ds, h, hc with
  | [], [], h, _ => exact ⟨rfl, rfl, h⟩
  | v :: us, [], h, _ => exact h.elim
theorem Blk.segMid {w : World} {b o : Nat} {e : TypeId} {xs cur zs : List Value} (h : Blk w b e (xs ++ cur ++ zs)) (hA : xs.length = o) : Seg w b o cur := by
  subst hA
  have h1 := h.seg
  have h2 := (h1.drop xs.length).take cur.length
  rw [List.append_assoc, List.drop_left, List.take_left] at h2
  simpa using h2
theorem Blk.storeMid {P : Program} {w : World} {t : TypeId} {b o : Nat} {e : TypeId} {xs cur zs : List Value} {v : Value} (h : Blk w b e (xs ++ cur ++ zs)) (hA : xs.length = o) (j : Nat) (hj : j < cur.length) (ht : cellT P t = true) (hv : v.oneCell' = true) {a : Addr} (ha : a = ⟨b, o + j, none⟩) :
    ∃ w', Stores P t a v w w' /\ Blk w' b e (xs ++ cur.set j v ++ zs) /\ Chg [b] w w' /\ w'.heap.size = w.heap.size := by
  subst ha; subst hA
  obtain ⟨w', h1, h2, h3, h4⟩ := h.store (P := P) (k := xs.length + j) (v := v) ht (by simp; omega) hv
  refine ⟨w', by rw [addr_add, Nat.zero_add] at h1; exact h1, ?_, h3, h4⟩
  rw [List.append_assoc, List.set_append_right _ _ (by omega), Nat.add_sub_cancel_left, List.set_append_left _ _ hj, <- List.append_assoc] at h2
  exact h2
theorem Own.blk {w : World} {B : Nat} {e : TypeId} {size : Nat} {p : Option Addr} {n c : Nat} {xs : List Value} (h : Own w B e size p n c xs) (hn : 0 < n) :
    ∃ b ys, p = some ⟨b, 0, none⟩ /\ B <= b /\ Blk w b e ys /\ ys.length = c * size /\ n <= c /\ c <= maxLen /\ ys.take (n * size) = xs := by
  rcases h.2 with ⟨h1, h2⟩ | ⟨g, cap, cur, h1, hb, hg, h3, h4, h5, h6⟩
  · omega
  · simp only [Value.slice.injEq] at h1
    obtain ⟨e1, _, e3⟩ := h1
    have e3 : c = cap := by omega
    subst e3
    exact ⟨g, cur.toList, e1, hb, hg, by simpa using h5, h3, h4, h6⟩
theorem Own.of_blk' {w : World} {B : Nat} {e : TypeId} {size : Nat} {b n c : Nat} {ys : List Value} (h : Blk w b e ys) (hb : B <= b) (hl : ys.length = c * size) (hn : n <= c) (hc : c <= maxLen) : Own w B e size (some ⟨b, 0, none⟩) n c (ys.take (n * size)) :=
  ⟨by
    have : n * size <= c * size := Nat.mul_le_mul_right _ hn
    simp; omega, .inr ⟨b, c, ⟨ys⟩, rfl, hb, h, hn, hc, by simpa using hl, rfl⟩⟩
theorem Own.set {P : Program} {w : World} {B : Nat} {e : TypeId} {size : Nat} {p : Option Addr} {n c : Nat} {xs : List Value} (h : Own w B e size p n c xs) {t : TypeId} {i : Nat} {v : Value} (hi : i < xs.length) (ht : cellT P t = true) (hv : v.oneCell' = true) :
    ∃ b w', p = some ⟨b, 0, none⟩ /\ Stores P t ((⟨b, 0, none⟩ : Addr).add i) v w w' /\ Own w' B e size p n c (xs.set i v) /\ Chg (p.map (·.block)).toList w w' /\ w'.heap.size = w.heap.size := by
  have hl := h.len
  have hn : 0 < n := by
    rcases Nat.eq_zero_or_pos n with h0 | h0
    · subst h0; simp at hl; rw [hl] at hi; simp at hi
    · exact h0
  obtain ⟨b, ys, rfl, hb, hblk, hyl, hnc, hc, hx⟩ := h.blk hn
  have hle : n * size <= c * size := Nat.mul_le_mul_right _ hnc
  obtain ⟨w', st, hb', ch, sz⟩ := hblk.store (P := P) (t := t) (k := i) (v := v) ht (by omega) hv
  refine ⟨b, w', rfl, st, ?_, by simpa using ch, sz⟩
  have := Own.of_blk' (n := n) hb' hb (by simpa using hyl) hnc hc
  rw [List.take_set, hx] at this
  exact this
theorem AllO.set {S : List Nat} {w w' : World} {B k : Nat} {cs' : List Value} {x' : List D0} (hc : Chg S w w') (hk : cs'.length = k) : ∀ {css : List (List Value)} {l : List (List D0)} {fs : List (List Nat)}, AllO w B k css l fs -> ∀ (i : Nat) (fi : List Nat), fs[i]? = some fi ->
    Owns w' B cs' x' fi -> (∀ (j : Nat) (f : List Nat), j ≠ i -> fs[j]? = some f -> ∀ y ∈ f, y ∉ S) -> AllO w' B k (css.set i cs') (l.set i x') fs
  | [], [], [], _, i, fi, hx, _, _ => by simp at hx
  | cs :: css, y :: l, f :: fs, h, 0, fi, hx, ho, hS => by
    simp only [List.getElem?_cons_zero, Option.some.injEq] at hx
    subst hx
    refine ⟨hk, ho, h.2.2.chg hc fun y hy => ?_⟩
    obtain ⟨f', hf, hyf⟩ := List.mem_flatten.1 hy
    obtain ⟨j, hj, e⟩ := List.getElem_of_mem hf
    exact hS (j + 1) f' (by omega) (by simp [List.getElem?_eq_getElem hj, e]) y hyf
  | cs :: css, y :: l, f :: fs, h, i + 1, fi, hx, ho, hS => by
    simp only [List.getElem?_cons_succ] at hx
    refine ⟨h.1, h.2.1.chg hc fun y hy => hS 0 f (by omega) rfl y hy, AllO.set hc hk h.2.2 i fi hx ho fun j f' hj hf => hS (j + 1) f' (by omega) (by simpa using hf)⟩
  | [], [], _ :: _, h, _, _, _, _, _ => h.elim
  | [], _ :: _, _, h, _, _, _, _, _ => h.elim
  | _ :: _, [], _, h, _, _, _, _, _ => h.elim
  | _ :: _, _ :: _, [], h, _, _, _, _, _ => h.elim
end Go.Proofs.YtgbknjdjbahdkaaGreatDoor.Sx
namespace Go.Proofs.YtgbknjdjbahdkaaGreatDoor
open Go Go.Proofs.YtgbknjdjbahdkaaGreatDoor.Sx
theorem mid_get {w : World} {b off : Nat} {xs zs : List Value} {u : List Int} (h : Blk w b T_int (xs ++ u.map (Value.int .i64) ++ zs)) (hA : xs.length = off) {i : Nat} (hi : i < u.length) :
    Loads P T_int ((⟨b, off, none⟩ : Addr).add (i * 1)) (.int .i64 (u.getD i 0)) w := by
  rw [Nat.mul_one]
  refine (h.segMid hA).load (by kernel_rfl) ?_
  rw [List.getElem?_map, List.getD_eq_getElem?_getD, List.getElem?_eq_getElem hi]; rfl
theorem mid_set {w : World} {b off : Nat} {xs zs : List Value} {u : List Int} (h : Blk w b T_int (xs ++ u.map (Value.int .i64) ++ zs)) (hA : xs.length = off) {i : Nat} (hi : i < u.length) (x : Int) :
    ∃ w', Stores P T_int ((⟨b, off, none⟩ : Addr).add (i * 1)) (.int .i64 x) w w' /\ Blk w' b T_int (xs ++ (u.set i x).map (Value.int .i64) ++ zs) /\ Chg [b] w w' /\ w'.heap.size = w.heap.size := by
  obtain ⟨w', h1, h2, h3, h4⟩ := h.storeMid (P := P) (t := T_int) (v := .int .i64 x) hA i (by simpa using hi) (by kernel_rfl) rfl (a := (⟨b, off, none⟩ : Addr).add (i * 1)) (by rw [addr_add, Nat.mul_one])
  exact ⟨w', h1, by rw [List.map_set]; exact h2, h3, h4⟩
theorem getD_set_ne {u : List Int} {i j : Nat} (x : Int) (h : i ≠ j) : (u.set i x).getD j 0 = u.getD j 0 := by
  rw [List.getD_eq_getElem?_getD, List.getElem?_set_ne h, <- List.getD_eq_getElem?_getD]
theorem getD_set_eq {u : List Int} {i : Nat} (x : Int) (h : i < u.length) : (u.set i x).getD i 0 = x := by
  rw [List.getD_eq_getElem?_getD, List.getElem?_set_self h]; rfl
theorem take_set_succ {u : List Int} {j : Nat} {x : Int} (hj : j < u.length) (hl : Limbs (u.take j)) (hx : 0 <= x /\ x < 1000000000) : Limbs ((u.set j x).take (j + 1)) := by
  have e : (u.set j x).take (j + 1) = u.take j ++ [x] := by
    rw [List.take_add_one, List.getElem?_set_self hj, List.take_set_of_le (Nat.le_refl _)]; rfl
  rw [e]
  exact hl.snoc hx
theorem top_sign {X M y : Int} (h0 : 0 <= X) (h1 : X < M) : (X + M * y < 0 ↔ y < 0) := by
  constructor
  · intro h
    by_cases hy : y < 0
    · exact hy
    · have := Int.mul_nonneg (show 0 <= M by omega) (show 0 <= y by omega)
      omega
  · intro hy
    have := Int.mul_le_mul_of_nonneg_left (show y <= -1 by omega) (show 0 <= M by omega)
    omega
theorem val_top {u : List Int} {m : Nat} (h : u.length = m + 1) : val u = val (u.take m) + 1000000000 ^ m * u.getD m 0 := by
  have := val_take_succ u m
  rwa [List.take_of_length_le (by omega)] at this
theorem mul_same {a x y : Int} (h : x = y) : a * x = a * y := by rw [h]
theorem subt_step {u vs : List Int} {j : Nat} {x borrow y b' V : Int} (hj : j < u.length) (hv : val u = V - x * val (vs.take j) + 1000000000 ^ j * borrow)
    (hy : y = u.getD j 0 - vs.getD j 0 * x - borrow + 1000000000 * b') : val (u.set j y) = V - x * val (vs.take (j + 1)) + 1000000000 ^ (j + 1) * b' := by
  rw [val_set u _ hj, val_take_succ, Int.pow_succ, Int.mul_assoc]
  have e : (1000000000 : Int) ^ j * (y - u.getD j 0) = 1000000000 ^ j * (1000000000 * b') - 1000000000 ^ j * borrow - x * (1000000000 ^ j * vs.getD j 0) := by
    have : x * (1000000000 ^ j * vs.getD j 0) = (1000000000 : Int) ^ j * (vs.getD j 0 * x) := by
      rw [Int.mul_comm, Int.mul_assoc]
    rw [this, <- Int.mul_sub, <- Int.mul_sub]; exact mul_same (by omega)
  rw [Int.mul_add]
  omega
theorem impl_subTimes_c {w : World} {b off m c d : Nat} {q : Option Addr} {xs zs : List Value} {u vs : List Int} {x : Int} (h : Blk w b T_int (xs ++ u.map (Value.int .i64) ++ zs)) (hA : xs.length = off) (hu : u.length = m + 1)
    (k : IntsR w q m d vs) (hq : ∀ z, q.map (·.block) = some z -> z ≠ b) (hlu : Limbs u) (hlv : Limbs vs) (hx : 0 <= x /\ x < 1000000000) (hm : m <= 10000000) :
    Ret P n_impl_subTimes [.slice (some ⟨b, off, none⟩) (m + 1) c, .slice q m d, .int .i64 x] w fun v w' => ∃ u' : List Int, v = .bool (decide (val u' < 0)) /\ u'.length = m + 1 /\ Blk w' b T_int (xs ++ u'.map (Value.int .i64) ++ zs) /\ Chg [b] w w' /\ w'.heap.size = w.heap.size /\ Limbs (u'.take m) /\ val u' = val u - x * val vs := by
  refine impl_subTimes_ret ?_
  unfold impl_subTimes
  have hlv1 := k.1
  refine ⟨fun borrow t wr => ∃ (j : Nat) (o : List Int), t = j /\ j <= m /\ o.length = m + 1 /\ Blk wr b T_int (xs ++ o.map (Value.int .i64) ++ zs) /\ Chg [b] w wr /\ wr.heap.size = w.heap.size /\ Limbs (o.take j) /\ (∀ i, j <= i -> o.getD i 0 = u.getD i 0) /\ 0 <= borrow /\ borrow < 1000000000 /\ val o = val u - x * val (vs.take j) + 1000000000 ^ j * borrow, fun _ t _ => m - t.toNat,
    ⟨0, u, rfl, by omega, hu, h, Chg.refl _ _, rfl, by simp [Limbs], fun _ _ => rfl, by omega, by omega, by simp [val]⟩, ?_⟩
  intro junk wr borrow t ⟨j, o, ht, hjm, ho, hb, hch, hsz, hlo, hsame, hb0, hb1, hval⟩
  subst ht
  have kr := k.chg hch (fun z hz hm => hq z hz (by simpa using hm))
  refine ifD (fun hlt => ?_) (fun hge => ?_)
  · have U := hlu.getD j; have V := hlv.getD j
    have M := mul_limb V hx
    rw [<- hsame j (Nat.le_refl _)] at U
    obtain ⟨ad, rfl, hl⟩ := ints_at kr (i := (j : Int)) (by omega) hlt
    simp only [Int.toNat_natCast] at hl
    refine ⟨⟨by omega, by omega⟩, _, by simpa only [Int.toNat_natCast] using hl, ⟨by omega, by omega⟩, _, by simpa only [Int.toNat_natCast] using mid_get hb hA (show j < o.length by omega), exW ⟨by omega, by omega⟩ (exW ⟨by omega, by omega⟩ (exW ⟨by omega, by omega⟩ ?_))⟩
    have fin : ∀ y b' : Int, 0 <= y -> y < 1000000000 -> 0 <= b' -> b' < 1000000000 -> y = o.getD j 0 - vs.getD j 0 * x - borrow + 1000000000 * b' ->
        ∃ w', Stores P T_int ((⟨b, off, none⟩ : Addr).add (j * 1)) (.int .i64 y) wr w' /\ ∃ (i : Nat) (o : List Int), ((j : Int) + 1) = i /\ i <= m /\ o.length = m + 1 /\ Blk w' b T_int (xs ++ o.map (Value.int .i64) ++ zs) /\ Chg [b] w w' /\ w'.heap.size = w.heap.size /\ Limbs (o.take i) /\ (∀ z, i <= z -> o.getD z 0 = u.getD z 0) /\ 0 <= b' /\ b' < 1000000000 /\ val o = val u - x * val (vs.take i) + 1000000000 ^ i * b' := fun y b' y0 y1 b0 b1 e => by
      obtain ⟨w3, st, hb3, ch3, sz3⟩ := mid_set hb hA (show j < o.length by omega) y
      exact ⟨w3, st, j + 1, _, by omega, by omega, by simpa using ho, hb3, hch.trans ch3, by omega, take_set_succ (by omega) hlo ⟨y0, y1⟩, fun z hz => by rw [getD_set_ne _ (by omega)]; exact hsame z (by omega), b0, b1, subt_step (by omega) hval e⟩
    refine ifD (fun hneg => ?_) (fun hpos => ?_)
    · refine exW ⟨by omega, by omega⟩ (exW ⟨by omega, by omega⟩ (exW ⟨by omega, by omega⟩ ⟨by decide, ?_⟩))
      rw [tdiv_limb (by omega)]
      refine exW ⟨by omega, by omega⟩ (exW ⟨by omega, by omega⟩ (exW ⟨by omega, by omega⟩ ?_))
      unfold impl_subTimes_j0
      obtain ⟨w3, st, inv⟩ := fin (o.getD j 0 - vs.getD j 0 * x - borrow + (0 - (o.getD j 0 - vs.getD j 0 * x - borrow) + 1000000000 - 1) / 1000000000 * 1000000000) ((0 - (o.getD j 0 - vs.getD j 0 * x - borrow) + 1000000000 - 1) / 1000000000) (by omega) (by omega) (by omega) (by omega) (by omega)
      refine ⟨⟨by omega, by omega⟩, w3, by simpa only [Int.toNat_natCast] using st, exW ⟨by omega, by omega⟩ ⟨inv, ?_⟩⟩
      show m - ((j : Int) + 1).toNat < m - (j : Int).toNat
      omega
    · unfold impl_subTimes_j0
      obtain ⟨w3, st, inv⟩ := fin (o.getD j 0 - vs.getD j 0 * x - borrow) 0 (by omega) (by omega) (by omega) (by omega) (by omega)
      refine ⟨⟨by omega, by omega⟩, w3, by simpa only [Int.toNat_natCast] using st, exW ⟨by omega, by omega⟩ ⟨inv, ?_⟩⟩
      show m - ((j : Int) + 1).toNat < m - (j : Int).toNat
      omega
  · have hjm' : j = m := by omega
    subst hjm'
    rw [List.take_of_length_le (show vs.length <= j by omega)] at hval
    have U := hlu.getD j
    rw [<- hsame j (Nat.le_refl _)] at U
    refine ⟨⟨by omega, by omega⟩, _, mid_get hb hA (show j < o.length by omega), exW ⟨by omega, by omega⟩ ⟨⟨by omega, by omega⟩, ?_⟩⟩
    obtain ⟨w3, st, hb3, ch3, sz3⟩ := mid_set hb hA (show j < o.length by omega) (o.getD j 0 - borrow)
    have hl3 : (o.set j (o.getD j 0 - borrow)).length = j + 1 := by simpa using ho
    have ht3 : (o.set j (o.getD j 0 - borrow)).take j = o.take j := List.take_set_of_le (Nat.le_refl _)
    have g3 := getD_set_eq (o.getD j 0 - borrow) (show j < o.length by omega)
    have hL3 : Limbs ((o.set j (o.getD j 0 - borrow)).take j) := by rw [ht3]; exact hlo
    refine ⟨w3, st, ⟨by omega, by omega⟩, _, mid_get hb3 hA (show j < _ by omega), _, ?_, hl3, hb3, hch.trans ch3, by omega, hL3, ?_⟩
    · have hn := val_nonneg hL3; have hlt3 := val_lt hL3
      have hlen : ((o.set j (o.getD j 0 - borrow)).take j).length = j := by rw [List.length_take]; omega
      rw [hlen] at hlt3
      have := top_sign (y := (o.set j (o.getD j 0 - borrow)).getD j 0) hn hlt3
      rw [val_top hl3]
      simp only [this]
    · rw [val_set _ _ (by omega)]
      have : (1000000000 : Int) ^ j * (o.getD j 0 - borrow - o.getD j 0) = - (1000000000 ^ j * borrow) := by
        rw [<- Int.mul_neg]; exact mul_same (by omega)
      omega
theorem impl_addBack_c {w : World} {b off m c d : Nat} {q : Option Addr} {xs zs : List Value} {u vs : List Int} (h : Blk w b T_int (xs ++ u.map (Value.int .i64) ++ zs)) (hA : xs.length = off) (hu : u.length = m + 1)
    (k : IntsR w q m d vs) (hq : ∀ z, q.map (·.block) = some z -> z ≠ b) (hlu : Limbs (u.take m)) (hlv : Limbs vs) (ht : -1000000000 <= u.getD m 0 /\ u.getD m 0 <= 1000000000) (hm : m <= 10000000) :
    Ret P n_impl_addBack [.slice (some ⟨b, off, none⟩) (m + 1) c, .slice q m d] w fun v w' => ∃ u' : List Int, v = .tuple #[] /\ u'.length = m + 1 /\ Blk w' b T_int (xs ++ u'.map (Value.int .i64) ++ zs) /\ Chg [b] w w' /\ w'.heap.size = w.heap.size /\ Limbs (u'.take m) /\ val u' = val u + val vs := by
  refine impl_addBack_ret ?_
  unfold impl_addBack
  have hlv1 := k.1
  refine ⟨fun carry t wr => ∃ (j : Nat) (o : List Int), t = j /\ j <= m /\ o.length = m + 1 /\ Blk wr b T_int (xs ++ o.map (Value.int .i64) ++ zs) /\ Chg [b] w wr /\ wr.heap.size = w.heap.size /\ Limbs (o.take j) /\ (∀ i, j <= i -> o.getD i 0 = u.getD i 0) /\ 0 <= carry /\ carry <= 1 /\ val o + 1000000000 ^ j * carry = val u + val (vs.take j), fun _ t _ => m - t.toNat,
    ⟨0, u, rfl, by omega, hu, h, Chg.refl _ _, rfl, by simp [Limbs], fun _ _ => rfl, by omega, by omega, by simp [val]⟩, ?_⟩
  intro junk wr carry t ⟨j, o, htj, hjm, ho, hb, hch, hsz, hlo, hsame, hb0, hb1, hval⟩
  subst htj
  have kr := k.chg hch (fun z hz hm => hq z hz (by simpa using hm))
  refine ifD (fun hlt => ?_) (fun hge => ?_)
  · have V := hlv.getD j
    have U : 0 <= o.getD j 0 /\ o.getD j 0 < 1000000000 := by
      rw [hsame j (Nat.le_refl _)]
      have := hlu.getD j
      rwa [List.getD_eq_getElem?_getD, List.getElem?_take_of_lt (by omega), <- List.getD_eq_getElem?_getD] at this
    obtain ⟨ad, rfl, hl⟩ := ints_at kr (i := (j : Int)) (by omega) hlt
    simp only [Int.toNat_natCast] at hl
    refine ⟨⟨by omega, by omega⟩, _, by simpa only [Int.toNat_natCast] using hl, ⟨by omega, by omega⟩, _, by simpa only [Int.toNat_natCast] using mid_get hb hA (show j < o.length by omega), exW ⟨by omega, by omega⟩ (exW ⟨by omega, by omega⟩ ⟨by decide, _, rfl, ⟨by omega, by omega⟩, ?_⟩)⟩
    rw [tmod_limb (by omega)]
    obtain ⟨w3, st, hb3, ch3, sz3⟩ := mid_set hb hA (show j < o.length by omega) ((carry + (o.getD j 0 + vs.getD j 0)) % 1000000000)
    refine ⟨w3, by simpa only [Int.toNat_natCast] using st, by decide, ?_⟩
    rw [tdiv_limb (by omega)]
    refine exW ⟨by omega, by omega⟩ (exW ⟨by omega, by omega⟩ ⟨⟨j + 1, _, by omega, by omega, by simpa using ho, hb3, hch.trans ch3, by omega, take_set_succ (by omega) hlo (limb_mod _), fun z hz => by rw [getD_set_ne _ (by omega)]; exact hsame z (by omega), by omega, by omega, ?_⟩, ?_⟩)
    · rw [val_set o _ (by omega), val_take_succ, Int.pow_succ, Int.mul_assoc]
      have e : (1000000000 : Int) ^ j * ((carry + (o.getD j 0 + vs.getD j 0)) % 1000000000 - o.getD j 0) + 1000000000 ^ j * (1000000000 * ((carry + (o.getD j 0 + vs.getD j 0)) / 1000000000)) = 1000000000 ^ j * carry + 1000000000 ^ j * vs.getD j 0 := by
        rw [<- Int.mul_add, <- Int.mul_add]; exact mul_same (by omega)
      omega
    · show m - ((j : Int) + 1).toNat < m - (j : Int).toNat
      omega
  · have hjm' : j = m := by omega
    subst hjm'
    rw [List.take_of_length_le (show vs.length <= j by omega)] at hval
    have hs := hsame j (Nat.le_refl _)
    rw [<- hs] at ht
    refine ⟨⟨by omega, by omega⟩, _, mid_get hb hA (show j < o.length by omega), exW ⟨by omega, by omega⟩ ⟨⟨by omega, by omega⟩, ?_⟩⟩
    obtain ⟨w3, st, hb3, ch3, sz3⟩ := mid_set hb hA (show j < o.length by omega) (o.getD j 0 + carry)
    have ht3 : (o.set j (o.getD j 0 + carry)).take j = o.take j := List.take_set_of_le (Nat.le_refl _)
    refine ⟨w3, st, _, rfl, by simpa using ho, hb3, hch.trans ch3, by omega, by rw [ht3]; exact hlo, ?_⟩
    rw [val_set _ _ (by omega)]
    have : (1000000000 : Int) ^ j * (o.getD j 0 + carry - o.getD j 0) = 1000000000 ^ j * carry := mul_same (by omega)
    omega
theorem impl_natSmall_c {w : World} {p : Option Addr} {n c : Nat} {a : List Int} {d : Int} (h : IntsR w p n c a) (ha : Limbs a) (hd : 0 < d /\ d < 1000000000) (hn : n <= 10000000) :
    Ret P n_impl_natSmall [.slice p n c, .int .i64 d] w fun v w' => ∃ p' n' c', v = .tuple #[.slice p' n' c', .int .i64 (val a % d)] /\ Own w' w.heap.size T_int 1 p' n' c' ((digs (val a / d).toNat).map (Value.int .i64)) /\ Ext w w' := by
  refine impl_natSmall_ret ?_
  unfold impl_natSmall
  have hla := h.1
  refine ⟨⟨by omega, by omega, by omega⟩, fun r w1 hn1 => exW ⟨by omega, by omega⟩ ?_⟩
  have hre := hn1.r_eq
  have hb1 := hn1.blk
  rw [zeroRow_int, Nat.mul_one] at hb1
  refine ⟨fun rest i wr => ∃ (s : Nat) (o : List Int), i = (s : Int) - 1 /\ s <= n /\ o.length = n /\ Blk wr r T_int (o.map (Value.int .i64)) /\ Ext w wr /\ Limbs o /\ 0 <= rest /\ rest < d /\ val (a.drop s) = d * val (o.drop s) + rest, fun _ i _ => (i + 1).toNat,
    ⟨n, List.replicate n 0, rfl, by omega, by simp, by simpa using hb1, hn1.ext, fun x hx => by simp at hx; omega, by omega, by omega, by rw [List.drop_of_length_le (by omega), List.drop_of_length_le (by simp)]; simp [val]⟩, ?_⟩
  intro junk wr rest i ⟨s, o, hi, hsn, hol, hblk, hx, hlo, hr0, hr1, hv⟩
  subst hi
  refine ifD (fun hlt => ?_) (fun hge => ?_)
  · obtain ⟨t, rfl⟩ : ∃ t, s = t + 1 := ⟨s - 1, by omega⟩
    have A := ha.getD t
    have e1 : (((t + 1 : Nat) : Int) - 1).toNat = t := by omega
    obtain ⟨ad, rfl, hl⟩ := ints_at (h.ext hx) (i := ((t + 1 : Nat) : Int) - 1) (by omega) (by omega)
    rw [e1] at hl ⊢
    have T1 : rest * 1000000000 + a.getD t 0 < 1000000000 * d := by
      have : rest * 1000000000 <= (d - 1) * 1000000000 := Int.mul_le_mul_of_nonneg_right (by omega) (by omega)
      omega
    have T0 : 0 <= rest * 1000000000 + a.getD t 0 := by omega
    have Y0 : 0 <= (rest * 1000000000 + a.getD t 0) / d := Int.ediv_nonneg T0 (by omega)
    have Y1 : (rest * 1000000000 + a.getD t 0) / d < 1000000000 := Int.ediv_lt_of_lt_mul (by omega) T1
    have Z0 := Int.emod_nonneg (rest * 1000000000 + a.getD t 0) (show d ≠ 0 by omega)
    have Z1 := Int.emod_lt_of_pos (rest * 1000000000 + a.getD t 0) hd.1
    have Q := Int.mul_ediv_add_emod (rest * 1000000000 + a.getD t 0) d
    refine exW ⟨by omega, by omega⟩ ⟨⟨by omega, by omega⟩, _, hl, exW ⟨by omega, by omega⟩ ⟨by omega, ?_⟩⟩
    rw [Int.tdiv_eq_ediv_of_nonneg T0, Int.tmod_eq_emod_of_nonneg T0]
    obtain ⟨w3, st, hb3, ch3, sz3⟩ := blk_set hblk (i := (t : Int)) (by omega) (by omega) ((rest * 1000000000 + a.getD t 0) / d)
    simp only [Int.toNat_natCast] at st hb3
    refine exW ⟨by omega, by omega⟩ ⟨⟨by omega, by omega⟩, w3, st, by omega, _, rfl, exW ⟨by omega, by omega⟩ ⟨⟨t, _, by omega, by omega, by simpa using hol, hb3, hx.chg ch3 (by simp; omega), hlo.set ⟨Y0, Y1⟩, Z0, Z1, ?_⟩, ?_⟩⟩
    · have ea : a.drop t = a.getD t 0 :: a.drop (t + 1) := by
        rw [List.drop_eq_getElem_cons (by omega), List.getD_eq_getElem?_getD, List.getElem?_eq_getElem (by omega)]; rfl
      have eo : (o.set t ((rest * 1000000000 + a.getD t 0) / d)).drop t = (rest * 1000000000 + a.getD t 0) / d :: o.drop (t + 1) := by
        rw [List.drop_eq_getElem_cons (by simp; omega), List.getElem_set_self, List.drop_set_of_lt (by omega)]
      rw [ea, eo, val, val, hv, Int.mul_add d]
      have : d * (1000000000 * val (o.drop (t + 1))) = 1000000000 * (d * val (o.drop (t + 1))) := by rw [Int.mul_left_comm]
      omega
    · show (((t + 1 : Nat) : Int) - 1 - 1 + 1).toNat < (((t + 1 : Nat) : Int) - 1 + 1).toNat
      omega
  · have hs0 : s = 0 := by omega
    subst hs0
    simp only [List.drop_zero] at hv
    have hown : Own wr w.heap.size T_int 1 (some ⟨r, 0, none⟩) n n (o.map (Value.int .i64)) := Own.of_blk hblk (by omega) (by simp [hol]) (by simp only [maxLen]; omega)
    refine Ret.at (impl_trim_c hown.ints) ?_
    rintro v w4 ⟨hv4, hw4, hr4⟩
    subst hv4; subst hw4
    have e1 : val a / d = val o := by rw [hv, Int.mul_comm, Int.add_comm, Int.add_mul_ediv_right _ _ (by omega), Int.ediv_eq_zero_of_lt hr0 hr1, Int.zero_add]
    have e2 : val a % d = rest := by rw [hv, Int.mul_comm, Int.add_comm, Int.add_mul_emod_self_right, Int.emod_eq_of_lt hr0 hr1]
    refine ⟨_, _, _, rfl, _, _, _, by rw [e2], ?_, hx⟩
    rw [e1, <- trimL_eq hlo]
    have hle := trimL_len o
    have := hown.sub (m := (trimL o).length) (by omega)
    rwa [<- trimL_prefix] at this
end Go.Proofs.YtgbknjdjbahdkaaGreatDoor
namespace Go.Proofs.YtgbknjdjbahdkaaGreatDoor.Sx
open Go Go.RowKit
theorem Own.push1 {P : Program} {w : World} {B : Nat} {t e : TypeId} {z : Value} {size bytes : Nat} {p : Option Addr} {n c r : Nat} {xs news : List Value} (h : Own w B e size p n c xs)
    (hT : sliceT P t e z size bytes) (hb : B <= w.heap.size) (hr : Blk w r e news) (hl : news.length = size) (h1 : ∀ u ∈ news, u.oneCell' = true)
    (hbytes : (n + 1) * bytes <= 140737488355328) (hby : 1 <= bytes) :
    ∃ p' c' w', Appends P [t, t] [.slice p n c, .slice (some ⟨r, 0, none⟩) 1 1] (.slice p' (n + 1) c') w w' /\ Own w' B e size p' (n + 1) c' (xs ++ news) /\ Chg (p.map (·.block)).toList w w' /\
      (p'.map (·.block) = p.map (·.block) ∨ ∀ q, p'.map (·.block) = some q -> w.heap.size <= q) := by
  obtain ⟨hu, hi, hz, hs⟩ := hT
  cases hinf : P.info? e with
  | none => rw [hinf] at hi; cases hi
  | some i =>
    rw [hinf] at hi
    simp only [Option.map_some, Option.some.injEq, Prod.mk.injEq] at hi
    have hnm : n + 1 <= maxLen := by
      have : n + 1 <= (n + 1) * bytes := Nat.le_mul_of_pos_right _ hby
      simp only [maxLen]; omega
    have hcells : ∀ j u, news[j]? = some u -> w.cell? ((⟨r, 0, none⟩ : Addr).add j) = some u := fun j u hj => by rw [addr_add, Nat.zero_add, hr.cell, hj]
    obtain ⟨v', w', hrun, hown, hgr, _⟩ := run_append_own (P := P) w B t 0 e i z size bytes hu hinf hi.1 hi.2.1 hi.2.2 hz hs (.slice p n c) n xs h ⟨r, 0, none⟩ 1 1 news (by rw [hl, Nat.one_mul]) hcells h1 hnm hbytes hb
    have hv : ∃ p' c', v' = .slice p' (n + 1) c' := by
      rcases hown.2 with ⟨e1, e2⟩ | ⟨g, cap, cur, e1, _⟩
      · omega
      · exact ⟨_, _, e1⟩
    obtain ⟨p', c', rfl⟩ := hv
    have hob : (Value.slice p n c).ownBlock = p.map (·.block) := by cases p <;> rfl
    refine ⟨p', c', w', hrun, hown, ⟨hgr.os, hgr.tape, hgr.output, hgr.size, fun k hk hn => hgr.block k hk ?_⟩, ?_⟩
    · rw [hob]; intro e; rw [<- e] at hn; simp at hn
    have hrun : (Builtin.append_ #[t, t] 0 #[.slice p n c, .slice (some ⟨r, 0, none⟩) 1 1]).run P w = .ok (.slice p' (n + 1) c') w' := hrun
    rcases h.2 with ⟨e1, e2⟩ | ⟨g, cap, cur, e1, hB, hg, h3, h4, h5, h6⟩
    · simp only [Value.slice.injEq] at e1
      obtain ⟨rfl, rfl, rfl⟩ := e1
      have h0 := run_append_nil (P := P) w t 0 e i z hu hinf hi.1 ⟨r, 0, none⟩ 1 1 news (by rw [hl, hi.2.1, Nat.one_mul]) hcells (by omega) (by omega) (by rw [hi.2.2]; omega)
      rw [h0] at hrun
      injection hrun with hv _
      simp only [Value.slice.injEq] at hv
      exact .inr fun q hq => by rw [<- hv.1] at hq; simp at hq; omega
    · simp only [Value.slice.injEq] at e1
      obtain ⟨rfl, _, rfl⟩ := e1
      by_cases hroom : n + 1 <= c
      · have hsz : n * i.size + news.length <= cur.size := by
          have : (n + 1) * size <= c * size := Nat.mul_le_mul_right _ hroom
          rw [hi.2.1, hl, h5, Nat.succ_mul] at *
          omega
        have h0 := run_append_room (P := P) w t 0 e i hu hinf g n c cur hg ⟨r, 0, none⟩ 1 1 news (by rw [hl, hi.2.1, Nat.one_mul]) hcells h1 hroom hsz
        rw [h0] at hrun
        injection hrun with hv _
        simp only [Value.slice.injEq] at hv
        exact .inl (by rw [<- hv.1])
      · have holds : ∀ j v, xs[j]? = some v -> w.cell? ((⟨g, 0, none⟩ : Addr).add j) = some v := World.ownsRow.cells h rfl
        have hfit : Builtin.nextslicecap (n + 1) c * i.bytes <= 281474976710656 := by
          rw [hi.2.2]; exact growslice_fits (by omega) hbytes
        have h0 := run_append_grow (P := P) w t 0 e i z hu hinf hi.1 ⟨g, 0, none⟩ n c xs (by rw [h.len, hi.2.1]) holds ⟨r, 0, none⟩ 1 1 news (by rw [hl, hi.2.1, Nat.one_mul]) hcells (by omega) (by simp only [maxLen] at hnm; omega) hfit
        rw [h0] at hrun
        injection hrun with hv _
        simp only [Value.slice.injEq] at hv
        exact .inr fun q hq => by rw [<- hv.1] at hq; simp at hq; omega
theorem OwnRows.fresh {w w' : World} {B : Nat} {e : TypeId} {k r : Nat} (hn : New w (.cells ⟨[]⟩ e (0, 0)) r w') (hb : B <= w.heap.size) : OwnRows w' B e k (some ⟨r, 0, none⟩) 0 0 [] [r] :=
  ⟨rfl, [], [], trivial, Own.of_blk0 hn.blk (by have := hn.r_eq; omega) (by simp) (by decide), by simp, by simp⟩
theorem OwnRows.push {P : Program} {w : World} {B : Nat} {t e : TypeId} {z : Value} {k bytes : Nat} {p : Option Addr} {n c r : Nat} {l : List (List D0)} {f fx : List Nat} {cs : List Value} {x : List D0} (h : OwnRows w B e k p n c l f)
    (hT : sliceT P t e z k bytes) (hb : B <= w.heap.size) (hr : Blk w r e cs) (hl : cs.length = k) (ho : Owns w B cs x fx) (hfx : fx.Nodup) (hdis : ∀ q ∈ fx, q ∉ f)
    (hbytes : (n + 1) * bytes <= 140737488355328) (hby : 1 <= bytes) :
    ∃ p' c' w' f', Appends P [t, t] [.slice p n c, .slice (some ⟨r, 0, none⟩) 1 1] (.slice p' (n + 1) c') w w' /\ OwnRows w' B e k p' (n + 1) c' (l ++ [x]) f' /\ Chg (p.map (·.block)).toList w w' /\
      (∀ w0, Ext w0 w -> w0.heap.size <= B -> Ext w0 w') := by
  obtain ⟨hln, css, fs, ha, hown, rfl, hnd⟩ := h
  obtain ⟨p', c', w', hrun, hown', hch, hp⟩ := hown.push1 hT hb hr hl ho.reps.cells1 hbytes hby
  have hpl : ∀ q ∈ (p.map (·.block)).toList, B <= q := fun q hq => (World.ownsRow.lt hown q (by cases p <;> simp_all [Value.ownBlock])).1
  have hnd1 := (List.nodup_append.1 hnd)
  have hpin : ∀ q ∈ fs.flatten, q ∉ (p.map (·.block)).toList := fun q hq hm => hnd1.2.2 q hm q hq rfl
  have hpx : ∀ q ∈ fx, q ∉ (p.map (·.block)).toList := fun q hq hm => hdis q hq (List.mem_append_left _ hm)
  have hlt : ∀ q ∈ fs.flatten ++ fx, q < w.heap.size := fun q hq => by
    rcases List.mem_append.1 hq with hq | hq
    · exact (ha.lt q hq).2
    · exact (ho.lt q hq).2
  refine ⟨p', c', w', (p'.map (·.block)).toList ++ (fs ++ [fx]).flatten, hrun, ⟨by simp [hln], css ++ [cs], fs ++ [fx], (ha.chg hch hpin).snoc hl (ho.chg hch hpx), by simpa using hown', rfl, ?_⟩, hch, fun w0 hx hb0 => hx.chg hch fun q hq => Nat.le_trans hb0 (hpl q hq)⟩
  have e : (fs ++ [fx]).flatten = fs.flatten ++ fx := by simp
  rw [e, List.nodup_append]
  refine ⟨by cases p' <;> simp, ?_, ?_⟩
  · rw [List.nodup_append]
    exact ⟨hnd1.2.1, hfx, fun a ha b hb e => hdis b hb (by rw [<- e]; exact List.mem_append_right _ ha)⟩
  · intro a ha b hb hab
    subst hab
    have hpa := opt_mem ha
    rcases hp with hp | hp
    · rw [hp] at hpa
      have ham : a ∈ (p.map (·.block)).toList := mem_opt hpa
      rcases List.mem_append.1 hb with hb | hb
      · exact hpin a hb ham
      · exact hpx a hb ham
    · have := hp a hpa
      have := hlt a hb
      omega
end Go.Proofs.YtgbknjdjbahdkaaGreatDoor.Sx
namespace Go.Proofs.YtgbknjdjbahdkaaGreatDoor
open Go Go.Proofs.YtgbknjdjbahdkaaGreatDoor.Sx
theorem pow_pos9 (k : Nat) : (0 : Int) < 1000000000 ^ k := Int.pow_pos (by decide)
theorem val_top2 {v : List Int} {m : Nat} (h : v.length = m + 2) : val v = val (v.take m) + 1000000000 ^ m * (1000000000 * v.getD (m + 1) 0 + v.getD m 0) := by
  rw [val_top (m := m + 1) h, val_take_succ, Int.pow_succ, Int.mul_add, Int.mul_assoc]
  omega
theorem val_top3 {u : List Int} {m : Nat} (h : u.length = m + 3) : val u = val (u.take m) + 1000000000 ^ m * ((u.getD (m + 2) 0 * 1000000000 + u.getD (m + 1) 0) * 1000000000 + u.getD m 0) := by
  have e2 : (1000000000 : Int) ^ (m + 2) = 1000000000 ^ m * 1000000000 * 1000000000 := by rw [show m + 2 = (m + 1) + 1 from rfl, Int.pow_succ, Int.pow_succ]
  have e1 : (1000000000 : Int) ^ (m + 1) = 1000000000 ^ m * 1000000000 := Int.pow_succ _ _
  rw [val_top (m := m + 2) h, val_take_succ, val_take_succ, e2, e1]
  have : (1000000000 : Int) ^ m * ((u.getD (m + 2) 0 * 1000000000 + u.getD (m + 1) 0) * 1000000000 + u.getD m 0) = 1000000000 ^ m * u.getD m 0 + 1000000000 ^ m * 1000000000 * u.getD (m + 1) 0 + 1000000000 ^ m * 1000000000 * 1000000000 * u.getD (m + 2) 0 := by
    rw [Int.mul_assoc (1000000000 ^ m * 1000000000), Int.mul_assoc (1000000000 ^ m), Int.mul_assoc (1000000000 ^ m), <- Int.mul_add, <- Int.mul_add]
    exact mul_same (by omega)
  omega
theorem take_bounds {u : List Int} {m : Nat} (h : Limbs u) (hm : m <= u.length) : 0 <= val (u.take m) /\ val (u.take m) < 1000000000 ^ m := by
  have h1 := val_nonneg (h.take m); have h2 := val_lt (h.take m)
  have : (u.take m).length = m := by rw [List.length_take]; omega
  rw [this] at h2
  exact ⟨h1, h2⟩
theorem guess0 {M ul vl T top u2 v1 v2 q D V : Int} (hM : 0 < M) (hul : ul < M) (hvl : 0 <= vl) (hD : D = ul + M * T) (hV : V = vl + M * (1000000000 * v1 + v2)) (hT : T = top * 1000000000 + u2) (hu2 : u2 < 1000000000) (hv2 : 0 <= v2) (hq : 0 <= q) (h : top < (q + 1) * v1) : D < (q + 1) * V := by
  have h1 : (q + 1) * (1000000000 * v1) = 1000000000 * ((q + 1) * v1) := Int.mul_left_comm _ _ _
  have h2 : 0 <= (q + 1) * v2 := Int.mul_nonneg (by omega) hv2
  have h3 : T + 1 <= (q + 1) * (1000000000 * v1 + v2) := by rw [Int.mul_add]; omega
  have h4 : M * (T + 1) <= M * ((q + 1) * (1000000000 * v1 + v2)) := Int.mul_le_mul_of_nonneg_left h3 (by omega)
  have h5 : 0 <= (q + 1) * vl := Int.mul_nonneg (by omega) hvl
  rw [hV, Int.mul_add, Int.mul_left_comm (q + 1) M]
  rw [Int.mul_add] at h4
  omega
theorem guess1 {M ul vl T v12 q D V : Int} (hM : 0 < M) (hul : ul < M) (hvl : 0 <= vl) (hD : D = ul + M * T) (hV : V = vl + M * v12) (hq : 0 <= q) (h : T < q * v12) : D < q * V := by
  have h4 : M * (T + 1) <= M * (q * v12) := Int.mul_le_mul_of_nonneg_left (by omega) (by omega)
  have h5 : 0 <= q * vl := Int.mul_nonneg hq hvl
  rw [hV, Int.mul_add, Int.mul_left_comm q M]
  rw [Int.mul_add] at h4
  omega
theorem guess2 {M ul vl T v1 v2 q D V : Int} (hM : 0 < M) (hul : 0 <= ul) (hvl : 0 <= vl /\ vl < M) (hD : D = ul + M * T) (hV : V = vl + M * (1000000000 * v1 + v2)) (hv1 : 1 <= v1) (hv2 : 0 <= v2) (hq : 0 <= q /\ q < 1000000000) (h : q * (1000000000 * v1 + v2) <= T) : q * V <= D + V := by
  have h1 : q * vl <= q * M := Int.mul_le_mul_of_nonneg_left (by omega) hq.1
  have h2 : M * (q * (1000000000 * v1 + v2)) <= M * T := Int.mul_le_mul_of_nonneg_left h (by omega)
  have h3 : M * q <= M * (1000000000 * v1 + v2) := Int.mul_le_mul_of_nonneg_left (by omega) (by omega)
  rw [Int.mul_comm q M] at h1
  have e : q * V = q * vl + M * (q * (1000000000 * v1 + v2)) := by rw [hV, Int.mul_add, Int.mul_left_comm q M]
  omega
theorem impl_divStep_c {w : World} {b off m c d : Nat} {q : Option Addr} {xs zs : List Value} {u vs : List Int} (h : Blk w b T_int (xs ++ u.map (Value.int .i64) ++ zs)) (hA : xs.length = off) (hu : u.length = m + 1)
    (k : IntsR w q m d vs) (hq : ∀ z, q.map (·.block) = some z -> z ≠ b) (hlu : Limbs u) (hlv : Limbs vs) (htop : 1 <= vs.getD (m - 1) 0) (hm2 : 2 <= m) (hm : m <= 10000000) (hD : val u < 1000000000 * val vs) :
    Ret P n_impl_divStep [.slice (some ⟨b, off, none⟩) (m + 1) c, .slice q m d] w fun v w' => ∃ (x : Int) (u' : List Int), v = .int .i64 x /\ 0 <= x /\ x < 1000000000 /\ u'.length = m + 1 /\ Blk w' b T_int (xs ++ u'.map (Value.int .i64) ++ zs) /\ Chg [b] w w' /\ Limbs u' /\ val u' = val u - x * val vs /\ 0 <= val u' /\ val u' < val vs := by
  refine impl_divStep_ret ?_
  unfold impl_divStep
  have hvl := k.1
  obtain ⟨t, rfl⟩ : ∃ t, m = t + 2 := ⟨m - 2, by omega⟩
  have e1 : t + 2 - 1 = t + 1 := by omega
  rw [e1] at htop
  have U2 := hlu.getD (t + 2); have U1 := hlu.getD (t + 1); have U0 := hlu.getD t
  have V1 := hlv.getD (t + 1); have V0 := hlv.getD t
  have eu := val_top3 hu
  have ev := val_top2 hvl
  have bu := take_bounds (m := t) hlu (by omega); have bv := take_bounds (m := t) hlv (by omega)
  have hM := pow_pos9 t
  have hX := Ext.drew w
  have hbd := h.ext hX
  have kd := k.ext hX
  have i1 : ((t + 2 : Nat) : Int) - 1 = ((t + 1 : Nat) : Int) := by omega
  have i2 : ((t + 2 : Nat) : Int) - 2 = ((t : Nat) : Int) := by omega
  have lu : ∀ {W : World} {i : Nat}, Ext w W -> i < t + 3 -> Loads P T_int ((⟨b, off, none⟩ : Addr).add (i * 1)) (.int .i64 (u.getD i 0)) W := fun hW hi => mid_get (h.ext hW) hA (by omega)
  have lv : ∃ av, q = some av /\ ∀ {W : World} {i : Nat}, Ext w W -> i < t + 2 -> Loads P T_int (av.add (i * 1)) (.int .i64 (vs.getD i 0)) W := by
    obtain ⟨bq, oq, hqe, _⟩ := k.2.2.2 (by omega)
    refine ⟨⟨bq, oq, none⟩, hqe, fun {W i} hW hi => ?_⟩
    obtain ⟨ad, hqa, hl⟩ := ints_at (k.ext hW) (i := (i : Int)) (by omega) (by omega)
    rw [hqe] at hqa
    obtain rfl := Option.some.inj hqa
    simpa only [Int.toNat_natCast] using hl
  obtain ⟨av, rfl, lv⟩ := lv
  have T1 : u.getD (t + 2) 0 * 1000000000 + u.getD (t + 1) 0 < 1000000000000000000 := by omega
  have T0 : 0 <= u.getD (t + 2) 0 * 1000000000 + u.getD (t + 1) 0 := by omega
  generalize htp : u.getD (t + 2) 0 * 1000000000 + u.getD (t + 1) 0 = top at eu T1 T0
  have Q0 : 0 <= top / vs.getD (t + 1) 0 := Int.ediv_nonneg T0 (by omega)
  have Q1 : top / vs.getD (t + 1) 0 <= top := Int.ediv_le_self _ T0
  have Qm := Int.mul_ediv_add_emod top (vs.getD (t + 1) 0)
  have Qr := Int.emod_lt_of_pos top (show 0 < vs.getD (t + 1) 0 by omega)
  have Qr0 := Int.emod_nonneg top (show vs.getD (t + 1) 0 ≠ 0 by omega)
  refine ⟨⟨by omega, by omega⟩, _, fun W hW => lu (hX.trans hW) (by omega), exW ⟨by omega, by omega⟩ (exW ⟨by omega, by omega⟩ ?_)⟩
  rw [i1]
  refine ⟨⟨by omega, by omega⟩, _, fun W hW => by simpa only [Int.toNat_natCast] using lu (i := t + 1) (hX.trans hW) (by omega), ?_⟩
  rw [htp]
  refine exW ⟨by omega, by omega⟩ (exW ⟨by omega, by omega⟩ ⟨⟨by omega, by omega⟩, _, by simpa only [Int.toNat_natCast] using lv (i := t + 1) hX (by omega), by omega, ?_⟩)
  rw [Int.tdiv_eq_ediv_of_nonneg T0]
  refine exW ⟨by omega, by omega⟩ ⟨_, rfl, ?_⟩
  refine ⟨fun z wr => Ext w wr /\ 0 <= z /\ z < 1000000000 /\ z * vs.getD (t + 1) 0 <= top /\ val u < (z + 1) * val vs, fun z _ => z.toNat, ⟨hX, ?_, ?_, ?_, ?_⟩, ?_⟩
  · split <;> omega
  · split <;> omega
  · have : ∀ z, z <= top / vs.getD (t + 1) 0 -> z * vs.getD (t + 1) 0 <= top := fun z hz => by
      have := Int.mul_le_mul_of_nonneg_right hz (show 0 <= vs.getD (t + 1) 0 by omega)
      rw [Int.mul_comm (top / _)] at this
      omega
    apply this; split <;> omega
  · split
    · show val u < (999999999 + 1) * val vs
      omega
    · refine guess0 hM bu.2 bv.1 eu ev rfl U0.2 V0.1 Q0 ?_
      rw [Int.add_mul, Int.mul_comm (top / _)]
      omega
  intro junk wr z ⟨hx, hz0, hz1, hzt, hzD⟩
  have fin : ∀ W, Ext w W -> z * val vs <= val u + val vs -> Ret P n_impl_subTimes [.slice (some ⟨b, off, none⟩) (t + 2 + 1) c, .slice (some av) (t + 2) d, .int .i64 z] W fun v w7 => ∃ bb, v = .bool bb /\ (bb = true -> ∃ t76, t76 = IntKind.wrap .i64 (z - 1) /\ Ret P n_impl_addBack [.slice (some ⟨b, off, none⟩) (t + 2 + 1) c, .slice (some av) (t + 2) d] w7 fun v2 w8 => v2 = .tuple #[] /\ ∃ (x : Int) (u' : List Int), Value.int .i64 t76 = .int .i64 x /\ 0 <= x /\ x < 1000000000 /\ u'.length = t + 2 + 1 /\ Blk w8 b T_int (xs ++ u'.map (Value.int .i64) ++ zs) /\ Chg [b] w w8 /\ Limbs u' /\ val u' = val u - x * val vs /\ 0 <= val u' /\ val u' < val vs) /\
      (bb = false -> ∃ (x : Int) (u' : List Int), Value.int .i64 z = .int .i64 x /\ 0 <= x /\ x < 1000000000 /\ u'.length = t + 2 + 1 /\ Blk w7 b T_int (xs ++ u'.map (Value.int .i64) ++ zs) /\ Chg [b] w w7 /\ Limbs u' /\ val u' = val u - x * val vs /\ 0 <= val u' /\ val u' < val vs) := by
    intro W hW hle
    refine (impl_subTimes_c (h.ext hW) hA hu (k.ext hW) hq hlu hlv ⟨hz0, hz1⟩ hm).mono ?_
    rintro v w7 ⟨u1, hv, hl1, hb1, ch1, sz1, hL1, hval1⟩
    have hvV := val_lt hlv
    rw [hvl] at hvV
    have hlen : (u1.take (t + 2)).length = t + 2 := by rw [List.length_take]; omega
    have lim : ∀ u2 : List Int, u2.length = t + 2 + 1 -> Limbs (u2.take (t + 2)) -> 0 <= val u2 -> val u2 < val vs -> Limbs u2 := fun u2 h1 h2 h3 h4 => by
      have a1 := val_nonneg h2; have a2 := val_lt h2
      have hl : (u2.take (t + 2)).length = t + 2 := by rw [List.length_take]; omega
      rw [hl] at a2
      have a3 := val_top h1
      have hp := pow_pos9 (t + 2)
      have b1 : ¬ u2.getD (t + 2) 0 < 0 := fun hn => by
        have := Int.mul_le_mul_of_nonneg_left (show u2.getD (t + 2) 0 <= -1 by omega) (Int.le_of_lt hp); omega
      have b2 : ¬ 0 < u2.getD (t + 2) 0 := fun hn => by
        have := Int.mul_le_mul_of_nonneg_left (show 1 <= u2.getD (t + 2) 0 by omega) (Int.le_of_lt hp); omega
      have e : u2 = u2.take (t + 2) ++ [u2.getD (t + 2) 0] := by
        conv => lhs; rw [<- List.take_of_length_le (show u2.length <= t + 2 + 1 by omega), List.take_add_one]
        rw [List.getElem?_eq_getElem (by omega), List.getD_eq_getElem?_getD, List.getElem?_eq_getElem (by omega)]; rfl
      rw [e]
      exact h2.snoc (by omega)
    rw [Int.add_mul] at hzD
    refine ⟨_, hv, fun hneg => exW ⟨by omega, by omega⟩ ?_, fun hpos => ?_⟩
    · have hneg := of_decide_eq_true hneg
      have hz1' : 1 <= z := by
        rcases Int.lt_or_le z 1 with h | h
        · have : z = 0 := by omega
          subst this
          have := val_nonneg hlu
          omega
        · exact h
      have a1 := val_nonneg hL1; have a2 := val_lt hL1
      rw [hlen] at a2
      have a3 := val_top hl1
      have hp := pow_pos9 (t + 2)
      have g : -1000000000 <= u1.getD (t + 2) 0 /\ u1.getD (t + 2) 0 <= 1000000000 := by
        constructor
        · rcases Int.lt_or_le (u1.getD (t + 2) 0) (-1000000000) with hn | hn
          · have := Int.mul_le_mul_of_nonneg_left (show u1.getD (t + 2) 0 <= -2 by omega) (Int.le_of_lt hp); omega
          · exact hn
        · rcases Int.lt_or_le 1000000000 (u1.getD (t + 2) 0) with hn | hn
          · have := Int.mul_le_mul_of_nonneg_left (show 0 <= u1.getD (t + 2) 0 by omega) (Int.le_of_lt hp); omega
          · exact hn
      refine (impl_addBack_c hb1 hA hl1 ((k.ext hW).chg ch1 (fun y hy hm => hq y hy (by simpa using hm))) hq hL1 hlv g hm).mono ?_
      rintro v w8 ⟨u2, hv2, hl2, hb2, ch2, sz2, hL2, hval2⟩
      have ev2 : val u2 = val u - (z - 1) * val vs := by rw [Int.sub_mul]; omega
      exact ⟨hv2, z - 1, u2, rfl, by omega, by omega, hl2, hb2, hW.toChg.trans (ch1.trans ch2), lim u2 hl2 hL2 (by omega) (by omega), ev2, by omega, by omega⟩
    · have hpos := of_decide_eq_false hpos
      exact ⟨z, u1, rfl, hz0, hz1, hl1, hb1, hW.toChg.trans ch1, lim u1 hl1 hL1 (by omega) (by omega), hval1, by omega, by omega⟩
  have hxd := hx.trans (Ext.drew wr)
  refine ifD (fun hpos => ?_) (fun hzero => ifF (ifF ?_))
  · have M0 := mul_limb V0 ⟨hz0, hz1⟩
    rw [Int.mul_comm] at M0
    have ZV : 0 <= z * vs.getD (t + 1) 0 := Int.mul_nonneg hz0 (by omega)
    refine exW ⟨by omega, by omega⟩ ?_
    rw [i2]
    refine ⟨⟨by omega, by omega⟩, _, fun W hW => by simpa only [Int.toNat_natCast] using lv (i := t + 1) (hxd.trans hW) (by omega), exW ⟨by omega, by omega⟩ (exW ⟨by omega, by omega⟩ (ifD (fun hr => ?_) (fun hr => ifF ?_)))⟩
    · refine exW ⟨by omega, by omega⟩ ⟨⟨by omega, by omega⟩, _, fun W hW => by simpa only [Int.toNat_natCast] using lv (i := t) (hxd.trans hW) (by omega), exW ⟨by omega, by omega⟩ (exW ⟨by omega, by omega⟩ ⟨⟨by omega, by omega⟩, _, fun W hW => by simpa only [Int.toNat_natCast] using lv (i := t + 1) (hxd.trans hW) (by omega), exW ⟨by omega, by omega⟩ (exW ⟨by omega, by omega⟩ (exW ⟨by omega, by omega⟩ (exW ⟨by omega, by omega⟩ ⟨⟨by omega, by omega⟩, _, fun W hW => by simpa only [Int.toNat_natCast] using lu (i := t) (hxd.trans hW) (by omega), exW ⟨by omega, by omega⟩ (ifD (fun hmore => ?_) (fun hdone => ?_))⟩)))⟩)⟩
      · refine exW ⟨by omega, by omega⟩ ⟨⟨hxd, by omega, by omega, ?_, ?_⟩, ?_⟩
        · rw [Int.sub_mul]; omega
        · have := guess1 (q := z) (T := top * 1000000000 + u.getD t 0) (v12 := 1000000000 * vs.getD (t + 1) 0 + vs.getD t 0) hM bu.2 bv.1 eu ev hz0 (by rw [Int.mul_add, Int.mul_left_comm]; omega)
          rwa [Int.sub_add_cancel]
        · show (z - 1).toNat < z.toNat
          omega
      · refine Ret.at (fin _ hxd (guess2 hM bu.1 bv eu ev (by omega) V0.1 ⟨hz0, hz1⟩ (by rw [Int.mul_add, Int.mul_left_comm]; omega))) ?_
        rintro v w7 ⟨bb, hv, h1, h2⟩
        refine ⟨bb, by rw [hv], fun hb => ?_, h2⟩
        obtain ⟨t76, ht, hr⟩ := h1 hb
        refine ⟨t76, ht, Ret.at hr ?_⟩
        rintro v2 w8 ⟨hv2, hf⟩
        exact ⟨by rw [hv2], hf⟩
    · refine Ret.at (fin _ hxd (guess2 hM bu.1 bv eu ev (by omega) V0.1 ⟨hz0, hz1⟩ (by rw [Int.mul_add, Int.mul_left_comm]; omega))) ?_
      rintro v w7 ⟨bb, hv, h1, h2⟩
      refine ⟨bb, by rw [hv], fun hb => ?_, h2⟩
      obtain ⟨t76, ht, hr⟩ := h1 hb
      refine ⟨t76, ht, Ret.at hr ?_⟩
      rintro v2 w8 ⟨hv2, hf⟩
      exact ⟨by rw [hv2], hf⟩
  · have hz : z = 0 := by omega
    subst hz
    refine Ret.at (fin _ hxd (by have := val_nonneg hlu; have := val_nonneg hlv; omega)) ?_
    rintro v w7 ⟨bb, hv, h1, h2⟩
    refine ⟨bb, by rw [hv], fun hb => ?_, h2⟩
    obtain ⟨t76, ht, hr⟩ := h1 hb
    refine ⟨t76, ht, Ret.at hr ?_⟩
    rintro v2 w8 ⟨hv2, hf⟩
    exact ⟨by rw [hv2], hf⟩
end Go.Proofs.YtgbknjdjbahdkaaGreatDoor
namespace Go.Proofs.YtgbknjdjbahdkaaGreatDoor
open Go Go.Proofs.YtgbknjdjbahdkaaGreatDoor.Sx
def mkS (neg : Bool) (m : List Int) : List D0 := [.bool (neg && !m.isEmpty), .ints m]
def enc (z : Int) : List D0 := [.bool (decide (z < 0)), .ints (digs z.natAbs)]
def ival : List D0 -> Int
  | [.bool b, .ints z] => if b then - val z else val z
  | _ => 0
def icap (z : Int) : List D0 := mkS (decide (z < 0)) (capL (digs z.natAbs))
theorem isEmpty_digs {n : Nat} : (digs n).isEmpty = decide (n = 0) := by
  cases h : (digs n) with
  | nil => simp [digs_nil.1 h]
  | cons a r =>
    have : n ≠ 0 := fun e => by rw [digs_nil.2 e] at h; cases h
    simp [this]
theorem mkS_pos (n : Nat) : mkS false (digs n) = enc n := by
  simp [mkS, enc] <;> omega
theorem mkS_neg (n : Nat) : mkS true (digs n) = enc (-n) := by
  simp only [mkS, enc, isEmpty_digs, Bool.true_and, Int.natAbs_neg, Int.natAbs_natCast]
  by_cases h : n = 0
  · subst h; simp
  · simp [h]; omega
theorem enc_code (z : Int) : (enc z).map D0.code = [.bool, .ints] := rfl
theorem ival_enc (z : Int) : ival (enc z) = z := by
  simp only [ival, enc, val_digs]
  by_cases h : z < 0
  · simp [h]; omega
  · simp [h]; omega
theorem intOk_enc {d : List D0} (h : intOk d = true) : d = enc (ival d) /\ ∃ b z, d = [.bool b, .ints z] /\ Canon z /\ z.length <= 50 := by
  match d, h with
  | [.bool b, .ints z], h =>
    simp only [intOk, Bool.and_eq_true, natOk_spec, Bool.or_eq_true, Bool.not_eq_true'] at h
    obtain ⟨⟨hc, hl⟩, hb⟩ := h
    refine ⟨?_, b, z, rfl, hc, hl⟩
    have hv := val_nonneg hc.1
    have hd := digs_val hc
    cases b with
    | false =>
      simp only [ival, enc, Bool.false_eq_true, if_false]
      rw [show (val z).natAbs = (val z).toNat by omega, hd]
      have : ¬ val z < 0 := by omega
      simp [this]
    | true =>
      have hne : z ≠ [] := by
        rcases hb with hb | hb
        · cases hb
        · cases z with
          | nil => simp at hb
          | cons a r => simp
      have hp := canon_pos hc hne
      simp only [ival, enc, if_true]
      rw [show (-val z).natAbs = (val z).toNat by omega, hd]
      have : -val z < 0 := by omega
      simp [hp]
theorem Sx.Owns.int2 {w : World} {B : Nat} {b : Bool} {p : Option Addr} {n c : Nat} {z : List Int} (h : Own w B T_int 1 p n c (z.map (Value.int .i64))) : Owns w B [.bool b, .slice p n c] [.bool b, .ints z] (p.map (·.block)).toList :=
  (Owns.bool w B b).append (Owns.ints h)
theorem nodup_opt (p : Option Addr) : ((p.map (·.block)).toList : List Nat).Nodup := by cases p <;> simp
theorem len_bool {z : List Int} {n : Nat} (h : z.length = n) : decide ((0 : Int) < (n : Nat)) = !z.isEmpty := intOk_len (b := true) h
theorem impl_signed_c {w : World} {neg : Bool} {p : Option Addr} {n c : Nat} {z : List Int} (hl : z.length = n) : Ret P n_impl_signed [.bool neg, .slice p n c] w fun v w' => v = .agg ⟨[.bool (neg && !z.isEmpty), .slice p n c]⟩ /\ Ext w w' := by
  refine impl_signed_ret ?_
  unfold impl_signed
  intro r w1 hn
  refine ⟨fun e => ?_, fun e => ?_⟩
  · obtain ⟨w2, st, hb, y⟩ := hn.fill (P := P) (t := T_impl_Signed) (xs := [.bool (decide ((0 : Int) < (n : Nat))), .slice p n c]) (by simp [Value.oneCell']) (by kernel_rfl) rfl
    exact ⟨w2, st, _, _, _, _, hb.loadA0 (by kernel_rfl), by rw [len_bool hl, e]; rfl, y⟩
  · obtain ⟨w2, st, hb, y⟩ := hn.fill (P := P) (t := T_impl_Signed) (xs := [.bool false, .slice p n c]) (by simp [Value.oneCell']) (by kernel_rfl) rfl
    exact ⟨w2, st, _, _, _, _, hb.loadA0 (by kernel_rfl), by rw [e]; rfl, y⟩
theorem impl_intAdd_c {w : World} {xs ys : List Value} {x y : Int} (h : Reps w xs (enc x)) (k : Reps w ys (enc y)) (hx : (digs x.natAbs).length <= 10000000) (hy : (digs y.natAbs).length <= 10000000) :
    Ret P n_impl_intAdd [.agg ⟨xs⟩, .agg ⟨ys⟩] w fun v w' => ∃ p n c, v = .agg ⟨[.bool (decide (x + y < 0)), .slice p n c]⟩ /\ Own w' w.heap.size T_int 1 p n c ((digs (x + y).natAbs).map (Value.int .i64)) /\ Ext w w' := by
  obtain ⟨a0, a1p, a1n, a1c, a1z, rfl, hd, ha⟩ := open_Signed h rfl
  obtain ⟨b0, b1p, b1n, b1c, b1z, rfl, he, hb⟩ := open_Signed k rfl
  simp only [enc, List.cons.injEq, D0.bool.injEq, D0.ints.injEq, and_true] at hd he
  obtain ⟨rfl, rfl⟩ := hd
  obtain ⟨rfl, rfl⟩ := he
  have la := ha.1; have lb := hb.1
  have ca := digs_canon x.natAbs; have cb := digs_canon y.natAbs
  have va := val_digs x.natAbs; have vb := val_digs y.natAbs
  refine impl_intAdd_ret ?_
  unfold impl_intAdd
  intro r w1 hn1 r1 w2 hn2 r2 w3 hn3
  have X := (hn1.ext.trans hn2.ext).trans hn3.ext
  have e1 := hn1.r_eq; have e2 := hn2.r_eq; have e3 := hn3.r_eq; have s1 := hn1.size; have s2 := hn2.size; have s3 := hn3.size
  have k0 := (hn1.blk.ext hn2.ext).ext hn3.ext; have k1 := hn2.blk.ext hn3.ext; have k2 := hn3.blk
  -- the end of every way: the sign, and what was added or subtracted
  have fin : ∀ (W : World) (neg : Bool) (p : Option Addr) (n c : Nat) (m : Nat), Own W w.heap.size T_int 1 p n c ((digs m).map (Value.int .i64)) -> Ext w W -> Blk W r2 T_impl_Signed [.bool false, .slice none 0 0] -> (∀ q, p.map (·.block) = some q -> q ≠ r2) -> m = (x + y).natAbs -> (m ≠ 0 -> neg = decide (x + y < 0)) ->
      Calls P n_impl_signed ⟨[.bool neg, .slice p n c]⟩ W fun e_1 wv_7 => ∃ (t170 : Bool) (t171_p : Option Addr) (t171_n : Nat) (t171_c : Nat), e_1 = .returned (.agg #[(.bool t170), (.slice t171_p t171_n t171_c)]) /\
        ∃ wv_8, Stores P T_impl_Signed ⟨r2, 0, none⟩ (.agg #[(.bool t170), (.slice t171_p t171_n t171_c)]) wv_7 wv_8 /\
        ∃ (r0 : Bool) (r1_p : Option Addr) (r1_n : Nat) (r1_c : Nat), Loads P T_impl_Signed ⟨r2, 0, none⟩ (.agg #[(.bool r0), (.slice r1_p r1_n r1_c)]) wv_8 /\ (fun (v : Value) (w' : World) => ∃ p n c, v = .agg ⟨[.bool (decide (x + y < 0)), .slice p n c]⟩ /\ Own w' w.heap.size T_int 1 p n c ((digs (x + y).natAbs).map (Value.int .i64)) /\ Ext w w') (.agg #[(.bool r0), (.slice r1_p r1_n r1_c)]) wv_8 := by
    intro W neg p n c m hown hX hk2 hq hm hs
    refine Ret.at (impl_signed_c hown.ints.1) ?_
    rintro v W2 ⟨hv, y2⟩
    subst hv
    obtain ⟨W3, st, hb3, ch, sz⟩ := (hk2.ext y2).storeA0 (P := P) (t := T_impl_Signed) (xs := [.bool (neg && !(digs m).isEmpty), .slice p n c]) (by kernel_rfl) rfl (by simp [Value.oneCell'])
    refine ⟨_, _, _, _, rfl, W3, st, _, _, _, _, hb3.loadA0 (by kernel_rfl), p, n, c, ?_, ?_, (hX.trans y2).chg ch (by simp; omega)⟩
    · rw [isEmpty_digs]
      by_cases h0 : m = 0
      · have : ¬ (x + y < 0) := by omega
        simp [h0, this]
      · simp [h0, hs h0]
    · rw [<- hm]
      exact (hown.ext y2).chg ch (fun q hq' => by simp only [List.mem_singleton]; exact hq q hq')
  have ne2 : ∀ {W : World} {B : Nat} {p : Option Addr} {n c : Nat} {zs : List Value}, Own W B T_int 1 p n c zs -> r2 < B -> ∀ q, p.map (·.block) = some q -> q ≠ r2 := fun ho hB q hq => by
    have := (World.ownsRow.lt ho q (by rw [<- hq]; rename_i p n c _; cases p <;> rfl)).1
    omega
  refine ⟨_, k0.load (by kernel_rfl) rfl, _, k1.load (by kernel_rfl) rfl, fun es => ?_, fun es => ?_⟩
  · have es' : decide (x < 0) = decide (y < 0) := by simpa using es
    have D := Ext.drew w3
    refine ⟨_, fun W hW => (k0.ext (D.trans hW)).load (by kernel_rfl) rfl, _, _, _, fun W hW => (k0.ext (D.trans hW)).load (by kernel_rfl) rfl, _, _, _, fun W hW => (k1.ext (D.trans hW)).load (by kernel_rfl) rfl, ?_⟩
    refine Ret.at (impl_natAdd_c (ha.ext (X.trans D)) (hb.ext (X.trans D)) ca.1 cb.1 (by omega) (by omega)) ?_
    rintro v w4 ⟨p, n, c, hv, hown, y4⟩
    subst hv
    rw [va, vb] at hown
    refine ⟨_, _, _, rfl, y4, fin w4 _ p n c _ (hown.mono ?_) ((X.trans D).trans y4) ((k2.ext D).ext y4) (ne2 hown ?_) ?_ ?_⟩
    · have := (X.trans D).le; omega
    · have := D.le; omega
    · by_cases hx0 : x < 0 <;> by_cases hy0 : y < 0 <;> simp [hx0, hy0] at es' <;> omega
    · intro h0
      by_cases hx0 : x < 0 <;> by_cases hy0 : y < 0 <;> simp [hx0, hy0] at es' ⊢ <;> omega
  · have es' : ¬ (decide (x < 0) = decide (y < 0)) := by simpa using es
    refine ⟨_, _, _, k0.load (by kernel_rfl) rfl, _, _, _, k1.load (by kernel_rfl) rfl, ?_⟩
    refine Ret.at (impl_natCmp_c (ha.ext X) (hb.ext X)) ?_
    rintro v w4 ⟨hv, y4⟩
    subst hv
    have cv := cmpL_val ca cb
    rw [va, vb] at cv
    have X4 := X.trans y4
    have k0 := k0.ext y4; have k1 := k1.ext y4; have k2 := k2.ext y4
    have s4 := y4.le
    refine ⟨_, rfl, ifD (fun hlt => ?_) (fun hge => ?_)⟩
    · have hlt' : x.natAbs < y.natAbs := by
        rcases cv with h | h | h <;> omega
      refine ⟨_, _, _, _, k1.loadA0 (by kernel_rfl), _, _, _, _, k0.loadA0 (by kernel_rfl), ?_⟩
      obtain ⟨w5, st5, k0', ch5, sz5⟩ := k0.storeA0 (P := P) (t := T_impl_Signed) (xs := [.bool (decide (y < 0)), .slice b1p b1n b1c]) (by kernel_rfl) rfl (by simp [Value.oneCell'])
      have k1 := k1.chg ch5 (by simp; omega); have k2 := k2.chg ch5 (by simp; omega); have X5 := X4.chg ch5 (by simp; omega)
      obtain ⟨w6, st6, k1', ch6, sz6⟩ := k1.storeA0 (P := P) (t := T_impl_Signed) (xs := [.bool (decide (x < 0)), .slice a1p a1n a1c]) (by kernel_rfl) rfl (by simp [Value.oneCell'])
      have k0' := k0'.chg ch6 (by simp; omega); have k2 := k2.chg ch6 (by simp; omega); have X6 := X5.chg ch6 (by simp; omega)
      refine ⟨w5, st5, w6, st6, ?_⟩
      unfold impl_intAdd_j0
      have D := Ext.drew w6
      refine ⟨_, fun W hW => (k0'.ext (D.trans hW)).load (by kernel_rfl) rfl, _, _, _, fun W hW => (k0'.ext (D.trans hW)).load (by kernel_rfl) rfl, _, _, _, fun W hW => (k1'.ext (D.trans hW)).load (by kernel_rfl) rfl, ?_⟩
      have hll : a1n <= b1n := by
        rcases Nat.lt_or_ge b1n a1n with h | h
        · have := canon_len cb ca (by omega); omega
        · exact h
      refine Ret.at (impl_natSub_c (hb.ext (X6.trans D)) (ha.ext (X6.trans D)) cb.1 ca.1 (by omega) hll (by omega)) ?_
      rintro v w7 ⟨p, n, c, hv, hown, y7⟩
      subst hv
      rw [va, vb] at hown
      refine ⟨_, _, _, rfl, y7, fin w7 _ p n c _ (hown.mono ?_) ((X6.trans D).trans y7) ((k2.ext D).ext y7) (ne2 hown ?_) ?_ ?_⟩
      · have := (X6.trans D).le; omega
      · have := D.le; omega
      · by_cases hx0 : x < 0 <;> by_cases hy0 : y < 0 <;> simp [hx0, hy0] at es' <;> omega
      · intro h0
        by_cases hx0 : x < 0 <;> by_cases hy0 : y < 0 <;> simp [hx0, hy0] at es' ⊢ <;> omega
    · have hge' : y.natAbs <= x.natAbs := by
        rcases cv with h | h | h <;> omega
      unfold impl_intAdd_j0
      have D := Ext.drew w4
      refine ⟨_, fun W hW => (k0.ext (D.trans hW)).load (by kernel_rfl) rfl, _, _, _, fun W hW => (k0.ext (D.trans hW)).load (by kernel_rfl) rfl, _, _, _, fun W hW => (k1.ext (D.trans hW)).load (by kernel_rfl) rfl, ?_⟩
      have hll : b1n <= a1n := by
        rcases Nat.lt_or_ge a1n b1n with h | h
        · have := canon_len ca cb (by omega); omega
        · exact h
      refine Ret.at (impl_natSub_c (ha.ext (X4.trans D)) (hb.ext (X4.trans D)) ca.1 cb.1 (by omega) hll (by omega)) ?_
      rintro v w7 ⟨p, n, c, hv, hown, y7⟩
      subst hv
      rw [va, vb] at hown
      refine ⟨_, _, _, rfl, y7, fin w7 _ p n c _ (hown.mono ?_) ((X4.trans D).trans y7) ((k2.ext D).ext y7) (ne2 hown ?_) ?_ ?_⟩
      · have := (X4.trans D).le; omega
      · have := D.le; omega
      · by_cases hx0 : x < 0 <;> by_cases hy0 : y < 0 <;> simp [hx0, hy0] at es' <;> omega
      · intro h0
        by_cases hx0 : x < 0 <;> by_cases hy0 : y < 0 <;> simp [hx0, hy0] at es' ⊢ <;> omega
end Go.Proofs.YtgbknjdjbahdkaaGreatDoor
namespace Go.Proofs.YtgbknjdjbahdkaaGreatDoor
open Go Go.Proofs.YtgbknjdjbahdkaaGreatDoor.Sx
theorem enc0 : enc 0 = [.bool false, .ints []] := by simp [enc, digs_zero]
theorem capL_canon {n : Nat} : Canon (capL (digs n)) /\ (capL (digs n)).length <= 50 := by
  unfold capL
  split
  · exact ⟨digs_canon n, by assumption⟩
  · exact ⟨⟨Limbs.nil, by simp⟩, by simp⟩
theorem icap_ok (z : Int) : intOk (icap z) = true := by
  have h := capL_canon (n := z.natAbs)
  simp only [icap, mkS, intOk, natOk_spec.2 h, Bool.true_and]
  cases decide (z < 0) <;> cases (capL (digs z.natAbs)) <;> simp
theorem mkS_digs {neg : Bool} {m : Nat} {z : Int} (hm : m = z.natAbs) (hs : m ≠ 0 -> neg = decide (z < 0)) : mkS neg (capL (digs m)) = icap z := by
  subst hm
  by_cases h0 : z.natAbs = 0
  · have hz : z = 0 := by omega
    subst hz
    simp [icap, mkS, digs_zero, capL]
  · rw [hs h0]; rfl
theorem impl_intsOk_c {w : World} {xs ys : List Value} {dx dy : List D0} (h : Reps w xs dx) (k : Reps w ys dy) (hc : dx.map D0.code = [.bool, .ints]) (kc : dy.map D0.code = [.bool, .ints]) :
    Ret P n_impl_intsOk [.agg ⟨xs⟩, .agg ⟨ys⟩] w fun v w' => v = .bool (intOk dx && intOk dy) /\ Ext w w' := by
  have hr := h; have kr := k
  obtain ⟨a0, a1p, a1n, a1c, a1z, rfl, rfl, ha⟩ := open_Signed h hc
  obtain ⟨b0, b1p, b1n, b1c, b1z, rfl, rfl, hb⟩ := open_Signed k kc
  refine impl_intsOk_ret ?_
  unfold impl_intsOk
  intro r w1 hn1 r1 w2 hn2
  have x := hn1.ext.trans hn2.ext
  have k0 := hn1.blk.ext hn2.ext; have k1 := hn2.blk
  refine ⟨_, _, _, _, k0.loadA0 (by kernel_rfl), ?_⟩
  refine Ret.at (impl_IntOk_c (hr.ext x) rfl) ?_
  rintro v w3 ⟨hv, y⟩
  subst hv
  refine ⟨_, rfl, fun e => ⟨_, _, _, _, (k1.ext y).loadA0 (by kernel_rfl), ?_⟩, fun e => ⟨by rw [e]; rfl, x.trans y⟩⟩
  refine Ret.at (impl_IntOk_c (kr.ext (x.trans y)) rfl) ?_
  rintro v w4 ⟨hv, y2⟩
  subst hv
  exact ⟨_, rfl, by rw [e]; rfl, (x.trans y).trans y2⟩
end Go.Proofs.YtgbknjdjbahdkaaGreatDoor
namespace Go.Proofs.YtgbknjdjbahdkaaGreatDoor
open Go Go.Proofs.YtgbknjdjbahdkaaGreatDoor.Sx
theorem digs_len : ∀ (k : Nat) {n : Nat}, n < 1000000000 ^ k -> (digs n).length <= k
  | 0, n, h => by
    have : n = 0 := by simpa using h
    subst this; simp [digs_zero]
  | k + 1, n, h => by
    by_cases h0 : n = 0
    · subst h0; simp [digs_zero]
    · rw [digs_pos h0, List.length_cons]
      have := digs_len k (n := n / 1000000000) (Nat.div_lt_of_lt_mul (by rw [Nat.mul_comm, <- Nat.pow_succ]; exact h))
      omega
theorem icap_fit {z : Int} (h : (digs z.natAbs).length <= 50) : icap z = enc z := by
  unfold icap capL
  rw [if_pos h]
  simp only [mkS, enc, isEmpty_digs]
  by_cases h0 : z < 0
  · have : z.natAbs ≠ 0 := by omega
    simp [h0]; omega
  · simp [h0]
theorem spec_l04Make_c {w : World} {neg : Bool} {p : Option Addr} {n c : Nat} {z : List Int} (h : IntsR w p n c z) (hl : Limbs z) :
    Ret P n_spec_l04Make [.bool neg, .slice p n c] w fun v w' => ∃ b p n c, v = .agg ⟨[.bool b, .slice p n c]⟩ /\ b = (neg && !(capL (digs (val z).toNat)).isEmpty) /\ Own w' w.heap.size T_int 1 p n c ((capL (digs (val z).toNat)).map (Value.int .i64)) /\ Ext w w' := by
  refine spec_l04Make_ret ?_
  unfold spec_l04Make
  intro r w1 hn1
  refine Ret.at (spec_l02Cap_c (h.ext hn1.ext)) ?_
  rintro v w2 ⟨p', n', c', hv, hw, hr⟩
  subst hv; subst hw
  rw [trimL_eq hl] at hr
  have hn' := hr.1
  have h50 : n' <= 50 := by
    have := (capL_canon (n := (val z).toNat)).2
    omega
  have e1 := hn1.r_eq
  refine ⟨_, _, _, rfl, fun e => ?_, fun e => ?_⟩
  all_goals
    intro r1 w3 hn3
    obtain ⟨p2, c2, w4, g1, g2, g3⟩ := Own.appendI (Own.fresh hn3) hn3.ext.le (hr.ext hn3.ext) (by omega)
    rw [Nat.zero_add] at g1 g2
    rw [List.nil_append] at g2
    have y4 : Ext w2 w4 := g3 w2 hn3.ext (Nat.le_refl _)
    refine ⟨_, _, _, _, g1, ?_⟩
  · obtain ⟨w5, st, hb5, ch, sz⟩ := (hn1.blk.ext y4).storeA0 (P := P) (t := T_impl_Signed) (xs := [.bool (decide ((0 : Int) < (n' : Nat))), .slice p2 n' c2]) (by kernel_rfl) rfl (by simp [Value.oneCell'])
    refine ⟨w5, st, _, _, _, _, hb5.loadA0 (by kernel_rfl), _, _, _, _, rfl, by rw [len_bool hn', e]; rfl, (g2.chg ch (fun q hq => ?_)).mono hn1.ext.le, (hn1.ext.trans y4).chg ch (by simp; omega)⟩
    have := (World.ownsRow.lt g2 q (by rw [<- hq]; cases p2 <;> rfl)).1
    have := hn1.size
    simp; omega
  · obtain ⟨w5, st, hb5, ch, sz⟩ := (hn1.blk.ext y4).storeA0 (P := P) (t := T_impl_Signed) (xs := [.bool false, .slice p2 n' c2]) (by kernel_rfl) rfl (by simp [Value.oneCell'])
    refine ⟨w5, st, _, _, _, _, hb5.loadA0 (by kernel_rfl), _, _, _, _, rfl, by rw [e]; rfl, (g2.chg ch (fun q hq => ?_)).mono hn1.ext.le, (hn1.ext.trans y4).chg ch (by simp; omega)⟩
    have := (World.ownsRow.lt g2 q (by rw [<- hq]; cases p2 <;> rfl)).1
    have := hn1.size
    simp; omega
end Go.Proofs.YtgbknjdjbahdkaaGreatDoor
namespace Go.Proofs.YtgbknjdjbahdkaaGreatDoor
open Go Go.Proofs.YtgbknjdjbahdkaaGreatDoor.Sx
theorem digs_split {o : List Int} {N n : Nat} (h : digs N = o ++ digs n) (hn : 0 < n) : digs N = (o ++ [((n % 1000000000 : Nat) : Int)]) ++ digs (n / 1000000000) := by
  rw [h, digs_pos (by omega)]; simp
def room (on : Nat) (n : Int) : Prop := (on = 0 /\ n < 1000000000000000000000000000) ∨ (on = 1 /\ n < 1000000000000000000) ∨ (on = 2 /\ n < 1000000000) ∨ (on = 3 /\ n < 1)
theorem room_next {on : Nat} {n : Int} (h : room on n) (h0 : 0 < n) : room (on + 1) (n / 1000000000) /\ on <= 2 := by
  unfold room at h ⊢
  omega
theorem spec_NatOf_c {w : World} {n : Int} (h0 : 0 <= n) (h1 : n <= 9223372036854775807) :
    Ret P n_spec_NatOf [.int .i64 n] w fun v w' => ∃ p' n' c', v = .slice p' n' c' /\ Own w' w.heap.size T_int 1 p' n' c' ((digs n.toNat).map (Value.int .i64)) /\ Ext w w' := by
  refine spec_NatOf_ret ?_
  unfold spec_NatOf
  intro r w1 hn1
  refine ⟨fun m p on c wr => ∃ o : List Int, 0 <= m /\ room on m /\ m <= n /\ Own wr w.heap.size T_int 1 p on c (o.map (Value.int .i64)) /\ Ext w wr /\ digs n.toNat = o ++ digs m.toNat, fun m _ _ _ _ => m.toNat,
    ⟨[], h0, by unfold room; omega, Int.le_refl _, Own.fresh hn1, hn1.ext, rfl⟩, ?_⟩
  intro junk wr m p on c ⟨o, hm0, hrm, hmn, hown, hx, hd⟩
  refine ifD (fun hpos => ?_) (fun hz => ?_)
  · obtain ⟨hr2, hon⟩ := room_next hrm hpos
    refine ⟨by decide, _, rfl, fun r1 w2 hn2 => ?_⟩
    rw [tmod_limb hm0] at hn2
    obtain ⟨p', c', w3, g1, g2, g3⟩ := Own.push hown hx.le hn2 (by omega)
    refine ⟨_, _, _, _, g1, by decide, ?_⟩
    rw [tdiv_limb hm0]
    refine exW ⟨by omega, by omega⟩ ⟨⟨_, by omega, hr2, by omega, g2, g3 w hx (Nat.le_refl _), ?_⟩, ?_⟩
    · have := digs_split hd (show 0 < m.toNat by omega)
      have e1 : ((m.toNat % 1000000000 : Nat) : Int) = m % 1000000000 := by omega
      have e2 : m.toNat / 1000000000 = (m / 1000000000).toNat := by omega
      rw [this, e1, e2]
    · show (m / 1000000000).toNat < m.toNat
      omega
  · have : m.toNat = 0 := by omega
    rw [this, digs_zero, List.append_nil] at hd
    exact ⟨_, _, _, rfl, by rw [hd]; exact hown, hx⟩
theorem impl_natOf_c {w : World} {n : Int} (h0 : 0 <= n) (h1 : n <= 18446744073709551615) :
    Ret P n_impl_natOf [.int .u64 n] w fun v w' => ∃ p' n' c', v = .slice p' n' c' /\ Own w' w.heap.size T_int 1 p' n' c' ((digs n.toNat).map (Value.int .i64)) /\ Ext w w' := by
  refine impl_natOf_ret ?_
  unfold impl_natOf
  intro r w1 hn1
  refine ⟨fun m p on c wr => ∃ o : List Int, 0 <= m /\ room on m /\ m <= n /\ Own wr w.heap.size T_int 1 p on c (o.map (Value.int .i64)) /\ Ext w wr /\ digs n.toNat = o ++ digs m.toNat, fun m _ _ _ _ => m.toNat,
    ⟨[], h0, by unfold room; omega, Int.le_refl _, Own.fresh hn1, hn1.ext, rfl⟩, ?_⟩
  intro junk wr m p on c ⟨o, hm0, hrm, hmn, hown, hx, hd⟩
  refine ifD (fun hpos => ?_) (fun hz => ?_)
  · obtain ⟨hr2, hon⟩ := room_next hrm hpos
    refine ⟨by decide, _, rfl, ?_⟩
    rw [tmod_limb hm0]
    refine exW ⟨by omega, by omega⟩ (fun r1 w2 hn2 => ?_)
    obtain ⟨p', c', w3, g1, g2, g3⟩ := Own.push hown hx.le hn2 (by omega)
    refine ⟨_, _, _, _, g1, by decide, ?_⟩
    rw [tdiv_limb hm0]
    have wu : IntKind.wrap .u64 (m / 1000000000) = m / 1000000000 := by
      simp only [IntKind.wrap, IntKind.bits, IntKind.signed]
      simp
      omega
    refine ⟨_, rfl, ?_⟩
    rw [wu]
    refine ⟨⟨_, by omega, hr2, by omega, g2, g3 w hx (Nat.le_refl _), ?_⟩, ?_⟩
    · have := digs_split hd (show 0 < m.toNat by omega)
      have e1 : ((m.toNat % 1000000000 : Nat) : Int) = m % 1000000000 := by omega
      have e2 : m.toNat / 1000000000 = (m / 1000000000).toNat := by omega
      rw [this, e1, e2]
    · show (m / 1000000000).toNat < m.toNat
      omega
  · have : m.toNat = 0 := by omega
    rw [this, digs_zero, List.append_nil] at hd
    exact ⟨_, _, _, rfl, by rw [hd]; exact hown, hx⟩
theorem digs_len3 {n : Nat} (h : n < 1000000000000000000000000000) : (digs n).length <= 3 := by
  by_cases h1 : n = 0
  · subst h1; simp [digs_zero]
  · rw [digs_pos h1]
    by_cases h2 : n / 1000000000 = 0
    · rw [h2, digs_zero]; simp
    · rw [digs_pos h2]
      by_cases h3 : n / 1000000000 / 1000000000 = 0
      · rw [h3, digs_zero]; simp
      · rw [digs_pos h3]
        have h4 : n / 1000000000 / 1000000000 / 1000000000 = 0 := by omega
        rw [h4, digs_zero]; simp
theorem icap_small {z : Int} (h : z.natAbs < 1000000000000000000000000000) : icap z = enc z := by
  have hl := digs_len3 h
  unfold icap capL
  rw [if_pos (by omega)]
  simp only [mkS, enc, isEmpty_digs]
  by_cases h0 : z < 0
  · have : z.natAbs ≠ 0 := by omega
    simp [h0]; omega
  · simp [h0]
theorem impl_IntOf_c {w : World} {n : Int} (h0 : -9223372036854775808 <= n) (h1 : n <= 9223372036854775807) :
    Ret P n_impl_IntOf [.int .i64 n] w fun v w' => ∃ vs' f, v = .agg ⟨vs'⟩ /\ Owns w' w.heap.size vs' (enc n) f /\ f.Nodup /\ Ext w w' := by
  refine impl_IntOf_ret ?_
  unfold impl_IntOf
  intro r w1 hn1
  have e1 := hn1.r_eq; have s1 := hn1.size
  have fin : ∀ (W : World) (p : Option Addr) (m c : Nat) (b : Bool), b = decide (n < 0) -> Own W w1.heap.size T_int 1 p m c ((digs n.natAbs).map (Value.int .i64)) -> Ext w1 W -> ∃ wv_2, Stores P T_impl_Signed ⟨r, 0, none⟩ (.agg #[(.bool b), (.slice p m c)]) W wv_2 /\
      ∃ (r0 : Bool) (r1_p : Option Addr) (r1_n : Nat) (r1_c : Nat), Loads P T_impl_Signed ⟨r, 0, none⟩ (.agg #[(.bool r0), (.slice r1_p r1_n r1_c)]) wv_2 /\ (fun (v : Value) (w' : World) => ∃ vs' f, v = .agg ⟨vs'⟩ /\ Owns w' w.heap.size vs' (enc n) f /\ f.Nodup /\ Ext w w') (.agg #[(.bool r0), (.slice r1_p r1_n r1_c)]) wv_2 := by
    intro W p m c b hb ho hW
    obtain ⟨w5, st, hb5, ch, sz⟩ := (hn1.blk.ext hW).storeA0 (P := P) (t := T_impl_Signed) (xs := [.bool b, .slice p m c]) (by kernel_rfl) rfl (by simp [Value.oneCell'])
    refine ⟨w5, st, _, _, _, _, hb5.loadA0 (by kernel_rfl), _, _, rfl, ?_, nodup_opt p, (hn1.ext.trans hW).chg ch (by simp; omega)⟩
    have := (Owns.int2 (b := b) ho).chg1 ch (by omega)
    rw [hb] at this
    rw [hb]
    exact this.mono (by omega)
  refine ifD (fun hneg => ?_) (fun hpos => ?_)
  · have w6 : IntKind.wrap .u64 n = n + 18446744073709551616 := by
      simp only [IntKind.wrap, IntKind.bits, IntKind.signed]
      simp
      omega
    have w7 : IntKind.wrap .u64 (0 - (n + 18446744073709551616)) = -n := by
      simp only [IntKind.wrap, IntKind.bits, IntKind.signed]
      simp
      omega
    refine ⟨_, rfl, _, rfl, ?_⟩
    rw [w6, w7]
    refine Ret.at (impl_natOf_c (by omega) (by omega)) ?_
    rintro v w2 ⟨p, m, c, hv, ho, y⟩
    subst hv
    rw [show (-n).toNat = n.natAbs by omega] at ho
    exact ⟨_, _, _, rfl, fin w2 p m c true (by simp [hneg]) ho y⟩
  · have w6 : IntKind.wrap .u64 n = n := by
      simp only [IntKind.wrap, IntKind.bits, IntKind.signed]
      simp
      omega
    refine ⟨_, rfl, ?_⟩
    rw [w6]
    refine Ret.at (impl_natOf_c (by omega) (by omega)) ?_
    rintro v w2 ⟨p, m, c, hv, ho, y⟩
    subst hv
    rw [show n.toNat = n.natAbs by omega] at ho
    exact ⟨_, _, _, rfl, fin w2 p m c false (by simp; omega) ho y⟩
theorem spec_IntOf_c {w : World} {n : Int} (h0 : -9223372036854775808 <= n) (h1 : n <= 9223372036854775807) :
    Ret P n_spec_IntOf [.int .i64 n] w fun v w' => ∃ vs' f, v = .agg ⟨vs'⟩ /\ Owns w' w.heap.size vs' (enc n) f /\ f.Nodup /\ Ext w w' := by
  refine spec_IntOf_ret ?_
  unfold spec_IntOf
  intro r w1 hn1
  have e1 := hn1.r_eq; have s1 := hn1.size
  have fin : ∀ (W : World) (neg : Bool) (p : Option Addr) (m c : Nat) (z : List Int), IntsR W p m c z -> Limbs z -> Ext w1 W -> (val z).toNat = n.natAbs -> ((val z).toNat ≠ 0 -> neg = decide (n < 0)) ->
      Calls P n_spec_l04Make ⟨[.bool neg, .slice p m c]⟩ W fun e_1 wv_7 => ∃ (t170 : Bool) (t171_p : Option Addr) (t171_n : Nat) (t171_c : Nat), e_1 = .returned (.agg #[(.bool t170), (.slice t171_p t171_n t171_c)]) /\
        ∃ wv_8, Stores P T_impl_Signed ⟨r, 0, none⟩ (.agg #[(.bool t170), (.slice t171_p t171_n t171_c)]) wv_7 wv_8 /\
        ∃ (r0 : Bool) (r1_p : Option Addr) (r1_n : Nat) (r1_c : Nat), Loads P T_impl_Signed ⟨r, 0, none⟩ (.agg #[(.bool r0), (.slice r1_p r1_n r1_c)]) wv_8 /\ (fun (v : Value) (w' : World) => ∃ vs' f, v = .agg ⟨vs'⟩ /\ Owns w' w.heap.size vs' (enc n) f /\ f.Nodup /\ Ext w w') (.agg #[(.bool r0), (.slice r1_p r1_n r1_c)]) wv_8 := by
    intro W neg p m c z hz hlz hW hm hs
    refine Ret.at (spec_l04Make_c hz hlz) ?_
    rintro v W2 ⟨b, q, qn, qc, hv, hbb, ho, y2⟩
    subst hv
    have hW0 := hW.le
    obtain ⟨W3, st, hb3, ch, sz⟩ := ((hn1.blk.ext hW).ext y2).storeA0 (P := P) (t := T_impl_Signed) (xs := [.bool b, .slice q qn qc]) (by kernel_rfl) rfl (by simp [Value.oneCell'])
    have ow2 : Owns W2 W.heap.size [.bool b, .slice q qn qc] (enc n) (q.map (·.block)).toList := by
      rw [<- icap_small (by omega), <- mkS_digs hm hs, hbb]; exact Owns.int2 ho
    exact ⟨_, _, _, _, rfl, W3, st, _, _, _, _, hb3.loadA0 (by kernel_rfl), _, _, rfl, (ow2.chg1 ch (by omega)).mono (by omega), nodup_opt q, ((hn1.ext.trans hW).trans y2).chg ch (by simp; omega)⟩
  refine ifD (fun hmin => ?_) (fun hnm => ifD (fun hneg => ?_) (fun hpos => ?_))
  · intro r1 w2 hn2
    refine fin w2 true _ 3 3 [854775808, 223372036, 9] ⟨rfl, Nat.le_refl _, by omega, fun _ => ⟨r1, 0, rfl, hn2.blk.seg⟩⟩ (fun x hx => by simp at hx; omega) hn2.ext ?_ ?_
    · simp [val]; omega
    · intro _; simp; omega
  · have w6 : IntKind.wrap .i64 (0 - n) = -n := by
      simp only [IntKind.wrap, IntKind.bits, IntKind.signed]
      simp
      omega
    refine ⟨_, rfl, ?_⟩
    rw [w6]
    refine Ret.at (spec_NatOf_c (by omega) (by omega)) ?_
    rintro v w2 ⟨p, m, c, hv, ho, y⟩
    subst hv
    refine ⟨_, _, _, rfl, fin w2 true p m c _ ho.ints (digs_limbs _) y ?_ ?_⟩
    · rw [val_digs]; omega
    · intro _; simp [hneg]
  · refine Ret.at (spec_NatOf_c (by omega) (by omega)) ?_
    rintro v w2 ⟨p, m, c, hv, ho, y⟩
    subst hv
    refine ⟨_, _, _, rfl, fin w2 false p m c _ ho.ints (digs_limbs _) y ?_ ?_⟩
    · rw [val_digs]; omega
    · intro _; simp; omega
end Go.Proofs.YtgbknjdjbahdkaaGreatDoor
namespace Go.Proofs.YtgbknjdjbahdkaaGreatDoor
open Go Go.Proofs.YtgbknjdjbahdkaaGreatDoor.Sx
theorem val_zeros' (k : Nat) : val (List.replicate k 0) = 0 := by
  induction k with
  | zero => rfl
  | succ s ih => simp [List.replicate_succ, val, ih]
theorem Limbs.zeros (k : Nat) : Limbs (List.replicate k 0) := fun x hx => by simp at hx; omega
theorem pow_mono9 {i j : Nat} (h : i <= j) : (1000000000 : Int) ^ i <= 1000000000 ^ j := by
  have := Int.ofNat_le.2 (Nat.pow_le_pow_right (n := 1000000000) (by decide) h)
  simpa using this
theorem digs_lenI {z : Int} {k : Nat} (h0 : 0 <= z) (h : z < 1000000000 ^ k) : (digs z.toNat).length <= k := by
  apply digs_len
  have : ((z.toNat : Nat) : Int) < ((1000000000 ^ k : Nat) : Int) := by rw [Int.toNat_of_nonneg h0]; simpa using h
  exact Int.ofNat_lt.1 this
theorem digs_lenI' {z : Int} {k : Nat} (h0 : 0 <= z) (h : 1000000000 ^ k <= z) : k < (digs z.toNat).length := by
  rcases Nat.lt_or_ge k (digs z.toNat).length with g | g
  · exact g
  · exfalso
    have h1 := val_lt (digs_limbs z.toNat)
    rw [val_digs, Int.toNat_of_nonneg h0] at h1
    have := pow_mono9 g
    omega
theorem val_digsI {z : Int} (h : 0 <= z) : val (digs z.toNat) = z := by rw [val_digs, Int.toNat_of_nonneg h]
theorem canon_top {b : List Int} {m : Nat} (h : Canon b) (hl : b.length = m + 1) : 1 <= b.getD m 0 := by
  have h1 := h.2
  rw [getLast_getD (by omega), hl, Nat.add_sub_cancel] at h1
  have h2 := h.1.getD m
  have : b.getD m 0 ≠ 0 := fun e => h1 (by rw [e])
  omega
theorem impl_NatOf_c {w : World} {n : Int} (h0 : 0 <= n) (h1 : n <= 9223372036854775807) :
    Ret P n_impl_NatOf [.int .i64 n] w fun v w' => ∃ p' n' c', v = .slice p' n' c' /\ Own w' w.heap.size T_int 1 p' n' c' ((digs n.toNat).map (Value.int .i64)) /\ Ext w w' := by
  refine impl_NatOf_ret ?_
  unfold impl_NatOf
  refine ifD (fun h => absurd h (by omega)) (fun _ => ?_)
  have e : IntKind.wrap .u64 n = n := by
    have : (IntKind.wrap .u64 n) = n % 18446744073709551616 := rfl
    rw [this]; omega
  refine ⟨n, e.symm, ?_⟩
  refine Ret.at (impl_natOf_c h0 (by omega)) ?_
  rintro v w1 ⟨p', n', c', hv, ho, hx⟩
  subst hv
  exact ⟨_, _, _, rfl, _, _, _, rfl, ho, hx⟩
theorem impl_natDiv_c {w : World} {p q : Option Addr} {n c m d : Nat} {a b : List Int} (h : IntsR w p n c a) (k : IntsR w q m d b) (ha : Canon a) (hb : Canon b) (hb0 : 0 < m) (hn : n <= 100000) (hm : m <= 100000) :
    Ret P n_impl_natDiv [.slice p n c, .slice q m d] w fun v w' => ∃ p1 n1 c1 p2 n2 c2, v = .tuple #[.slice p1 n1 c1, .slice p2 n2 c2] /\ Own w' w.heap.size T_int 1 p1 n1 c1 ((digs (val a / val b).toNat).map (Value.int .i64)) /\ Own w' w.heap.size T_int 1 p2 n2 c2 ((digs (val a % val b).toNat).map (Value.int .i64)) /\ (∀ z, p1.map (·.block) = some z -> p2.map (·.block) ≠ some z) /\ Ext w w' := by
  refine impl_natDiv_ret ?_
  unfold impl_natDiv
  have hla := h.1; have hlb := k.1
  have va0 := val_nonneg ha.1
  have vb0 : 0 < val b := canon_pos hb (by intro e; rw [e] at hlb; simp at hlb; omega)
  refine Ret.at (impl_natCmp_c h k) ?_
  rintro v w1 ⟨hv, y1⟩
  subst hv
  refine ⟨_, rfl, ifD (fun hlt => ?_) (fun hge => ifD (fun hone => ?_) (fun hmore => ?_))⟩
  · have hab : val a < val b := by rcases cmpL_val ha hb with h | h | h <;> omega
    intro r w2 hn2
    have e2 := hn2.r_eq
    have x2 := y1.trans hn2.ext
    refine Ret.at (impl_natCopy_c (h.ext x2) (by omega)) ?_
    rintro v w3 ⟨p', c', hv, ho, y3⟩
    subst hv
    refine ⟨_, _, _, rfl, _, _, _, _, _, _, rfl, ?_, ?_, ?_, x2.trans y3⟩
    · rw [Int.ediv_eq_zero_of_lt va0 hab]
      simp only [Int.toNat_zero, digs_zero]
      exact (((Own.fresh hn2).ext y3).mono (by have := y1.le; omega))
    · rw [Int.emod_eq_of_lt va0 hab, digs_val ha]
      exact ho.mono x2.le
    · intro z hz hz2
      have := (World.ownsRow.lt ho z (by rw [<- hz2]; cases p' <;> rfl)).1
      simp at hz
      have := hn2.size
      omega
  · have hm1 : m = 1 := by omega
    subst hm1
    have hB := hb.1.getD 0
    have hT := canon_top (m := 0) hb (by omega)
    have ev : val b = b.getD 0 0 := by
      have := val_top (m := 0) hlb
      simpa [val] using this
    obtain ⟨ad, rfl, hl⟩ := ints_at (k.ext y1) (i := 0) (by omega) (by omega)
    refine ⟨⟨by omega, by omega⟩, _, by simpa only [Int.toNat_zero] using hl, ?_⟩
    rw [ev]
    simp only [Int.toNat_zero]
    refine Ret.at (impl_natSmall_c (h.ext y1) ha.1 ⟨by omega, by omega⟩ (by omega)) ?_
    rintro v w2 ⟨p1, n1, c1, hv, o1, y2⟩
    subst hv
    have Z0 := Int.emod_nonneg (val a) (show b.getD 0 0 ≠ 0 by omega)
    have Z1 := Int.emod_lt_of_pos (val a) (show 0 < b.getD 0 0 by omega)
    refine ⟨_, _, _, _, rfl, ?_⟩
    refine Ret.at (impl_NatOf_c Z0 (by omega)) ?_
    rintro v w3 ⟨p2, n2, c2, hv, o2, y3⟩
    subst hv
    refine ⟨_, _, _, rfl, _, _, _, _, _, _, rfl, (o1.ext y3).mono y1.le, o2.mono (by have := y1.le; have := y2.le; omega), fun z hz hz2 => ?_, y1.trans (y2.trans y3)⟩
    have := (World.ownsRow.lt o2 z (by rw [<- hz2]; cases p2 <;> rfl)).1
    have := (World.ownsRow.lt o1 z (by rw [<- hz]; cases p1 <;> rfl)).2
    omega
  · have hab : val b <= val a := by rcases cmpL_val ha hb with h | h | h <;> omega
    obtain ⟨t, rfl⟩ : ∃ t, m = t + 1 := ⟨m - 1, by omega⟩
    have hB := hb.1.getD t
    have hT := canon_top hb hlb
    have hmn : t + 1 <= n := by
      rcases Nat.lt_or_ge n (t + 1) with g | g
      · have := canon_len ha hb (by omega); omega
      · exact g
    have S0 : 1 <= 1000000000 / (b.getD t 0 + 1) := Int.le_ediv_of_mul_le (by omega) (by omega)
    have S1 : 1000000000 / (b.getD t 0 + 1) <= 500000000 := by
      have : 1000000000 / (b.getD t 0 + 1) < 500000001 := Int.ediv_lt_of_lt_mul (by omega) (by omega)
      omega
    have S2 : 1000000000 / (b.getD t 0 + 1) * (b.getD t 0 + 1) <= 1000000000 := Int.ediv_mul_le _ (by omega)
    generalize hsc : 1000000000 / (b.getD t 0 + 1) = sc at S0 S1 S2
    obtain ⟨ad, rfl, hl⟩ := ints_at (k.ext y1) (i := (t : Int)) (by omega) (by omega)
    simp only [Int.toNat_natCast] at hl
    have i1 : ((t + 1 : Nat) : Int) - 1 = (t : Int) := by omega
    rw [i1]
    refine exW ⟨by omega, by omega⟩ ⟨⟨by omega, by omega⟩, _, by simpa only [Int.toNat_natCast] using hl, exW ⟨by omega, by omega⟩ ⟨by omega, ?_⟩⟩
    rw [Int.tdiv_eq_ediv_of_nonneg (by omega), hsc]
    refine exW ⟨by omega, by omega⟩ fun r1 w2 hn2 => ?_
    have e2 := hn2.r_eq
    have x2 := y1.trans hn2.ext
    have one : ∀ {W W' : World} {r : Nat}, New W (.cells ⟨[.int .i64 sc]⟩ T_int (0, 0)) r W' -> IntsR W' (some ⟨r, 0, none⟩) 1 1 [sc] := fun hn => ⟨rfl, Nat.le_refl _, by omega, fun _ => ⟨_, 0, rfl, hn.blk.seg⟩⟩
    have lsc : Limbs [sc] := fun x hx => by simp at hx; omega
    have vsc : val [sc] = sc := by simp [val]
    refine Ret.at (impl_natMul_c (h.ext x2) (one hn2) ha.1 lsc (by omega) (by omega)) ?_
    rintro v w3 ⟨up, un, uc, hv, ou, y3⟩
    subst hv
    refine ⟨_, _, _, rfl, fun r2 w4 hn4 => ?_⟩
    have x4 := (x2.trans y3).trans hn4.ext
    refine Ret.at (impl_natMul_c (k.ext x4) (one hn4) hb.1 lsc (by omega) (by omega)) ?_
    rintro v w5 ⟨vp, vn, vc, hv, ov, y5⟩
    subst hv
    refine ⟨_, _, _, rfl, ?_⟩
    rw [vsc] at ou ov
    have x5 := x4.trans y5
    have l2 := x2.le; have l3 := y3.le; have l4 := hn4.ext.le; have l5 := y5.le; have l1 := y1.le
    -- the values
    have U0 : 0 <= val a * sc := Int.mul_nonneg va0 (by omega)
    have V0 : val b <= val b * sc := by
      have := Int.mul_le_mul_of_nonneg_left S0 (Int.le_of_lt vb0); omega
    have aL := val_lt ha.1
    rw [hla] at aL
    have hpn := pow_pos9 n
    have U1 : val a * sc < 1000000000 ^ (n + 1) := by
      rw [Int.pow_succ]
      have h1 : val a * sc <= 1000000000 ^ n * sc := Int.mul_le_mul_of_nonneg_right (Int.le_of_lt aL) (by omega)
      have h2 : 1000000000 ^ n * sc < 1000000000 ^ n * 1000000000 := Int.mul_lt_mul_of_pos_left (by omega) hpn
      omega
    have hpt := pow_pos9 t
    have bt := val_top hlb
    have bb := take_bounds (m := t) hb.1 (by omega)
    have Vlow : 1000000000 ^ t * sc <= val b * sc := by
      refine Int.mul_le_mul_of_nonneg_right ?_ (by omega)
      have := Int.mul_le_mul_of_nonneg_left hT (Int.le_of_lt hpt)
      omega
    have Vlow1 : 1000000000 ^ t <= val b * sc := by
      have := Int.mul_le_mul_of_nonneg_left S0 (Int.le_of_lt hpt); omega
    have Vhi : val b * sc < 1000000000 ^ (t + 1) := by
      have h1 : val b * sc < (1000000000 ^ t * (b.getD t 0 + 1)) * sc := by
        refine Int.mul_lt_mul_of_pos_right ?_ (by omega)
        rw [Int.mul_add]; omega
      have h2 : (1000000000 ^ t * (b.getD t 0 + 1)) * sc = 1000000000 ^ t * (sc * (b.getD t 0 + 1)) := by rw [Int.mul_assoc, Int.mul_comm sc]
      have h3 : 1000000000 ^ t * (sc * (b.getD t 0 + 1)) <= 1000000000 ^ t * 1000000000 := Int.mul_le_mul_of_nonneg_left S2 (Int.le_of_lt hpt)
      rw [Int.pow_succ]; omega
    have hvlen : (digs (val b * sc).toNat).length = t + 1 := by
      have h1 := digs_lenI (by omega) Vhi
      have h2 := digs_lenI' (by omega) Vlow1
      omega
    have hvn : vn = t + 1 := by
      have := ov.len
      simp only [List.length_map] at this
      omega
    have hvval := val_digsI (show 0 <= val b * sc by omega)
    have hvtop := canon_top (digs_canon (val b * sc).toNat) hvlen
    have hvlim := digs_limbs (val b * sc).toNat
    have hUval := val_digsI U0
    have hUlen := digs_lenI U0 U1
    generalize hVl : digs (val b * sc).toNat = vs at ov hvlen hvval hvtop hvlim
    generalize hUl : digs (val a * sc).toNat = us at ou hUval hUlen
    have hUlim : Limbs us := by rw [<- hUl]; exact digs_limbs _
    have hun : un = us.length := by have := ou.len; simp only [List.length_map] at this; omega
    subst hvn
    have dis0 : ∀ z, up.map (·.block) = some z -> vp.map (·.block) ≠ some z := fun z hz hz2 => by
      have := (World.ownsRow.lt ou z (by rw [<- hz]; cases up <;> rfl)).2
      have := (World.ownsRow.lt ov z (by rw [<- hz2]; cases vp <;> rfl)).1
      omega
    have ou5 := ((ou.ext hn4.ext).ext y5).mono (base' := w.heap.size) (by omega)
    have ov5 := ov.mono (base' := w.heap.size) (by omega)
    refine ⟨fun P' N' C' wr => ∃ s, N' = us.length + s /\ N' <= n + 1 /\ Own wr w.heap.size T_int 1 P' N' C' ((us ++ List.replicate s 0).map (Value.int .i64)) /\ Own wr w.heap.size T_int 1 vp (t + 1) vc (vs.map (Value.int .i64)) /\ Ext w wr /\ (∀ z, P'.map (·.block) = some z -> vp.map (·.block) ≠ some z), fun _ N' _ _ => n + 1 - N',
      ⟨0, by omega, by omega, by simpa using ou5, ov5, x5, dis0⟩, ?_⟩
    intro junk wr up1 un1 uc1 ⟨s, hs, hsn, ou1, ov1, x6, dis1⟩
    have l6 := x6.le
    refine ifD (fun hgrow => ?_) (fun hfull => ?_)
    · intro r3 w7 hn7
      have e7 := hn7.r_eq
      obtain ⟨p', c', w8, ap, o8, ch8, d8⟩ := (ou1.ext hn7.ext).push1 (P := P) sliceT_int (by have := hn7.ext.le; omega) hn7.blk rfl (by simp [Value.oneCell']) (by omega) (by omega)
      have upl : ∀ z, up1.map (·.block) = some z -> w.heap.size <= z /\ z < wr.heap.size := fun z hz => World.ownsRow.lt ou1 z (by rw [<- hz]; cases up1 <;> rfl)
      have vpl : ∀ z, vp.map (·.block) = some z -> w.heap.size <= z /\ z < wr.heap.size := fun z hz => World.ownsRow.lt ov1 z (by rw [<- hz]; cases vp <;> rfl)
      refine ⟨p', _, c', w8, ap, ⟨s + 1, by omega, by omega, ?_, (ov1.ext hn7.ext).chg ch8 (fun z hz hm => dis1 z (opt_mem hm) hz), (x6.trans hn7.ext).chg ch8 (fun z hz => (upl z (opt_mem hz)).1), fun z hz hz2 => ?_⟩, ?_⟩
      · rw [List.replicate_succ', <- List.append_assoc]
        simpa using o8
      · rcases d8 with d8 | d8
        · exact dis1 z (d8 ▸ hz) hz2
        · have := d8 z hz; have := (vpl z hz2).2; have := hn7.size; omega
      · show n + 1 - (un1 + 1) < n + 1 - un1
        omega
    · have hN : un1 = n + 1 := by omega
      have hi66 : ((un1 : Nat) : Int) - ((t + 1 : Nat) : Int) = ((n - t : Nat) : Int) := by omega
      rw [hi66]
      refine exW ⟨by omega, by omega⟩ ⟨⟨by omega, by omega, by omega⟩, ?_⟩
      rw [Int.toNat_natCast]
      intro r4 w9 hn9
      have e9 := hn9.r_eq; have s9 := hn9.size
      have hb9 := hn9.blk
      rw [zeroRow_int, Nat.mul_one] at hb9
      obtain ⟨bu, ys, rfl, hbu, hblk, hyl, hnc, hcm, hyt⟩ := ou1.blk (by omega)
      have hbul := hblk.lt
      generalize hos : us ++ List.replicate s 0 = o0 at ou1 hyt
      have ho0 : o0.length = n + 1 := by rw [<- hos]; simp; omega
      have hov : val o0 = val a * sc := by rw [<- hos, val_append, val_zeros', Int.mul_zero, Int.add_zero, hUval]
      have hol0 : Limbs o0 := by rw [<- hos]; exact Limbs.append.2 ⟨hUlim, Limbs.zeros s⟩
      have hys : ys = o0.map (Value.int .i64) ++ ys.drop (un1 * 1) := by rw [<- hyt, List.take_append_drop]
      generalize hrs : ys.drop (un1 * 1) = rs at hys
      rw [hys] at hblk
      have vpne : ∀ z, vp.map (·.block) = some z -> z ≠ bu := fun z hz e => dis1 bu rfl (by rw [hz, e])
      have vpl : ∀ z, vp.map (·.block) = some z -> z < wr.heap.size := fun z hz => (World.ownsRow.lt ov1 z (by rw [<- hz]; cases vp <;> rfl)).2
      refine exW ⟨by omega, by omega⟩ ⟨fun i wr2 => ∃ (j : Nat) (o ql : List Int), i = (j : Int) - 1 /\ j <= n - t /\ o.length = n + 1 /\ ql.length = n - t /\ Blk wr2 bu T_int (o.map (Value.int .i64) ++ rs) /\ Blk wr2 r4 T_int (ql.map (Value.int .i64)) /\ IntsR wr2 vp (t + 1) vc vs /\ Ext w wr2 /\ Limbs o /\ Limbs ql /\ (∀ z, z < j -> ql.getD z 0 = 0) /\ val o + val ql * (val b * sc) = val a * sc /\ val o < 1000000000 ^ j * (val b * sc), fun i _ => (i + 1).toNat,
        ⟨n - t, o0, List.replicate (n - t) 0, rfl, by omega, ho0, by simp, hblk.ext hn9.ext, by simpa using hb9, (ov1.ints).ext hn9.ext, x6.trans hn9.ext, hol0, Limbs.zeros _, fun z hz => by simp [List.getD_eq_getElem?_getD, hz], by rw [val_zeros', Int.zero_mul]; omega, ?_⟩, ?_⟩
      · rw [hov]
        have h1 : val a * sc < 1000000000 ^ n * sc := Int.mul_lt_mul_of_pos_right aL (by omega)
        have h2 : (1000000000 : Int) ^ (n - t) * (1000000000 ^ t * sc) <= 1000000000 ^ (n - t) * (val b * sc) := Int.mul_le_mul_of_nonneg_left Vlow (Int.le_of_lt (pow_pos9 _))
        rw [<- Int.mul_assoc, <- Int.pow_add, show n - t + t = n by omega] at h2
        omega
      intro junk2 wr2 i ⟨j, o, ql, hi, hj, hol, hqll, hbu2, hbq, kv, x10, hlo, hlq, hqz, hval, hlt⟩
      subst hi
      have l10 := x10.le
      refine ifD (fun hpos => ?_) (fun hend => ?_)
      · obtain ⟨f, rfl⟩ : ∃ f, j = f + 1 := ⟨j - 1, by omega⟩
        have ef : ((f + 1 : Nat) : Int) - 1 = (f : Int) := by omega
        rw [ef]
        have e81 : (f : Int) + ((t + 1 : Nat) : Int) + 1 = ((f + (t + 1) + 1 : Nat) : Int) := by omega
        refine exW ⟨by omega, by omega⟩ (exW ⟨by omega, by omega⟩ ?_)
        rw [e81]
        simp only [Int.toNat_natCast]
        have hsub : Sx.sub (some ⟨bu, 0, none⟩) f uc1 1 = some ⟨bu, f, none⟩ := by
          unfold Sx.sub
          rw [if_neg (by omega)]
          simp [Addr.add]
          omega
        rw [hsub, show f + (t + 1) + 1 - f = t + 1 + 1 by omega]
        refine ⟨⟨by omega, by omega⟩, ⟨by omega, by omega⟩, ?_⟩
        -- the window
        have esplit : o = o.take f ++ ((o.drop f).take (t + 1 + 1) ++ (o.drop f).drop (t + 1 + 1)) := by rw [List.take_append_drop, List.take_append_drop]
        have lA : (o.take f).length = f := by rw [List.length_take]; omega
        have lU : ((o.drop f).take (t + 1 + 1)).length = t + 1 + 1 := by rw [List.length_take, List.length_drop]; omega
        have hlA : Limbs (o.take f) := hlo.take f
        have hlD : Limbs (o.drop f) := fun x hx => hlo x (List.mem_of_mem_drop hx)
        have hlU := hlD.take (t + 1 + 1)
        have hlC : Limbs ((o.drop f).drop (t + 1 + 1)) := fun x hx => hlD x (List.mem_of_mem_drop hx)
        generalize o.take f = A at esplit lA hlA
        generalize (o.drop f).take (t + 1 + 1) = U at esplit lU hlU
        generalize (o.drop f).drop (t + 1 + 1) = C at esplit hlC
        subst esplit
        have hA0 := val_nonneg hlA; have hA1 := val_lt hlA; have hC0 := val_nonneg hlC; have hU0 := val_nonneg hlU
        rw [lA] at hA1
        rw [val_append, val_append, lA, lU, Int.mul_add, <- Int.mul_assoc, <- Int.pow_add] at hval hlt
        have hpf := pow_pos9 f
        have hCz : val C = 0 := by
          rcases Int.lt_or_le 0 (val C) with g | g
          · exfalso
            have g1 := Int.mul_le_mul_of_nonneg_left (show 1 <= val C by omega) (Int.le_of_lt (pow_pos9 (f + (t + 1 + 1))))
            have g2 := Int.mul_nonneg (Int.le_of_lt hpf) hU0
            have g3 : (1000000000 : Int) ^ (f + 1) * (val b * sc) < 1000000000 ^ (f + 1) * 1000000000 ^ (t + 1) := Int.mul_lt_mul_of_pos_left Vhi (pow_pos9 _)
            rw [<- Int.pow_add, show f + 1 + (t + 1) = f + (t + 1 + 1) by omega] at g3
            omega
          · omega
        rw [hCz, Int.mul_zero, Int.add_zero] at hval hlt
        have hUD : val U < 1000000000 * (val b * sc) := by
          have g1 : (1000000000 : Int) ^ f * val U < 1000000000 ^ f * (1000000000 * (val b * sc)) := by
            have e : (1000000000 : Int) ^ f * (1000000000 * (val b * sc)) = 1000000000 ^ (f + 1) * (val b * sc) := by rw [Int.pow_succ, Int.mul_assoc]
            rw [e]; omega
          exact Int.lt_of_mul_lt_mul_left g1 (Int.le_of_lt hpf)
        have hbw : Blk wr2 bu T_int (A.map (Value.int .i64) ++ U.map (Value.int .i64) ++ (C.map (Value.int .i64) ++ rs)) := by
          have := hbu2
          rw [List.map_append, List.map_append] at this
          simpa only [List.append_assoc] using this
        refine Ret.at (impl_divStep_c hbw (by rw [List.length_map, lA]) lU kv vpne hlU hvlim (by simpa using hvtop) (by omega) (by omega) (by rw [hvval]; exact hUD)) ?_
        rintro v w11 ⟨x, u', hv, x0, x1, hl', hb', ch', hlu', hvu', hu0', hu1'⟩
        subst hv
        rw [hvval] at hvu' hu1'
        have hbq' := hbq.chg ch' (by simp; omega)
        have kv' := kv.chg ch' (fun z hz hm => vpne z hz (by simpa using hm))
        obtain ⟨w12, st, hbq12, ch12, sz12⟩ := blk_set hbq' (i := (f : Int)) (by omega) (by omega) x
        simp only [Int.toNat_natCast] at st hbq12
        have hbu12 := hb'.chg ch12 (by simp; omega)
        refine ⟨x, rfl, ⟨by omega, by omega⟩, w12, st, exW ⟨by omega, by omega⟩ ⟨⟨f, A ++ (u' ++ C), ql.set f x, by omega, by omega, ?_, by simpa using hqll, ?_, hbq12, kv'.chg ch12 (fun z hz hm => by have := vpl z hz; simp at hm; omega), (x10.chg ch' (by simp; omega)).chg ch12 (by simp; omega), ?_, hlq.set ⟨x0, x1⟩, fun z hz => by rw [getD_set_ne _ (by omega)]; exact hqz z (by omega), ?_, ?_⟩, ?_⟩⟩
        · simp only [List.length_append] at hol ⊢; omega
        · simpa only [List.map_append, List.append_assoc] using hbu12
        · exact Limbs.append.2 ⟨hlA, Limbs.append.2 ⟨hlu', hlC⟩⟩
        · rw [val_append, val_append, lA, hCz, Int.mul_zero, Int.add_zero, val_set _ _ (by omega), hqz f (by omega), Int.sub_zero, hvu', Int.mul_sub, Int.add_mul]
          have : (1000000000 : Int) ^ f * x * (val b * sc) = 1000000000 ^ f * (x * (val b * sc)) := Int.mul_assoc _ _ _
          omega
        · rw [val_append, val_append, lA, hCz, Int.mul_zero, Int.add_zero]
          have g1 : (1000000000 : Int) ^ f * (val u' + 1) <= 1000000000 ^ f * (val b * sc) := Int.mul_le_mul_of_nonneg_left (by omega) (Int.le_of_lt hpf)
          rw [Int.mul_add] at g1
          omega
        · show ((f : Int) - 1 + 1).toNat < ((f : Int) + 1).toNat
          omega
      · have hj0 : j = 0 := by omega
        subst hj0
        rw [show (1000000000 : Int) ^ 0 = 1 from rfl, Int.one_mul] at hlt
        have hrd : IntsR wr2 (some ⟨bu, 0, none⟩) un1 uc1 o := by
          refine ⟨by omega, hnc, by simp only [maxLen] at hcm; omega, fun _ => ⟨bu, 0, rfl, ?_⟩⟩
          have := hbu2.seg.take o.length
          rwa [List.take_left' (by simp)] at this
        refine Ret.at (impl_trim_c hrd) ?_
        rintro v w11 ⟨hv, hw, hr⟩
        subst hv; subst hw
        refine ⟨_, _, _, rfl, ?_⟩
        rw [trimL_eq hlo] at hr
        have hlen2 : (digs (val o).toNat).length <= n + 1 := by
          have := trimL_len o
          rw [trimL_eq hlo] at this; omega
        have ho0' := val_nonneg hlo
        rw [trimL_eq hlo]
        refine Ret.at (impl_natSmall_c hr (digs_limbs _) ⟨by omega, by omega⟩ (by omega)) ?_
        rintro v w12 ⟨p2, n2, c2, hv, o2, y12⟩
        subst hv
        rw [val_digsI ho0'] at o2
        refine ⟨_, _, _, _, rfl, ?_⟩
        have hq0 := val_nonneg hlq
        have hown : Own w12 w.heap.size T_int 1 (some ⟨r4, 0, none⟩) (n - t) (n - t) (ql.map (Value.int .i64)) := Own.of_blk (hbq.ext y12) (by omega) (by simp [hqll]) (by simp only [maxLen]; omega)
        refine Ret.at (impl_trim_c hown.ints) ?_
        rintro v w13 ⟨hv, hw, hr13⟩
        subst hv; subst hw
        -- the quotient and the rest
        have hval' : (val a - val ql * val b) * sc = val o := by
          rw [Int.sub_mul, Int.mul_assoc]; omega
        have hR0 : 0 <= val a - val ql * val b := by
          rcases Int.lt_or_le (val a - val ql * val b) 0 with g | g
          · have := Int.mul_le_mul_of_nonneg_right (show val a - val ql * val b <= -1 by omega) (show 0 <= sc by omega)
            omega
          · exact g
        have hR1 : val a - val ql * val b < val b := Int.lt_of_mul_lt_mul_right (a := sc) (by omega) (by omega)
        have hd : val a / val b = val ql := by
          have : val a = (val a - val ql * val b) + val b * val ql := by rw [Int.mul_comm (val b)]; omega
          rw [this, Int.add_mul_ediv_left _ _ (by omega), Int.ediv_eq_zero_of_lt hR0 hR1, Int.zero_add]
        have hr' : val a % val b = val a - val ql * val b := by
          have := Int.mul_ediv_add_emod (val a) (val b)
          rw [hd, Int.mul_comm] at this
          omega
        have hos2 : val o / sc = val a - val ql * val b := by rw [<- hval', Int.mul_ediv_cancel _ (by omega)]
        rw [hos2] at o2
        refine ⟨_, _, _, rfl, _, _, _, _, _, _, rfl, ?_, ?_, fun z hz hz2 => ?_, x10.trans y12⟩
        · rw [hd, <- trimL_eq hlq]
          have hle := trimL_len ql
          have := hown.sub (m := (trimL ql).length) (by omega)
          rwa [<- trimL_prefix] at this
        · rw [hr']
          exact o2.mono l10
        · have := (World.ownsRow.lt o2 z (by rw [<- hz2]; cases p2 <;> rfl)).1
          have := hbq.lt
          simp at hz
          omega
end Go.Proofs.YtgbknjdjbahdkaaGreatDoor
namespace Go.Proofs.YtgbknjdjbahdkaaGreatDoor
open Go Go.Proofs.YtgbknjdjbahdkaaGreatDoor.Sx
theorem ints_uniq {w : World} {p : Option Addr} {n c : Nat} {zs ys : List Int} (h : IntsR w p n c zs) (k : IntsR w p n c ys) : zs = ys := by
  have h1 := h.1; have k1 := k.1
  apply List.ext_getElem (by omega)
  intro i hi hj
  obtain ⟨b, o, hp, hs⟩ := h.2.2.2 (by omega)
  obtain ⟨b', o', hp', hs'⟩ := k.2.2.2 (by omega)
  rw [hp] at hp'
  obtain ⟨rfl, rfl⟩ : b = b' /\ o = o' := by injection hp' with e; injection e with e1 e2; exact ⟨e1, e2⟩
  have a1 := hs i (.int .i64 zs[i]) (by simp [hi])
  have a2 := hs' i (.int .i64 ys[i]) (by simp [hj])
  rw [a1] at a2
  injection a2 with e; injection e
theorem digs_inj {x y : Nat} (h : digs x = digs y) : x = y := by
  have := congrArg val h
  rw [val_digs, val_digs] at this
  omega
theorem numAt_ex : ∃ f : World -> Option Addr -> Nat -> Nat -> Nat, ∀ W p n c y, IntsR W p n c (digs y) -> f W p n c = y := by
  refine ⟨fun W p n c => @dite _ (∃ y, IntsR W p n c (digs y)) (Classical.propDecidable _) (fun h => Classical.choose h) (fun _ => 0), fun W p n c y h => ?_⟩
  have hx : ∃ y, IntsR W p n c (digs y) := ⟨y, h⟩
  show @dite _ (∃ y, IntsR W p n c (digs y)) (Classical.propDecidable _) (fun h => Classical.choose h) (fun _ => 0) = y
  rw [dif_pos hx]
  exact digs_inj (ints_uniq (Classical.choose_spec hx) h)
theorem emod_toNat (x y : Nat) : (((x : Int) % (y : Int)).toNat) = x % y := by
  rw [<- Int.natCast_emod]; exact Int.toNat_natCast _
theorem ediv_toNat (x y : Nat) : (((x : Int) / (y : Int)).toNat) = x / y := by
  rw [<- Int.natCast_ediv]; exact Int.toNat_natCast _
theorem digs_mod_len {x y : Nat} (h : 0 < y) : (digs (x % y)).length <= (digs y).length := by
  refine digs_len _ ?_
  have h1 := val_lt (digs_limbs y)
  rw [val_digs] at h1
  have : ((y : Nat) : Int) < ((1000000000 ^ (digs y).length : Nat) : Int) := by simpa using h1
  exact Nat.lt_trans (Nat.mod_lt _ h) (Int.ofNat_lt.1 this)
theorem digs_mono_len {x y : Nat} (h : x <= y) : (digs x).length <= (digs y).length := by
  refine digs_len _ ?_
  have h1 := val_lt (digs_limbs y)
  rw [val_digs] at h1
  have : ((y : Nat) : Int) < ((1000000000 ^ (digs y).length : Nat) : Int) := by simpa using h1
  exact Nat.lt_of_le_of_lt h (Int.ofNat_lt.1 this)
theorem gcd_step (x y : Nat) : Nat.gcd y (x % y) = Nat.gcd x y := by
  rw [Nat.gcd_comm x y, Nat.gcd_rec y x, Nat.gcd_comm]
theorem impl_natGcd_c {w : World} {p q : Option Addr} {n c m d : Nat} {x y : Nat} (h : IntsR w p n c (digs x)) (k : IntsR w q m d (digs y)) (hn : n <= 100000) (hm : m <= 100000) :
    Ret P n_impl_natGcd [.slice p n c, .slice q m d] w fun v w' => ∃ p' n' c', v = .slice p' n' c' /\ Own w' w.heap.size T_int 1 p' n' c' ((digs (Nat.gcd x y)).map (Value.int .i64)) /\ Ext w w' := by
  refine impl_natGcd_ret ?_
  unfold impl_natGcd
  obtain ⟨f, hf⟩ := numAt_ex
  refine ⟨fun ap an ac bp bn bc wr => ∃ s t, IntsR wr ap an ac (digs s) /\ IntsR wr bp bn bc (digs t) /\ an <= 100000 /\ bn <= 100000 /\ Ext w wr /\ Nat.gcd s t = Nat.gcd x y, fun _ _ _ bp bn bc W => f W bp bn bc, ⟨x, y, h, k, hn, hm, Ext.refl _, rfl⟩, ?_⟩
  intro junk wr ap an ac bp bn bc ⟨s, t, ha, hb, han, hbn, hx, hg⟩
  have hbl := hb.1
  refine ifD (fun hlt => ?_) (fun hge => ?_)
  · have ht : 0 < t := by
      rcases Nat.eq_zero_or_pos t with e | e
      · subst e; rw [digs_zero] at hbl; simp at hbl; omega
      · exact e
    refine Ret.at (impl_natDiv_c ha hb (digs_canon _) (digs_canon _) (by omega) han hbn) ?_
    rintro v w1 ⟨p1, n1, c1, p2, n2, c2, hv, o1, o2, _, y1⟩
    subst hv
    rw [val_digs, val_digs, emod_toNat] at o2
    have hn2 : n2 <= bn := by
      have := o2.len
      simp only [List.length_map] at this
      have := digs_mod_len (x := s) ht
      omega
    refine ⟨_, _, _, _, _, _, rfl, ⟨t, s % t, hb.ext y1, o2.ints, hbn, by omega, hx.trans y1, by rw [gcd_step, hg]⟩, ?_⟩
    show f w1 p2 n2 c2 < f wr bp bn bc
    rw [hf _ _ _ _ _ o2.ints, hf _ _ _ _ _ hb]
    exact Nat.mod_lt _ ht
  · have ht : t = 0 := by
      have : bn = 0 := by omega
      rw [this] at hbl
      exact digs_nil.1 (List.eq_nil_of_length_eq_zero hbl)
    subst ht
    rw [Nat.gcd_zero_right] at hg
    subst hg
    refine Ret.at (impl_natCopy_c ha (by omega)) ?_
    rintro v w1 ⟨p', c', hv, ho, y1⟩
    subst hv
    exact ⟨_, _, _, rfl, _, _, _, rfl, ho.mono hx.le, hx.trans y1⟩
def ratOk : List D0 -> Bool
  | [.bool s, .ints x, .ints y] => intOk [.bool s, .ints x] && natOk y && !y.isEmpty && decide (y.length <= 18) && decide (x.length <= 18) && decide (Nat.gcd (val x).toNat (val y).toNat = 1)
  | _ => false
theorem digs_one : digs 1 = [1] := by rw [digs_pos (by decide)]; simp [digs_zero]
theorem gcd_one {l : List Int} {g : Nat} (h : l = digs g) : (decide (g = 1)) = (decide (l.length = 1) && decide (l.getD 0 0 = 1)) := by
  subst h
  by_cases e : g = 1
  · subst e; rw [digs_one]; rfl
  · rw [decide_eq_false e]
    symm
    rw [Bool.and_eq_false_iff]
    by_cases h1 : (digs g).length = 1
    · right
      rw [decide_eq_false_iff_not]
      intro h2
      apply e
      have hv := val_digs g
      have := val_top (m := 0) h1
      rw [h2] at this
      simp [val] at this
      omega
    · left; simp [h1]
theorem impl_RatOk_c {w : World} {xs : List Value} {dx : List D0} (h : Reps w xs dx) (hc : dx.map D0.code = [.bool, .ints, .ints]) :
    Ret P n_impl_RatOk [.agg ⟨xs⟩] w fun v w' => v = .bool (ratOk dx) /\ Ext w w' := by
  have hr := h
  obtain ⟨a0, a1p, a1n, a1c, a1z, a2p, a2n, a2c, a2z, rfl, rfl, ir1, ir2⟩ := open_Rat h hc
  refine impl_RatOk_ret ?_
  unfold impl_RatOk
  intro r w1 hn1
  have l1 := ir1.1; have l2 := ir2.1
  have hi : Reps w1 [.bool a0, .slice a1p a1n a1c] [.bool a0, .ints a1z] := ⟨rfl, ⟨_, _, _, rfl, ir1.ext hn1.ext⟩, trivial⟩
  have b := hn1.blk
  refine ⟨_, _, _, _, b.loadAAt 0 [.bool a0, .slice a1p a1n a1c] rfl (by kernel_rfl) rfl, ?_⟩
  refine Ret.at (impl_IntOk_c hi rfl) ?_
  rintro v w2 ⟨hv, y2⟩
  subst hv
  have b2 := b.ext y2
  have X2 := hn1.ext.trans y2
  refine ⟨_, rfl, ifN (fun e => ifT (ifT (ifT (ifT ⟨by simp [ratOk, e], X2⟩)))) (fun e1 => ⟨_, _, _, b2.loadAt 2 rfl (by kernel_rfl) rfl, ?_⟩)⟩
  refine Ret.at (impl_NatOk_c (ir2.ext X2)) ?_
  rintro v w3 ⟨hv, y3⟩
  subst hv
  have b3 := b2.ext y3
  have X3 := X2.trans y3
  refine ⟨_, rfl, ifN (fun e => ifT (ifT (ifT ⟨by simp [ratOk, e], X3⟩))) (fun e2 => ⟨_, _, _, b3.loadAt 2 rfl (by kernel_rfl) rfl, ifD (fun e => ifT (ifT ⟨?_, X3⟩)) (fun e3 => ⟨_, _, _, b3.loadAt 2 rfl (by kernel_rfl) rfl, ifD (fun e => ifT ⟨?_, X3⟩) (fun e4 => ⟨_, _, _, b3.loadAt 1 rfl (by kernel_rfl) rfl, ifD (fun e => ⟨?_, X3⟩) (fun e5 => ?_)⟩)⟩)⟩)⟩
  · have : a2z = [] := List.eq_nil_of_length_eq_zero (by omega)
    simp [ratOk, this]
  · simp only [ratOk, show decide (a2z.length <= 18) = false by simp; omega, Bool.and_false, Bool.false_and]
  · simp only [ratOk, show decide (a1z.length <= 18) = false by simp; omega, Bool.and_false, Bool.false_and]
  unfold impl_RatOk_j0
  have ok1 := natOk_spec.1 e2
  have ok0 := (intOk_enc e1).2
  obtain ⟨b', z', ez, can1, _⟩ := ok0
  simp only [List.cons.injEq, D0.ints.injEq, D0.bool.injEq, and_true] at ez
  obtain ⟨_, rfl⟩ := ez
  have r1 := ir1.ext X3; have r2 := ir2.ext X3
  rw [<- digs_val can1] at r1
  rw [<- digs_val ok1.1] at r2
  refine ⟨_, _, _, b3.loadAt 1 rfl (by kernel_rfl) rfl, _, _, _, b3.loadAt 2 rfl (by kernel_rfl) rfl, ?_⟩
  refine Ret.at (impl_natGcd_c r1 r2 (by omega) (by omega)) ?_
  rintro v w4 ⟨p', n', c', hv, ho, y4⟩
  subst hv
  have hlen := ho.len
  simp only [List.length_map] at hlen
  have g := gcd_one (g := Nat.gcd (val a1z).toNat (val a2z).toNat) rfl
  have hne : a2z.isEmpty = false := by cases a2z with
    | nil => simp at l2; omega
    | cons => rfl
  have val' : ratOk [.bool a0, .ints a1z, .ints a2z] = decide (Nat.gcd (val a1z).toNat (val a2z).toNat = 1) := by
    simp only [ratOk, e1, e2, hne, show decide (a2z.length <= 18) = true by simp; omega, show decide (a1z.length <= 18) = true by simp; omega, Bool.not_false, Bool.and_self, Bool.true_and]
  rw [val', g]
  refine ⟨_, _, _, rfl, ifD (fun h1 => ?_) (fun h1 => ⟨?_, X3.trans y4⟩)⟩
  · obtain ⟨ad, rfl, hl⟩ := ints_at ho.ints (i := 0) (by omega) (by omega)
    refine ⟨⟨by omega, by omega⟩, _, by simpa only [Int.toNat_zero] using hl, ?_, X3.trans y4⟩
    rw [show decide ((digs (Nat.gcd (val a1z).toNat (val a2z).toNat)).length = 1) = true by simp; omega, Bool.true_and]
  · rw [show decide ((digs (Nat.gcd (val a1z).toNat (val a2z).toNat)).length = 1) = false by simp; omega, Bool.false_and]
end Go.Proofs.YtgbknjdjbahdkaaGreatDoor
namespace Go.Proofs.YtgbknjdjbahdkaaGreatDoor
open Go Go.Proofs.YtgbknjdjbahdkaaGreatDoor.Sx
def tenL (k : Nat) : List Int := List.replicate (k / 9) 0 ++ [10 ^ (k % 9)]
theorem val_zeros : ∀ s : Nat, val (List.replicate s 0) = 0
  | 0 => rfl
  | s + 1 => by simp [List.replicate_succ, val, val_zeros s]
theorem ten_small {j : Nat} (h : j < 9) : (1 : Int) <= 10 ^ j /\ (10 : Int) ^ j <= 100000000 := by
  have : j = 0 ∨ j = 1 ∨ j = 2 ∨ j = 3 ∨ j = 4 ∨ j = 5 ∨ j = 6 ∨ j = 7 ∨ j = 8 := by omega
  rcases this with h | h | h | h | h | h | h | h | h <;> subst h <;> decide
theorem tenL_canon (k : Nat) : Canon (tenL k) := by
  have h := ten_small (j := k % 9) (by omega)
  refine ⟨Limbs.append.2 ⟨fun x hx => by simp at hx; omega, Limbs.cons.2 ⟨by omega, Limbs.nil⟩⟩, ?_⟩
  simp only [tenL, List.getLast?_append, List.getLast?_singleton, Option.some_or, ne_eq, Option.some.injEq]
  omega
theorem val_tenL (k : Nat) : val (tenL k) = 10 ^ k := by
  unfold tenL
  rw [val_snoc, val_zeros, List.length_replicate, Int.zero_add]
  have : (1000000000 : Int) = 10 ^ 9 := by decide
  rw [this, <- Int.pow_mul, <- Int.pow_add]
  congr 1
  omega
theorem tenL_digs (k : Nat) : tenL k = digs (10 ^ k) := by
  have := digs_val (tenL_canon k)
  rw [val_tenL] at this
  rw [<- this]
  congr 1
theorem impl_natTen_c {w : World} {k : Int} (h0 : 0 <= k) (h1 : k <= 1000) :
    Ret P n_impl_natTen [.int .i64 k] w fun v w' => ∃ p' n' c', v = .slice p' n' c' /\ Own w' w.heap.size T_int 1 p' n' c' ((digs (10 ^ k.toNat)).map (Value.int .i64)) /\ Ext w w' := by
  refine impl_natTen_ret ?_
  unfold impl_natTen
  have ed : Int.tdiv k 9 = k / 9 := Int.tdiv_eq_ediv_of_nonneg h0
  have em : Int.tmod k 9 = k % 9 := Int.tmod_eq_emod_of_nonneg h0
  rw [ed, em]
  refine ⟨by decide, exW ⟨by omega, by omega⟩ ⟨by decide, exW ⟨by omega, by omega⟩ (exW ⟨by omega, by omega⟩ ⟨⟨by omega, by omega, by omega⟩, fun r w1 hn1 => ?_⟩)⟩⟩
  have hre := hn1.r_eq
  refine ⟨by decide, _, rfl, fun top i wr => ∃ j : Nat, i = j /\ (j : Int) <= k % 9 /\ wr = w1 /\ top = 10 ^ j, fun _ i _ => 9 - i.toNat, ⟨0, rfl, by omega, rfl, rfl⟩, ?_⟩
  intro junk wr top i ⟨j, hi, hj, hw, ht⟩
  subst hi; subst hw; subst ht
  have T := ten_small (j := j) (by omega)
  refine ifD (fun hlt => ?_) (fun hge => ?_)
  · refine exW ⟨by omega, by omega⟩ (exW ⟨by omega, by omega⟩ ⟨⟨j + 1, by omega, by omega, rfl, by rw [Int.pow_succ]⟩, ?_⟩)
    show 9 - ((j : Int) + 1).toNat < 9 - (j : Int).toNat
    omega
  · intro r1 w2 hn2
    have hblk : Blk wr r T_int (List.replicate ((k / 9 + 1).toNat) (Value.int .i64 0)) := by
      have := hn1.blk
      rwa [zeroRow_int, Nat.mul_one] at this
    have hown : Own wr w.heap.size T_int 1 (some ⟨r, 0, none⟩) (k / 9).toNat (k / 9 + 1).toNat ((List.replicate (k / 9).toNat (0 : Int)).map (Value.int .i64)) := by
      have hfull : Own wr w.heap.size T_int 1 (some ⟨r, 0, none⟩) (k / 9 + 1).toNat (k / 9 + 1).toNat ((List.replicate (k / 9 + 1).toNat (0 : Int)).map (Value.int .i64)) := by
        rw [List.map_replicate]
        exact Own.of_blk hblk (by omega) (by simp) (by simp only [maxLen]; omega)
      have := hfull.sub (m := (k / 9).toNat) (by omega)
      rwa [List.take_replicate, show min (k / 9).toNat (k / 9 + 1).toNat = (k / 9).toNat by omega] at this
    obtain ⟨p', c', w3, g1, g2, g3⟩ := Own.push hown hn1.ext.le hn2 (by omega)
    refine ⟨_, _, _, _, g1, _, _, _, rfl, ?_, g3 w hn1.ext (Nat.le_refl _)⟩
    rw [<- tenL_digs]
    have ej : j = k.toNat % 9 := by omega
    have ek : (k / 9).toNat = k.toNat / 9 := by omega
    rw [ej, ek] at g2
    rw [ek]
    exact g2
end Go.Proofs.YtgbknjdjbahdkaaGreatDoor
namespace Go.Proofs.YtgbknjdjbahdkaaGreatDoor
open Go Go.Proofs.YtgbknjdjbahdkaaGreatDoor.Sx
def decOk : List D0 -> Bool
  | [.bool b, .ints z, .int s] => intOk [.bool b, .ints z] && decide (z.length <= 6) && decide (0 <= s /\ s <= 30)
  | _ => false
theorem impl_isScale_c (s : Int) (w : World) : Ret P n_impl_isScale [.int .i64 s] w fun v w' => v = .bool (decide (0 <= s /\ s <= 30)) /\ w' = w := by
  refine impl_isScale_ret ?_
  unfold impl_isScale
  refine ifD (fun h => ⟨?_, rfl⟩) (fun h => ⟨?_, rfl⟩) <;> simp [h]
theorem impl_DecOk_c {w : World} {xs : List Value} {dx : List D0} (h : Reps w xs dx) (hc : dx.map D0.code = [.bool, .ints, .int]) :
    Ret P n_impl_DecOk [.agg ⟨xs⟩] w fun v w' => v = .bool (decOk dx) /\ Ext w w' := by
  obtain ⟨a0, a1p, a1n, a1c, a1z, a2, rfl, rfl, ha⟩ := open_Dec h hc
  refine impl_DecOk_ret ?_
  unfold impl_DecOk
  intro r w1 hn1
  have x := hn1.ext
  have hl := ha.1
  refine ⟨_, _, _, _, hn1.blk.loadAAt 0 [.bool a0, .slice a1p a1n a1c] rfl (by kernel_rfl) rfl, ?_⟩
  refine Ret.at (impl_IntOk_c (dx := [.bool a0, .ints a1z]) ⟨rfl, ⟨_, _, _, rfl, ha.ext x⟩, trivial⟩ rfl) ?_
  rintro v w2 ⟨hv, y⟩
  subst hv
  have x := x.trans y; have b := hn1.blk.ext y
  refine ⟨_, rfl, fun e => ⟨_, _, _, b.loadAt 1 rfl (by kernel_rfl) rfl, ifD (fun hle => ?_) (fun hgt => ⟨?_, x⟩)⟩, fun e => ifF ⟨?_, x⟩⟩
  · refine ⟨_, b.loadAt 2 rfl (by kernel_rfl) rfl, ?_⟩
    refine Ret.at (impl_isScale_c a2 w2) ?_
    rintro v w3 ⟨hv, hw⟩
    subst hv; subst hw
    exact ⟨_, rfl, by simp only [decOk, e, show decide (a1z.length <= 6) = true by simp; omega, Bool.true_and], x⟩
  · simp only [decOk, show decide (a1z.length <= 6) = false by simp; omega, Bool.and_false, Bool.false_and]
  · simp only [decOk, e, Bool.false_and]
end Go.Proofs.YtgbknjdjbahdkaaGreatDoor
namespace Go.Proofs.YtgbknjdjbahdkaaGreatDoor
open Go Go.Proofs.YtgbknjdjbahdkaaGreatDoor.Sx
def sgn (z : Int) : Int := if z < 0 then -1 else if z = 0 then 0 else 1
theorem impl_intSign_c {w : World} {xs : List Value} {z : Int} (h : Reps w xs (enc z)) : Ret P n_impl_intSign [.agg ⟨xs⟩] w fun v w' => v = .int .i64 (sgn z) /\ Ext w w' := by
  obtain ⟨a0, a1p, a1n, a1c, a1z, rfl, hd, ha⟩ := open_Signed h rfl
  simp only [enc, List.cons.injEq, D0.bool.injEq, D0.ints.injEq, and_true] at hd
  obtain ⟨rfl, rfl⟩ := hd
  have hl := ha.1
  have he := isEmpty_digs (n := z.natAbs)
  refine impl_intSign_ret ?_
  unfold impl_intSign
  intro r w1 hn
  have hzero : (a1n = 0) ↔ z = 0 := by
    rw [<- hl, List.length_eq_zero_iff, digs_nil]; omega
  refine ⟨_, _, _, hn.blk.load (by kernel_rfl) rfl, ifD (fun h0 => ⟨?_, hn.ext⟩) (fun h0 => ⟨_, hn.blk.load (by kernel_rfl) rfl, fun e => ⟨?_, hn.ext⟩, fun e => ⟨?_, hn.ext⟩⟩)⟩
  · have : z = 0 := hzero.1 (by omega)
    subst this; rfl
  · have e := of_decide_eq_true e
    simp [sgn, e]
  · have e := of_decide_eq_false e
    have : z ≠ 0 := fun h => h0 (by have := hzero.2 h; omega)
    simp [sgn, e, this]
theorem impl_intNeg_c {w : World} {xs : List Value} {z : Int} (h : Reps w xs (enc z)) (hz : (digs z.natAbs).length <= 10000000) : Ret P n_impl_intNeg [.agg ⟨xs⟩] w fun v w' => ∃ vs' f, v = .agg ⟨vs'⟩ /\ Owns w' w.heap.size vs' (enc (-z)) f /\ f.Nodup /\ Ext w w' := by
  obtain ⟨a0, a1p, a1n, a1c, a1z, rfl, hd, ha⟩ := open_Signed h rfl
  simp only [enc, List.cons.injEq, D0.bool.injEq, D0.ints.injEq, and_true] at hd
  obtain ⟨rfl, rfl⟩ := hd
  have hl := ha.1
  refine impl_intNeg_ret ?_
  unfold impl_intNeg
  intro r w1 hn1 r1 w2 hn2
  have x := hn1.ext.trans hn2.ext
  have D := Ext.drew w2
  have XD := x.trans D
  have k0 := hn1.blk.ext hn2.ext
  have e2 := hn2.r_eq; have s1 := hn1.size; have s2 := hn2.size
  refine ⟨_, fun W hW => (k0.ext (D.trans hW)).load (by kernel_rfl) rfl, _, _, _, fun W hW => (k0.ext (D.trans hW)).load (by kernel_rfl) rfl, ?_⟩
  refine Ret.at (impl_natCopy_c (ha.ext XD) (by omega)) ?_
  rintro v w3 ⟨p, c, hv, ho, y3⟩
  subst hv
  refine ⟨_, _, _, rfl, y3, ?_⟩
  refine Ret.at (impl_signed_c ho.ints.1) ?_
  rintro v w4 ⟨hv, y4⟩
  subst hv
  have lD := D.le
  obtain ⟨w5, st, hb5, ch, sz⟩ := (((hn2.blk.ext D).ext y3).ext y4).storeA0 (P := P) (t := T_impl_Signed) (xs := [.bool (!(decide (z < 0)) && !(digs z.natAbs).isEmpty), .slice p a1n c]) (by kernel_rfl) rfl (by simp [Value.oneCell'])
  refine ⟨_, _, _, _, rfl, w5, st, _, _, _, _, hb5.loadA0 (by kernel_rfl), _, _, rfl, ?_, nodup_opt p, ((XD.trans y3).trans y4).chg ch (by simp; omega)⟩
  have eb : (!(decide (z < 0)) && !(digs z.natAbs).isEmpty) = decide (-z < 0) := by
    rw [isEmpty_digs]
    by_cases h0 : z = 0
    · subst h0; rfl
    · by_cases h1 : z < 0
      · have : ¬ (-z < 0) := by omega
        simp [h1]; omega
      · have h2 : z.natAbs ≠ 0 := by omega
        simp [h1, h0]; omega
  rw [eb]
  have := ((Owns.int2 (b := decide (-z < 0)) (ho.ext y4)).chg1 ch (by omega)).mono (B' := w.heap.size) (by omega)
  unfold enc
  rw [Int.natAbs_neg]
  exact this
theorem impl_intCmp_c {w : World} {xs ys : List Value} {x y : Int} (h : Reps w xs (enc x)) (k : Reps w ys (enc y)) (hx : (digs x.natAbs).length <= 10000000) (hy : (digs y.natAbs).length <= 10000000) :
    Ret P n_impl_intCmp [.agg ⟨xs⟩, .agg ⟨ys⟩] w fun v w' => v = .int .i64 (sgn (x - y)) /\ Ext w w' := by
  have hr := h; have kr := k
  obtain ⟨a0, a1p, a1n, a1c, a1z, rfl, hd, ha⟩ := open_Signed h rfl
  obtain ⟨b0, b1p, b1n, b1c, b1z, rfl, he, hb⟩ := open_Signed k rfl
  refine impl_intCmp_ret ?_
  unfold impl_intCmp
  intro r w1 hn1 r1 w2 hn2
  have X := hn1.ext.trans hn2.ext
  have D := Ext.drew w2
  have XD := X.trans D
  have k0 := hn1.blk.ext hn2.ext; have k1 := hn2.blk
  refine ⟨_, _, _, _, fun W hW => (k0.ext (D.trans hW)).loadA0 (by kernel_rfl), _, _, _, _, fun W hW => (k1.ext (D.trans hW)).loadA0 (by kernel_rfl), ?_⟩
  refine Ret.at (impl_intNeg_c (kr.ext XD) hy) ?_
  rintro v w3 ⟨vs', f, hv, ho, _, y3⟩
  subst hv
  obtain ⟨q0, q1p, q1n, q1c, q1z, rfl, hq, hqi⟩ := open_Signed ho.reps (enc_code _)
  refine ⟨_, _, _, _, rfl, y3, ?_⟩
  refine Ret.at (impl_intAdd_c (hr.ext (XD.trans y3)) ho.reps hx (by rw [Int.natAbs_neg]; exact hy)) ?_
  rintro v w4 ⟨p, n, c, hv, hown, y4⟩
  subst hv
  refine ⟨_, _, _, _, rfl, ?_⟩
  have hs : Reps w4 [.bool (decide (x + -y < 0)), .slice p n c] (enc (x + -y)) := ⟨rfl, ⟨_, _, _, rfl, hown.ints⟩, trivial⟩
  refine Ret.at (impl_intSign_c hs) ?_
  rintro v w5 ⟨hv, y5⟩
  subst hv
  exact ⟨_, rfl, rfl, ((XD.trans y3).trans y4).trans y5⟩
end Go.Proofs.YtgbknjdjbahdkaaGreatDoor
namespace Go.Proofs.YtgbknjdjbahdkaaGreatDoor
open Go Go.Proofs.YtgbknjdjbahdkaaGreatDoor.Sx
theorem impl_scaled_1_c {w : World} {xs : List Value} {b : Bool} {z : List Int} {s sc : Int} {cb : Nat} {e : TypeId} (h : Reps w xs [.bool b, .ints z, .int s]) (hz : Limbs z) (hl : z.length <= 1000) (hs : 0 <= s) (hss : s <= sc) (hsc : sc <= 30) (hcap : Blk w cb e [.int .i64 sc]) :
    Ret P n_impl_scaled_1 [.agg ⟨xs⟩, .pointer (some ⟨cb, 0, none⟩)] w fun v w' => ∃ vs' f, v = .agg ⟨vs'⟩ /\ Owns w' w.heap.size vs' (mkS b (digs (val z * 10 ^ (sc - s).toNat).toNat)) f /\ f.Nodup /\ Ext w w' := by
  obtain ⟨a0, a1p, a1n, a1c, a1z, a2, rfl, hd, ha⟩ := open_Dec h rfl
  cases hd
  have hlz := ha.1
  refine impl_scaled_1_ret ?_
  unfold impl_scaled_1
  intro r w1 hn1 r1 w2 hn2
  have X := hn1.ext.trans hn2.ext
  have D := Ext.drew w2
  have XD := X.trans D
  have k0 := hn1.blk.ext hn2.ext
  have e2 := hn2.r_eq; have s1 := hn1.size; have s2 := hn2.size
  have lD := D.le
  refine ⟨_, fun W hW => (k0.ext (D.trans hW)).loadAt 0 rfl (by kernel_rfl) rfl, _, _, _, fun W hW => (k0.ext (D.trans hW)).loadAt 1 rfl (by kernel_rfl) rfl, _, fun W hW => (hcap.ext (XD.trans hW)).load0 (by kernel_rfl) rfl, _, fun W hW => (k0.ext (D.trans hW)).loadAt 2 rfl (by kernel_rfl) rfl, exW ⟨by omega, by omega⟩ ?_⟩
  refine Ret.at (impl_natTen_c (by omega) (by omega)) ?_
  rintro v w3 ⟨p, n, c, hv, ho, y3⟩
  subst hv
  have hlen : n <= 4 := by
    have := ho.ints.1
    rw [<- tenL_digs] at this
    simp [tenL] at this
    omega
  refine ⟨_, _, _, rfl, y3, ?_⟩
  refine Ret.at (impl_natMul_c (ha.ext (XD.trans y3)) ho.ints hz (digs_limbs _) (by omega) (by omega)) ?_
  rintro v w4 ⟨p2, n2, c2, hv, ho2, y4⟩
  subst hv
  rw [val_digs] at ho2
  refine ⟨_, _, _, rfl, y4, ?_⟩
  refine Ret.at (impl_signed_c ho2.ints.1) ?_
  rintro v w5 ⟨hv, y5⟩
  subst hv
  have l3 := y3.le
  obtain ⟨B, hB⟩ : ∃ B, B = (b && !(digs (val z * ((10 ^ (sc - s).toNat : Nat) : Int)).toNat).isEmpty) := ⟨_, rfl⟩
  rw [<- hB]
  obtain ⟨w6, st, hb6, ch, sz⟩ := ((((hn2.blk.ext D).ext y3).ext y4).ext y5).storeA0 (P := P) (t := T_impl_Signed) (xs := [.bool B, .slice p2 n2 c2]) (by kernel_rfl) rfl (by simp [Value.oneCell'])
  refine ⟨_, _, _, _, rfl, w6, st, _, _, _, _, hb6.loadA0 (by kernel_rfl), _, _, rfl, ?_, nodup_opt p2, (((XD.trans y3).trans y4).trans y5).chg ch (by simp; omega)⟩
  have e10 : ((10 ^ (sc - s).toNat : Nat) : Int) = (10 : Int) ^ (sc - s).toNat := by simp
  rw [<- e10]
  unfold mkS
  rw [<- hB]
  exact ((Owns.int2 (ho2.ext y5)).chg1 ch (by omega)).mono (by omega)
end Go.Proofs.YtgbknjdjbahdkaaGreatDoor
namespace Go.Proofs.YtgbknjdjbahdkaaGreatDoor
open Go Go.Proofs.YtgbknjdjbahdkaaGreatDoor.Sx
def dcmp : List D0 -> List D0 -> Int
  | [.bool a, .ints x, .int s], [.bool b, .ints y, .int t] => if decOk [.bool a, .ints x, .int s] && decOk [.bool b, .ints y, .int t] then
      sgn (ival [.bool a, .ints x] * 10 ^ (max s t - s).toNat - ival [.bool b, .ints y] * 10 ^ (max s t - t).toNat) else 0
  | _, _ => 0
theorem mkS_mul {b : Bool} {z : List Int} {m : Int} (hok : intOk [.bool b, .ints z] = true) (hm : 0 < m) : mkS b (digs (val z * m).toNat) = enc (ival [.bool b, .ints z] * m) := by
  obtain ⟨_, _, _, he, hc, _⟩ := intOk_enc hok
  simp only [List.cons.injEq, D0.bool.injEq, D0.ints.injEq, and_true] at he
  obtain ⟨rfl, rfl⟩ := he
  have hv := val_nonneg hc.1
  have hp : 0 <= val z * m := Int.mul_nonneg hv (Int.le_of_lt hm)
  obtain ⟨N, hN⟩ : ∃ N : Nat, val z * m = N := ⟨(val z * m).toNat, by omega⟩
  cases b with
  | false => simp only [ival, Bool.false_eq_true, if_false, hN, Int.toNat_natCast]; exact mkS_pos N
  | true => simp only [ival, if_true, Int.neg_mul, hN, Int.toNat_natCast]; exact mkS_neg N
theorem scaled_len {b : Bool} {z : List Int} {e : Nat} (hok : intOk [.bool b, .ints z] = true) (hl : z.length <= 6) (he : e <= 30) : (digs (ival [.bool b, .ints z] * 10 ^ e).natAbs).length <= 10 := by
  obtain ⟨_, _, _, h1, hc, _⟩ := intOk_enc hok
  simp only [List.cons.injEq, D0.bool.injEq, D0.ints.injEq, and_true] at h1
  obtain ⟨rfl, rfl⟩ := h1
  have hv := val_nonneg hc.1
  have hlt := val_lt hc.1
  have h6 : (1000000000 : Nat) ^ z.length <= 1000000000 ^ 6 := Nat.pow_le_pow_right (by decide) hl
  have h6' := Int.ofNat_le.2 h6
  rw [Int.natCast_pow, Int.natCast_pow] at h6'
  have hn : (val z).toNat < 1000000000 ^ 6 := by
    have : val z < (1000000000 : Int) ^ 6 := Int.lt_of_lt_of_le hlt h6'
    omega
  have ha : (ival [.bool b, .ints z]).natAbs = (val z).toNat := by cases b <;> simp only [ival, if_true, Bool.false_eq_true, if_false] <;> omega
  have h10 : ((10 : Int) ^ e).natAbs = 10 ^ e := by simp [Int.natAbs_pow]
  have h30 : (10 : Nat) ^ e <= 10 ^ 30 := Nat.pow_le_pow_right (by decide) he
  apply digs_len
  rw [Int.natAbs_mul, ha, h10]
  exact Nat.lt_of_lt_of_le (Nat.mul_lt_mul_of_lt_of_le hn h30 (by decide)) (by decide)
theorem decOk_spec {b : Bool} {z : List Int} {s : Int} (h : decOk [.bool b, .ints z, .int s] = true) : intOk [.bool b, .ints z] = true /\ z.length <= 6 /\ 0 <= s /\ s <= 30 := by
  simp only [decOk, Bool.and_eq_true, decide_eq_true_eq] at h
  exact ⟨h.1.1, h.1.2, h.2.1, h.2.2⟩
theorem impl_DecCmp_c {w : World} {xs ys : List Value} {dx dy : List D0} (h : Reps w xs dx) (k : Reps w ys dy) (hc : dx.map D0.code = [.bool, .ints, .int]) (kc : dy.map D0.code = [.bool, .ints, .int]) :
    Ret P n_impl_DecCmp [.agg ⟨xs⟩, .agg ⟨ys⟩] w fun v w' => v = .int .i64 (dcmp dx dy) /\ Ext w w' := by
  have hr := h; have kr := k
  obtain ⟨a0, a1p, a1n, a1c, a1z, a2, rfl, rfl, ha⟩ := open_Dec h hc
  obtain ⟨b0, b1p, b1n, b1c, b1z, b2, rfl, rfl, hb⟩ := open_Dec k kc
  refine impl_DecCmp_ret ?_
  unfold impl_DecCmp
  intro r w1 hn1 r1 w2 hn2
  have X := hn1.ext.trans hn2.ext
  have k0 := hn1.blk.ext hn2.ext; have k1 := hn2.blk
  have bad : ∀ W, Ext w2 W -> (decOk [.bool a0, .ints a1z, .int a2] && decOk [.bool b0, .ints b1z, .int b2]) = false -> Value.int .i64 0 = .int .i64 (dcmp [.bool a0, .ints a1z, .int a2] [.bool b0, .ints b1z, .int b2]) /\ Ext w W := fun W hW hno => ⟨by simp only [dcmp, hno]; rfl, X.trans hW⟩
  refine ⟨_, _, _, _, _, k0.loadA0 (by kernel_rfl), ?_⟩
  refine Ret.at (impl_DecOk_c (hr.ext X) rfl) ?_
  rintro v w3 ⟨hv, y3⟩
  subst hv
  refine ⟨_, rfl, ifN (fun hno => ifT (bad w3 y3 (by simp [hno]))) (fun hok1 => ?_)⟩
  refine ⟨_, _, _, _, _, (k1.ext y3).loadA0 (by kernel_rfl), ?_⟩
  refine Ret.at (impl_DecOk_c (kr.ext (X.trans y3)) rfl) ?_
  rintro v w4 ⟨hv, y4⟩
  subst hv
  refine ⟨_, rfl, ifN (fun hno => bad w4 (y3.trans y4) (by simp [hno])) (fun hok2 => ?_)⟩
  obtain ⟨o1, l1, s1, t1⟩ := decOk_spec hok1
  obtain ⟨o2, l2, s2, t2⟩ := decOk_spec hok2
  have X4 := (X.trans y3).trans y4
  have k0 := (k0.ext y3).ext y4; have k1 := (k1.ext y3).ext y4
  unfold impl_DecCmp_j0
  have emax : (if b2 > a2 then b2 else a2) = max a2 b2 := by split <;> omega
  refine ⟨_, k0.loadAt 2 rfl (by kernel_rfl) rfl, _, k1.loadAt 2 rfl (by kernel_rfl) rfl, _, rfl, ?_⟩
  rw [emax]
  refine Ret.at (R := fun v w' => ∃ r, v = .func (.func n_impl_scaled_1) ⟨[]⟩ ⟨[.pointer (some ⟨r, 0, none⟩)]⟩ /\ Blk w' r T_int [.int .i64 (max a2 b2)] /\ Ext w4 w') ?_ ?_
  · refine impl_scaled_ret ?_
    unfold impl_scaled
    intro r5 w5 hn5
    exact ⟨r5, rfl, hn5.blk, hn5.ext⟩
  rintro v w5 ⟨r5, hv, hb5, y5⟩
  subst hv
  have D := Ext.drew w5
  have X5 := (X4.trans y5).trans D
  have q0 := (k0.ext y5).ext D; have q1 := (k1.ext y5).ext D
  have la := (intOk_enc o1).2
  obtain ⟨_, _, h1, c1, _⟩ := la
  simp only [List.cons.injEq, D0.bool.injEq, D0.ints.injEq, and_true] at h1
  obtain ⟨rfl, rfl⟩ := h1
  obtain ⟨_, _, h2, c2, _⟩ := (intOk_enc o2).2
  simp only [List.cons.injEq, D0.bool.injEq, D0.ints.injEq, and_true] at h2
  obtain ⟨rfl, rfl⟩ := h2
  have p1 : (0 : Int) < 10 ^ (max a2 b2 - a2).toNat := Int.pow_pos (by decide)
  have p2 : (0 : Int) < 10 ^ (max a2 b2 - b2).toNat := Int.pow_pos (by decide)
  refine ⟨_, rfl, _, _, _, _, _, fun W hW => (q0.ext hW).loadA0 (by kernel_rfl), _, _, _, rfl, by kernel_rfl, ?_⟩
  refine Calls.mono (impl_scaled_1_c (hr.ext X5) c1.1 (by omega) (by omega) (by omega) (by omega) (hb5.ext D)) ?_
  rintro e w6 ⟨v, he, vs1, f1, hv, ho1, _, y6⟩
  subst hv
  rw [mkS_mul o1 p1] at ho1
  obtain ⟨g0, gp, gn, gc, gz, rfl, hg, hgi⟩ := open_Signed ho1.reps (enc_code _)
  refine ⟨_, _, _, _, he, y6, _, _, _, _, _, fun W hW => (q1.ext hW).loadA0 (by kernel_rfl), _, _, _, rfl, by kernel_rfl, ?_⟩
  refine Calls.mono (impl_scaled_1_c (kr.ext (X5.trans y6)) c2.1 (by omega) (by omega) (by omega) (by omega) ((hb5.ext D).ext y6)) ?_
  rintro e w7 ⟨v, he2, vs2, f2, hv, ho2, _, y7⟩
  subst hv
  rw [mkS_mul o2 p2] at ho2
  obtain ⟨g20, g2p, g2n, g2c, g2z, rfl, hg2, hgi2⟩ := open_Signed ho2.reps (enc_code _)
  refine ⟨_, _, _, _, he2, ?_⟩
  refine Ret.at (impl_intCmp_c (ho1.reps.ext y7) ho2.reps (Nat.le_trans (scaled_len o1 l1 (by omega)) (by decide)) (Nat.le_trans (scaled_len o2 l2 (by omega)) (by decide))) ?_
  rintro v w8 ⟨hv, y8⟩
  subst hv
  refine ⟨_, rfl, ?_, ((X5.trans y6).trans y7).trans y8⟩
  simp only [dcmp, hok1, hok2, Bool.and_self, if_true]
end Go.Proofs.YtgbknjdjbahdkaaGreatDoor
namespace Go.Proofs.YtgbknjdjbahdkaaGreatDoor
open Go Go.Proofs.YtgbknjdjbahdkaaGreatDoor.Sx
theorem Sx.Fl.got {os : List Obj} {ss : List (Option Nat)} {w : World} {ss' : List (Option Nat)} {w' : World} (h : Fl os ss w ss' w') : ∀ {k r : Nat} {o : Obj}, ss[k]? = some none -> os[k]? = some o -> ss'[k]? = some (some r) -> w.heap.size <= r /\ w'.heap[r]? = some o := by
  induction h with
  | refl => intro k r o h0 _ h1; rw [h0] at h1; cases h1
  | step h1 h2 h3 ih =>
    rename_i ss w k' o' ss' w'
    intro k r o h0 ho hr
    by_cases hk : k' = k
    · subst hk
      rw [h2] at ho
      cases ho
      have hset : (ss.set k' (some w.heap.size))[k']? = some (some w.heap.size) := by
        rw [List.getElem?_set_self]
        exact (List.getElem?_eq_some_iff.1 h1).1
      have := h3.keeps hset
      rw [this] at hr
      cases hr
      exact ⟨Nat.le_refl _, (h3.ext.block _ (by simp)).trans (heap_alloc_new w _)⟩
    · obtain ⟨a, b⟩ := ih (k := k) (r := r) (o := o) (by rw [List.getElem?_set_ne hk]; exact h0) ho hr
      refine ⟨?_, b⟩
      have : w.heap.size <= (w.alloc o').heap.size := by simp
      omega
theorem impl_intCopy_c {w : World} {xs : List Value} {dx : List D0} (h : Reps w xs dx) (hc : dx.map D0.code = [.bool, .ints]) (hb : bulks dx <= 100000000) :
    Ret P n_impl_intCopy [.agg ⟨xs⟩] w fun v w' => ∃ vs' f, v = .agg ⟨vs'⟩ /\ Owns w' w.heap.size vs' dx f /\ f.Nodup /\ Ext w w' := by
  obtain ⟨a0, a1p, a1n, a1c, a1z, rfl, rfl, ha⟩ := open_Signed h hc
  have l1 := ha.1
  simp only [bulks, D0.bulk, List.map_cons, List.map_nil, List.sum_cons, List.sum_nil] at hb
  refine impl_intCopy_ret ?_
  unfold impl_intCopy
  intro r w1 hn1 r1 w2 hn2
  have D := Ext.drew w2
  have X := (hn1.ext.trans hn2.ext).trans D
  have k0 := hn1.blk.ext hn2.ext; have k1 := hn2.blk.ext D
  have e2 := hn2.r_eq; have s1 := hn1.size; have s2 := hn2.size; have lD := D.le
  refine ⟨_, fun W hW => (k0.ext (D.trans hW)).loadAt 0 rfl (by kernel_rfl) rfl, _, _, _, fun W hW => (k0.ext (D.trans hW)).loadAt 1 rfl (by kernel_rfl) rfl, ?_⟩
  refine Ret.at (impl_natCopy_c (ha.ext X) (by omega)) ?_
  rintro v w3 ⟨p, c, hv, ho, y3⟩
  subst hv
  obtain ⟨w4, st, hb4, ch, sz⟩ := (k1.ext y3).storeA0 (P := P) (t := T_impl_Signed) (xs := [.bool a0, .slice p a1n c]) (by kernel_rfl) rfl (by simp [Value.oneCell'])
  exact ⟨_, _, _, rfl, y3, w4, st, _, _, _, _, hb4.loadA0 (by kernel_rfl), _, _, rfl, ((Owns.int2 ho).chg1 ch (by omega)).mono (by omega), nodup_opt p, (X.trans y3).chg ch (by simp; omega)⟩
def ratZeroD : List D0 := [.bool false, .ints [], .ints [1]]
theorem impl_RatZero_c (w : World) : Ret P n_impl_RatZero [] w fun v w' => ∃ vs' f, v = .agg ⟨vs'⟩ /\ Owns w' w.heap.size vs' ratZeroD f /\ f.Nodup /\ Ext w w' := by
  refine impl_RatZero_ret ?_
  unfold impl_RatZero
  intro r w1 hn1 r1 w2 hn2
  have e1 := hn1.r_eq; have e2 := hn2.r_eq; have s1 := hn1.size; have s2 := hn2.size
  obtain ⟨w3, st, hb3, ch, sz⟩ := (hn1.blk.ext hn2.ext).storeA0 (P := P) (t := T_impl_Rat) (xs := [.bool false, .slice none 0 0, .slice (some ⟨r1, 0, none⟩) 1 1]) (by kernel_rfl) rfl (by simp [Value.oneCell'])
  have ho : Own w3 w.heap.size T_int 1 (some ⟨r1, 0, none⟩) 1 1 (([1] : List Int).map (Value.int .i64)) := Own.of_blk (hn2.blk.chg ch (by simp; omega)) (by omega) rfl (by decide)
  exact ⟨w3, st, _, _, _, _, _, _, _, hb3.loadA0 (by kernel_rfl), _, _, rfl, Owns.append (Owns.bool _ _ false) (Owns.append (Owns.ints (zs := []) (Own.nil w3 w.heap.size T_int 1)) (Owns.ints ho)), by simp, (hn1.ext.trans hn2.ext).chg ch (by simp; omega)⟩
end Go.Proofs.YtgbknjdjbahdkaaGreatDoor
namespace Go.Proofs.YtgbknjdjbahdkaaGreatDoor
open Go Go.Proofs.YtgbknjdjbahdkaaGreatDoor.Sx
def ratNum : List D0 -> Int
  | [.bool s, .ints x, .ints _] => ival [.bool s, .ints x]
  | _ => 0
def ratDen : List D0 -> Nat
  | [.bool _, .ints _, .ints y] => (val y).toNat
  | _ => 0
def rmk (n : Int) (d : Nat) : List D0 := [.bool (decide (n < 0)), .ints (digs n.natAbs), .ints (digs d)]
theorem rmk_enc (n : Int) (d : Nat) : rmk n d = enc n ++ [.ints (digs d)] := rfl
theorem rmk_code (n : Int) (d : Nat) : (rmk n d).map D0.code = [.bool, .ints, .ints] := rfl
theorem ratNum_rmk (n : Int) (d : Nat) : ratNum (rmk n d) = n := ival_enc n
theorem ratDen_rmk (n : Int) (d : Nat) : ratDen (rmk n d) = d := by simp [ratDen, rmk, val_digs]
theorem ival_natAbs {s : Bool} {x : List Int} (h : Limbs x) : (ival [.bool s, .ints x]).natAbs = (val x).toNat := by
  have := val_nonneg h
  unfold ival
  cases s <;> simp <;> omega
theorem ratOk_enc {dx : List D0} (h : ratOk dx = true) : dx = rmk (ratNum dx) (ratDen dx) /\ 0 < ratDen dx /\ Nat.gcd (ratNum dx).natAbs (ratDen dx) = 1 /\ (digs (ratNum dx).natAbs).length <= 18 /\ (digs (ratDen dx)).length <= 18 := by
  match dx, h with
  | [.bool s, .ints x, .ints y], h =>
    simp only [ratOk, Bool.and_eq_true, decide_eq_true_eq, Bool.not_eq_true'] at h
    obtain ⟨⟨⟨⟨⟨h1, h2⟩, h3⟩, h4⟩, h5⟩, h6⟩ := h
    have e1 := (intOk_enc h1).1
    obtain ⟨b', z', ez, can1, _⟩ := (intOk_enc h1).2
    simp only [List.cons.injEq, D0.ints.injEq, D0.bool.injEq, and_true] at ez
    obtain ⟨_, rfl⟩ := ez
    have can2 := (natOk_spec.1 h2).1
    have na := ival_natAbs (s := s) can1.1
    have ey := digs_val can2
    have hp := canon_pos can2 (by intro e; subst e; simp at h3)
    have ex := digs_val can1
    refine ⟨?_, ?_, ?_, ?_, ?_⟩
    · have e1' : [D0.bool s, .ints x] = enc (ratNum [.bool s, .ints x, .ints y]) := e1
      have ey' : digs (ratDen [.bool s, .ints x, .ints y]) = y := ey
      rw [rmk_enc, <- e1', ey']; rfl
    · simp only [ratDen]; omega
    · simp only [ratNum, ratDen, na]; exact h6
    · simp only [ratNum, na, ex]; exact h5
    · simp only [ratDen, ey]; exact h4
theorem ratOk_rmk {n : Int} {d : Nat} (hd : 0 < d) (hg : Nat.gcd n.natAbs d = 1) (h1 : (digs n.natAbs).length <= 18) (h2 : (digs d).length <= 18) : ratOk (rmk n d) = true := by
  have i1 : intOk [.bool (decide (n < 0)), .ints (digs n.natAbs)] = true := by
    have := icap_ok n
    rwa [icap_fit (by omega)] at this
  have i2 : natOk (digs d) = true := natOk_spec.2 ⟨digs_canon d, by omega⟩
  have i3 : (digs d).isEmpty = false := by rw [isEmpty_digs]; simp; omega
  simp only [ratOk, rmk, i1, i2, i3, decide_eq_true h1, decide_eq_true h2, val_digs, Int.toNat_natCast, Bool.not_false, Bool.and_self, Bool.true_and]
  exact decide_eq_true hg
def rsign (dx : List D0) : Int := if ratOk dx then sgn (ratNum dx) else 0
theorem rat_parts {w : World} {vs : List Value} {dx : List D0} (h : Reps w vs dx) (hc : dx.map D0.code = [.bool, .ints, .ints]) (hok : ratOk dx = true) :
    ∃ p1 n1 c1 p2 n2 c2, vs = [.bool (decide (ratNum dx < 0)), .slice p1 n1 c1, .slice p2 n2 c2] /\ IntsR w p1 n1 c1 (digs (ratNum dx).natAbs) /\ IntsR w p2 n2 c2 (digs (ratDen dx)) /\ n1 <= 18 /\ n2 <= 18 /\ Reps w [.bool (decide (ratNum dx < 0)), .slice p1 n1 c1] (enc (ratNum dx)) := by
  obtain ⟨e, h1, h2, h3, h4⟩ := ratOk_enc hok
  obtain ⟨a0, a1p, a1n, a1c, a1z, a2p, a2n, a2c, a2z, rfl, hd, ir1, ir2⟩ := open_Rat h hc
  rw [hd] at e
  simp only [rmk, List.cons.injEq, D0.ints.injEq, D0.bool.injEq, and_true] at e
  rw [<- hd] at e
  obtain ⟨e0, e1, e2⟩ := e
  rw [e1] at ir1
  rw [e2] at ir2
  have l1 := ir1.1; have l2 := ir2.1
  exact ⟨_, _, _, _, _, _, by rw [e0], ir1, ir2, by omega, by omega, rfl, ⟨_, _, _, rfl, ir1⟩, trivial⟩
theorem impl_RatSign_c {w : World} {xs : List Value} {dx : List D0} (h : Reps w xs dx) (hc : dx.map D0.code = [.bool, .ints, .ints]) :
    Ret P n_impl_RatSign [.agg ⟨xs⟩] w fun v w' => v = .int .i64 (rsign dx) /\ Ext w w' := by
  have hr := h; have hcc := hc
  obtain ⟨a0, a1p, a1n, a1c, a1z, a2p, a2n, a2c, a2z, rfl, rfl, ir1, ir2⟩ := open_Rat h hc
  refine impl_RatSign_ret ?_
  unfold impl_RatSign
  intro r w1 hn1
  refine ⟨_, _, _, _, _, _, _, hn1.blk.loadA0 (by kernel_rfl), ?_⟩
  refine Ret.at (impl_RatOk_c (hr.ext hn1.ext) rfl) ?_
  rintro v w2 ⟨hv, y2⟩
  subst hv
  have X2 := hn1.ext.trans y2
  refine ⟨_, rfl, ifN (fun e => ⟨by simp [rsign, e], X2⟩) (fun e => ?_)⟩
  obtain ⟨p1, n1, c1, p2, n2, c2, ev, i1, i2, _, _, he⟩ := rat_parts hr hcc e
  simp only [List.cons.injEq, Value.slice.injEq, Value.bool.injEq, and_true] at ev
  obtain ⟨e0, ⟨rfl, rfl, rfl⟩, rfl, rfl, rfl⟩ := ev
  rw [<- e0] at he
  refine ⟨_, _, _, _, (hn1.blk.ext y2).loadAAt 0 [.bool a0, .slice a1p a1n a1c] rfl (by kernel_rfl) rfl, ?_⟩
  refine Ret.at (impl_intSign_c (he.ext X2)) ?_
  rintro v w3 ⟨hv, y3⟩
  subst hv
  exact ⟨_, rfl, by rw [rsign, if_pos e], X2.trans y3⟩
theorem prod_len {x y : Nat} {i j : Nat} (hx : (digs x).length <= i) (hy : (digs y).length <= j) : (digs (x * y)).length <= i + j := by
  apply digs_len
  have h1 := val_lt (digs_limbs x); have h2 := val_lt (digs_limbs y)
  rw [val_digs] at h1 h2
  have h1' : x < 1000000000 ^ i := by
    have : ((x : Nat) : Int) < ((1000000000 ^ (digs x).length : Nat) : Int) := by simpa using h1
    exact Nat.lt_of_lt_of_le (Int.ofNat_lt.1 this) (Nat.pow_le_pow_right (by decide) hx)
  have h2' : y < 1000000000 ^ j := by
    have : ((y : Nat) : Int) < ((1000000000 ^ (digs y).length : Nat) : Int) := by simpa using h2
    exact Nat.lt_of_lt_of_le (Int.ofNat_lt.1 this) (Nat.pow_le_pow_right (by decide) hy)
  rw [Nat.pow_add]
  exact Nat.mul_lt_mul'' h1' h2'
end Go.Proofs.YtgbknjdjbahdkaaGreatDoor
namespace Go.Proofs.YtgbknjdjbahdkaaGreatDoor
open Go Go.Proofs.YtgbknjdjbahdkaaGreatDoor.Sx
def rat0 : List D0 := [.bool false, .ints [], .ints []]
def redN (n : Int) (d : Nat) : Int := if n < 0 then -((n.natAbs / Nat.gcd n.natAbs d : Nat) : Int) else ((n.natAbs / Nat.gcd n.natAbs d : Nat) : Int)
def redD (n : Int) (d : Nat) : Nat := d / Nat.gcd n.natAbs d
def redOk (n : Int) (d : Nat) : Bool := decide ((digs (n.natAbs / Nat.gcd n.natAbs d)).length <= 18) && decide ((digs (d / Nat.gcd n.natAbs d)).length <= 18)
def redR (n : Int) (d : Nat) : List D0 := if redOk n d then rmk (redN n d) (redD n d) else rat0
theorem redR_code (n : Int) (d : Nat) : (redR n d).map D0.code = [.bool, .ints, .ints] := by unfold redR; split <;> rfl
theorem redN_abs (n : Int) (d : Nat) : (redN n d).natAbs = n.natAbs / Nat.gcd n.natAbs d := by
  unfold redN
  generalize n.natAbs / Nat.gcd n.natAbs d = q
  split <;> omega
theorem enc_redN (n : Int) (d : Nat) : enc (redN n d) = mkS (decide (n < 0)) (digs (n.natAbs / Nat.gcd n.natAbs d)) := by
  unfold redN
  by_cases h : n < 0
  · rw [if_pos h, decide_eq_true h, mkS_neg]
  · rw [if_neg h, decide_eq_false h, mkS_pos]
theorem gcd_pos_right {m d : Nat} (hd : 0 < d) : 0 < Nat.gcd m d := Nat.gcd_pos_of_pos_right m hd
theorem redD_pos {n : Int} {d : Nat} (hd : 0 < d) : 0 < redD n d := Nat.div_pos (Nat.le_of_dvd hd (Nat.gcd_dvd_right _ _)) (gcd_pos_right hd)
theorem red_coprime {n : Int} {d : Nat} (hd : 0 < d) : Nat.gcd (redN n d).natAbs (redD n d) = 1 := by
  rw [redN_abs, redD, Nat.gcd_div (Nat.gcd_dvd_left _ _) (Nat.gcd_dvd_right _ _)]
  exact Nat.div_self (gcd_pos_right hd)
theorem redR_ok {n : Int} {d : Nat} (hd : 0 < d) (h : redOk n d = true) : ratOk (redR n d) = true := by
  have h' := h
  simp only [redOk, Bool.and_eq_true, decide_eq_true_eq] at h'
  rw [redR, if_pos h]
  exact ratOk_rmk (redD_pos hd) (red_coprime hd) (by rw [redN_abs]; exact h'.1) h'.2
theorem redOk_small {n : Int} {d : Nat} (h1 : (digs n.natAbs).length <= 18) (h2 : (digs d).length <= 18) : redOk n d = true := by
  simp only [redOk, Bool.and_eq_true, decide_eq_true_eq]
  exact ⟨Nat.le_trans (digs_mono_len (Nat.div_le_self _ _)) h1, Nat.le_trans (digs_mono_len (Nat.div_le_self _ _)) h2⟩
theorem redR_small {n : Int} {d : Nat} (h1 : (digs n.natAbs).length <= 18) (h2 : (digs d).length <= 18) : redR n d = rmk (redN n d) (redD n d) := by rw [redR, if_pos (redOk_small h1 h2)]
theorem redN_len {n : Int} {d : Nat} : (digs (redN n d).natAbs).length <= (digs n.natAbs).length := by rw [redN_abs]; exact digs_mono_len (Nat.div_le_self _ _)
theorem redD_len {n : Int} {d : Nat} : (digs (redD n d)).length <= (digs d).length := digs_mono_len (Nat.div_le_self _ _)
def modeAway (m : Int) (neg : Bool) (half : Int) (odd : Bool) : Bool :=
 if m = 0 then false else if m = 1 then true else if m = 2 then neg else if m = 3 then !neg else if m = 4 then decide (0 < half) else if m = 5 then decide (0 <= half) else decide (0 < half) || (decide (half = 0) && odd)
def roundM (n : Int) (d : Nat) (m : Int) : Nat :=
 if n.natAbs % d ≠ 0 /\ modeAway m (decide (n < 0)) (cmpL (digs (n.natAbs % d + n.natAbs % d)) (digs d)) (decide (n.natAbs / d % 2 = 1)) = true then n.natAbs / d + 1 else n.natAbs / d
def rround (n : Int) (d : Nat) (m : Int) : Int := if n < 0 then -((roundM n d m : Nat) : Int) else ((roundM n d m : Nat) : Int)
theorem rround_abs (n : Int) (d : Nat) (m : Int) : (rround n d m).natAbs = roundM n d m := by unfold rround; split <;> omega
theorem roundM_le (n : Int) (d : Nat) (m : Int) : roundM n d m <= n.natAbs / d + 1 := by unfold roundM; split <;> omega
theorem even_head {q : Nat} : (digs q).length = 0 ∨ (digs q).getD 0 0 % 2 = 0 ↔ q % 2 = 0 := by
  rcases Nat.eq_zero_or_pos q with h | h
  · subst h; rw [digs_zero]; simp
  · rw [digs_pos (by omega)]
    simp
    omega
end Go.Proofs.YtgbknjdjbahdkaaGreatDoor
namespace Go.Proofs.YtgbknjdjbahdkaaGreatDoor
def lowS (m s : Nat) : Nat := ((List.range (s + 1)).find? fun t => decide (m % 10 ^ (s - t) = 0)).getD s
theorem lowS_eq {m s t : Nat} (ht : t <= s) (hd : m % 10 ^ (s - t) = 0) (hm : ∀ u < t, m % 10 ^ (s - u) ≠ 0) : lowS m s = t := by
  have : (List.range (s + 1)).find? (fun t => decide (m % 10 ^ (s - t) = 0)) = some t := by
    rw [List.find?_range_eq_some]
    exact ⟨by simpa using hd, by simp; omega, fun j hj => by simpa using hm j hj⟩
  rw [lowS, this]; rfl
def lowM (m s : Nat) : Nat := m / 10 ^ (s - lowS m s)
theorem lowM_le (m s : Nat) : lowM m s <= m := Nat.div_le_self _ _
end Go.Proofs.YtgbknjdjbahdkaaGreatDoor
namespace Go.Proofs.YtgbknjdjbahdkaaGreatDoor
open Go Go.Proofs.YtgbknjdjbahdkaaGreatDoor.Sx
theorem enc_nat (n : Nat) : enc (n : Int) = [.bool false, .ints (digs n)] := (mkS_pos n).symm
theorem enc_ok {z : Int} (h : (digs z.natAbs).length <= 50) : intOk (enc z) = true := by rw [<- icap_fit h]; exact icap_ok z
theorem ten_len {k : Nat} (h : k <= 30) : (digs (10 ^ k)).length <= 4 := by
  apply digs_len
  have : (10 : Nat) ^ k <= 10 ^ 30 := Nat.pow_le_pow_right (by decide) h
  exact Nat.lt_of_le_of_lt this (by decide)
end Go.Proofs.YtgbknjdjbahdkaaGreatDoor
namespace Go.Proofs.YtgbknjdjbahdkaaGreatDoor
open Go Go.Proofs.YtgbknjdjbahdkaaGreatDoor.Sx
def dnn (m : Nat) (s : Int) : List D0 := [.bool false, .ints (digs m), .int s]
theorem inn_ok {m : Nat} (h : (digs m).length <= 50) : intOk [.bool false, .ints (digs m)] = true := by
  simp only [intOk, natOk_spec.2 ⟨digs_canon m, h⟩, Bool.not_false, Bool.true_or, Bool.and_self]
theorem dnn_ok {m : Nat} {s : Int} (h : (digs m).length <= 6) (hs : 0 <= s /\ s <= 30) : decOk (dnn m s) = true := by
  simp only [decOk, dnn, inn_ok (show (digs m).length <= 50 by omega), decide_eq_true h, decide_eq_true hs, Bool.and_self]
theorem impl_decOf_c {w : World} {B : Nat} {xs : List Value} {m : Nat} {s : Int} {f : List Nat} (h : Owns w B xs [.bool false, .ints (digs m)] f) (hm : (digs m).length <= 6) (hs : 0 <= s /\ s <= 30) :
    Ret P n_impl_decOf [.agg ⟨xs⟩, .int .i64 s] w fun v w' => ∃ vs, v = .tuple #[.agg ⟨vs⟩, .bool true] /\ Owns w' B vs (dnn m s) f /\ Ext w w' := by
  have ho := h
  obtain ⟨a0, ap, an, ac, az, rfl, hd, ha⟩ := open_Signed h.reps rfl
  simp only [List.cons.injEq, D0.bool.injEq, D0.ints.injEq, and_true] at hd
  obtain ⟨rfl, rfl⟩ := hd
  refine impl_decOf_ret ?_
  unfold impl_decOf
  intro r w1 hn1 r1 w2 hn2
  have k1 := hn1.blk.ext hn2.ext
  refine ⟨_, _, _, _, k1.loadA0 (by kernel_rfl), ?_⟩
  intro r2 w3 hn3
  have e1 := hn1.r_eq; have e2 := hn2.r_eq; have z1 := hn1.size
  obtain ⟨w4, st4, hb4, y4⟩ := hn3.fill (P := P) (t := T_impl_Dec) (xs := [.bool false, .slice ap an ac, .int .i64 s]) (by simp [Value.oneCell']) (by kernel_rfl) rfl
  have X := (hn1.ext.trans hn2.ext).trans y4
  refine ⟨w4, st4, _, _, _, _, _, hb4.loadA0 (by kernel_rfl), ?_⟩
  have hm' : Reps w4 [.bool false, .slice ap an ac, .int .i64 s] (dnn m s) := ⟨rfl, ⟨_, _, _, rfl, ha.ext X⟩, rfl, trivial⟩
  refine Ret.at (impl_DecOk_c hm' rfl) ?_
  rintro v w5 ⟨hv, y5⟩
  subst hv
  rw [dnn_ok hm hs]
  obtain ⟨w6, st6, hb6, ch, sz⟩ := ((hn2.blk.ext y4).ext y5).storeA0 (P := P) (t := T_impl_Dec) (xs := [.bool false, .slice ap an ac, .int .i64 s]) (by kernel_rfl) rfl (by simp [Value.oneCell'])
  have Z : Ext w w6 := (X.trans y5).chg ch (by simp; omega)
  have ho6 : Owns w6 B [.bool false, .slice ap an ac, .int .i64 s] (dnn m s) f := by
    have := Owns.append (ho.ext Z) (Owns.int w6 B s)
    rwa [List.append_nil] at this
  exact ⟨_, rfl, ifT ⟨_, _, _, _, _, (hb4.ext y5).loadA0 (by kernel_rfl), w6, st6, _, _, _, _, _, hb6.loadA0 (by kernel_rfl), [.bool false, .slice ap an ac, .int .i64 s], rfl, ho6, Z⟩⟩
theorem own_out {w : World} {B : Nat} {e : TypeId} {size : Nat} {p : Option Addr} {n c : Nat} {xs : List Value} (h : Own w B e size p n c xs) : ∀ b, p.map (·.block) = some b -> B <= b := fun b hb =>
  (World.ownsRow.lt h b (by cases p <;> simp_all [Value.ownBlock])).1
theorem impl_intMul_n {w : World} {xs ys : List Value} {m k : Nat} (h : Reps w xs [.bool false, .ints (digs m)]) (g : Reps w ys [.bool false, .ints (digs k)]) (hm : (digs m).length <= 50) (hk : (digs k).length <= 50) :
    Ret P n_impl_intMul [.agg ⟨xs⟩, .agg ⟨ys⟩] w fun v w' => ∃ vs f, v = .agg ⟨vs⟩ /\ Owns w' w.heap.size vs [.bool false, .ints (digs (m * k))] f /\ Ext w w' := by
  obtain ⟨a0, ap, an, ac, az, rfl, hd, ha⟩ := open_Signed h rfl
  simp only [List.cons.injEq, D0.bool.injEq, D0.ints.injEq, and_true] at hd
  obtain ⟨rfl, rfl⟩ := hd
  obtain ⟨b0, bp, bn, bc, bz, rfl, hd, hb⟩ := open_Signed g rfl
  simp only [List.cons.injEq, D0.bool.injEq, D0.ints.injEq, and_true] at hd
  obtain ⟨rfl, rfl⟩ := hd
  have la := ha.1; have lb := hb.1
  refine impl_intMul_ret ?_
  unfold impl_intMul
  intro r w1 hn1 r1 w2 hn2 r2 w3 hn3
  have e1 := hn1.r_eq; have e2 := hn2.r_eq; have e3 := hn3.r_eq; have z1 := hn1.size; have z2 := hn2.size; have z3 := hn3.size
  have D := Ext.drew w3
  have X := ((hn1.ext.trans hn2.ext).trans hn3.ext).trans D
  have q0 := ((hn1.blk.ext hn2.ext).ext hn3.ext).ext D
  have q1 := (hn2.blk.ext hn3.ext).ext D
  have q2 := hn3.blk.ext D
  have lD := D.le
  refine ⟨_, fun W hW => (q0.ext hW).loadAt 0 rfl (by kernel_rfl) rfl, _, fun W hW => (q1.ext hW).loadAt 0 rfl (by kernel_rfl) rfl, _, _, _, fun W hW => (q0.ext hW).loadAt 1 rfl (by kernel_rfl) rfl, _, _, _, fun W hW => (q1.ext hW).loadAt 1 rfl (by kernel_rfl) rfl, ?_⟩
  refine Ret.at (impl_natMul_c (ha.ext X) (hb.ext X) (digs_limbs m) (digs_limbs k) (by omega) (by omega)) ?_
  rintro v w4 ⟨p', n', c', hv, ho, y4⟩
  subst hv
  have e : (val (digs m) * val (digs k)).toNat = m * k := by rw [val_digs, val_digs, <- Int.natCast_mul, Int.toNat_natCast]
  rw [e] at ho
  refine ⟨_, _, _, rfl, y4, ?_⟩
  refine Ret.at (impl_signed_c (neg := !(false == false)) ho.ints.1) ?_
  rintro v w5 ⟨hv, y5⟩
  subst hv
  obtain ⟨w6, st6, hb6, ch, sz⟩ := ((q2.ext y4).ext y5).storeA0 (P := P) (t := T_impl_Signed) (xs := [.bool ((!(false == false)) && !(digs (m * k)).isEmpty), .slice p' n' c']) (by kernel_rfl) rfl (by simp [Value.oneCell'])
  have Z : Ext w w6 := ((X.trans y4).trans y5).chg ch (by simp; omega)
  have ho6 := (ho.ext y5).chg ch (fun b hb' hm' => by
    have := own_out ho b hb'
    simp at hm'; omega)
  exact ⟨_, _, _, _, rfl, w6, st6, _, _, _, _, hb6.loadA0 (by kernel_rfl), [.bool ((!(false == false)) && !(digs (m * k)).isEmpty), .slice p' n' c'], _, rfl, Owns.int2 (b := false) (ho6.mono (by omega)), Z⟩
theorem impl_DecMul_n {w : World} {xs ys : List Value} {m k : Nat} {s t : Int} (h : Reps w xs (dnn m s)) (g : Reps w ys (dnn k t)) (hm : (digs m).length <= 6) (hk : (digs k).length <= 6) (hs : 0 <= s /\ s <= 30) (ht : 0 <= t /\ t <= 30) (hmk : (digs (m * k)).length <= 6) (hst : s + t <= 30) :
    Ret P n_impl_DecMul [.agg ⟨xs⟩, .agg ⟨ys⟩] w fun v w' => ∃ vs f, v = .tuple #[.agg ⟨vs⟩, .bool true] /\ Owns w' w.heap.size vs (dnn (m * k) (s + t)) f /\ Ext w w' := by
  have hr := h; have gr := g
  obtain ⟨a0, ap, an, ac, az, a2, rfl, hd, ha⟩ := open_Dec h rfl
  simp only [dnn, List.cons.injEq, D0.bool.injEq, D0.ints.injEq, D0.int.injEq, and_true] at hd
  obtain ⟨rfl, rfl, rfl⟩ := hd
  obtain ⟨b0, bp, bn, bc, bz, b2, rfl, hd, hb⟩ := open_Dec g rfl
  simp only [dnn, List.cons.injEq, D0.bool.injEq, D0.ints.injEq, D0.int.injEq, and_true] at hd
  obtain ⟨rfl, rfl, rfl⟩ := hd
  refine impl_DecMul_ret ?_
  unfold impl_DecMul
  intro r w1 hn1 r1 w2 hn2 r2 w3 hn3
  have e1 := hn1.r_eq; have e2 := hn2.r_eq; have e3 := hn3.r_eq; have z1 := hn1.size; have z2 := hn2.size; have z3 := hn3.size
  have X := (hn1.ext.trans hn2.ext).trans hn3.ext
  have q0 := (hn1.blk.ext hn2.ext).ext hn3.ext
  have q1 := hn2.blk.ext hn3.ext
  refine ⟨_, _, _, _, _, q0.loadA0 (by kernel_rfl), ?_⟩
  refine Ret.at (impl_DecOk_c (hr.ext X) rfl) ?_
  rintro v w4 ⟨hv, y4⟩
  subst hv
  rw [dnn_ok hm hs]
  refine ⟨_, rfl, ifN (fun hh => absurd hh (by simp)) (fun _ => ⟨_, _, _, _, _, (q1.ext y4).loadA0 (by kernel_rfl), ?_⟩)⟩
  refine Ret.at (impl_DecOk_c (gr.ext (X.trans y4)) rfl) ?_
  rintro v w5 ⟨hv, y5⟩
  subst hv
  rw [dnn_ok hk ht]
  refine ⟨_, rfl, ifN (fun hh => absurd hh (by simp)) (fun _ => ?_)⟩
  unfold impl_DecMul_j0
  have D := Ext.drew w5
  have Y := (y4.trans y5).trans D
  have X5 := X.trans Y
  have lY := Y.le
  have q0 := q0.ext Y; have q1 := q1.ext Y; have q2 := hn3.blk.ext Y
  refine ⟨_, _, _, _, fun W hW => (q0.ext hW).loadAAt 0 [.bool false, .slice ap an ac] rfl (by kernel_rfl) rfl, _, _, _, _, fun W hW => (q1.ext hW).loadAAt 0 [.bool false, .slice bp bn bc] rfl (by kernel_rfl) rfl, ?_⟩
  have h1 : Reps w5.drew [.bool false, .slice ap an ac] [.bool false, .ints (digs m)] := ⟨rfl, ⟨_, _, _, rfl, ha.ext X5⟩, trivial⟩
  have h2 : Reps w5.drew [.bool false, .slice bp bn bc] [.bool false, .ints (digs k)] := ⟨rfl, ⟨_, _, _, rfl, hb.ext X5⟩, trivial⟩
  refine Ret.at (impl_intMul_n h1 h2 (by omega) (by omega)) ?_
  rintro v w6 ⟨vs6, f6, hv, ho6, y6⟩
  subst hv
  have hp6 := ho6.reps
  obtain ⟨c0, cp, cn, cc, cz, rfl, _, _⟩ := open_Signed hp6 rfl
  refine ⟨_, _, _, _, rfl, y6, _, fun W hW => (q0.ext hW).loadAt 2 rfl (by kernel_rfl) rfl, _, fun W hW => (q1.ext hW).loadAt 2 rfl (by kernel_rfl) rfl, exW ⟨by omega, by omega⟩ ?_⟩
  refine Ret.at (impl_decOf_c ho6 hmk ⟨by omega, by omega⟩) ?_
  rintro v w7 ⟨vs7, hv, ho7, y7⟩
  subst hv
  have hp7 := ho7.reps
  obtain ⟨d0, dp, dn, dc, dz, ds, rfl, _, _⟩ := open_Dec hp7 rfl
  obtain ⟨w8, st8, hb8, ch, sz⟩ := ((q2.ext y6).ext y7).storeA0 (P := P) (t := T_impl_Dec) (xs := [.bool d0, .slice dp dn dc, .int .i64 ds]) (by kernel_rfl) rfl (by simp [Value.oneCell'])
  have Z : Ext w w8 := ((X5.trans y6).trans y7).chg ch (by simp; omega)
  exact ⟨_, _, _, _, _, _, rfl, w8, st8, _, _, _, _, _, hb8.loadA0 (by kernel_rfl), [.bool d0, .slice dp dn dc, .int .i64 ds], _, rfl, (ho7.chg1 ch (by omega)).mono (by omega), Z⟩
end Go.Proofs.YtgbknjdjbahdkaaGreatDoor
namespace Go.Proofs.YtgbknjdjbahdkaaGreatDoor
open Go Go.Proofs.YtgbknjdjbahdkaaGreatDoor.Sx
theorem IntsR.store3 {w w' : World} {r : Nat} {e : TypeId} {p : Option Addr} {n c m : Nat} (hb : Blk w r e [.bool false, .slice none 0 0, .int .i64 0]) (h : IntsR w p n c (digs m)) (ch : Chg [r] w w') : IntsR w' p n c (digs m) := by
  refine ⟨h.1, h.2.1, h.2.2.1, fun hn => ?_⟩
  obtain ⟨b, off, hp, hs⟩ := h.2.2.2 hn
  refine ⟨b, off, hp, hs.chg ch ?_⟩
  intro hm
  simp at hm
  subst hm
  have hl := h.1
  have hx := digs_last m
  rw [List.getLast?_eq_getElem?, hl] at hx
  have hlt : n - 1 < (digs m).length := by omega
  rw [List.getElem?_eq_getElem hlt] at hx
  have h1 := hs (n - 1) (.int .i64 ((digs m)[n - 1]'hlt)) (by simp [List.getElem?_eq_getElem hlt])
  rw [hb.cell] at h1
  generalize off + (n - 1) = i at h1
  match i, h1 with
  | 0, h1 => simp at h1
  | 1, h1 => simp at h1
  | 2, h1 =>
    simp at h1
    exact hx (by rw [<- h1])
  | i + 3, h1 => simp at h1
theorem digs_pos_len {m : Nat} : 0 < (digs m).length ↔ m ≠ 0 := by
  constructor
  · intro h e
    rw [e, digs_zero] at h
    simp at h
  · intro h
    rw [digs_pos h]
    simp
theorem digs_div_len {m k : Nat} (h : (digs m).length <= 6) : (digs (m / k)).length <= 6 := Nat.le_trans (digs_mono_len (Nat.div_le_self m k)) h
theorem val_div (m k : Nat) : (val (digs m) / val (digs k)).toNat = m / k := by rw [val_digs, val_digs]; exact ediv_toNat m k
theorem val_mod (m k : Nat) : (val (digs m) % val (digs k)).toNat = m % k := by rw [val_digs, val_digs]; exact emod_toNat m k
theorem impl_decOf_r {w : World} {xs : List Value} {m : Nat} {s : Int} (h : Reps w xs [.bool false, .ints (digs m)]) (hm : (digs m).length <= 6) (hs : 0 <= s /\ s <= 30) :
    Ret P n_impl_decOf [.agg ⟨xs⟩, .int .i64 s] w fun v w' => ∃ vs, v = .tuple #[.agg ⟨vs⟩, .bool true] /\ Reps w' vs (dnn m s) /\ Ext w w' := by
  obtain ⟨a0, ap, an, ac, az, rfl, hd, ha⟩ := open_Signed h rfl
  simp only [List.cons.injEq, D0.bool.injEq, D0.ints.injEq, and_true] at hd
  obtain ⟨rfl, rfl⟩ := hd
  refine impl_decOf_ret ?_
  unfold impl_decOf
  intro r w1 hn1 r1 w2 hn2
  have k1 := hn1.blk.ext hn2.ext
  refine ⟨_, _, _, _, k1.loadA0 (by kernel_rfl), ?_⟩
  intro r2 w3 hn3
  have e1 := hn1.r_eq; have e2 := hn2.r_eq; have z1 := hn1.size
  obtain ⟨w4, st4, hb4, y4⟩ := hn3.fill (P := P) (t := T_impl_Dec) (xs := [.bool false, .slice ap an ac, .int .i64 s]) (by simp [Value.oneCell']) (by kernel_rfl) rfl
  have X := (hn1.ext.trans hn2.ext).trans y4
  refine ⟨w4, st4, _, _, _, _, _, hb4.loadA0 (by kernel_rfl), ?_⟩
  have hm' : Reps w4 [.bool false, .slice ap an ac, .int .i64 s] (dnn m s) := ⟨rfl, ⟨_, _, _, rfl, ha.ext X⟩, rfl, trivial⟩
  refine Ret.at (impl_DecOk_c hm' rfl) ?_
  rintro v w5 ⟨hv, y5⟩
  subst hv
  rw [dnn_ok hm hs]
  obtain ⟨w6, st6, hb6, ch, sz⟩ := ((hn2.blk.ext y4).ext y5).storeA0 (P := P) (t := T_impl_Dec) (xs := [.bool false, .slice ap an ac, .int .i64 s]) (by kernel_rfl) rfl (by simp [Value.oneCell'])
  have Z : Ext w w6 := (X.trans y5).chg ch (by simp; omega)
  exact ⟨_, rfl, ifT ⟨_, _, _, _, _, (hb4.ext y5).loadA0 (by kernel_rfl), w6, st6, _, _, _, _, _, hb6.loadA0 (by kernel_rfl), [.bool false, .slice ap an ac, .int .i64 s], rfl, ⟨rfl, ⟨_, _, _, rfl, ha.ext Z⟩, rfl, trivial⟩, Z⟩⟩
theorem impl_DecAt_n {w : World} {xs : List Value} {m s t : Nat} (h : Reps w xs (dnn m s)) (hm : (digs m).length <= 6) (hs : s <= 30) (ht : t <= s) :
    Ret P n_impl_DecAt [.agg ⟨xs⟩, .int .i64 (t : Int)] w fun v w' => ∃ vs d, v = .tuple #[.agg ⟨vs⟩, .bool (decide (m % 10 ^ (s - t) = 0))] /\ Reps w' vs d /\ d.map D0.code = [.bool, .ints, .int] /\ (m % 10 ^ (s - t) = 0 -> d = dnn (m / 10 ^ (s - t)) t) /\ Ext w w' := by
  have hr := h
  obtain ⟨a0, ap, an, ac, az, a2, rfl, hd, ha⟩ := open_Dec h rfl
  simp only [dnn, List.cons.injEq, D0.bool.injEq, D0.ints.injEq, D0.int.injEq, and_true] at hd
  obtain ⟨rfl, rfl, rfl⟩ := hd
  have hla := ha.1
  refine impl_DecAt_ret ?_
  unfold impl_DecAt
  intro r w1 hn1 r1 w2 hn2
  have e1 := hn1.r_eq; have e2 := hn2.r_eq; have z1 := hn1.size; have z2 := hn2.size
  have X := hn1.ext.trans hn2.ext
  have q0 := hn1.blk.ext hn2.ext
  refine ⟨_, _, _, _, _, q0.loadA0 (by kernel_rfl), ?_⟩
  refine Ret.at (impl_DecOk_c (hr.ext X) rfl) ?_
  rintro v w3 ⟨hv, y3⟩
  subst hv
  rw [dnn_ok hm ⟨by omega, by omega⟩]
  refine ⟨_, rfl, ifN (fun hh => absurd hh (by simp)) (fun _ => ?_)⟩
  refine Ret.at (impl_isScale_c (t : Int) _) ?_
  rintro v w4 ⟨hv, hw⟩
  subst hv; subst hw
  rw [decide_eq_true (show (0 : Int) <= (t : Int) /\ (t : Int) <= 30 by omega)]
  refine ⟨_, rfl, ifN (fun hh => absurd hh (by simp)) (fun _ => ?_)⟩
  unfold impl_DecAt_j0
  have q0 := q0.ext y3; have q1 := hn2.blk.ext y3
  have X3 := X.trans y3
  have l3 := y3.le
  refine ⟨_, q0.loadAt 2 rfl (by kernel_rfl) rfl, ifD (fun hle => ?_) (fun hgt => ?_)⟩
  · have hst : t = s := by omega
    subst hst
    have D := Ext.drew w4
    have X4 := X3.trans D
    have lD := D.le
    have k0 := q0.ext D; have k1 := q1.ext D
    refine Ret.at (R := fun v w' => ∃ r, v = .func (.func n_impl_scaled_1) ⟨[]⟩ ⟨[.pointer (some ⟨r, 0, none⟩)]⟩ /\ Blk w' r T_int [.int .i64 (t : Int)] /\ Ext w4.drew w') ?_ ?_
    · refine impl_scaled_ret ?_
      unfold impl_scaled
      intro r5 w5 hn5
      exact ⟨r5, rfl, hn5.blk, hn5.ext⟩
    rintro v w5 ⟨r5, hv, hb5, y5⟩
    subst hv
    refine ⟨_, rfl, y5, _, _, _, _, _, fun W hW => (k0.ext hW).loadA0 (by kernel_rfl), _, _, _, rfl, by kernel_rfl, ?_⟩
    refine Calls.mono (impl_scaled_1_c (hr.ext (X4.trans y5)) (digs_limbs m) (by omega) (by omega) (by omega) (by omega) hb5) ?_
    rintro e w6 ⟨v, he, vs1, f1, hv, ho1, _, y6⟩
    subst hv
    have e0 : mkS false (digs (val (digs m) * 10 ^ ((t : Int) - (t : Int)).toNat).toNat) = [.bool false, .ints (digs m)] := by
      rw [Int.sub_self, Int.toNat_zero, Int.pow_zero, Int.mul_one, val_digs, Int.toNat_natCast]; rfl
    rw [e0] at ho1
    obtain ⟨g0, gp, gn, gc, gz, rfl, _, _⟩ := open_Signed ho1.reps rfl
    refine ⟨_, _, _, _, he, ?_⟩
    refine Ret.at (impl_decOf_c ho1 hm ⟨by omega, by omega⟩) ?_
    rintro v w7 ⟨vs7, hv, ho7, y7⟩
    subst hv
    have Y := (y5.trans y6).trans y7
    have l5 := y5.le
    obtain ⟨d0, dp, dn, dc, dz, ds, rfl, _, _⟩ := open_Dec ho7.reps rfl
    obtain ⟨w8, st8, hb8, ch, sz⟩ := (k1.ext Y).storeA0 (P := P) (t := T_impl_Dec) (xs := [.bool d0, .slice dp dn dc, .int .i64 ds]) (by kernel_rfl) rfl (by simp [Value.oneCell'])
    have Z : Ext w w8 := (X4.trans Y).chg ch (by simp; omega)
    refine ⟨_, _, _, _, _, _, rfl, w8, st8, _, _, _, _, _, hb8.loadA0 (by kernel_rfl), [.bool d0, .slice dp dn dc, .int .i64 ds], dnn m t, ?_, (ho7.chg1 ch (by omega)).reps, rfl, fun _ => ?_, Z⟩
    · rw [Nat.sub_self, Nat.pow_zero, Nat.mod_one]; rfl
    · rw [Nat.sub_self, Nat.pow_zero, Nat.div_one]
  · have hlt : t < s := by omega
    have ek : ((s : Int) - (t : Int)).toNat = s - t := by omega
    have eks : ((s : Int) - (t : Int)) = ((s - t : Nat) : Int) := by omega
    have D := Ext.drew w4
    have k0 := q0.ext D
    refine ⟨_, _, _, fun W hW => (k0.ext hW).loadAt 1 rfl (by kernel_rfl) rfl, _, fun W hW => (k0.ext hW).loadAt 2 rfl (by kernel_rfl) rfl, exW ⟨by omega, by omega⟩ ?_⟩
    refine Ret.at (impl_natTen_c (k := (s : Int) - (t : Int)) (by omega) (by omega)) ?_
    rintro v w5 ⟨p5, n5, c5, hv, ho5, y5⟩
    subst hv
    rw [ek] at ho5
    have hl5 := ho5.ints.1
    have ht5 := ten_len (k := s - t) (by omega)
    have hp5 : 0 < (digs (10 ^ (s - t))).length := digs_pos_len.2 (Nat.ne_of_gt (Nat.pow_pos (by decide)))
    refine ⟨_, _, _, rfl, y5, ?_⟩
    refine Ret.at (impl_natDiv_c (ha.ext ((X3.trans D).trans y5)) ho5.ints (digs_canon m) (digs_canon _) (by omega) (by omega) (by omega)) ?_
    rintro v w6 ⟨p1, n1, c1, p2, n2, c2, hv, hoq, hor, _, y6⟩
    subst hv
    rw [val_div] at hoq
    rw [val_mod] at hor
    have Y := (D.trans y5).trans y6
    have i1 := hoq.ints; have i2 := hor.ints
    have hml : (digs (m / 10 ^ (s - t))).length <= 6 := digs_div_len hm
    refine ⟨_, _, _, _, _, _, rfl, ifD (fun hrem => ?_) (fun hno => ?_)⟩
    · have hne : m % 10 ^ (s - t) ≠ 0 := digs_pos_len.1 (by have := i2.1; omega)
      obtain ⟨w8, st8, hb8, ch, sz⟩ := (q1.ext Y).storeA0 (P := P) (t := T_impl_Dec) (xs := [.bool false, .slice none 0 0, .int .i64 0]) (by kernel_rfl) rfl (by simp [Value.oneCell'])
      have Z : Ext w w8 := (X3.trans Y).chg ch (by simp; omega)
      exact ⟨w8, st8, _, _, _, _, _, hb8.loadA0 (by kernel_rfl), [.bool false, .slice none 0 0, .int .i64 0], [.bool false, .ints [], .int 0], by rw [decide_eq_false hne], ⟨rfl, ⟨_, _, _, rfl, IntsR.nil _ _ (by omega)⟩, rfl, trivial⟩, rfl, fun hh => absurd hh hne, Z⟩
    · have heq : m % 10 ^ (s - t) = 0 := Decidable.byContradiction fun hh => by
        have := digs_pos_len.2 hh
        have := i2.1
        omega
      refine ⟨_, (q0.ext Y).loadAt 0 rfl (by kernel_rfl) rfl, ?_⟩
      refine Ret.at (impl_signed_c (neg := false) i1.1) ?_
      rintro v w9 ⟨hv, y9⟩
      subst hv
      have Y5 := Y.trans y9
      refine ⟨_, _, _, _, rfl, ?_⟩
      refine Ret.at (impl_decOf_r (xs := [.bool (false && !(digs (m / 10 ^ (s - t))).isEmpty), .slice p1 n1 c1]) ⟨rfl, ⟨_, _, _, rfl, i1.ext y9⟩, trivial⟩ hml ⟨by omega, by omega⟩) ?_
      rintro v w7 ⟨vs7, hv, hp7, y7⟩
      subst hv
      obtain ⟨d0, dp, dn, dc, dz, ds, rfl, hde, hdi⟩ := open_Dec hp7 rfl
      have hde' := hde
      simp only [dnn, List.cons.injEq, D0.bool.injEq, D0.ints.injEq, D0.int.injEq, and_true] at hde'
      obtain ⟨rfl, rfl, rfl⟩ := hde'
      have Y7 := Y5.trans y7
      obtain ⟨w8, st8, hb8, ch, sz⟩ := (q1.ext Y7).storeA0 (P := P) (t := T_impl_Dec) (xs := [.bool false, .slice dp dn dc, .int .i64 (t : Int)]) (by kernel_rfl) rfl (by simp [Value.oneCell'])
      have Z : Ext w w8 := (X3.trans Y7).chg ch (by simp; omega)
      exact ⟨_, _, _, _, _, _, rfl, w8, st8, _, _, _, _, _, hb8.loadA0 (by kernel_rfl), [.bool false, .slice dp dn dc, .int .i64 (t : Int)], dnn (m / 10 ^ (s - t)) t, by rw [decide_eq_true heq], ⟨rfl, ⟨_, _, _, rfl, IntsR.store3 (q1.ext Y7) hdi ch⟩, rfl, trivial⟩, rfl, fun _ => rfl, Z⟩
theorem impl_DecLow_n {w : World} {xs : List Value} {m s : Nat} (h : Reps w xs (dnn m s)) (hm : (digs m).length <= 6) (hs : s <= 30) :
    Ret P n_impl_DecLow [.agg ⟨xs⟩] w fun v w' => ∃ vs, v = .agg ⟨vs⟩ /\ Reps w' vs (dnn (lowM m s) (lowS m s)) /\ Ext w w' := by
  have hr := h
  obtain ⟨a0, ap, an, ac, az, a2, rfl, hd, ha⟩ := open_Dec h rfl
  simp only [dnn, List.cons.injEq, D0.bool.injEq, D0.ints.injEq, D0.int.injEq, and_true] at hd
  obtain ⟨rfl, rfl, rfl⟩ := hd
  refine impl_DecLow_ret ?_
  unfold impl_DecLow
  intro r w1 hn1 r1 w2 hn2
  have e1 := hn1.r_eq; have e2 := hn2.r_eq; have z1 := hn1.size; have z2 := hn2.size
  have X := hn1.ext.trans hn2.ext
  have q0 := hn1.blk.ext hn2.ext
  refine ⟨fun i wr => ∃ t : Nat, i = t /\ t <= s /\ (∀ u < t, m % 10 ^ (s - u) ≠ 0) /\ Ext w2 wr, fun i _ => (31 - i).toNat, ⟨0, rfl, by omega, fun u hu => absurd hu (by omega), Ext.refl _⟩, ?_⟩
  intro junk wr i ⟨t, hi, ht, hmin, hx⟩
  subst hi
  refine ⟨_, (q0.ext hx).loadAt 2 rfl (by kernel_rfl) rfl, ifD (fun _ => ifD (fun _ => ?_) (fun hh => absurd (show (t : Int) <= 30 by omega) hh)) (fun hh => absurd (show (t : Int) <= (s : Int) by omega) hh)⟩
  unfold impl_DecLow_j0
  refine ⟨_, _, _, _, _, (q0.ext hx).loadA0 (by kernel_rfl), ?_⟩
  refine Ret.at (impl_DecAt_n (hr.ext (X.trans hx)) hm hs ht) ?_
  rintro v w4 ⟨vs, d, hv, hp, hcode, hd, y4⟩
  subst hv
  obtain ⟨d0, dp, dn, dc, dz, ds, rfl, hde, hdi⟩ := open_Dec hp hcode
  refine ⟨_, _, _, _, _, _, rfl, ?_⟩
  intro r5 w5 hn5
  obtain ⟨w6, st6, hb6, y6⟩ := hn5.fill (P := P) (t := T_impl_Dec) (xs := [.bool d0, .slice dp dn dc, .int .i64 ds]) (by simp [Value.oneCell']) (by kernel_rfl) rfl
  have Y := (hx.trans y4).trans y6
  refine ⟨w6, st6, fun hyes => ?_, fun hno => ?_⟩
  · have hyes := of_decide_eq_true hyes
    have hd := hd hyes
    rw [hde] at hd
    simp only [dnn, List.cons.injEq, D0.bool.injEq, D0.ints.injEq, D0.int.injEq, and_true] at hd
    obtain ⟨rfl, rfl, rfl⟩ := hd
    have hlow := lowS_eq ht hyes hmin
    obtain ⟨w7, st7, hb7, ch, sz⟩ := (hn2.blk.ext Y).storeA0 (P := P) (t := T_impl_Dec) (xs := [.bool false, .slice dp dn dc, .int .i64 (t : Int)]) (by kernel_rfl) rfl (by simp [Value.oneCell'])
    refine ⟨_, _, _, _, _, hb6.loadA0 (by kernel_rfl), w7, st7, _, _, _, _, _, hb7.loadA0 (by kernel_rfl), [.bool false, .slice dp dn dc, .int .i64 (t : Int)], rfl, ?_, (X.trans Y).chg ch (by simp; omega)⟩
    rw [lowM, hlow]
    exact ⟨rfl, ⟨_, _, _, rfl, IntsR.store3 (hn2.blk.ext Y) (hdi.ext y6) ch⟩, rfl, trivial⟩
  · have hno := of_decide_eq_false hno
    have hts : t < s := by
      rcases Nat.lt_or_ge t s with hh | hh
      · exact hh
      · exfalso
        apply hno
        rw [show s - t = 0 by omega, Nat.pow_zero, Nat.mod_one]
    refine exW ⟨by omega, by omega⟩ ⟨⟨t + 1, by omega, by omega, fun u hu => ?_, Y⟩, ?_⟩
    · rcases Nat.lt_or_ge u t with hh | hh
      · exact hmin u hh
      · rw [show u = t by omega]; exact hno
    · show (31 - ((t : Int) + 1)).toNat < (31 - (t : Int)).toNat
      omega
end Go.Proofs.YtgbknjdjbahdkaaGreatDoor
namespace Go.Proofs.YtgbknjdjbahdkaaGreatDoor
open Go Go.Proofs.YtgbknjdjbahdkaaGreatDoor.Sx
theorem agg_end {t : TypeId} {w W : World} {r : Nat} {e : TypeId} {old xs : List Value} {d : List D0} {f : List Nat} {B : Nat} (hb : Blk W r e old) (X : Ext w W) (hr : w.heap.size <= r)
    (ho : Owns W B xs d f) (ht : aggT P t xs.length = true) (hlen : xs.length = old.length) (hrB : r < B) (hwB : w.heap.size <= B) :
    ∃ W', Stores P t ⟨r, 0, none⟩ (.agg ⟨xs⟩) W W' /\ Loads P t ⟨r, 0, none⟩ (.agg ⟨xs⟩) W' /\ Owns W' w.heap.size xs d f /\ Ext w W' /\ Chg [r] W W' /\ Blk W' r e xs := by
  obtain ⟨W', st, hb', ch, _⟩ := hb.storeA0 (P := P) (t := t) (xs := xs) ht hlen ho.reps.cells1
  exact ⟨W', st, hb'.loadA0 ht, (ho.chg1 ch hrB).mono hwB, X.chg ch (by simp; exact hr), ch, hb'⟩
end Go.Proofs.YtgbknjdjbahdkaaGreatDoor
namespace Go.Proofs.YtgbknjdjbahdkaaGreatDoor
open Go Go.Proofs.YtgbknjdjbahdkaaGreatDoor.Sx
theorem own_rat0 (W : World) (B : Nat) : Owns W B [.bool false, .slice none 0 0, .slice none 0 0] rat0 [] :=
  Owns.append (Owns.bool W B false) (Owns.append (Owns.ints (zs := []) (Own.nil W B T_int 1)) (Owns.ints (zs := []) (Own.nil W B T_int 1)))
theorem own_sgn0 (W : World) (B : Nat) : Owns W B [.bool false, .slice none 0 0] (enc 0) [] := by
  rw [enc0]
  exact Owns.append (Owns.bool W B false) (Owns.ints (zs := []) (Own.nil W B T_int 1))
theorem redR_no {n : Int} {d : Nat} (h : redOk n d = false) : redR n d = rat0 := by rw [redR, h]; rfl
theorem redR_yes {n : Int} {d : Nat} (h : redOk n d = true) : redR n d = rmk (redN n d) (redD n d) := by rw [redR, if_pos h]
theorem own_rmk {W : World} {B : Nat} {b : Bool} {p q : Option Addr} {n c m c2 : Nat} {N : Int} {D : Nat} {f : List Nat} (h : Owns W B [.bool b, .slice p n c] (enc N) f) (k : Own W B T_int 1 q m c2 ((digs D).map (Value.int .i64))) : Owns W B [.bool b, .slice p n c, .slice q m c2] (rmk N D) (f ++ (q.map (·.block)).toList) := by
  rw [rmk_enc]; exact Owns.append h (Owns.ints k)
theorem impl_reduce_c {w : World} {xs : List Value} {n : Int} {d : Nat} {p : Option Addr} {m c : Nat} (h : Reps w xs (enc n)) (k : IntsR w p m c (digs d)) (hd : 0 < d) (hl : (digs n.natAbs).length <= 1000) (hm : m <= 1000) :
    Ret P n_impl_reduce [.agg ⟨xs⟩, .slice p m c] w fun v w' => ∃ vs f, v = .tuple #[.agg ⟨vs⟩, .bool (redOk n d)] /\ Owns w' w.heap.size vs (redR n d) f /\ f.Nodup /\ Ext w w' := by
  obtain ⟨a0, ap, an, ac, az, rfl, hda, ha⟩ := open_Signed h (enc_code _)
  simp only [enc, List.cons.injEq, D0.bool.injEq, D0.ints.injEq, and_true] at hda
  obtain ⟨rfl, rfl⟩ := hda
  have hla := ha.1; have hlk := k.1
  refine impl_reduce_ret ?_
  unfold impl_reduce
  intro r w1 hn1 r1 w2 hn2
  have e1 := hn1.r_eq; have e2 := hn2.r_eq; have z1 := hn1.size; have z2 := hn2.size
  have X := hn1.ext.trans hn2.ext
  have q0 := hn1.blk.ext hn2.ext
  refine ⟨_, _, _, q0.loadAt 1 rfl (by kernel_rfl) rfl, ?_⟩
  refine Ret.at (impl_natGcd_c (ha.ext X) (k.ext X) (by omega) (by omega)) ?_
  rintro v w3 ⟨p3, n3, c3, hv, og, y3⟩
  subst hv
  have G := og.ints
  have gpos : 0 < Nat.gcd n.natAbs d := gcd_pos_right hd
  have lg := G.1
  have hg3 : 0 < n3 := by have := digs_pos_len.2 (show Nat.gcd n.natAbs d ≠ 0 by omega); omega
  have hg4 : n3 <= 1000 := by have := digs_mono_len (Nat.le_of_dvd hd (Nat.gcd_dvd_right n.natAbs d)); omega
  refine ⟨_, _, _, rfl, _, _, _, (q0.ext y3).loadAt 1 rfl (by kernel_rfl) rfl, ?_⟩
  refine Ret.at (impl_natDiv_c (ha.ext (X.trans y3)) G (digs_canon _) (digs_canon _) hg3 (by omega) (by omega)) ?_
  rintro v w4 ⟨p4, n4, c4, p5, n5, c5, hv, o4, _, _, y4⟩
  subst hv
  rw [val_div] at o4
  refine ⟨_, _, _, _, _, _, rfl, ?_⟩
  refine Ret.at (impl_natDiv_c (k.ext ((X.trans y3).trans y4)) (G.ext y4) (digs_canon _) (digs_canon _) hg3 (by omega) (by omega)) ?_
  rintro v w5 ⟨p6, n6, c6, p7, n7, c7, hv, o6, _, _, y5⟩
  subst hv
  rw [val_div] at o6
  have l4 := o4.ints.1; have l6 := o6.ints.1
  have Y := y3.trans (y4.trans y5)
  have q0 := q0.ext Y; have q1 := hn2.blk.ext Y
  have ly3 := y3.le; have ly4 := y4.le; have ly5 := y5.le
  have hok : redOk n d = (decide (n4 <= 18) && decide (n6 <= 18)) := by rw [redOk, l4, l6]
  have bad : redOk n d = false -> ∃ W', Stores P T_impl_Rat ⟨r1, 0, none⟩ (.agg ⟨[.bool false, .slice none 0 0, .slice none 0 0]⟩) w5 W' /\ Loads P T_impl_Rat ⟨r1, 0, none⟩ (.agg ⟨[.bool false, .slice none 0 0, .slice none 0 0]⟩) W' /\ Owns W' w.heap.size [.bool false, .slice none 0 0, .slice none 0 0] (redR n d) [] /\ Ext w W' := fun hno => by
    obtain ⟨W', st, ld, ow, xx, _, _⟩ := agg_end (t := T_impl_Rat) q1 (X.trans Y) (by omega) (own_rat0 w5 (r1 + 1)) (by kernel_rfl) rfl (by omega) (by omega)
    exact ⟨W', st, ld, by rw [redR_no hno]; exact ow, xx⟩
  refine ⟨_, _, _, _, _, _, rfl, ifD (fun h4 => ifT ?_) (fun h4 => ifD (fun h6 => ?_) (fun h6 => ?_))⟩
  · have hno : redOk n d = false := by rw [hok, decide_eq_false (by omega)]; rfl
    obtain ⟨W', st, ld, ow, xx⟩ := bad hno
    exact ⟨W', st, _, _, _, _, _, _, _, ld, _, [], by rw [hno], ow, List.nodup_nil, xx⟩
  · have hno : redOk n d = false := by rw [hok, decide_eq_false (show ¬ n6 <= 18 by omega), Bool.and_false]
    obtain ⟨W', st, ld, ow, xx⟩ := bad hno
    exact ⟨W', st, _, _, _, _, _, _, _, ld, _, [], by rw [hno], ow, List.nodup_nil, xx⟩
  · have hyes : redOk n d = true := by rw [hok, decide_eq_true (show n4 <= 18 by omega), decide_eq_true (show n6 <= 18 by omega)]; rfl
    refine ⟨_, q0.loadAt 0 rfl (by kernel_rfl) rfl, ?_⟩
    refine Ret.at (impl_signed_c (neg := decide (n < 0)) (o4.ext y5).ints.1) ?_
    rintro v w6 ⟨hv, y6⟩
    subst hv
    have ho : Owns w6 w3.heap.size [.bool (decide (n < 0) && !(digs (n.natAbs / Nat.gcd n.natAbs d)).isEmpty), .slice p4 n4 c4] (enc (redN n d)) (p4.map (·.block)).toList := by
      rw [enc_redN]
      exact Owns.int2 ((o4.ext y5).ext y6)
    have hr := own_rmk ho ((o6.mono (show w3.heap.size <= w4.heap.size by omega)).ext y6)
    obtain ⟨W', st, ld, ow, xx, _, _⟩ := agg_end (t := T_impl_Rat) (q1.ext y6) ((X.trans Y).trans y6) (by omega) hr (by kernel_rfl) rfl (by omega) (by omega)
    refine ⟨_, _, _, _, rfl, W', st, _, _, _, _, _, _, _, ld, _, _, by rw [hyes], by rw [redR_yes hyes]; exact ow, ?_, xx⟩
    exact nodup_append (nodup_opt p4) (nodup_opt p6) (m := w4.heap.size) (fun q hq => (ho.lt q hq).2 |> fun _ => (World.ownsRow.lt o4 q (by cases p4 <;> simp_all [Value.ownBlock])).2) (fun q hq => (World.ownsRow.lt o6 q (by cases p6 <;> simp_all [Value.ownBlock])).1)
end Go.Proofs.YtgbknjdjbahdkaaGreatDoor
