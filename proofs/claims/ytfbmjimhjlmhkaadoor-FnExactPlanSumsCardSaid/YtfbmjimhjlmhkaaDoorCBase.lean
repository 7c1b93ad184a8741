/-
  Contracts: small things; lists of limbs compared.
-/
import Derived.Test.YtfbmjimhjlmhkaaDoorG
import Derived.Test.YtfbmjimhjlmhkaaDoorDS
namespace Go.Proofs.YtfbmjimhjlmhkaaDoor
open Go Go.Proofs.YtfbmjimhjlmhkaaDoor.Sx
set_option linter.unusedVariables false
set_option linter.unusedSimpArgs false

/-- the element that a loop reads -/
theorem ints_at {w : World} {p : Option Addr} {n c : Nat} {zs : List Int} (h : IntsR w p n c zs) {i : Int} (h0 : 0 ≤ i) (h1 : i < n) :
    ∃ a, p = some a ∧ Loads P T_int (a.add (i.toNat * 1)) (.int .i64 (zs.getD i.toNat 0)) w := by
  obtain ⟨a, hp, hl⟩ := h.at (P := P) (t := T_int) (k := i.toNat) (by kernel_rfl) (by omega)
  have hz : i.toNat < zs.length := by rw [h.1]; omega
  refine ⟨a, hp, ?_⟩
  rw [List.getD_eq_getElem?_getD, List.getElem?_eq_getElem hz]
  simpa using hl

/-- the first index at which p holds -/
def firstI (p : List D0 → Bool) (l : List (List D0)) : Int := match l.findIdx? p with
  | some i => i
  | none => -1
theorem firstI_some {p : List D0 → Bool} {l : List (List D0)} {j : Nat} (hj : j < l.length) (hp : p l[j] = true) (h : ∀ i (hi : i < l.length), i < j → p l[i] = false) : firstI p l = j := by
  have : l.findIdx? p = some j := by
    rw [List.findIdx?_eq_some_iff_getElem]
    exact ⟨hj, hp, fun i hi => by simp [h i (by omega) hi]⟩
  simp [firstI, this]
theorem firstI_none {p : List D0 → Bool} {l : List (List D0)} (h : ∀ i (hi : i < l.length), p l[i] = false) : firstI p l = -1 := by
  have : l.findIdx? p = none := by
    rw [List.findIdx?_eq_none_iff]
    intro x hx
    obtain ⟨i, hi, rfl⟩ := List.getElem_of_mem hx
    exact h i hi
  simp [firstI, this]
theorem firstI_spec (p : List D0 → Bool) (l : List (List D0)) : firstI p l = -1 ∧ (∀ x ∈ l, p x = false) ∨ ∃ j, ∃ h : j < l.length, firstI p l = j ∧ p l[j] = true := by
  unfold firstI
  cases h : l.findIdx? p with
  | none => exact .inl ⟨rfl, fun x hx => (List.findIdx?_eq_none_iff.1 h) x hx⟩
  | some i =>
    rw [List.findIdx?_eq_some_iff_getElem] at h
    exact .inr ⟨i, h.1, rfl, h.2.1⟩

theorem spec_l01In_c (n lo hi : Int) (w : World) : Ret P n_spec_l01In [.int .i64 n, .int .i64 lo, .int .i64 hi] w fun v w' => v = .bool (decide (lo ≤ n ∧ n ≤ hi)) ∧ w' = w := by
  refine spec_l01In_ret ?_
  unfold spec_l01In
  refine ifD (fun h => ⟨?_, rfl⟩) (fun h => ⟨?_, rfl⟩) <;> simp [h]

/-- a limb -/
def isLimb (z : Int) : Bool := decide (0 ≤ z ∧ z ≤ 999999999)
/-- a natural number as its limbs, the lowest first -/
def natOk (zs : List Int) : Bool := zs.all isLimb && decide (zs.length ≤ 50) && !(decide (zs.getLast? = some 0))

theorem getLast_getD {zs : List Int} (h : 0 < zs.length) : zs.getLast? = some (zs.getD (zs.length - 1) 0) := by
  rw [List.getLast?_eq_getElem?, List.getD_eq_getElem?_getD, List.getElem?_eq_getElem (by omega)]
  rfl
theorem all_getD {zs : List Int} (h : ∀ k < zs.length, isLimb (zs.getD k 0) = true) : zs.all isLimb = true := by
  rw [List.all_eq_true]
  intro z hz
  obtain ⟨i, hi, rfl⟩ := List.getElem_of_mem hz
  have := h i hi
  rwa [List.getD_eq_getElem?_getD, List.getElem?_eq_getElem hi] at this
theorem not_all_getD {zs : List Int} {k : Nat} (hk : k < zs.length) (h : isLimb (zs.getD k 0) = false) : zs.all isLimb = false := by
  rw [List.getD_eq_getElem?_getD, List.getElem?_eq_getElem hk] at h
  rw [List.all_eq_false]
  exact ⟨_, List.getElem_mem hk, by simpa using h⟩

theorem spec_NatOk_c {w : World} {p : Option Addr} {n c : Nat} {zs : List Int} (h : IntsR w p n c zs) : Ret P n_spec_NatOk [.slice p n c] w fun v w' => v = .bool (natOk zs) ∧ Ext w w' := by
  refine spec_NatOk_ret ?_
  unfold spec_NatOk
  have hlen := h.1; have hcap := h.2.1; have hcm := h.2.2.1
  refine ⟨fun i wr => ∃ k : Nat, i = k ∧ k ≤ n ∧ Ext w wr ∧ ∀ j < k, isLimb (zs.getD j 0) = true, fun i _ => n - i.toNat, ⟨0, rfl, by omega, Ext.refl _, fun j hj => by omega⟩, ?_⟩
  intro junk wr i ⟨k, hik, hk, hx, hall⟩
  subst hik
  refine ifD (fun hlt => ?_) (fun hge => ?_)
  · obtain ⟨a, rfl, hl⟩ := ints_at (h.ext hx) (i := (k : Int)) (by omega) (by omega)
    refine ⟨⟨by omega, by omega⟩, _, hl, ?_⟩
    refine Ret.at (spec_l01In_c _ 0 999999999 wr) ?_
    rintro v w1 ⟨hv, hw⟩
    subst hv; subst hw
    refine ⟨_, rfl, ifN (fun hb => ⟨?_, hx⟩) (fun hb => ?_)⟩
    · have : zs.all isLimb = false := not_all_getD (k := k) (by omega) (by simpa [isLimb] using hb)
      simp [natOk, this]
    · refine exW ⟨by omega, by omega⟩ ⟨⟨k + 1, by omega, by omega, hx, fun j hj => ?_⟩, by simp; omega⟩
      by_cases hjk : j < k
      · exact hall j hjk
      · obtain rfl : j = k := by omega
        simpa [isLimb] using hb
  · have hkn : k = n := by omega
    subst hkn
    have hal : zs.all isLimb = true := all_getD (fun j hj => hall j (by omega))
    refine ifD (fun hle => ifD (fun h0 => ⟨?_, hx⟩) (fun h0 => ?_)) (fun hgt => ⟨?_, hx⟩)
    · have : zs = [] := List.eq_nil_of_length_eq_zero (by omega)
      subst this; rfl
    · obtain ⟨a, rfl, hl⟩ := ints_at (h.ext hx) (i := (k : Int) - 1) (by omega) (by omega)
      refine exW ⟨by omega, by omega⟩ ⟨⟨by omega, by omega⟩, _, hl, ?_, hx⟩
      have e : ((k : Int) - 1).toNat = zs.length - 1 := by omega
      simp only [natOk, hal, getLast_getD (show 0 < zs.length by omega), e, Option.some.injEq, Bool.true_and]
      rw [show decide (zs.length ≤ 50) = true by simp; omega]
      simp
    · simp [natOk, hal, show ¬ zs.length ≤ 50 by omega]

theorem impl_NatOk_c {w : World} {p : Option Addr} {n c : Nat} {zs : List Int} (h : IntsR w p n c zs) : Ret P n_impl_NatOk [.slice p n c] w fun v w' => v = .bool (natOk zs) ∧ Ext w w' := by
  have hlen := h.1; have hcap := h.2.1; have hcm := h.2.2.1
  have J : ∀ wr, Ext w wr → zs.length ≤ 50 → zs.getLast? ≠ some 0 → impl_NatOk_j0 p n wr fun v w' => v = .bool (natOk zs) ∧ Ext w w' := by
    intro wr hx0 h50 hl0
    unfold impl_NatOk_j0
    refine ⟨fun i wr => ∃ k : Nat, i = k ∧ k ≤ n ∧ Ext w wr ∧ ∀ j < k, isLimb (zs.getD j 0) = true, fun i _ => n - i.toNat, ⟨0, rfl, by omega, hx0, fun j hj => by omega⟩, ?_⟩
    intro junk wr i ⟨k, hik, hk, hx, hall⟩
    subst hik
    refine ifD (fun hlt => ?_) (fun hge => ⟨?_, hx⟩)
    · obtain ⟨a, rfl, hl⟩ := ints_at (h.ext hx) (i := (k : Int)) (by omega) (by omega)
      have no : isLimb (zs.getD k 0) = false → Value.bool false = .bool (natOk zs) := fun hf => by
        have : zs.all isLimb = false := not_all_getD (k := k) (by omega) hf
        simp [natOk, this]
      refine ⟨⟨by omega, by omega⟩, _, hl, ifD (fun hb => ifT ⟨no (by simp [isLimb]; simp at hb; omega), hx⟩) (fun hb => ifD (fun hb2 => ⟨no (by simp [isLimb]; simp at hb2; omega), hx⟩) (fun hb2 => ?_))⟩
      refine exW ⟨by omega, by omega⟩ ⟨⟨k + 1, by omega, by omega, hx, fun j hj => ?_⟩, by simp; omega⟩
      by_cases hjk : j < k
      · exact hall j hjk
      · obtain rfl : j = k := by omega
        simp [isLimb]; simp at hb hb2; omega
    · have hal : zs.all isLimb = true := all_getD (fun j hj => hall j (by omega))
      simp [natOk, hal, h50, hl0]
  refine impl_NatOk_ret ?_
  unfold impl_NatOk
  refine ifD (fun hgt => ifT ⟨by simp [natOk, show ¬ zs.length ≤ 50 by omega], Ext.refl _⟩) (fun hle => ifD (fun hpos => ?_) (fun h0 => ifF ?_))
  · obtain ⟨a, rfl, hl⟩ := ints_at h (i := (n : Int) - 1) (by omega) (by omega)
    have e : ((n : Int) - 1).toNat = zs.length - 1 := by omega
    have hg := getLast_getD (show 0 < zs.length by omega)
    rw [← e] at hg
    refine exW ⟨by omega, by omega⟩ ⟨⟨by omega, by omega⟩, _, hl, ifD (fun hz => ⟨?_, Ext.refl _⟩) (fun hz => J w (Ext.refl _) (by omega) (by rw [hg]; simpa using hz))⟩
    simp only [natOk, hg, hz]; simp
  · have : zs = [] := List.eq_nil_of_length_eq_zero (by omega)
    exact J w (Ext.refl _) (by omega) (by rw [this]; simp)

/-! ## comparison -/

/-- from the highest limb on -/
def lexR : List Int → List Int → Int
  | x :: xs, y :: ys => if x < y then -1 else if y < x then 1 else lexR xs ys
  | _, _ => 0
def cmpL (a b : List Int) : Int := if a.length < b.length then -1 else if b.length < a.length then 1 else lexR a.reverse b.reverse

theorem lexR_same : ∀ (a : List Int), lexR a a = 0
  | [] => rfl
  | x :: xs => by simp [lexR, lexR_same xs]
theorem lexR_at : ∀ (t : List Int) {x y : Int} {s r : List Int}, x ≠ y → lexR (t ++ x :: s) (t ++ y :: r) = if x < y then -1 else 1
  | [], x, y, s, r, h => by
    simp only [List.nil_append, lexR]
    by_cases h1 : x < y
    · simp [h1]
    · simp [h1, show y < x by omega]
  | z :: t, x, y, s, r, h => by simp [lexR, lexR_at t h]
theorem lexR_zero : ∀ (a b : List Int), a.length = b.length → lexR a b = 0 → a = b
  | [], [], _, _ => rfl
  | x :: xs, y :: ys, hl, h => by
    simp only [lexR] at h
    by_cases h1 : x < y
    · simp [h1] at h
    · by_cases h2 : y < x
      · simp [h1, h2] at h
      · simp only [h1, h2, if_false] at h
        rw [lexR_zero xs ys (by simpa using hl) h, show x = y by omega]
theorem cmpL_zero {a b : List Int} : cmpL a b = 0 ↔ a = b := by
  constructor
  · intro h
    unfold cmpL at h
    split at h
    · cases h
    · split at h
      · cases h
      · have := lexR_zero _ _ (by simp; omega) h
        simpa using this
  · rintro rfl; simp [cmpL, lexR_same]
/-- where two lists of one length part, from above -/
theorem cmpL_at {a b : List Int} {i : Nat} (hl : a.length = b.length) (hi : i < a.length) (ht : ∀ j, i < j → a.getD j 0 = b.getD j 0) (hne : a.getD i 0 ≠ b.getD i 0) : cmpL a b = if a.getD i 0 < b.getD i 0 then -1 else 1 := by
  have hi2 : i < b.length := by omega
  have e1 : a = a.take i ++ a.getD i 0 :: a.drop (i + 1) := by
    rw [List.getD_eq_getElem?_getD, List.getElem?_eq_getElem hi, Option.getD_some, ← List.drop_eq_getElem_cons, List.take_append_drop]
  have e2 : b = b.take i ++ b.getD i 0 :: b.drop (i + 1) := by
    rw [List.getD_eq_getElem?_getD, List.getElem?_eq_getElem hi2, Option.getD_some, ← List.drop_eq_getElem_cons, List.take_append_drop]
  have ed : a.drop (i + 1) = b.drop (i + 1) := by
    apply List.ext_getElem (by simp; omega)
    intro k h1 h2
    have := ht (i + 1 + k) (by omega)
    simp only [List.length_drop] at h1 h2
    rw [List.getD_eq_getElem?_getD, List.getD_eq_getElem?_getD, List.getElem?_eq_getElem (by omega), List.getElem?_eq_getElem (by omega)] at this
    simpa using this
  have r1 : a.reverse = (a.drop (i + 1)).reverse ++ a.getD i 0 :: (a.take i).reverse := (congrArg List.reverse e1).trans (by simp)
  have r2 : b.reverse = (a.drop (i + 1)).reverse ++ b.getD i 0 :: (b.take i).reverse := (congrArg List.reverse e2).trans (by simp [ed])
  unfold cmpL
  rw [if_neg (by omega), if_neg (by omega), r1, r2, lexR_at _ hne]
theorem cmpL_all {a b : List Int} (hl : a.length = b.length) (ht : ∀ j, a.getD j 0 = b.getD j 0) : cmpL a b = 0 := by
  have : a = b := by
    apply List.ext_getElem hl
    intro k h1 h2
    have := ht k
    rw [List.getD_eq_getElem?_getD, List.getD_eq_getElem?_getD, List.getElem?_eq_getElem h1, List.getElem?_eq_getElem h2] at this
    simpa using this
  exact cmpL_zero.2 this
theorem getD_beyond {a : List Int} {j : Nat} (h : a.length ≤ j) : a.getD j 0 = 0 := by
  rw [List.getD_eq_getElem?_getD, List.getElem?_eq_none h]; rfl

theorem spec_l02Cmp_c {w : World} {p q : Option Addr} {n c m d : Nat} {zs ys : List Int} (h : IntsR w p n c zs) (k : IntsR w q m d ys) :
    Ret P n_spec_l02Cmp [.slice p n c, .slice q m d] w fun v w' => v = .int .i64 (cmpL zs ys) ∧ Ext w w' := by
  refine spec_l02Cmp_ret ?_
  unfold spec_l02Cmp
  have hz := h.1; have hy := k.1; have hcap := h.2.1; have hcm := h.2.2.1
  refine ifD (fun hne => ifD (fun hlt => ⟨?_, Ext.refl _⟩) (fun hge => ⟨?_, Ext.refl _⟩)) (fun heq => ?_)
  · rw [cmpL, if_pos (by omega)]
  · rw [cmpL, if_neg (by omega), if_pos (by omega)]
  · have hnm : n = m := by omega
    refine exW ⟨by omega, by omega⟩ ⟨fun i wr => -1 ≤ i ∧ i < n ∧ Ext w wr ∧ ∀ j : Nat, i < j → zs.getD j 0 = ys.getD j 0, fun i _ => (i + 1).toNat, ⟨by omega, by omega, Ext.refl _, fun j hj => by rw [getD_beyond (by omega), getD_beyond (by omega)]⟩, ?_⟩
    intro junk wr i ⟨h1, h2, hx, ht⟩
    refine ifD (fun h0 => ?_) (fun hneg => ⟨?_, hx⟩)
    · have hx1 := hx.trans (Ext.drew wr)
      have hx2 := hx1.trans (Ext.drew _)
      obtain ⟨a, hpa, _⟩ := ints_at h h0 h2
      obtain ⟨b, hqb, _⟩ := ints_at k h0 (show i < m by omega)
      subst hpa; subst hqb
      have l1 : ∀ w', Ext w w' → Loads P T_int (a.add (i.toNat * 1)) (.int .i64 (zs.getD i.toNat 0)) w' := fun w' hw => by
        obtain ⟨a', ha, hl⟩ := ints_at (h.ext hw) h0 h2
        cases ha; exact hl
      have l2 : ∀ w', Ext w w' → Loads P T_int (b.add (i.toNat * 1)) (.int .i64 (ys.getD i.toNat 0)) w' := fun w' hw => by
        obtain ⟨a', ha, hl⟩ := ints_at (k.ext hw) h0 (show i < m by omega)
        cases ha; exact hl
      have ht' : ∀ j : Nat, i.toNat < j → zs.getD j 0 = ys.getD j 0 := fun j hj => ht j (by omega)
      refine ⟨⟨by omega, by omega⟩, _, fun w' hw => l1 w' (hx1.trans hw), ⟨by omega, by omega⟩, _, fun w' hw => l2 w' (hx1.trans hw), ifD (fun hlt => ⟨?_, hx1⟩) (fun hge => ?_)⟩
      · rw [cmpL_at (by omega) (by omega) ht' (by omega), if_pos hlt]
      · refine ⟨⟨by omega, by omega⟩, _, fun w' hw => l1 w' (hx2.trans hw), ⟨by omega, by omega⟩, _, fun w' hw => l2 w' (hx2.trans hw), ifD (fun hlt => ⟨?_, hx2⟩) (fun hge2 => ?_)⟩
        · rw [cmpL_at (by omega) (by omega) ht' (by omega), if_neg (by omega)]
        · refine exW ⟨by omega, by omega⟩ ⟨⟨by omega, by omega, hx2, fun j hj => ?_⟩, by show (i - 1 + 1).toNat < (i + 1).toNat; omega⟩
          by_cases e : j = i.toNat
          · subst e; omega
          · exact ht j (by omega)
    · rw [cmpL_all (by omega) (fun j => ht j (by omega))]

theorem impl_natCmp_c {w : World} {p q : Option Addr} {n c m d : Nat} {zs ys : List Int} (h : IntsR w p n c zs) (k : IntsR w q m d ys) :
    Ret P n_impl_natCmp [.slice p n c, .slice q m d] w fun v w' => v = .int .i64 (cmpL zs ys) ∧ Ext w w' := by
  refine impl_natCmp_ret ?_
  unfold impl_natCmp
  have hz := h.1; have hy := k.1; have hcap := h.2.1; have hcm := h.2.2.1
  refine ifD (fun hne => ifD (fun hlt => ⟨?_, Ext.refl _⟩) (fun hge => ⟨?_, Ext.refl _⟩)) (fun heq => ?_)
  · rw [cmpL, if_pos (by omega)]
  · rw [cmpL, if_neg (by omega), if_pos (by omega)]
  · have hnm : n = m := by omega
    refine exW ⟨by omega, by omega⟩ ⟨fun i wr => -1 ≤ i ∧ i < n ∧ Ext w wr ∧ ∀ j : Nat, i < j → zs.getD j 0 = ys.getD j 0, fun i _ => (i + 1).toNat, ⟨by omega, by omega, Ext.refl _, fun j hj => by rw [getD_beyond (by omega), getD_beyond (by omega)]⟩, ?_⟩
    intro junk wr i ⟨h1, h2, hx, ht⟩
    refine ifD (fun h0 => ?_) (fun hneg => ⟨?_, hx⟩)
    · have hx1 := hx.trans (Ext.drew wr)
      have hx2 := hx1.trans (Ext.drew _)
      obtain ⟨a, hpa, _⟩ := ints_at h h0 h2
      obtain ⟨b, hqb, _⟩ := ints_at k h0 (show i < m by omega)
      subst hpa; subst hqb
      have l1 : ∀ w', Ext w w' → Loads P T_int (a.add (i.toNat * 1)) (.int .i64 (zs.getD i.toNat 0)) w' := fun w' hw => by
        obtain ⟨a', ha, hl⟩ := ints_at (h.ext hw) h0 h2
        cases ha; exact hl
      have l2 : ∀ w', Ext w w' → Loads P T_int (b.add (i.toNat * 1)) (.int .i64 (ys.getD i.toNat 0)) w' := fun w' hw => by
        obtain ⟨a', ha, hl⟩ := ints_at (k.ext hw) h0 (show i < m by omega)
        cases ha; exact hl
      have ht' : ∀ j : Nat, i.toNat < j → zs.getD j 0 = ys.getD j 0 := fun j hj => ht j (by omega)
      refine ⟨⟨by omega, by omega⟩, _, fun w' hw => l1 w' (hx1.trans hw), ⟨by omega, by omega⟩, _, fun w' hw => l2 w' (hx1.trans hw), ifD (fun hne => ?_) (fun heq2 => ?_)⟩
      · refine ⟨⟨by omega, by omega⟩, _, fun w' hw => l1 w' (hx2.trans hw), ⟨by omega, by omega⟩, _, fun w' hw => l2 w' (hx2.trans hw), ifD (fun hlt => ⟨?_, hx2⟩) (fun hge => ⟨?_, hx2⟩)⟩
        · rw [cmpL_at (by omega) (by omega) ht' hne, if_pos hlt]
        · rw [cmpL_at (by omega) (by omega) ht' hne, if_neg hge]
      · have heq2 : zs.getD i.toNat 0 = ys.getD i.toNat 0 := by simpa using heq2
        refine exW ⟨by omega, by omega⟩ ⟨⟨by omega, by omega, hx1, fun j hj => ?_⟩, by show (i - 1 + 1).toNat < (i + 1).toNat; omega⟩
        by_cases e : j = i.toNat
        · subst e; omega
        · exact ht j (by omega)
    · rw [cmpL_all (by omega) (fun j => ht j (by omega))]

end Go.Proofs.YtfbmjimhjlmhkaaDoor
