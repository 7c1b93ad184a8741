/-
  Parts of the proof of bookOpen_holds: CBase, CCurr, CInt, CWord, CLegsOk, CBookOk, CBookW, SxMark, SxPush, CPushF, CNum, CNat, CAdd, CSigned, CCopy, DBook, CAcctAt, CBalanceOf, CBookCopy, SxIns, CInsert, CBookOpL, Mu, CChange, CBookOpI, CBookOpM, CBookOpS, CBookOpen, SxFlS, DMark, DMarkS, DM, DMarkB.
  Conditions: none.
-/
import Derived.WalkKit
import Derived.Test.YteakifedfnnmeaaDoorProg
import Derived.Laws.CopyRow
import Derived.Laws.BytesArg
import Derived.Laws.OwnMore
import Derived.Laws.Externs
import Derived.Lib.AppendZerosOnto
import Derived.Lib.Overlaps
import Derived.Conc.MuLone
import Derived.KernelRfl
import Derived.Defers
import Derived.Test.YteakifedfnnmeaaDoorBo2

namespace Go.Proofs.YteakifedfnnmeaaDoor
open Go Go.Proofs.YteakifedfnnmeaaDoor.Sx
set_option linter.unusedVariables false
set_option linter.unusedSimpArgs false
/-- the element that a loop reads -/
theorem ints_at {w : World} {p : Option Addr} {n c : Nat} {zs : List Int} (h : IntsR w p n c zs) {i : Int} (h0 : 0 ≤ i) (h1 : i < n) :
    ∃ a, p = some a ∧ Loads P T_int (a.add (i.toNat * 1)) (.int .i64 (zs.getD i.toNat 0)) w := by
  obtain ⟨a, hp, hl⟩ := h.at (P := P) (t := T_int) (k := i.toNat) (by kernel_rfl) (by omega)
  have hz : i.toNat < zs.length := by rw [h.1]; omega
  refine ⟨a, hp, ?_⟩
  rw [List.getD_eq_getElem?_getD, List.getElem?_eq_getElem hz]
  simpa using hl
/-- the first index at which p holds -/
def firstI (p : List D0 → Bool) (l : List (List D0)) : Int := match l.findIdx? p with
  | some i => i
  | none => -1
theorem firstI_some {p : List D0 → Bool} {l : List (List D0)} {j : Nat} (hj : j < l.length) (hp : p l[j] = true) (h : ∀ i (hi : i < l.length), i < j → p l[i] = false) : firstI p l = j := by
  have : l.findIdx? p = some j := by
    rw [List.findIdx?_eq_some_iff_getElem]
    exact ⟨hj, hp, fun i hi => by simp [h i (by omega) hi]⟩
  simp [firstI, this]
theorem firstI_none {p : List D0 → Bool} {l : List (List D0)} (h : ∀ i (hi : i < l.length), p l[i] = false) : firstI p l = -1 := by
  have : l.findIdx? p = none := by
    rw [List.findIdx?_eq_none_iff]
    intro x hx
    obtain ⟨i, hi, rfl⟩ := List.getElem_of_mem hx
    exact h i hi
  simp [firstI, this]
theorem spec_l01In_c (n lo hi : Int) (w : World) : Ret P n_spec_l01In [.int .i64 n, .int .i64 lo, .int .i64 hi] w fun v w' => v = .bool (decide (lo ≤ n ∧ n ≤ hi)) ∧ w' = w := by
  refine spec_l01In_ret ?_
  unfold spec_l01In
  refine ifD (fun h => ⟨?_, rfl⟩) (fun h => ⟨?_, rfl⟩) <;> simp [h]
/-- a limb -/
def isLimb (z : Int) : Bool := decide (0 ≤ z ∧ z ≤ 999999999)
/-- a natural number as its limbs, the lowest first -/
def natOk (zs : List Int) : Bool := zs.all isLimb && decide (zs.length ≤ 50) && !(decide (zs.getLast? = some 0))
theorem getLast_getD {zs : List Int} (h : 0 < zs.length) : zs.getLast? = some (zs.getD (zs.length - 1) 0) := by
  rw [List.getLast?_eq_getElem?, List.getD_eq_getElem?_getD, List.getElem?_eq_getElem (by omega)]
  rfl
theorem all_getD {zs : List Int} (h : ∀ k < zs.length, isLimb (zs.getD k 0) = true) : zs.all isLimb = true := by
  rw [List.all_eq_true]
  intro z hz
  obtain ⟨i, hi, rfl⟩ := List.getElem_of_mem hz
  have := h i hi
  rwa [List.getD_eq_getElem?_getD, List.getElem?_eq_getElem hi] at this
theorem not_all_getD {zs : List Int} {k : Nat} (hk : k < zs.length) (h : isLimb (zs.getD k 0) = false) : zs.all isLimb = false := by
  rw [List.getD_eq_getElem?_getD, List.getElem?_eq_getElem hk] at h
  rw [List.all_eq_false]
  exact ⟨_, List.getElem_mem hk, by simpa using h⟩
theorem spec_NatOk_c {w : World} {p : Option Addr} {n c : Nat} {zs : List Int} (h : IntsR w p n c zs) : Ret P n_spec_NatOk [.slice p n c] w fun v w' => v = .bool (natOk zs) ∧ Ext w w' := by
  refine spec_NatOk_ret ?_
  unfold spec_NatOk
  have hlen := h.1; have hcap := h.2.1; have hcm := h.2.2.1
  refine ⟨fun i wr => ∃ k : Nat, i = k ∧ k ≤ n ∧ Ext w wr ∧ ∀ j < k, isLimb (zs.getD j 0) = true, fun i _ => n - i.toNat, ⟨0, rfl, by omega, Ext.refl _, fun j hj => by omega⟩, ?_⟩
  intro junk wr i ⟨k, hik, hk, hx, hall⟩
  subst hik
  refine ifD (fun hlt => ?_) (fun hge => ?_)
  · obtain ⟨a, rfl, hl⟩ := ints_at (h.ext hx) (i := (k : Int)) (by omega) (by omega)
    refine ⟨⟨by omega, by omega⟩, _, hl, ?_⟩
    refine Ret.at (spec_l01In_c _ 0 999999999 wr) ?_
    rintro v w1 ⟨hv, hw⟩
    subst hv; subst hw
    refine ⟨_, rfl, ifN (fun hb => ⟨?_, hx⟩) (fun hb => ?_)⟩
    · have : zs.all isLimb = false := not_all_getD (k := k) (by omega) (by simpa [isLimb] using hb)
      simp [natOk, this]
    · refine exW ⟨by omega, by omega⟩ ⟨⟨k + 1, by omega, by omega, hx, fun j hj => ?_⟩, by simp; omega⟩
      by_cases hjk : j < k
      · exact hall j hjk
      · obtain rfl : j = k := by omega
        simpa [isLimb] using hb
  · have hkn : k = n := by omega
    subst hkn
    have hal : zs.all isLimb = true := all_getD (fun j hj => hall j (by omega))
    refine ifD (fun hle => ifD (fun h0 => ⟨?_, hx⟩) (fun h0 => ?_)) (fun hgt => ⟨?_, hx⟩)
    · have : zs = [] := List.eq_nil_of_length_eq_zero (by omega)
      subst this; rfl
    · obtain ⟨a, rfl, hl⟩ := ints_at (h.ext hx) (i := (k : Int) - 1) (by omega) (by omega)
      refine exW ⟨by omega, by omega⟩ ⟨⟨by omega, by omega⟩, _, hl, ?_, hx⟩
      have e : ((k : Int) - 1).toNat = zs.length - 1 := by omega
      simp only [natOk, hal, getLast_getD (show 0 < zs.length by omega), e, Option.some.injEq, Bool.true_and]
      rw [show decide (zs.length ≤ 50) = true by simp; omega]
      simp
    · simp [natOk, hal, show ¬ zs.length ≤ 50 by omega]
theorem impl_NatOk_c {w : World} {p : Option Addr} {n c : Nat} {zs : List Int} (h : IntsR w p n c zs) : Ret P n_impl_NatOk [.slice p n c] w fun v w' => v = .bool (natOk zs) ∧ Ext w w' := by
  have hlen := h.1; have hcap := h.2.1; have hcm := h.2.2.1
  have J : ∀ wr, Ext w wr → zs.length ≤ 50 → zs.getLast? ≠ some 0 → impl_NatOk_j0 p n wr fun v w' => v = .bool (natOk zs) ∧ Ext w w' := by
    intro wr hx0 h50 hl0
    unfold impl_NatOk_j0
    refine ⟨fun i wr => ∃ k : Nat, i = k ∧ k ≤ n ∧ Ext w wr ∧ ∀ j < k, isLimb (zs.getD j 0) = true, fun i _ => n - i.toNat, ⟨0, rfl, by omega, hx0, fun j hj => by omega⟩, ?_⟩
    intro junk wr i ⟨k, hik, hk, hx, hall⟩
    subst hik
    refine ifD (fun hlt => ?_) (fun hge => ⟨?_, hx⟩)
    · obtain ⟨a, rfl, hl⟩ := ints_at (h.ext hx) (i := (k : Int)) (by omega) (by omega)
      have no : isLimb (zs.getD k 0) = false → Value.bool false = .bool (natOk zs) := fun hf => by
        have : zs.all isLimb = false := not_all_getD (k := k) (by omega) hf
        simp [natOk, this]
      refine ⟨⟨by omega, by omega⟩, _, hl, ifD (fun hb => ifT ⟨no (by simp [isLimb]; simp at hb; omega), hx⟩) (fun hb => ifD (fun hb2 => ⟨no (by simp [isLimb]; simp at hb2; omega), hx⟩) (fun hb2 => ?_))⟩
      refine exW ⟨by omega, by omega⟩ ⟨⟨k + 1, by omega, by omega, hx, fun j hj => ?_⟩, by simp; omega⟩
      by_cases hjk : j < k
      · exact hall j hjk
      · obtain rfl : j = k := by omega
        simp [isLimb]; simp at hb hb2; omega
    · have hal : zs.all isLimb = true := all_getD (fun j hj => hall j (by omega))
      simp [natOk, hal, h50, hl0]
  refine impl_NatOk_ret ?_
  unfold impl_NatOk
  refine ifD (fun hgt => ifT ⟨by simp [natOk, show ¬ zs.length ≤ 50 by omega], Ext.refl _⟩) (fun hle => ifD (fun hpos => ?_) (fun h0 => ifF ?_))
  · obtain ⟨a, rfl, hl⟩ := ints_at h (i := (n : Int) - 1) (by omega) (by omega)
    have e : ((n : Int) - 1).toNat = zs.length - 1 := by omega
    have hg := getLast_getD (show 0 < zs.length by omega)
    rw [← e] at hg
    refine exW ⟨by omega, by omega⟩ ⟨⟨by omega, by omega⟩, _, hl, ifD (fun hz => ⟨?_, Ext.refl _⟩) (fun hz => J w (Ext.refl _) (by omega) (by rw [hg]; simpa using hz))⟩
    simp only [natOk, hg, hz]; simp
  · have : zs = [] := List.eq_nil_of_length_eq_zero (by omega)
    exact J w (Ext.refl _) (by omega) (by rw [this]; simp)
theorem getD_beyond {a : List Int} {j : Nat} (h : a.length ≤ j) : a.getD j 0 = 0 := by
  rw [List.getD_eq_getElem?_getD, List.getElem?_eq_none h]; rfl
end Go.Proofs.YteakifedfnnmeaaDoor

namespace Go.Proofs.YteakifedfnnmeaaDoor
open Go Go.Proofs.YteakifedfnnmeaaDoor.Sx
set_option linter.unusedVariables false
set_option linter.unusedSimpArgs false
def curCells (r : CurRow) : List Value := [.string r.1, .string r.2.1, .int .i64 r.2.2.1, .int .i64 r.2.2.2]
def curZero : CurRow := (ByteArray.empty, ByteArray.empty, 0, 0)
def curFind : List CurRow → ByteArray → CurRow
  | [], _ => curZero
  | r :: l, c => if r.1 = c then r else curFind l c
def curIn (l : List CurRow) (c : ByteArray) : Bool := l.any fun r => decide (r.1 = c)
def curKnown (c : ByteArray) : Bool := curIn implTab c
/-- the program's table lies in its variable -/
def Tab (w : World) : Prop := Seg w 0 0 (implTab.flatMap curCells)
theorem Tab.ext {w w' : World} (h : Tab w) (he : Ext w w') : Tab w' := Seg.ext h he
theorem curIn_drop {l : List CurRow} {c : ByteArray} {j : Nat} (hj : j < l.length) : curIn (l.drop j) c = (decide ((l[j]'hj).1 = c) || curIn (l.drop (j + 1)) c) := by
  rw [List.drop_eq_getElem_cons hj, curIn, List.any_cons]; rfl
theorem curFind_drop {l : List CurRow} {c : ByteArray} {j : Nat} (hj : j < l.length) : curFind (l.drop j) c = if (l[j]'hj).1 = c then l[j]'hj else curFind (l.drop (j + 1)) c := by
  rw [List.drop_eq_getElem_cons hj, curFind]
theorem curFind_fst {c : ByteArray} : ∀ {l : List CurRow}, (∀ r ∈ l, r.1 ≠ ByteArray.empty) → decide ((curFind l c).1 ≠ ByteArray.empty) = curIn l c
  | [], _ => by simp [curFind, curIn, curZero]
  | r :: l, h => by
    unfold curFind
    have hr := h r (.head _)
    have ih := curFind_fst (c := c) fun r hr => h r (.tail _ hr)
    rw [curIn, List.any_cons]
    by_cases he : r.1 = c
    · rw [if_pos he, decide_eq_true hr]; simp [he]
    · rw [if_neg he, ih]; simp [he, curIn]
theorem flat_row : ∀ (l : List CurRow) (j : Nat) (hj : j < l.length), ((l.flatMap curCells).drop (j * 4)).take 4 = curCells (l[j]'hj)
  | r :: l, 0, _ => by simp [List.flatMap_cons, curCells]
  | r :: l, j + 1, hj => by
    have := flat_row l j (by simpa using hj)
    rw [List.flatMap_cons, show (j + 1) * 4 = 4 + j * 4 by omega, ← List.drop_drop, List.drop_left' (show (curCells r).length = 4 from rfl), this]
    rfl
theorem flat_length : ∀ (l : List CurRow), (l.flatMap curCells).length = l.length * 4
  | [] => rfl
  | r :: l => by rw [List.flatMap_cons, List.length_append, flat_length l, List.length_cons]; simp [curCells]; omega
theorem impl_length : implTab.length = 20 := rfl
set_option maxRecDepth 100000 in
theorem index_cur {j : Nat} (hj : j < implTab.length) {K : Value → Prop} (h : K (.agg ⟨curCells (implTab[j]'hj)⟩)) : indexS P T_20_impl_currency (.agg ⟨implTab.flatMap curCells⟩) (.int .i64 (j : Nat)) K := by
  have hu : P.underlying T_20_impl_currency = some (.array 20 T_impl_currency) := und_T_20_impl_currency
  have hc : P.cellsOf T_impl_currency = 4 := by kernel_rfl
  obtain ⟨fs, hs⟩ := und_T_impl_currency
  have hs : P.underlying T_impl_currency = some (.struct fs) := hs
  have hl := impl_length
  unfold indexS
  rw [hu]
  refine ⟨⟨by omega, by omega⟩, _, ?_, h⟩
  unfold partS
  rw [hs, hc]
  show Value.agg ⟨((implTab.flatMap curCells).drop (((j : Nat) : Int).toNat * 4)).take 4⟩ = _
  rw [Int.toNat_natCast, flat_row]
set_option maxRecDepth 100000 in
theorem impl_currencyOf_c {w : World} (ht : Tab w) (c : ByteArray) :
    Ret P n_impl_currencyOf [.string c] w fun v w' => v = .tuple #[.agg ⟨curCells (curFind implTab c)⟩, .bool (curKnown c)] ∧ Ext w w' := by
  have hlen := impl_length
  refine impl_currencyOf_ret ?_
  unfold impl_currencyOf
  intro r w1 hn1
  have e1 := hn1.r_eq; have s1 := hn1.size
  refine ⟨_, loadsA (by rw [flat_length]; kernel_rfl) (ht.ext hn1.ext), ?_⟩
  refine ⟨fun i wr => ∃ j : Nat, i = j ∧ j ≤ 20 ∧ Ext w1 wr ∧ curFind implTab c = curFind (implTab.drop j) c ∧ curKnown c = curIn (implTab.drop j) c, fun i _ => 20 - i.toNat, ⟨0, rfl, by omega, Ext.refl _, rfl, rfl⟩, ?_⟩
  intro junk wr i ⟨j, hij, hj, hx, hf, hk⟩
  subst hij
  have lx := hx.le
  refine ifD (fun hlt => ?_) (fun hge => ?_)
  · have hjl : j < implTab.length := by omega
    rw [curFind_drop hjl] at hf
    rw [curIn_drop hjl] at hk
    apply index_cur hjl
    intro r1 w2 hn2
    obtain ⟨w3, st, hb3, y3⟩ := hn2.fill (P := P) (t := T_impl_currency) (xs := curCells (implTab[j]'hjl)) (by simp [curCells, Value.oneCell']) (by kernel_rfl) rfl
    refine ⟨w3, st, _, hb3.loadAt 0 rfl (by kernel_rfl) rfl, ifD (fun heq => ?_) (fun hne => ?_)⟩
    · have hf := hf.trans (if_pos heq)
      rw [decide_eq_true heq, Bool.true_or] at hk
      obtain ⟨w4, st4, hb4, ch, sz⟩ := (hn1.blk.ext (hx.trans y3)).storeA0 (P := P) (t := T_impl_currency) (xs := curCells (implTab[j]'hjl)) (by kernel_rfl) rfl (by simp [curCells, Value.oneCell'])
      refine ⟨_, _, _, _, hb3.loadA0 (by kernel_rfl), w4, st4, _, _, _, _, hb4.loadA0 (by kernel_rfl), ?_, ((hn1.ext.trans hx).trans y3).chg ch (by simp; omega)⟩
      rw [hf, hk]; rfl
    · have hf := hf.trans (if_neg hne)
      rw [decide_eq_false hne, Bool.false_or] at hk
      refine exW ⟨by omega, by omega⟩ ⟨⟨j + 1, by omega, by omega, hx.trans y3, hf, hk⟩, ?_⟩
      show 20 - ((j : Int) + 1).toNat < 20 - (j : Int).toNat
      omega
  · rw [List.drop_of_length_le (by omega)] at hf hk
    obtain ⟨w4, st4, hb4, ch, sz⟩ := (hn1.blk.ext hx).storeA0 (P := P) (t := T_impl_currency) (xs := curCells curZero) (by kernel_rfl) rfl (by simp [curCells, Value.oneCell'])
    refine ⟨w4, st4, _, _, _, _, hb4.loadA0 (by kernel_rfl), ?_, (hn1.ext.trans hx).chg ch (by simp; omega)⟩
    rw [hf, hk]; rfl
theorem impl_CurKnown_c {w : World} (ht : Tab w) (c : ByteArray) :
    Ret P n_impl_CurKnown [.string c] w fun v w' => v = .bool (curKnown c) ∧ Ext w w' := by
  refine impl_CurKnown_ret ?_
  unfold impl_CurKnown
  refine Ret.at (impl_currencyOf_c ht c) ?_
  rintro v w1 ⟨hv, y1⟩
  subst hv
  refine ⟨_, _, _, _, _, rfl, ?_⟩
  intro r w2 hn2
  obtain ⟨w3, st, hb3, y3⟩ := hn2.fill (P := P) (t := T_impl_currency) (xs := curCells (curFind implTab c)) (by simp [curCells, Value.oneCell']) (by kernel_rfl) rfl
  exact ⟨w3, st, rfl, y1.trans y3⟩
theorem spec_nonempty : ∀ r ∈ specTab, r.1 ≠ ByteArray.empty := by
  have : (specTab.all fun r => decide (r.1 ≠ ByteArray.empty)) = true := by decide +kernel
  intro r hr
  rw [List.all_eq_true] at this
  exact of_decide_eq_true (this r hr)
theorem spec_known (c : ByteArray) : curIn specTab c = curKnown c := by
  have h1 : (specTab.all fun r => curIn implTab r.1) = true := by decide +kernel
  have h2 : (implTab.all fun r => curIn specTab r.1) = true := by decide +kernel
  rw [List.all_eq_true] at h1 h2
  have key : ∀ {a b : List CurRow}, (∀ r ∈ a, curIn b r.1 = true) → curIn a c = true → curIn b c = true := by
    intro a b h hc
    unfold curIn at hc
    rw [List.any_eq_true] at hc
    obtain ⟨r, hr, he⟩ := hc
    have he := of_decide_eq_true he
    have := h r hr
    rwa [he] at this
  unfold curKnown
  cases h3 : curIn specTab c with
  | true => exact (key h1 h3).symm
  | false =>
    cases h4 : curIn implTab c with
    | false => rfl
    | true => rw [key h2 h4] at h3; cases h3
theorem spec_length : specTab.length = 20 := rfl
theorem spec_l08Find_c {w : World} (c : ByteArray) :
    Ret P n_spec_l08Find [.string c] w fun v w' => v = .agg ⟨curCells (curFind specTab c)⟩ ∧ Ext w w' := by
  have hlen := spec_length
  refine spec_l08Find_ret ?_
  unfold spec_l08Find
  intro r w1 hn1
  have e1 := hn1.r_eq; have s1 := hn1.size
  refine Ret.at (R := fun v w' => ∃ r, v = .slice (some ⟨r, 0, none⟩) 20 20 ∧ Seg w' r 0 (specTab.flatMap curCells) ∧ Ext w1 w') ?_ ?_
  · refine spec_l08Table_ret ?_
    unfold spec_l08Table
    intro r2 w2 hn2
    exact ⟨r2, rfl, hn2.blk.seg, hn2.ext⟩
  rintro v w2 ⟨r2, hv, hseg, y2⟩
  subst hv
  refine ⟨_, _, _, rfl, ?_⟩
  refine ⟨fun i wr => ∃ j : Nat, i = j ∧ j ≤ 20 ∧ Ext w2 wr ∧ curFind specTab c = curFind (specTab.drop j) c, fun i _ => 20 - i.toNat, ⟨0, rfl, by omega, Ext.refl _, rfl⟩, ?_⟩
  intro junk wr i ⟨j, hij, hj, hx, hf⟩
  subst hij
  have lx := hx.le; have ly := y2.le
  refine ifD (fun hlt => ?_) (fun hge => ?_)
  · have hjl : j < specTab.length := by omega
    rw [curFind_drop hjl] at hf
    have hrow : Seg wr r2 (0 + j * 4) (curCells (specTab[j]'hjl)) := by
      rw [← flat_row specTab j hjl]
      exact ((hseg.ext hx).drop (j * 4)).take 4
    refine ⟨⟨by omega, by omega⟩, _, _, _, _, (by simp only [addr_add, Int.toNat_natCast]; exact loadsA (cs := curCells (specTab[j]'hjl)) (by kernel_rfl) hrow), ?_⟩
    intro r1 w3 hn3
    obtain ⟨w4, st, hb4, y4⟩ := hn3.fill (P := P) (t := T_spec_l08Row) (xs := curCells (specTab[j]'hjl)) (by simp [curCells, Value.oneCell']) (by kernel_rfl) rfl
    refine ⟨w4, st, _, hb4.loadAt 0 rfl (by kernel_rfl) rfl, ifD (fun heq => ?_) (fun hne => ?_)⟩
    · have hf := hf.trans (if_pos heq)
      obtain ⟨w5, st5, hb5, ch, sz⟩ := (hn1.blk.ext ((y2.trans hx).trans y4)).storeA0 (P := P) (t := T_spec_l08Row) (xs := curCells (specTab[j]'hjl)) (by kernel_rfl) rfl (by simp [curCells, Value.oneCell'])
      refine ⟨_, _, _, _, hb4.loadA0 (by kernel_rfl), w5, st5, _, _, _, _, hb5.loadA0 (by kernel_rfl), ?_, (((hn1.ext.trans y2).trans hx).trans y4).chg ch (by simp; omega)⟩
      rw [hf]; rfl
    · have hf := hf.trans (if_neg hne)
      refine exW ⟨by omega, by omega⟩ ⟨⟨j + 1, by omega, by omega, hx.trans y4, hf⟩, ?_⟩
      show 20 - ((j : Int) + 1).toNat < 20 - (j : Int).toNat
      omega
  · rw [List.drop_of_length_le (by omega)] at hf
    obtain ⟨w4, st4, hb4, ch, sz⟩ := (hn1.blk.ext (y2.trans hx)).storeA0 (P := P) (t := T_spec_l08Row) (xs := curCells curZero) (by kernel_rfl) rfl (by simp [curCells, Value.oneCell'])
    refine ⟨w4, st4, _, _, _, _, hb4.loadA0 (by kernel_rfl), ?_, ((hn1.ext.trans y2).trans hx).chg ch (by simp; omega)⟩
    rw [hf]; rfl
theorem spec_CurKnown_c {w : World} (c : ByteArray) :
    Ret P n_spec_CurKnown [.string c] w fun v w' => v = .bool (curKnown c) ∧ Ext w w' := by
  refine spec_CurKnown_ret ?_
  unfold spec_CurKnown
  refine Ret.at (spec_l08Find_c c) ?_
  rintro v w1 ⟨hv, y1⟩
  subst hv
  refine ⟨_, _, _, _, rfl, ?_, y1⟩
  rw [← spec_known, ← curFind_fst spec_nonempty]
  rfl
end Go.Proofs.YteakifedfnnmeaaDoor

namespace Go.Proofs.YteakifedfnnmeaaDoor
open Go Go.Proofs.YteakifedfnnmeaaDoor.Sx
set_option linter.unusedVariables false
set_option linter.unusedSimpArgs false
/-- an integer: its sign, its limbs -/
def intOk : List D0 → Bool
  | [.bool b, .ints z] => natOk z && (!b || !z.isEmpty)
  | _ => false
theorem intOk_len {b : Bool} {z : List Int} {n : Nat} (h : z.length = n) : (decide ((0 : Int) < (n : Nat))) = !z.isEmpty := by
  cases z with
  | nil => simp at h; simp [← h]
  | cons a r => simp at h; simp [← h]
theorem spec_IntOk_c {w : World} {xs : List Value} {dx : List D0} (h : Reps w xs dx) (hc : dx.map D0.code = [.bool, .ints]) :
    Ret P n_spec_IntOk [.agg ⟨xs⟩] w fun v w' => v = .bool (intOk dx) ∧ Ext w w' := by
  obtain ⟨a0, a1p, a1n, a1c, a1z, rfl, rfl, ha⟩ := open_Signed h hc
  refine spec_IntOk_ret ?_
  unfold spec_IntOk
  intro r w1 hn
  have x := hn.ext
  refine ⟨_, _, _, hn.blk.load (by kernel_rfl) rfl, ?_⟩
  refine Ret.at (spec_NatOk_c (ha.ext x)) ?_
  rintro v w2 ⟨hv, y⟩
  subst hv
  have b := hn.blk.ext y; have x := x.trans y
  refine ⟨_, rfl, fun e => ⟨_, b.load (by kernel_rfl) rfl, ifN (fun hb => ⟨?_, x⟩) (fun hb => ?_)⟩, fun e => ⟨by simp [intOk, e], x⟩⟩
  · simp [intOk, e, hb]
  · exact ⟨_, _, _, b.load (by kernel_rfl) rfl, by rw [intOk_len (b := a0) ha.1]; simp [intOk, e, hb], x⟩
theorem impl_IntOk_c {w : World} {xs : List Value} {dx : List D0} (h : Reps w xs dx) (hc : dx.map D0.code = [.bool, .ints]) :
    Ret P n_impl_IntOk [.agg ⟨xs⟩] w fun v w' => v = .bool (intOk dx) ∧ Ext w w' := by
  obtain ⟨a0, a1p, a1n, a1c, a1z, rfl, rfl, ha⟩ := open_Signed h hc
  refine impl_IntOk_ret ?_
  unfold impl_IntOk
  intro r w1 hn
  have x := hn.ext
  refine ⟨_, _, _, hn.blk.load (by kernel_rfl) rfl, ?_⟩
  refine Ret.at (impl_NatOk_c (ha.ext x)) ?_
  rintro v w2 ⟨hv, y⟩
  subst hv
  have b := hn.blk.ext y; have x := x.trans y
  refine ⟨_, rfl, fun e => ⟨_, b.load (by kernel_rfl) rfl, ifN (fun hb => ⟨?_, x⟩) (fun hb => ?_)⟩, fun e => ⟨by simp [intOk, e], x⟩⟩
  · simp [intOk, e, hb]
  · exact ⟨_, _, _, b.load (by kernel_rfl) rfl, by rw [intOk_len (b := a0) ha.1]; simp [intOk, e, hb], x⟩
end Go.Proofs.YteakifedfnnmeaaDoor

namespace Go.Proofs.YteakifedfnnmeaaDoor
open Go Go.Proofs.YteakifedfnnmeaaDoor.Sx
set_option linter.unusedVariables false
set_option linter.unusedSimpArgs false
def bAt (s : ByteArray) (i : Nat) : Int := (((s[i]?).getD 0).toNat : Nat)
def okB (lo hi low high b : Int) : Bool := !((decide (b < lo) || decide (hi < b)) && (decide (b < low) || decide (high < b)))
def isAll (s : ByteArray) (lo hi low high : Int) : Bool := decide (0 < s.size) && (List.range s.size).all fun i => okB lo hi low high (bAt s i)
def isWord (s : ByteArray) : Bool := isAll s 97 122 48 57 && decide (s.size ≤ 12) && decide (97 ≤ bAt s 0)
theorem byte_at {s : ByteArray} {i : Nat} (h : i < s.size) : ∃ b : UInt8, s[((i : Nat) : Int).toNat]? = some b ∧ bAt s i = (b.toNat : Nat) := by
  have e : s[i]? = some (s[i]'h) := getElem?_pos s i h
  exact ⟨s[i]'h, by rw [Int.toNat_natCast]; exact e, by unfold bAt; rw [e]; rfl⟩
theorem isAll_no {s : ByteArray} {lo hi low high : Int} {i : Nat} (hi' : i < s.size) (h : okB lo hi low high (bAt s i) = false) : isAll s lo hi low high = false := by
  unfold isAll
  have : ((List.range s.size).all fun i => okB lo hi low high (bAt s i)) = false := by
    rw [Bool.eq_false_iff]
    intro ha
    rw [List.all_eq_true] at ha
    have := ha i (List.mem_range.2 hi')
    rw [h] at this; cases this
  rw [this, Bool.and_false]
theorem isAll_yes {s : ByteArray} {lo hi low high : Int} (h : ∀ i < s.size, okB lo hi low high (bAt s i) = true) : isAll s lo hi low high = decide (0 < s.size) := by
  unfold isAll
  have : ((List.range s.size).all fun i => okB lo hi low high (bAt s i)) = true := by
    rw [List.all_eq_true]
    exact fun i hi => h i (List.mem_range.1 hi)
  rw [this, Bool.and_true]
theorem spec_l01All_c (s : ByteArray) (lo hi low high : Int) (hs : s.size ≤ 9000000000000000000) (w : World) :
    Ret P n_spec_l01All [.string s, .int .u8 lo, .int .u8 hi, .int .u8 low, .int .u8 high] w fun v w' => v = .bool (isAll s lo hi low high) ∧ w' = w := by
  refine spec_l01All_ret ?_
  unfold spec_l01All
  refine ⟨fun i wr => ∃ j : Nat, i = j ∧ j ≤ s.size ∧ wr = w ∧ ∀ k < j, okB lo hi low high (bAt s k) = true, fun i _ => s.size - i.toNat, ⟨0, rfl, by omega, rfl, by simp⟩, ?_⟩
  intro junk wr i ⟨j, hij, hj, hw, hall⟩
  subst hij; subst hw
  refine ifD (fun hlt => ?_) (fun hge => ⟨?_, rfl⟩)
  · have hjs : j < s.size := by omega
    obtain ⟨b, hb, e⟩ := byte_at hjs
    have bad : okB lo hi low high (b.toNat : Nat) = false → (fun (v : Value) (w' : World) => v = .bool (isAll s lo hi low high) ∧ w' = wr) (.bool false) wr := fun h => ⟨by rw [isAll_no hjs (by rw [e]; exact h)], rfl⟩
    have next : okB lo hi low high (b.toNat : Nat) = true → ∃ t17 : Int, t17 = IntKind.wrap .i64 ((j : Int) + 1) ∧ (fun (i : Int) (wr' : World) => ∃ j : Nat, i = j ∧ j ≤ s.size ∧ wr' = wr ∧ ∀ k < j, okB lo hi low high (bAt s k) = true) t17 wr ∧ (fun (i : Int) (_ : World) => s.size - i.toNat) t17 wr < (fun (i : Int) (_ : World) => s.size - i.toNat) (j : Int) wr := by
      intro h
      refine exW ⟨by omega, by omega⟩ ⟨⟨j + 1, by omega, by omega, rfl, fun k hk => ?_⟩, ?_⟩
      · rcases Nat.lt_or_ge k j with h1 | h1
        · exact hall k h1
        · have : k = j := by omega
          subst this; rw [e]; exact h
      · show s.size - ((j : Int) + 1).toNat < s.size - (j : Int).toNat
        omega
    refine ⟨by omega, b, hb, ifD (fun h1 => ifT ⟨by omega, b, hb, ifD (fun h2 => ifT (bad ?_)) (fun h2 => ⟨by omega, b, hb, ifD (fun h3 => bad ?_) (fun h3 => next ?_)⟩)⟩) (fun h1 => ⟨by omega, b, hb, ifD (fun h2 => ⟨by omega, b, hb, ifD (fun h3 => ifT (bad ?_)) (fun h3 => ⟨by omega, b, hb, ifD (fun h4 => bad ?_) (fun h4 => next ?_)⟩)⟩) (fun h2 => ifF (next ?_))⟩)⟩
    all_goals (simp [okB]; omega)
  · rw [isAll_yes (fun i hi => hall i (by omega))]
    congr 1
    simp
theorem spec_IsWord_c (s : ByteArray) (hs : s.size ≤ 9000000000000000000) (w : World) : Ret P n_spec_IsWord [.string s] w fun v w' => v = .bool (isWord s) ∧ w' = w := by
  refine spec_IsWord_ret ?_
  unfold spec_IsWord
  refine Ret.at (spec_l01All_c s 97 122 48 57 hs w) ?_
  rintro v w1 ⟨hv, hw⟩
  subst hv; subst hw
  refine ⟨_, rfl, fun h1 => ifD (fun h2 => ?_) (fun h2 => ⟨?_, rfl⟩), fun h1 => ifF ⟨?_, rfl⟩⟩
  · have h0 : 0 < s.size := by
      unfold isAll at h1
      simp only [Bool.and_eq_true, decide_eq_true_eq] at h1
      exact h1.1
    obtain ⟨b, hb, e⟩ := byte_at h0
    refine ⟨by omega, b, hb, ?_, rfl⟩
    unfold isWord
    rw [h1, e, decide_eq_true (show s.size ≤ 12 by omega)]
    simp
  · unfold isWord
    rw [decide_eq_false (show ¬ s.size ≤ 12 by omega)]
    simp
  · unfold isWord
    rw [h1]
    simp
theorem impl_isLower_c (c : Int) (w : World) : Ret P n_impl_isLower [.int .u8 c] w fun v w' => v = .bool (decide (97 ≤ c ∧ c ≤ 122)) ∧ w' = w := by
  refine impl_isLower_ret ?_
  unfold impl_isLower
  refine ifD (fun h => ⟨?_, rfl⟩) (fun h => ⟨?_, rfl⟩) <;> simp [h]
theorem impl_isDigit_c (c : Int) (w : World) : Ret P n_impl_isDigit [.int .u8 c] w fun v w' => v = .bool (decide (48 ≤ c ∧ c ≤ 57)) ∧ w' = w := by
  refine impl_isDigit_ret ?_
  unfold impl_isDigit
  refine ifD (fun h => ⟨?_, rfl⟩) (fun h => ⟨?_, rfl⟩) <;> simp [h]
theorem impl_IsWord_c (s : ByteArray) (hs : s.size ≤ 9000000000000000000) (w : World) : Ret P n_impl_IsWord [.string s] w fun v w' => v = .bool (isWord s) ∧ w' = w := by
  refine impl_IsWord_ret ?_
  unfold impl_IsWord
  refine ifD (fun h => ifT (ifT ⟨?_, rfl⟩)) (fun h0 => ifD (fun h => ifT ⟨?_, rfl⟩) (fun h1 => ?_))
  · unfold isWord isAll
    rw [decide_eq_false (show ¬ 0 < s.size by omega)]
    simp
  · unfold isWord
    rw [decide_eq_false (show ¬ s.size ≤ 12 by omega)]
    simp
  have hp : 0 < s.size := by omega
  obtain ⟨b, hb, e⟩ := byte_at hp
  refine ⟨by omega, b, hb, ?_⟩
  refine Ret.at (impl_isLower_c _ w) ?_
  rintro v w1 ⟨hv, hw⟩
  subst hv; subst hw
  refine ⟨_, rfl, ifN (fun hno => ⟨?_, rfl⟩) (fun hlow => ?_)⟩
  · have hno := of_decide_eq_false hno
    by_cases h97 : 97 ≤ bAt s 0
    · unfold isWord
      rw [isAll_no hp (by rw [e] at h97 ⊢; simp [okB]; omega)]
      simp
    · unfold isWord
      rw [decide_eq_false h97]
      simp
  have hlow := of_decide_eq_true hlow
  unfold impl_IsWord_j0
  refine ⟨fun i wr => ∃ j : Nat, i = j ∧ 1 ≤ j ∧ j ≤ s.size ∧ wr = w1 ∧ ∀ k < j, okB 97 122 48 57 (bAt s k) = true, fun i _ => s.size - i.toNat, ⟨1, rfl, by omega, by omega, rfl, fun k hk => ?_⟩, ?_⟩
  · have : k = 0 := by omega
    subst this
    rw [e]; simp [okB]; omega
  intro junk wr i ⟨j, hij, hj1, hj, hw, hall⟩
  subst hij; subst hw
  refine ifD (fun hlt => ?_) (fun hge => ⟨?_, rfl⟩)
  · have hjs : j < s.size := by omega
    obtain ⟨b, hb, e⟩ := byte_at hjs
    have next : okB 97 122 48 57 (b.toNat : Nat) = true → ∃ t17 : Int, t17 = IntKind.wrap .i64 ((j : Int) + 1) ∧ (fun (i : Int) (wr' : World) => ∃ j : Nat, i = j ∧ 1 ≤ j ∧ j ≤ s.size ∧ wr' = wr ∧ ∀ k < j, okB 97 122 48 57 (bAt s k) = true) t17 wr ∧ (fun (i : Int) (_ : World) => s.size - i.toNat) t17 wr < (fun (i : Int) (_ : World) => s.size - i.toNat) (j : Int) wr := by
      intro h
      refine exW ⟨by omega, by omega⟩ ⟨⟨j + 1, by omega, by omega, by omega, rfl, fun k hk => ?_⟩, ?_⟩
      · rcases Nat.lt_or_ge k j with h1 | h1
        · exact hall k h1
        · have : k = j := by omega
          subst this; rw [e]; exact h
      · show s.size - ((j : Int) + 1).toNat < s.size - (j : Int).toNat
        omega
    refine ⟨by omega, b, hb, ?_⟩
    refine Ret.at (impl_isLower_c _ wr) ?_
    rintro v w1 ⟨hv, hw⟩
    subst hv; subst hw
    refine ⟨_, rfl, ifN (fun hno => ⟨by omega, b, hb, ?_⟩) (fun hyes => ifF (next ?_))⟩
    · have hno := of_decide_eq_false hno
      refine Ret.at (impl_isDigit_c _ _) ?_
      rintro v w2 ⟨hv, hw⟩
      subst hv; subst hw
      refine ⟨_, rfl, ifN (fun hno2 => ⟨?_, rfl⟩) (fun hyes2 => next ?_)⟩
      · have hno2 := of_decide_eq_false hno2
        unfold isWord
        rw [isAll_no hjs (by rw [e]; simp [okB]; omega)]
        simp
      · have hyes2 := of_decide_eq_true hyes2
        simp [okB]; omega
    · have hyes := of_decide_eq_true hyes
      simp [okB]; omega
  · unfold isWord
    rw [isAll_yes (fun i hi => hall i (by omega)), decide_eq_true (show s.size ≤ 12 by omega), decide_eq_true hp, e, decide_eq_true (show (97 : Int) ≤ (b.toNat : Nat) by omega)]
    rfl
def moneyOk : List D0 → Bool
  | [.str c, .bool b, .ints z] => curKnown c && intOk [.bool b, .ints z] && decide (z.length ≤ 4)
  | _ => false
theorem spec_MoneyOk_c {w : World} {xs : List Value} {dx : List D0} (h : Reps w xs dx) (hc : dx.map D0.code = [.str, .bool, .ints]) :
    Ret P n_spec_MoneyOk [.agg ⟨xs⟩] w fun v w' => v = .bool (moneyOk dx) ∧ Ext w w' := by
  obtain ⟨t0, a0, a1p, a1n, a1c, a1z, rfl, rfl, ha⟩ := open_Money h hc
  have hl := ha.1
  refine spec_MoneyOk_ret ?_
  unfold spec_MoneyOk
  intro r w1 hn1
  refine ⟨_, hn1.blk.loadAt 0 rfl (by kernel_rfl) rfl, ?_⟩
  refine Ret.at (spec_CurKnown_c t0) ?_
  rintro v w2 ⟨hv, y2⟩
  subst hv
  have X := hn1.ext.trans y2
  have b := hn1.blk.ext y2
  refine ⟨_, rfl, fun e1 => ?_, fun e1 => ifF ⟨by simp only [moneyOk, e1, Bool.false_and], X⟩⟩
  refine ⟨_, _, _, _, b.loadAAt 1 [.bool a0, .slice a1p a1n a1c] rfl (by kernel_rfl) rfl, ?_⟩
  have hs : Reps w2 [.bool a0, .slice a1p a1n a1c] [.bool a0, .ints a1z] := ⟨rfl, ⟨_, _, _, rfl, ha.ext X⟩, trivial⟩
  refine Ret.at (spec_IntOk_c hs rfl) ?_
  rintro v w3 ⟨hv, y3⟩
  subst hv
  refine ⟨_, rfl, fun e2 => ⟨_, _, _, (b.ext y3).loadAt 2 rfl (by kernel_rfl) rfl, ?_, X.trans y3⟩, fun e2 => ⟨by simp only [moneyOk, e2, Bool.and_false, Bool.false_and], X.trans y3⟩⟩
  simp only [moneyOk, e1, e2, Bool.true_and]
  congr 1
  simp; omega
theorem impl_MoneyOk_c {w : World} (ht : Tab w) {xs : List Value} {dx : List D0} (h : Reps w xs dx) (hc : dx.map D0.code = [.str, .bool, .ints]) :
    Ret P n_impl_MoneyOk [.agg ⟨xs⟩] w fun v w' => v = .bool (moneyOk dx) ∧ Ext w w' := by
  obtain ⟨t0, a0, a1p, a1n, a1c, a1z, rfl, rfl, ha⟩ := open_Money h hc
  have hl := ha.1
  refine impl_MoneyOk_ret ?_
  unfold impl_MoneyOk
  intro r w1 hn1
  refine ⟨_, hn1.blk.loadAt 0 rfl (by kernel_rfl) rfl, ?_⟩
  refine Ret.at (impl_CurKnown_c (ht.ext hn1.ext) t0) ?_
  rintro v w2 ⟨hv, y2⟩
  subst hv
  have X := hn1.ext.trans y2
  have b := hn1.blk.ext y2
  refine ⟨_, rfl, fun e1 => ?_, fun e1 => ifF ⟨by simp only [moneyOk, e1, Bool.false_and], X⟩⟩
  refine ⟨_, _, _, _, b.loadAAt 1 [.bool a0, .slice a1p a1n a1c] rfl (by kernel_rfl) rfl, ?_⟩
  have hs : Reps w2 [.bool a0, .slice a1p a1n a1c] [.bool a0, .ints a1z] := ⟨rfl, ⟨_, _, _, rfl, ha.ext X⟩, trivial⟩
  refine Ret.at (impl_IntOk_c hs rfl) ?_
  rintro v w3 ⟨hv, y3⟩
  subst hv
  refine ⟨_, rfl, fun e2 => ⟨_, _, _, (b.ext y3).loadAt 2 rfl (by kernel_rfl) rfl, ?_, X.trans y3⟩, fun e2 => ⟨by simp only [moneyOk, e2, Bool.and_false, Bool.false_and], X.trans y3⟩⟩
  simp only [moneyOk, e1, e2, Bool.true_and]
  congr 1
  simp; omega
end Go.Proofs.YteakifedfnnmeaaDoor

namespace Go.Proofs.YteakifedfnnmeaaDoor
open Go Go.Proofs.YteakifedfnnmeaaDoor.Sx
set_option linter.unusedVariables false
set_option linter.unusedSimpArgs false
def legOk : List D0 → Bool
  | .str s :: m => isWord s && moneyOk m
  | _ => false
end Go.Proofs.YteakifedfnnmeaaDoor

namespace Go.Proofs.YteakifedfnnmeaaDoor
open Go Go.Proofs.YteakifedfnnmeaaDoor.Sx
set_option linter.unusedVariables false
set_option linter.unusedSimpArgs false
def bName : List D0 → ByteArray
  | .str s :: _ => s
  | _ => ByteArray.empty
def bookRowOk (l : List (List D0)) (i : Nat) : Bool := legOk (l.getD i []) && !(decide (0 < i) && !(Op.bytesLess (bName (l.getD (i - 1) [])).toList (bName (l.getD i [])).toList))
def bookOk (l : List (List D0)) : Bool := decide (l.length ≤ 12) && (List.range l.length).all (bookRowOk l)
theorem range_no {f : Nat → Bool} {n i : Nat} (hi : i < n) (h : f i = false) : (List.range n).all f = false := by
  rw [Bool.eq_false_iff]
  intro ha
  rw [List.all_eq_true] at ha
  have := ha i (List.mem_range.2 hi)
  rw [h] at this; cases this
theorem range_yes {f : Nat → Bool} {n : Nat} (h : ∀ i < n, f i = true) : (List.range n).all f = true := by
  rw [List.all_eq_true]
  exact fun i hi => h i (List.mem_range.1 hi)
theorem getD_row {l : List (List D0)} {i : Nat} (h : i < l.length) : l.getD i [] = l[i]'h := by
  rw [List.getD_eq_getElem?_getD, List.getElem?_eq_getElem h]; rfl
theorem spec_BookOk_c {w : World} {p : Option Addr} {n c : Nat} {l : List (List D0)} (h : RowsR w 4 p n c l) (hc : ∀ x ∈ l, x.map D0.code = [.str, .str, .bool, .ints]) (hn : n ≤ 1048576) (hb : ∀ x ∈ l, bulks x ≤ 1048576) :
    Ret P n_spec_BookOk [.agg ⟨[.slice p n c]⟩] w fun v w' => v = .bool (bookOk l) ∧ Ext w w' := by
  have hz := h.1; have hcap := h.2.1; have hcm := h.2.2.1
  refine spec_BookOk_ret ?_
  unfold spec_BookOk
  intro r w1 hn1
  have hrow := h.ext hn1.ext
  refine ⟨_, _, _, hn1.blk.loadAt 0 rfl (by kernel_rfl) rfl, ?_⟩
  refine ⟨fun i wr => ∃ j : Nat, i = j ∧ j ≤ n ∧ Ext w1 wr ∧ ∀ i < j, bookRowOk l i = true, fun i _ => n - i.toNat, ⟨0, rfl, by omega, Ext.refl _, fun i h => absurd h (by omega)⟩, ?_⟩
  intro junk wr i ⟨j, hij, hj, hx, hall⟩
  subst hij
  refine ifD (fun hlt => ?_) (fun hge => ?_)
  · have hjn : j < n := by omega
    have hjl : j < l.length := by omega
    obtain ⟨b, off, hpp, hs⟩ := (hrow.ext hx).2.2.2 (by omega)
    subst hpp
    obtain ⟨cs, hk, hr, hsg⟩ := hs j _ (List.getElem?_eq_getElem hjl)
    have hrr := hr; have hcode := hc _ (List.getElem_mem hjl); have hbj := hb _ (List.getElem_mem hjl)
    obtain ⟨a0, a1, a2, a3p, a3n, a3c, a3z, rfl, hd, ha⟩ := open_Acct hr hcode
    have hgd : l.getD j [] = [.str a0, .str a1, .bool a2, .ints a3z] := by rw [getD_row hjl, hd]
    rw [hd] at hbj
    simp only [bulks, D0.bulk, List.map_cons, List.map_nil, List.sum_cons, List.sum_nil] at hbj
    have first : ∀ i (hi : i < l.length), ∀ W, Ext wr W → Loads P T_string (((⟨b, off, none⟩ : Addr).add (i * 4)).add 0) (.string (bName (l.getD i []))) W := by
      intro i hi W hW
      obtain ⟨cs, hk, hr, hsg⟩ := hs i _ (List.getElem?_eq_getElem hi)
      obtain ⟨a0, a1, a2, a3p, a3n, a3c, a3z, rfl, hd, _⟩ := open_Acct hr (hc _ (List.getElem_mem hi))
      rw [getD_row hi, hd]
      exact (hsg.ext hW).loadAt 0 (by simp [Addr.add]) (by kernel_rfl) rfl
    have bad : bookRowOk l j = false → bookOk l = false := fun h => by
      unfold bookOk
      rw [range_no hjl h, Bool.and_false]
    have hl : Loads P T_impl_Acct ((⟨b, off, none⟩ : Addr).add (j * 4)) (.agg ⟨[.string a0, .string a1, .bool a2, .slice a3p a3n a3c]⟩) wr := by
      rw [addr_add]; exact loadsA (by kernel_rfl) hsg
    refine ⟨⟨by omega, by omega⟩, _, _, _, _, _, _, by simpa using hl, ?_⟩
    intro r1 w2 hn2
    obtain ⟨w3, st, hb3, y3⟩ := hn2.fill (P := P) (t := T_impl_Acct) hrr.cells1 (by kernel_rfl) rfl
    have D := Ext.drew w3
    have y4 := y3.trans D
    have hb4 := hb3.ext D
    have bk := ((hn1.blk.ext hx).ext y4)
    refine ⟨w3, st, _, fun W hW => (hb4.ext hW).loadAt 0 rfl (by kernel_rfl) rfl, ?_⟩
    refine Ret.at (spec_IsWord_c a0 (by omega) _) ?_
    rintro v w4 ⟨hv, hw⟩
    subst hv; subst hw
    refine ⟨_, rfl, ifN (fun hno => ifT (ifT ⟨by rw [bad (by simp only [bookRowOk, hgd, legOk, hno, Bool.false_and])], (hn1.ext.trans hx).trans y4⟩)) (fun h1 => ?_)⟩
    refine ⟨_, _, _, _, _, fun W hW => (hb4.ext hW).loadAAt 1 [.string a1, .bool a2, .slice a3p a3n a3c] rfl (by kernel_rfl) rfl, ?_⟩
    have hm : Reps w3.drew [.string a1, .bool a2, .slice a3p a3n a3c] [.str a1, .bool a2, .ints a3z] := ⟨rfl, rfl, ⟨_, _, _, rfl, ha.ext y4⟩, trivial⟩
    refine Ret.at (spec_MoneyOk_c  hm rfl) ?_
    rintro v w5 ⟨hv, y5⟩
    subst hv
    have X5 := (hx.trans y4).trans y5
    have bk := bk.ext y5
    have hb5 := hb4.ext y5
    refine ⟨_, rfl, ifN (fun hno => ifT ⟨by rw [bad (by simp only [bookRowOk, hgd, legOk, hno, Bool.and_false, Bool.false_and])], hn1.ext.trans X5⟩) (fun h2 => ?_)⟩
    have next : bookRowOk l j = true → ∃ t48 : Int, t48 = IntKind.wrap .i64 ((j : Int) + 1) ∧ (fun (i : Int) (wr : World) => ∃ j : Nat, i = j ∧ j ≤ n ∧ Ext w1 wr ∧ ∀ i < j, bookRowOk l i = true) t48 w5 ∧ (fun (i : Int) (_ : World) => n - i.toNat) t48 w5 < (fun (i : Int) (_ : World) => n - i.toNat) (j : Int) wr := by
      intro hs
      refine exW ⟨by omega, by omega⟩ ⟨⟨j + 1, by omega, by omega, X5, fun i hi => ?_⟩, ?_⟩
      · rcases Nat.lt_or_ge i j with h | h
        · exact hall i h
        · have : i = j := by omega
          subst this; exact hs
      · show n - ((j : Int) + 1).toNat < n - (j : Int).toNat
        omega
    have hleg : legOk (l.getD j []) = true := by rw [hgd]; simp only [legOk, h1, h2, Bool.and_self]
    refine ifD (fun hpos => ?_) (fun hzero => ifF (next ?_))
    · refine ⟨_, _, _, fun W hW => (bk.ext hW).loadAt 0 rfl (by kernel_rfl) rfl, exW ⟨by omega, by omega⟩ ⟨⟨by omega, by omega⟩, bName (l.getD (j - 1) []), fun W hW => ?_, a0, fun W hW => (hb5.ext hW).loadAt 0 rfl (by kernel_rfl) rfl, fun hle => ⟨?_, hn1.ext.trans X5⟩, fun hgt => next ?_⟩⟩
      · have := first (j - 1) (by omega) W ((y4.trans y5).trans hW)
        rw [show ((j : Int) - 1).toNat = j - 1 by omega]
        exact this
      · rw [bad]
        unfold bookRowOk
        rw [hleg, hgd, decide_eq_true (show 0 < j by omega)]
        rw [show (!(Op.bytesLess (bName (l.getD (j - 1) [])).toList (bName [.str a0, .str a1, .bool a2, .ints a3z]).toList)) = true from hle]
        rfl
      · unfold bookRowOk
        rw [hleg, hgd, decide_eq_true (show 0 < j by omega)]
        rw [show (!(Op.bytesLess (bName (l.getD (j - 1) [])).toList (bName [.str a0, .str a1, .bool a2, .ints a3z]).toList)) = false from hgt]
        rfl
    · unfold bookRowOk
      rw [hleg, decide_eq_false (show ¬ 0 < j by omega)]
      rfl
  · refine ⟨_, _, _, (hn1.blk.ext hx).loadAt 0 rfl (by kernel_rfl) rfl, ?_, hn1.ext.trans hx⟩
    unfold bookOk
    rw [range_yes fun i hi => hall i (by omega), Bool.and_true]
    exact congrArg Value.bool (decide_eq_decide.2 (by omega))
theorem impl_BookOk_c {w : World} {p : Option Addr} {n c : Nat} {l : List (List D0)} (h : RowsR w 4 p n c l) (hc : ∀ x ∈ l, x.map D0.code = [.str, .str, .bool, .ints]) (hn : n ≤ 1048576) (hb : ∀ x ∈ l, bulks x ≤ 1048576) (ht : Tab w) :
    Ret P n_impl_BookOk [.agg ⟨[.slice p n c]⟩] w fun v w' => v = .bool (bookOk l) ∧ Ext w w' := by
  have hz := h.1; have hcap := h.2.1; have hcm := h.2.2.1
  refine impl_BookOk_ret ?_
  unfold impl_BookOk
  intro r w1 hn1
  have hrow := h.ext hn1.ext
  refine ⟨_, _, _, hn1.blk.loadAt 0 rfl (by kernel_rfl) rfl, ifD (fun h12 => ⟨?_, hn1.ext⟩) (fun h12 => ?_)⟩
  · unfold bookOk
    rw [decide_eq_false (show ¬ l.length ≤ 12 by omega), Bool.false_and]
  refine ⟨_, _, _, hn1.blk.loadAt 0 rfl (by kernel_rfl) rfl, ?_⟩
  refine ⟨fun i wr => ∃ j : Nat, i = j ∧ j ≤ n ∧ Ext w1 wr ∧ ∀ i < j, bookRowOk l i = true, fun i _ => n - i.toNat, ⟨0, rfl, by omega, Ext.refl _, fun i h => absurd h (by omega)⟩, ?_⟩
  intro junk wr i ⟨j, hij, hj, hx, hall⟩
  subst hij
  refine ifD (fun hlt => ?_) (fun hge => ?_)
  · have hjn : j < n := by omega
    have hjl : j < l.length := by omega
    obtain ⟨b, off, hpp, hs⟩ := (hrow.ext hx).2.2.2 (by omega)
    subst hpp
    obtain ⟨cs, hk, hr, hsg⟩ := hs j _ (List.getElem?_eq_getElem hjl)
    have hrr := hr; have hcode := hc _ (List.getElem_mem hjl); have hbj := hb _ (List.getElem_mem hjl)
    obtain ⟨a0, a1, a2, a3p, a3n, a3c, a3z, rfl, hd, ha⟩ := open_Acct hr hcode
    have hgd : l.getD j [] = [.str a0, .str a1, .bool a2, .ints a3z] := by rw [getD_row hjl, hd]
    rw [hd] at hbj
    simp only [bulks, D0.bulk, List.map_cons, List.map_nil, List.sum_cons, List.sum_nil] at hbj
    have first : ∀ i (hi : i < l.length), ∀ W, Ext wr W → Loads P T_string (((⟨b, off, none⟩ : Addr).add (i * 4)).add 0) (.string (bName (l.getD i []))) W := by
      intro i hi W hW
      obtain ⟨cs, hk, hr, hsg⟩ := hs i _ (List.getElem?_eq_getElem hi)
      obtain ⟨a0, a1, a2, a3p, a3n, a3c, a3z, rfl, hd, _⟩ := open_Acct hr (hc _ (List.getElem_mem hi))
      rw [getD_row hi, hd]
      exact (hsg.ext hW).loadAt 0 (by simp [Addr.add]) (by kernel_rfl) rfl
    have bad : bookRowOk l j = false → bookOk l = false := fun h => by
      unfold bookOk
      rw [range_no hjl h, Bool.and_false]
    have hl : Loads P T_impl_Acct ((⟨b, off, none⟩ : Addr).add (j * 4)) (.agg ⟨[.string a0, .string a1, .bool a2, .slice a3p a3n a3c]⟩) wr := by
      rw [addr_add]; exact loadsA (by kernel_rfl) hsg
    refine ⟨⟨by omega, by omega⟩, _, _, _, _, _, _, by simpa using hl, ?_⟩
    intro r1 w2 hn2
    obtain ⟨w3, st, hb3, y3⟩ := hn2.fill (P := P) (t := T_impl_Acct) hrr.cells1 (by kernel_rfl) rfl
    have D := Ext.drew w3
    have y4 := y3.trans D
    have hb4 := hb3.ext D
    have bk := ((hn1.blk.ext hx).ext y4)
    refine ⟨w3, st, _, fun W hW => (hb4.ext hW).loadAt 0 rfl (by kernel_rfl) rfl, ?_⟩
    refine Ret.at (impl_IsWord_c a0 (by omega) _) ?_
    rintro v w4 ⟨hv, hw⟩
    subst hv; subst hw
    refine ⟨_, rfl, ifN (fun hno => ifT (ifT ⟨by rw [bad (by simp only [bookRowOk, hgd, legOk, hno, Bool.false_and])], (hn1.ext.trans hx).trans y4⟩)) (fun h1 => ?_)⟩
    refine ⟨_, _, _, _, _, fun W hW => (hb4.ext hW).loadAAt 1 [.string a1, .bool a2, .slice a3p a3n a3c] rfl (by kernel_rfl) rfl, ?_⟩
    have hm : Reps w3.drew [.string a1, .bool a2, .slice a3p a3n a3c] [.str a1, .bool a2, .ints a3z] := ⟨rfl, rfl, ⟨_, _, _, rfl, ha.ext y4⟩, trivial⟩
    refine Ret.at (impl_MoneyOk_c (ht.ext ((hn1.ext.trans hx).trans y4)) hm rfl) ?_
    rintro v w5 ⟨hv, y5⟩
    subst hv
    have X5 := (hx.trans y4).trans y5
    have bk := bk.ext y5
    have hb5 := hb4.ext y5
    refine ⟨_, rfl, ifN (fun hno => ifT ⟨by rw [bad (by simp only [bookRowOk, hgd, legOk, hno, Bool.and_false, Bool.false_and])], hn1.ext.trans X5⟩) (fun h2 => ?_)⟩
    have next : bookRowOk l j = true → ∃ t48 : Int, t48 = IntKind.wrap .i64 ((j : Int) + 1) ∧ (fun (i : Int) (wr : World) => ∃ j : Nat, i = j ∧ j ≤ n ∧ Ext w1 wr ∧ ∀ i < j, bookRowOk l i = true) t48 w5 ∧ (fun (i : Int) (_ : World) => n - i.toNat) t48 w5 < (fun (i : Int) (_ : World) => n - i.toNat) (j : Int) wr := by
      intro hs
      refine exW ⟨by omega, by omega⟩ ⟨⟨j + 1, by omega, by omega, X5, fun i hi => ?_⟩, ?_⟩
      · rcases Nat.lt_or_ge i j with h | h
        · exact hall i h
        · have : i = j := by omega
          subst this; exact hs
      · show n - ((j : Int) + 1).toNat < n - (j : Int).toNat
        omega
    have hleg : legOk (l.getD j []) = true := by rw [hgd]; simp only [legOk, h1, h2, Bool.and_self]
    refine ifD (fun hpos => ?_) (fun hzero => ifF (next ?_))
    · refine ⟨_, _, _, fun W hW => (bk.ext hW).loadAt 0 rfl (by kernel_rfl) rfl, exW ⟨by omega, by omega⟩ ⟨⟨by omega, by omega⟩, bName (l.getD (j - 1) []), fun W hW => ?_, a0, fun W hW => (hb5.ext hW).loadAt 0 rfl (by kernel_rfl) rfl, fun hle => ⟨?_, hn1.ext.trans X5⟩, fun hgt => next ?_⟩⟩
      · have := first (j - 1) (by omega) W ((y4.trans y5).trans hW)
        rw [show ((j : Int) - 1).toNat = j - 1 by omega]
        exact this
      · rw [bad]
        unfold bookRowOk
        rw [hleg, hgd, decide_eq_true (show 0 < j by omega)]
        rw [show (!(Op.bytesLess (bName (l.getD (j - 1) [])).toList (bName [.str a0, .str a1, .bool a2, .ints a3z]).toList)) = true from hle]
        rfl
      · unfold bookRowOk
        rw [hleg, hgd, decide_eq_true (show 0 < j by omega)]
        rw [show (!(Op.bytesLess (bName (l.getD (j - 1) [])).toList (bName [.str a0, .str a1, .bool a2, .ints a3z]).toList)) = false from hgt]
        rfl
    · unfold bookRowOk
      rw [hleg, decide_eq_false (show ¬ 0 < j by omega)]
      rfl
  · refine ⟨?_, hn1.ext.trans hx⟩
    unfold bookOk
    rw [range_yes fun i hi => hall i (by omega), decide_eq_true (show l.length ≤ 12 by omega)]
    rfl
end Go.Proofs.YteakifedfnnmeaaDoor

namespace Go.Proofs.YteakifedfnnmeaaDoor
open Go Go.Proofs.YteakifedfnnmeaaDoor.Sx
set_option linter.unusedVariables false
set_option linter.unusedSimpArgs false
theorem spec_BookOk_w {w : World} {p : Option Addr} {n c : Nat} {l : List (List D0)} (h : RowsR w 4 p n c l) (hc : ∀ x ∈ l, x.map D0.code = [.str, .str, .bool, .ints]) (hn : n ≤ 1048576) (hb : ∀ x ∈ l, bulks x ≤ 4194304) :
    Ret P n_spec_BookOk [.agg ⟨[.slice p n c]⟩] w fun v w' => v = .bool (bookOk l) ∧ Ext w w' := by
  have hz := h.1; have hcap := h.2.1; have hcm := h.2.2.1
  refine spec_BookOk_ret ?_
  unfold spec_BookOk
  intro r w1 hn1
  have hrow := h.ext hn1.ext
  refine ⟨_, _, _, hn1.blk.loadAt 0 rfl (by kernel_rfl) rfl, ?_⟩
  refine ⟨fun i wr => ∃ j : Nat, i = j ∧ j ≤ n ∧ Ext w1 wr ∧ ∀ i < j, bookRowOk l i = true, fun i _ => n - i.toNat, ⟨0, rfl, by omega, Ext.refl _, fun i h => absurd h (by omega)⟩, ?_⟩
  intro junk wr i ⟨j, hij, hj, hx, hall⟩
  subst hij
  refine ifD (fun hlt => ?_) (fun hge => ?_)
  · have hjn : j < n := by omega
    have hjl : j < l.length := by omega
    obtain ⟨b, off, hpp, hs⟩ := (hrow.ext hx).2.2.2 (by omega)
    subst hpp
    obtain ⟨cs, hk, hr, hsg⟩ := hs j _ (List.getElem?_eq_getElem hjl)
    have hrr := hr; have hcode := hc _ (List.getElem_mem hjl); have hbj := hb _ (List.getElem_mem hjl)
    obtain ⟨a0, a1, a2, a3p, a3n, a3c, a3z, rfl, hd, ha⟩ := open_Acct hr hcode
    have hgd : l.getD j [] = [.str a0, .str a1, .bool a2, .ints a3z] := by rw [getD_row hjl, hd]
    rw [hd] at hbj
    simp only [bulks, D0.bulk, List.map_cons, List.map_nil, List.sum_cons, List.sum_nil] at hbj
    have first : ∀ i (hi : i < l.length), ∀ W, Ext wr W → Loads P T_string (((⟨b, off, none⟩ : Addr).add (i * 4)).add 0) (.string (bName (l.getD i []))) W := by
      intro i hi W hW
      obtain ⟨cs, hk, hr, hsg⟩ := hs i _ (List.getElem?_eq_getElem hi)
      obtain ⟨a0, a1, a2, a3p, a3n, a3c, a3z, rfl, hd, _⟩ := open_Acct hr (hc _ (List.getElem_mem hi))
      rw [getD_row hi, hd]
      exact (hsg.ext hW).loadAt 0 (by simp [Addr.add]) (by kernel_rfl) rfl
    have bad : bookRowOk l j = false → bookOk l = false := fun h => by
      unfold bookOk
      rw [range_no hjl h, Bool.and_false]
    have hl : Loads P T_impl_Acct ((⟨b, off, none⟩ : Addr).add (j * 4)) (.agg ⟨[.string a0, .string a1, .bool a2, .slice a3p a3n a3c]⟩) wr := by
      rw [addr_add]; exact loadsA (by kernel_rfl) hsg
    refine ⟨⟨by omega, by omega⟩, _, _, _, _, _, _, by simpa using hl, ?_⟩
    intro r1 w2 hn2
    obtain ⟨w3, st, hb3, y3⟩ := hn2.fill (P := P) (t := T_impl_Acct) hrr.cells1 (by kernel_rfl) rfl
    have D := Ext.drew w3
    have y4 := y3.trans D
    have hb4 := hb3.ext D
    have bk := ((hn1.blk.ext hx).ext y4)
    refine ⟨w3, st, _, fun W hW => (hb4.ext hW).loadAt 0 rfl (by kernel_rfl) rfl, ?_⟩
    refine Ret.at (spec_IsWord_c a0 (by omega) _) ?_
    rintro v w4 ⟨hv, hw⟩
    subst hv; subst hw
    refine ⟨_, rfl, ifN (fun hno => ifT (ifT ⟨by rw [bad (by simp only [bookRowOk, hgd, legOk, hno, Bool.false_and])], (hn1.ext.trans hx).trans y4⟩)) (fun h1 => ?_)⟩
    refine ⟨_, _, _, _, _, fun W hW => (hb4.ext hW).loadAAt 1 [.string a1, .bool a2, .slice a3p a3n a3c] rfl (by kernel_rfl) rfl, ?_⟩
    have hm : Reps w3.drew [.string a1, .bool a2, .slice a3p a3n a3c] [.str a1, .bool a2, .ints a3z] := ⟨rfl, rfl, ⟨_, _, _, rfl, ha.ext y4⟩, trivial⟩
    refine Ret.at (spec_MoneyOk_c  hm rfl) ?_
    rintro v w5 ⟨hv, y5⟩
    subst hv
    have X5 := (hx.trans y4).trans y5
    have bk := bk.ext y5
    have hb5 := hb4.ext y5
    refine ⟨_, rfl, ifN (fun hno => ifT ⟨by rw [bad (by simp only [bookRowOk, hgd, legOk, hno, Bool.and_false, Bool.false_and])], hn1.ext.trans X5⟩) (fun h2 => ?_)⟩
    have next : bookRowOk l j = true → ∃ t48 : Int, t48 = IntKind.wrap .i64 ((j : Int) + 1) ∧ (fun (i : Int) (wr : World) => ∃ j : Nat, i = j ∧ j ≤ n ∧ Ext w1 wr ∧ ∀ i < j, bookRowOk l i = true) t48 w5 ∧ (fun (i : Int) (_ : World) => n - i.toNat) t48 w5 < (fun (i : Int) (_ : World) => n - i.toNat) (j : Int) wr := by
      intro hs
      refine exW ⟨by omega, by omega⟩ ⟨⟨j + 1, by omega, by omega, X5, fun i hi => ?_⟩, ?_⟩
      · rcases Nat.lt_or_ge i j with h | h
        · exact hall i h
        · have : i = j := by omega
          subst this; exact hs
      · show n - ((j : Int) + 1).toNat < n - (j : Int).toNat
        omega
    have hleg : legOk (l.getD j []) = true := by rw [hgd]; simp only [legOk, h1, h2, Bool.and_self]
    refine ifD (fun hpos => ?_) (fun hzero => ifF (next ?_))
    · refine ⟨_, _, _, fun W hW => (bk.ext hW).loadAt 0 rfl (by kernel_rfl) rfl, exW ⟨by omega, by omega⟩ ⟨⟨by omega, by omega⟩, bName (l.getD (j - 1) []), fun W hW => ?_, a0, fun W hW => (hb5.ext hW).loadAt 0 rfl (by kernel_rfl) rfl, fun hle => ⟨?_, hn1.ext.trans X5⟩, fun hgt => next ?_⟩⟩
      · have := first (j - 1) (by omega) W ((y4.trans y5).trans hW)
        rw [show ((j : Int) - 1).toNat = j - 1 by omega]
        exact this
      · rw [bad]
        unfold bookRowOk
        rw [hleg, hgd, decide_eq_true (show 0 < j by omega)]
        rw [show (!(Op.bytesLess (bName (l.getD (j - 1) [])).toList (bName [.str a0, .str a1, .bool a2, .ints a3z]).toList)) = true from hle]
        rfl
      · unfold bookRowOk
        rw [hleg, hgd, decide_eq_true (show 0 < j by omega)]
        rw [show (!(Op.bytesLess (bName (l.getD (j - 1) [])).toList (bName [.str a0, .str a1, .bool a2, .ints a3z]).toList)) = false from hgt]
        rfl
    · unfold bookRowOk
      rw [hleg, decide_eq_false (show ¬ 0 < j by omega)]
      rfl
  · refine ⟨_, _, _, (hn1.blk.ext hx).loadAt 0 rfl (by kernel_rfl) rfl, ?_, hn1.ext.trans hx⟩
    unfold bookOk
    rw [range_yes fun i hi => hall i (by omega), Bool.and_true]
    exact congrArg Value.bool (decide_eq_decide.2 (by omega))
theorem impl_BookOk_w {w : World} {p : Option Addr} {n c : Nat} {l : List (List D0)} (h : RowsR w 4 p n c l) (hc : ∀ x ∈ l, x.map D0.code = [.str, .str, .bool, .ints]) (hn : n ≤ 1048576) (hb : ∀ x ∈ l, bulks x ≤ 4194304) (ht : Tab w) :
    Ret P n_impl_BookOk [.agg ⟨[.slice p n c]⟩] w fun v w' => v = .bool (bookOk l) ∧ Ext w w' := by
  have hz := h.1; have hcap := h.2.1; have hcm := h.2.2.1
  refine impl_BookOk_ret ?_
  unfold impl_BookOk
  intro r w1 hn1
  have hrow := h.ext hn1.ext
  refine ⟨_, _, _, hn1.blk.loadAt 0 rfl (by kernel_rfl) rfl, ifD (fun h12 => ⟨?_, hn1.ext⟩) (fun h12 => ?_)⟩
  · unfold bookOk
    rw [decide_eq_false (show ¬ l.length ≤ 12 by omega), Bool.false_and]
  refine ⟨_, _, _, hn1.blk.loadAt 0 rfl (by kernel_rfl) rfl, ?_⟩
  refine ⟨fun i wr => ∃ j : Nat, i = j ∧ j ≤ n ∧ Ext w1 wr ∧ ∀ i < j, bookRowOk l i = true, fun i _ => n - i.toNat, ⟨0, rfl, by omega, Ext.refl _, fun i h => absurd h (by omega)⟩, ?_⟩
  intro junk wr i ⟨j, hij, hj, hx, hall⟩
  subst hij
  refine ifD (fun hlt => ?_) (fun hge => ?_)
  · have hjn : j < n := by omega
    have hjl : j < l.length := by omega
    obtain ⟨b, off, hpp, hs⟩ := (hrow.ext hx).2.2.2 (by omega)
    subst hpp
    obtain ⟨cs, hk, hr, hsg⟩ := hs j _ (List.getElem?_eq_getElem hjl)
    have hrr := hr; have hcode := hc _ (List.getElem_mem hjl); have hbj := hb _ (List.getElem_mem hjl)
    obtain ⟨a0, a1, a2, a3p, a3n, a3c, a3z, rfl, hd, ha⟩ := open_Acct hr hcode
    have hgd : l.getD j [] = [.str a0, .str a1, .bool a2, .ints a3z] := by rw [getD_row hjl, hd]
    rw [hd] at hbj
    simp only [bulks, D0.bulk, List.map_cons, List.map_nil, List.sum_cons, List.sum_nil] at hbj
    have first : ∀ i (hi : i < l.length), ∀ W, Ext wr W → Loads P T_string (((⟨b, off, none⟩ : Addr).add (i * 4)).add 0) (.string (bName (l.getD i []))) W := by
      intro i hi W hW
      obtain ⟨cs, hk, hr, hsg⟩ := hs i _ (List.getElem?_eq_getElem hi)
      obtain ⟨a0, a1, a2, a3p, a3n, a3c, a3z, rfl, hd, _⟩ := open_Acct hr (hc _ (List.getElem_mem hi))
      rw [getD_row hi, hd]
      exact (hsg.ext hW).loadAt 0 (by simp [Addr.add]) (by kernel_rfl) rfl
    have bad : bookRowOk l j = false → bookOk l = false := fun h => by
      unfold bookOk
      rw [range_no hjl h, Bool.and_false]
    have hl : Loads P T_impl_Acct ((⟨b, off, none⟩ : Addr).add (j * 4)) (.agg ⟨[.string a0, .string a1, .bool a2, .slice a3p a3n a3c]⟩) wr := by
      rw [addr_add]; exact loadsA (by kernel_rfl) hsg
    refine ⟨⟨by omega, by omega⟩, _, _, _, _, _, _, by simpa using hl, ?_⟩
    intro r1 w2 hn2
    obtain ⟨w3, st, hb3, y3⟩ := hn2.fill (P := P) (t := T_impl_Acct) hrr.cells1 (by kernel_rfl) rfl
    have D := Ext.drew w3
    have y4 := y3.trans D
    have hb4 := hb3.ext D
    have bk := ((hn1.blk.ext hx).ext y4)
    refine ⟨w3, st, _, fun W hW => (hb4.ext hW).loadAt 0 rfl (by kernel_rfl) rfl, ?_⟩
    refine Ret.at (impl_IsWord_c a0 (by omega) _) ?_
    rintro v w4 ⟨hv, hw⟩
    subst hv; subst hw
    refine ⟨_, rfl, ifN (fun hno => ifT (ifT ⟨by rw [bad (by simp only [bookRowOk, hgd, legOk, hno, Bool.false_and])], (hn1.ext.trans hx).trans y4⟩)) (fun h1 => ?_)⟩
    refine ⟨_, _, _, _, _, fun W hW => (hb4.ext hW).loadAAt 1 [.string a1, .bool a2, .slice a3p a3n a3c] rfl (by kernel_rfl) rfl, ?_⟩
    have hm : Reps w3.drew [.string a1, .bool a2, .slice a3p a3n a3c] [.str a1, .bool a2, .ints a3z] := ⟨rfl, rfl, ⟨_, _, _, rfl, ha.ext y4⟩, trivial⟩
    refine Ret.at (impl_MoneyOk_c (ht.ext ((hn1.ext.trans hx).trans y4)) hm rfl) ?_
    rintro v w5 ⟨hv, y5⟩
    subst hv
    have X5 := (hx.trans y4).trans y5
    have bk := bk.ext y5
    have hb5 := hb4.ext y5
    refine ⟨_, rfl, ifN (fun hno => ifT ⟨by rw [bad (by simp only [bookRowOk, hgd, legOk, hno, Bool.and_false, Bool.false_and])], hn1.ext.trans X5⟩) (fun h2 => ?_)⟩
    have next : bookRowOk l j = true → ∃ t48 : Int, t48 = IntKind.wrap .i64 ((j : Int) + 1) ∧ (fun (i : Int) (wr : World) => ∃ j : Nat, i = j ∧ j ≤ n ∧ Ext w1 wr ∧ ∀ i < j, bookRowOk l i = true) t48 w5 ∧ (fun (i : Int) (_ : World) => n - i.toNat) t48 w5 < (fun (i : Int) (_ : World) => n - i.toNat) (j : Int) wr := by
      intro hs
      refine exW ⟨by omega, by omega⟩ ⟨⟨j + 1, by omega, by omega, X5, fun i hi => ?_⟩, ?_⟩
      · rcases Nat.lt_or_ge i j with h | h
        · exact hall i h
        · have : i = j := by omega
          subst this; exact hs
      · show n - ((j : Int) + 1).toNat < n - (j : Int).toNat
        omega
    have hleg : legOk (l.getD j []) = true := by rw [hgd]; simp only [legOk, h1, h2, Bool.and_self]
    refine ifD (fun hpos => ?_) (fun hzero => ifF (next ?_))
    · refine ⟨_, _, _, fun W hW => (bk.ext hW).loadAt 0 rfl (by kernel_rfl) rfl, exW ⟨by omega, by omega⟩ ⟨⟨by omega, by omega⟩, bName (l.getD (j - 1) []), fun W hW => ?_, a0, fun W hW => (hb5.ext hW).loadAt 0 rfl (by kernel_rfl) rfl, fun hle => ⟨?_, hn1.ext.trans X5⟩, fun hgt => next ?_⟩⟩
      · have := first (j - 1) (by omega) W ((y4.trans y5).trans hW)
        rw [show ((j : Int) - 1).toNat = j - 1 by omega]
        exact this
      · rw [bad]
        unfold bookRowOk
        rw [hleg, hgd, decide_eq_true (show 0 < j by omega)]
        rw [show (!(Op.bytesLess (bName (l.getD (j - 1) [])).toList (bName [.str a0, .str a1, .bool a2, .ints a3z]).toList)) = true from hle]
        rfl
      · unfold bookRowOk
        rw [hleg, hgd, decide_eq_true (show 0 < j by omega)]
        rw [show (!(Op.bytesLess (bName (l.getD (j - 1) [])).toList (bName [.str a0, .str a1, .bool a2, .ints a3z]).toList)) = false from hgt]
        rfl
    · unfold bookRowOk
      rw [hleg, decide_eq_false (show ¬ 0 < j by omega)]
      rfl
  · refine ⟨?_, hn1.ext.trans hx⟩
    unfold bookOk
    rw [range_yes fun i hi => hall i (by omega), decide_eq_true (show l.length ≤ 12 by omega)]
    rfl
end Go.Proofs.YteakifedfnnmeaaDoor

namespace Go.Proofs.YteakifedfnnmeaaDoor.Sx
open Go
set_option linter.unusedVariables false
set_option linter.unusedSimpArgs false
def mkI (n : Nat) (k : Int) : List Int := (List.range n).map fun i => k + (i : Nat)
def mdig (k : Nat) (acc : ByteArray) : ByteArray := if h : k = 0 then acc else mdig (k / 10) (strOfNums [((48 + k % 10 : Nat) : Int)] ++ acc)
termination_by k
decreasing_by omega
theorem mdig_zero (acc : ByteArray) : mdig 0 acc = acc := by rw [mdig]; simp
theorem mdig_pos {k : Nat} (h : k ≠ 0) (acc : ByteArray) : mdig k acc = mdig (k / 10) (strOfNums [((48 + k % 10 : Nat) : Int)] ++ acc) := by rw [mdig]; simp [h]
def mtext (k : Int) : ByteArray := if k ≤ 0 then ⟨#[109, 48]⟩ else (⟨#[109]⟩ : ByteArray) ++ mdig k.toNat ByteArray.empty
def D0.mark (k : Int) : D0 → D0
  | .int _ => .int k
  | .bool _ => .bool (decide (k % 3 = 0))
  | .str _ => .str (mtext k)
  | .ints z => .ints (mkI z.length k)
def D0.cnt : D0 → Int
  | .ints z => (z.length : Nat)
  | _ => 1
def marks : List D0 → Int → List D0
  | [], _ => []
  | d :: r, k => d.mark k :: marks r (k + d.cnt)
def cnts : List D0 → Int
  | [] => 0
  | d :: r => d.cnt + cnts r
def markL : List (List D0) → Int → List (List D0)
  | [], _ => []
  | x :: l, k => marks x k :: markL l (k + cnts x)
def cntL : List (List D0) → Int
  | [] => 0
  | x :: l => cnts x + cntL l
theorem mkI_len (n : Nat) (k : Int) : (mkI n k).length = n := by simp [mkI]
theorem mkI_get (n : Nat) (k : Int) (i : Nat) (h : i < (mkI n k).length) : (mkI n k)[i] = k + (i : Nat) := by simp [mkI]
theorem mkI_succ (n : Nat) (k : Int) : mkI (n + 1) k = mkI n k ++ [k + (n : Nat)] := by simp [mkI, List.range_succ]
theorem cnt_nonneg (d : D0) : 0 ≤ d.cnt := by cases d <;> simp [D0.cnt]
theorem cnts_nonneg : ∀ (l : List D0), 0 ≤ cnts l
  | [] => Int.le_refl _
  | d :: r => by have := cnt_nonneg d; have := cnts_nonneg r; simp only [cnts]; omega
theorem cntL_nonneg : ∀ (l : List (List D0)), 0 ≤ cntL l
  | [] => Int.le_refl _
  | d :: r => by have := cnts_nonneg d; have := cntL_nonneg r; simp only [cntL]; omega
theorem markL_len : ∀ (l : List (List D0)) (k : Int), (markL l k).length = l.length
  | [], _ => rfl
  | x :: l, k => by simp [markL, markL_len l]
theorem markL_snoc : ∀ (l : List (List D0)) (x : List D0) (k : Int), markL (l ++ [x]) k = markL l k ++ [marks x (k + cntL l)]
  | [], x, k => by simp [markL, cntL]
  | y :: l, x, k => by
    simp only [List.cons_append, markL, markL_snoc l x, cntL]
    congr 4; omega
theorem markL_get : ∀ (l : List (List D0)) (k : Int) (i : Nat) (x : List D0), l[i]? = some x → (markL l k)[i]? = some (marks x (k + cntL (l.take i)))
  | [], _, _, _, h => by simp at h
  | y :: l, k, 0, x, h => by simp at h; subst h; simp [markL, cntL]
  | y :: l, k, i + 1, x, h => by
    simp only [List.getElem?_cons_succ] at h
    simp only [markL, List.getElem?_cons_succ, markL_get l _ i x h, List.take_succ_cons, cntL]
    congr 2; omega
theorem cntL_snoc : ∀ (l : List (List D0)) (x : List D0), cntL (l ++ [x]) = cntL l + cnts x
  | [], x => by simp [cntL]
  | y :: l, x => by simp only [List.cons_append, cntL, cntL_snoc l x]; omega
theorem take_snoc {α : Type} {l : List α} {i : Nat} {x : α} (h : l[i]? = some x) : l.take (i + 1) = l.take i ++ [x] := by
  rw [List.take_add_one, h]; rfl
theorem cntL_take_le : ∀ (l : List (List D0)) (i : Nat), cntL (l.take i) ≤ cntL l
  | [], i => by simp
  | x :: l, 0 => by have := cntL_nonneg (x :: l); simpa [cntL] using this
  | x :: l, i + 1 => by
    have := cntL_take_le l i
    simp only [List.take_succ_cons, cntL] at this ⊢
    omega
theorem cntL_row {l : List (List D0)} {i : Nat} {x : List D0} (h : l[i]? = some x) : cntL (l.take (i + 1)) = cntL (l.take i) + cnts x ∧ cntL (l.take i) + cnts x ≤ cntL l := by
  have h1 : cntL (l.take (i + 1)) = cntL (l.take i) + cnts x := by rw [take_snoc h, cntL_snoc]
  have h2 := cntL_take_le l (i + 1)
  exact ⟨h1, by omega⟩
theorem markL_set {l : List (List D0)} {k : Int} {i : Nat} {x : List D0} (h : l[i]? = some x) :
    (markL (l.take i) k ++ l.drop i).set i (marks x (k + cntL (l.take i))) = markL (l.take (i + 1)) k ++ l.drop (i + 1) := by
  have hi : i < l.length := (List.getElem?_eq_some_iff.1 h).1
  have hl : (markL (l.take i) k).length = i := by rw [markL_len]; simp; omega
  rw [List.set_append_right _ _ (by omega), hl, Nat.sub_self, take_snoc h, markL_snoc]
  have hd : l.drop i = x :: l.drop (i + 1) := by
    obtain ⟨h1, h2⟩ := List.getElem?_eq_some_iff.1 h
    rw [← h2]; exact List.drop_eq_getElem_cons h1
  rw [hd]; simp
theorem markL_at {l : List (List D0)} {k : Int} {i : Nat} {x : List D0} (h : l[i]? = some x) : (markL (l.take i) k ++ l.drop i)[i]? = some x := by
  have hi : i < l.length := (List.getElem?_eq_some_iff.1 h).1
  have hl : (markL (l.take i) k).length = i := by rw [markL_len]; simp; omega
  rw [List.getElem?_append_right (by omega), hl, Nat.sub_self, List.getElem?_drop, Nat.add_zero, h]
theorem cnts_le : ∀ (l : List D0), cnts l ≤ ((bulks l + l.length : Nat) : Int)
  | [] => by simp [cnts]
  | d :: r => by
    have h2 := cnts_le r
    have h1 : d.cnt ≤ (d.bulk : Nat) + 1 := by cases d <;> simp [D0.cnt, D0.bulk] <;> omega
    simp only [cnts, bulks, List.map_cons, List.sum_cons, List.length_cons] at h2 ⊢
    omega
theorem cntL_le {m : Nat} : ∀ (l : List (List D0)), (∀ x ∈ l, x.length ≤ m) → cntL l ≤ (((l.map bulks).sum + l.length * m : Nat) : Int)
  | [], _ => by simp [cntL]
  | x :: l, h => by
    have h1 := cnts_le x; have h2 := cntL_le l fun y hy => h y (.tail _ hy); have h3 := h x (.head _)
    simp only [cntL, List.map_cons, List.sum_cons, List.length_cons, Nat.succ_mul] at h2 ⊢
    omega
theorem code_len {x : List D0} {cs : List C0} (h : x.map D0.code = cs) : x.length = cs.length := by rw [← h]; simp
theorem mem_opt {o : Option Nat} {q : Nat} (h : o = some q) : q ∈ o.toList := by subst h; simp
theorem opt_mem {o : Option Nat} {q : Nat} (h : q ∈ o.toList) : o = some q := by cases o <;> simp_all
theorem code_ints {ds : List D0} {cs : List C0} (h : ds.map D0.code = .ints :: cs) : ∃ z es, ds = .ints z :: es ∧ es.map D0.code = cs := by
  match ds, h with
  | .ints z :: es, h => exact ⟨z, es, rfl, (List.cons.inj h).2⟩
theorem code_str {ds : List D0} {cs : List C0} (h : ds.map D0.code = .str :: cs) : ∃ z es, ds = .str z :: es ∧ es.map D0.code = cs := by
  match ds, h with
  | .str z :: es, h => exact ⟨z, es, rfl, (List.cons.inj h).2⟩
theorem code_bool {ds : List D0} {cs : List C0} (h : ds.map D0.code = .bool :: cs) : ∃ z es, ds = .bool z :: es ∧ es.map D0.code = cs := by
  match ds, h with
  | .bool z :: es, h => exact ⟨z, es, rfl, (List.cons.inj h).2⟩
theorem code_nil {ds : List D0} (h : ds.map D0.code = []) : ds = [] := by simpa using h
theorem Owns.consInts {w : World} {B : Nat} {vs : List Value} {ds : List D0} {f : List Nat} {cs : List C0} (h : Owns w B vs ds f) (hc : ds.map D0.code = .ints :: cs) :
    ∃ p n c z us es f2, vs = .slice p n c :: us ∧ ds = .ints z :: es ∧ f = (p.map (·.block)).toList ++ f2 ∧ Own w B T_int 1 p n c (z.map (Value.int .i64)) ∧ Owns w B us es f2 ∧ es.map D0.code = cs := by
  match vs, ds, h, hc with
  | v :: us, .ints z :: es, h, hc =>
    obtain ⟨f1, f2, hf, ⟨p, n, c, hv, ho, hf1⟩, h2⟩ := h
    exact ⟨p, n, c, z, us, es, f2, by rw [hv], rfl, by rw [hf, hf1], ho, h2, (List.cons.inj hc).2⟩
  | [], .ints z :: es, h, _ => exact h.elim
theorem Owns.consStr {w : World} {B : Nat} {vs : List Value} {ds : List D0} {f : List Nat} {cs : List C0} (h : Owns w B vs ds f) (hc : ds.map D0.code = .str :: cs) :
    ∃ s us es, vs = .string s :: us ∧ ds = .str s :: es ∧ Owns w B us es f ∧ es.map D0.code = cs := by
  match vs, ds, h, hc with
  | v :: us, .str z :: es, h, hc =>
    obtain ⟨f1, f2, hf, ⟨hv, hf1⟩, h2⟩ := h
    exact ⟨z, us, es, by rw [hv], rfl, by rw [hf, hf1]; exact h2, (List.cons.inj hc).2⟩
  | [], .str z :: es, h, _ => exact h.elim
theorem Owns.consBool {w : World} {B : Nat} {vs : List Value} {ds : List D0} {f : List Nat} {cs : List C0} (h : Owns w B vs ds f) (hc : ds.map D0.code = .bool :: cs) :
    ∃ s us es, vs = .bool s :: us ∧ ds = .bool s :: es ∧ Owns w B us es f ∧ es.map D0.code = cs := by
  match vs, ds, h, hc with
  | v :: us, .bool z :: es, h, hc =>
    obtain ⟨f1, f2, hf, ⟨hv, hf1⟩, h2⟩ := h
    exact ⟨z, us, es, by rw [hv], rfl, by rw [hf, hf1]; exact h2, (List.cons.inj hc).2⟩
  | [], .bool z :: es, h, _ => exact h.elim
theorem Owns.done {w : World} {B : Nat} {vs : List Value} {ds : List D0} {f : List Nat} (h : Owns w B vs ds f) (hc : ds.map D0.code = []) : vs = [] ∧ ds = [] ∧ f = [] := by
  match vs, ds, h, hc with
  | [], [], h, _ => exact ⟨rfl, rfl, h⟩
  | v :: us, [], h, _ => exact h.elim
theorem Blk.segMid {w : World} {b o : Nat} {e : TypeId} {xs cur zs : List Value} (h : Blk w b e (xs ++ cur ++ zs)) (hA : xs.length = o) : Seg w b o cur := by
  subst hA
  have h1 := h.seg
  have h2 := (h1.drop xs.length).take cur.length
  rw [List.append_assoc, List.drop_left, List.take_left] at h2
  simpa using h2
theorem Blk.storeMid {P : Program} {w : World} {t : TypeId} {b o : Nat} {e : TypeId} {xs cur zs : List Value} {v : Value} (h : Blk w b e (xs ++ cur ++ zs)) (hA : xs.length = o) (j : Nat) (hj : j < cur.length) (ht : cellT P t = true) (hv : v.oneCell' = true) {a : Addr} (ha : a = ⟨b, o + j, none⟩) :
    ∃ w', Stores P t a v w w' ∧ Blk w' b e (xs ++ cur.set j v ++ zs) ∧ Chg [b] w w' ∧ w'.heap.size = w.heap.size := by
  subst ha; subst hA
  obtain ⟨w', h1, h2, h3, h4⟩ := h.store (P := P) (k := xs.length + j) (v := v) ht (by simp; omega) hv
  refine ⟨w', by rw [addr_add, Nat.zero_add] at h1; exact h1, ?_, h3, h4⟩
  rw [List.append_assoc, List.set_append_right _ _ (by omega), Nat.add_sub_cancel_left, List.set_append_left _ _ hj, ← List.append_assoc] at h2
  exact h2
theorem Own.blk {w : World} {B : Nat} {e : TypeId} {size : Nat} {p : Option Addr} {n c : Nat} {xs : List Value} (h : Own w B e size p n c xs) (hn : 0 < n) :
    ∃ b ys, p = some ⟨b, 0, none⟩ ∧ B ≤ b ∧ Blk w b e ys ∧ ys.length = c * size ∧ n ≤ c ∧ c ≤ maxLen ∧ ys.take (n * size) = xs := by
  rcases h.2 with ⟨h1, h2⟩ | ⟨g, cap, cur, h1, hb, hg, h3, h4, h5, h6⟩
  · omega
  · simp only [Value.slice.injEq] at h1
    obtain ⟨e1, _, e3⟩ := h1
    have e3 : c = cap := by omega
    subst e3
    exact ⟨g, cur.toList, e1, hb, hg, by simpa using h5, h3, h4, h6⟩
theorem Own.of_blk' {w : World} {B : Nat} {e : TypeId} {size : Nat} {b n c : Nat} {ys : List Value} (h : Blk w b e ys) (hb : B ≤ b) (hl : ys.length = c * size) (hn : n ≤ c) (hc : c ≤ maxLen) : Own w B e size (some ⟨b, 0, none⟩) n c (ys.take (n * size)) :=
  ⟨by
    have : n * size ≤ c * size := Nat.mul_le_mul_right _ hn
    simp; omega, .inr ⟨b, c, ⟨ys⟩, rfl, hb, h, hn, hc, by simpa using hl, rfl⟩⟩
/-- a cell of one's own slice is stored -/
theorem Own.set {P : Program} {w : World} {B : Nat} {e : TypeId} {size : Nat} {p : Option Addr} {n c : Nat} {xs : List Value} (h : Own w B e size p n c xs) {t : TypeId} {i : Nat} {v : Value} (hi : i < xs.length) (ht : cellT P t = true) (hv : v.oneCell' = true) :
    ∃ b w', p = some ⟨b, 0, none⟩ ∧ Stores P t ((⟨b, 0, none⟩ : Addr).add i) v w w' ∧ Own w' B e size p n c (xs.set i v) ∧ Chg (p.map (·.block)).toList w w' ∧ w'.heap.size = w.heap.size := by
  have hl := h.len
  have hn : 0 < n := by
    rcases Nat.eq_zero_or_pos n with h0 | h0
    · subst h0; simp at hl; rw [hl] at hi; simp at hi
    · exact h0
  obtain ⟨b, ys, rfl, hb, hblk, hyl, hnc, hc, hx⟩ := h.blk hn
  have hle : n * size ≤ c * size := Nat.mul_le_mul_right _ hnc
  obtain ⟨w', st, hb', ch, sz⟩ := hblk.store (P := P) (t := t) (k := i) (v := v) ht (by omega) hv
  refine ⟨b, w', rfl, st, ?_, by simpa using ch, sz⟩
  have := Own.of_blk' (n := n) hb' hb (by simpa using hyl) hnc hc
  rw [List.take_set, hx] at this
  exact this
theorem AllO.focus {w : World} {B k : Nat} : ∀ {css : List (List Value)} {l : List (List D0)} {fs : List (List Nat)}, AllO w B k css l fs → ∀ (i : Nat) (x : List D0), l[i]? = some x →
    ∃ cs fi, css[i]? = some cs ∧ fs[i]? = some fi ∧ cs.length = k ∧ Owns w B cs x fi
  | [], [], [], _, i, x, hx => by simp at hx
  | cs :: css, y :: l, f :: fs, h, 0, x, hx => by
    simp only [List.getElem?_cons_zero, Option.some.injEq] at hx
    subst hx
    exact ⟨cs, f, rfl, rfl, h.1, h.2.1⟩
  | cs :: css, y :: l, f :: fs, h, i + 1, x, hx => by
    simp only [List.getElem?_cons_succ] at hx ⊢
    exact AllO.focus h.2.2 i x hx
  | [], [], _ :: _, h, _, _, _ => h.elim
  | [], _ :: _, _, h, _, _, _ => h.elim
  | _ :: _, [], _, h, _, _, _ => h.elim
  | _ :: _, _ :: _, [], h, _, _, _ => h.elim
theorem AllO.set {S : List Nat} {w w' : World} {B k : Nat} {cs' : List Value} {x' : List D0} (hc : Chg S w w') (hk : cs'.length = k) : ∀ {css : List (List Value)} {l : List (List D0)} {fs : List (List Nat)}, AllO w B k css l fs → ∀ (i : Nat) (fi : List Nat), fs[i]? = some fi →
    Owns w' B cs' x' fi → (∀ (j : Nat) (f : List Nat), j ≠ i → fs[j]? = some f → ∀ y ∈ f, y ∉ S) → AllO w' B k (css.set i cs') (l.set i x') fs
  | [], [], [], _, i, fi, hx, _, _ => by simp at hx
  | cs :: css, y :: l, f :: fs, h, 0, fi, hx, ho, hS => by
    simp only [List.getElem?_cons_zero, Option.some.injEq] at hx
    subst hx
    refine ⟨hk, ho, h.2.2.chg hc fun y hy => ?_⟩
    obtain ⟨f', hf, hyf⟩ := List.mem_flatten.1 hy
    obtain ⟨j, hj, e⟩ := List.getElem_of_mem hf
    exact hS (j + 1) f' (by omega) (by simp [List.getElem?_eq_getElem hj, e]) y hyf
  | cs :: css, y :: l, f :: fs, h, i + 1, fi, hx, ho, hS => by
    simp only [List.getElem?_cons_succ] at hx
    refine ⟨h.1, h.2.1.chg hc fun y hy => hS 0 f (by omega) rfl y hy, AllO.set hc hk h.2.2 i fi hx ho fun j f' hj hf => hS (j + 1) f' (by omega) (by simpa using hf)⟩
  | [], [], _ :: _, h, _, _, _, _, _ => h.elim
  | [], _ :: _, _, h, _, _, _, _, _ => h.elim
  | _ :: _, [], _, h, _, _, _, _, _ => h.elim
  | _ :: _, _ :: _, [], h, _, _, _, _, _ => h.elim
theorem flat_len {α : Type} {k : Nat} : ∀ {css : List (List α)}, (∀ c ∈ css, c.length = k) → css.flatten.length = css.length * k
  | [], _ => by simp
  | c :: css, h => by
    rw [List.flatten_cons, List.length_append, flat_len fun c hc => h c (.tail _ hc), h c (.head _), List.length_cons, Nat.succ_mul, Nat.add_comm]
theorem cons_at {α : Type} {l : List α} {i : Nat} {x : α} (h : l[i]? = some x) : l = l.take i ++ x :: l.drop (i + 1) := by
  obtain ⟨h1, h2⟩ := List.getElem?_eq_some_iff.1 h
  conv => lhs; rw [← List.take_append_drop i l]
  rw [List.drop_eq_getElem_cons h1, h2]
theorem set_split {α : Type} {l : List α} {i : Nat} {x y : α} (h : l[i]? = some x) : l.set i y = l.take i ++ y :: l.drop (i + 1) := by
  obtain ⟨h1, h2⟩ := List.getElem?_eq_some_iff.1 h
  rw [List.set_eq_take_append_cons_drop, if_pos h1]
theorem AllO.lens {w : World} {B k : Nat} : ∀ {css : List (List Value)} {l : List (List D0)} {fs : List (List Nat)}, AllO w B k css l fs → (∀ c ∈ css, c.length = k) ∧ css.length = l.length ∧ fs.length = l.length
  | [], [], [], _ => ⟨fun _ h => by simp at h, rfl, rfl⟩
  | cs :: css, y :: l, f :: fs, h => by
    obtain ⟨h1, h2, h3⟩ := AllO.lens h.2.2
    refine ⟨fun c hc => ?_, by simp [h2], by simp [h3]⟩
    rcases List.mem_cons.1 hc with h4 | h4
    · rw [h4]; exact h.1
    · exact h1 c h4
  | [], [], _ :: _, h => h.elim
  | [], _ :: _, _, h => h.elim
  | _ :: _, [], _, h => h.elim
  | _ :: _, _ :: _, [], h => h.elim
theorem OwnRows.focus {w : World} {B : Nat} {e : TypeId} {k : Nat} {p : Option Addr} {n c : Nat} {l : List (List D0)} {f : List Nat} (h : OwnRows w B e k p n c l f) {i : Nat} {x : List D0} (hx : l[i]? = some x) :
    ∃ b xs cs zs fi, p = some ⟨b, 0, none⟩ ∧ B ≤ b ∧ xs.length = i * k ∧ cs.length = k ∧ Blk w b e (xs ++ cs ++ zs) ∧ Owns w B cs x fi ∧ fi.Nodup ∧ b ∉ fi ∧ b ∈ f ∧ (∀ y ∈ fi, y ∈ f) ∧
      ∀ w' cs' x', Chg (b :: fi) w w' → cs'.length = k → Blk w' b e (xs ++ cs' ++ zs) → Owns w' B cs' x' fi → OwnRows w' B e k p n c (l.set i x') f := by
  obtain ⟨hl, css, fs, ha, ho, hf, hnd⟩ := h
  have hi : i < l.length := (List.getElem?_eq_some_iff.1 hx).1
  obtain ⟨cs, fi, hcs, hfi, hk, how⟩ := ha.focus i x hx
  obtain ⟨hlen, hcl, hfl⟩ := ha.lens
  obtain ⟨b, ys, rfl, hb, hblk, hyl, hnc, hc, hy⟩ := ho.blk (by omega)
  have hsp := congrArg List.flatten (cons_at hcs)
  rw [List.flatten_append, List.flatten_cons] at hsp
  have hA : (css.take i).flatten.length = i * k := by
    rw [flat_len fun c hc => hlen c (List.mem_of_mem_take hc), List.length_take, Nat.min_eq_left (by omega)]
  have hys : ys = (css.take i).flatten ++ cs ++ ((css.drop (i + 1)).flatten ++ ys.drop (n * k)) := by
    conv => lhs; rw [← List.take_append_drop (n * k) ys, hy, hsp]
    simp
  have hnd' := hnd
  rw [hf] at hnd'
  simp only [Option.map_some, Option.toList_some, List.singleton_append, List.nodup_cons] at hnd'
  obtain ⟨hbn, hfn⟩ := hnd'
  obtain ⟨hf1, hf2⟩ := List.pairwise_flatten.1 hfn
  have hmem : ∀ y ∈ fi, y ∈ fs.flatten := fun y hy => List.mem_flatten.2 ⟨fi, List.mem_of_getElem? hfi, hy⟩
  rw [hys] at hblk
  refine ⟨b, _, cs, _, fi, rfl, hb, hA, hk, hblk, how, hf1 _ (List.mem_of_getElem? hfi), fun hm => hbn (hmem _ hm), by rw [hf]; simp, fun y hy => by rw [hf]; simp only [List.mem_append]; exact .inr (hmem y hy), ?_⟩
  intro w' cs' x' hch hk' hblk' how'
  refine ⟨by simpa using hl, css.set i cs', fs, ha.set hch hk' i fi hfi how' ?_, ?_, hf, hnd⟩
  · intro j g hj hg y hy hm
    have hyf : y ∈ fs.flatten := List.mem_flatten.2 ⟨g, List.mem_of_getElem? hg, hy⟩
    rcases List.mem_cons.1 hm with rfl | hm
    · exact hbn hyf
    · obtain ⟨j1, e1⟩ := List.getElem?_eq_some_iff.1 hg
      obtain ⟨i1, e2⟩ := List.getElem?_eq_some_iff.1 hfi
      rw [List.pairwise_iff_getElem] at hf2
      rcases Nat.lt_or_ge j i with hlt | hge
      · have := hf2 j i j1 i1 hlt
        rw [e1, e2] at this
        exact this y hy y hm rfl
      · have := hf2 i j i1 j1 (by omega)
        rw [e1, e2] at this
        exact this y hm y hy rfl
  · have hlen2 : ((css.take i).flatten ++ cs' ++ ((css.drop (i + 1)).flatten ++ ys.drop (n * k))).length = c * k := by
      have := congrArg List.length hys
      simp only [List.length_append] at this ⊢
      omega
    have := Own.of_blk' (n := n) hblk' hb hlen2 hnc hc
    have e : ((css.take i).flatten ++ cs' ++ ((css.drop (i + 1)).flatten ++ ys.drop (n * k))).take (n * k) = (css.set i cs').flatten := by
      rw [set_split hcs, List.flatten_append, List.flatten_cons, ← List.append_assoc, ← List.append_assoc, List.take_left']
      have h1 := congrArg List.length hsp
      have h2 := flat_len hlen
      simp only [List.length_append] at h1 ⊢
      rw [hcl, hl] at h2
      omega
    rwa [e] at this
end Go.Proofs.YteakifedfnnmeaaDoor.Sx

namespace Go.Proofs.YteakifedfnnmeaaDoor.Sx
open Go Go.RowKit
set_option linter.unusedVariables false
set_option linter.unusedSimpArgs false
/-- append of one row onto a row of one's own: where it lies then -/
theorem Own.push1 {P : Program} {w : World} {B : Nat} {t e : TypeId} {z : Value} {size bytes : Nat} {p : Option Addr} {n c r : Nat} {xs news : List Value} (h : Own w B e size p n c xs)
    (hT : sliceT P t e z size bytes) (hb : B ≤ w.heap.size) (hr : Blk w r e news) (hl : news.length = size) (h1 : ∀ u ∈ news, u.oneCell' = true)
    (hbytes : (n + 1) * bytes ≤ 140737488355328) (hby : 1 ≤ bytes) :
    ∃ p' c' w', Appends P [t, t] [.slice p n c, .slice (some ⟨r, 0, none⟩) 1 1] (.slice p' (n + 1) c') w w' ∧ Own w' B e size p' (n + 1) c' (xs ++ news) ∧ Chg (p.map (·.block)).toList w w' ∧
      (p'.map (·.block) = p.map (·.block) ∨ ∀ q, p'.map (·.block) = some q → w.heap.size ≤ q) := by
  obtain ⟨hu, hi, hz, hs⟩ := hT
  cases hinf : P.info? e with
  | none => rw [hinf] at hi; cases hi
  | some i =>
    rw [hinf] at hi
    simp only [Option.map_some, Option.some.injEq, Prod.mk.injEq] at hi
    have hnm : n + 1 ≤ maxLen := by
      have : n + 1 ≤ (n + 1) * bytes := Nat.le_mul_of_pos_right _ hby
      simp only [maxLen]; omega
    have hcells : ∀ j u, news[j]? = some u → w.cell? ((⟨r, 0, none⟩ : Addr).add j) = some u := fun j u hj => by rw [addr_add, Nat.zero_add, hr.cell, hj]
    obtain ⟨v', w', hrun, hown, hgr, _⟩ := run_append_own (P := P) w B t 0 e i z size bytes hu hinf hi.1 hi.2.1 hi.2.2 hz hs (.slice p n c) n xs h ⟨r, 0, none⟩ 1 1 news (by rw [hl, Nat.one_mul]) hcells h1 hnm hbytes hb
    have hv : ∃ p' c', v' = .slice p' (n + 1) c' := by
      rcases hown.2 with ⟨e1, e2⟩ | ⟨g, cap, cur, e1, _⟩
      · omega
      · exact ⟨_, _, e1⟩
    obtain ⟨p', c', rfl⟩ := hv
    have hob : (Value.slice p n c).ownBlock = p.map (·.block) := by cases p <;> rfl
    refine ⟨p', c', w', hrun, hown, ⟨hgr.os, hgr.tape, hgr.output, hgr.size, fun k hk hn => hgr.block k hk ?_⟩, ?_⟩
    · rw [hob]; intro e; rw [← e] at hn; simp at hn
    have hrun : (Builtin.append_ #[t, t] 0 #[.slice p n c, .slice (some ⟨r, 0, none⟩) 1 1]).run P w = .ok (.slice p' (n + 1) c') w' := hrun
    rcases h.2 with ⟨e1, e2⟩ | ⟨g, cap, cur, e1, hB, hg, h3, h4, h5, h6⟩
    · simp only [Value.slice.injEq] at e1
      obtain ⟨rfl, rfl, rfl⟩ := e1
      have h0 := run_append_nil (P := P) w t 0 e i z hu hinf hi.1 ⟨r, 0, none⟩ 1 1 news (by rw [hl, hi.2.1, Nat.one_mul]) hcells (by omega) (by omega) (by rw [hi.2.2]; omega)
      rw [h0] at hrun
      injection hrun with hv _
      simp only [Value.slice.injEq] at hv
      exact .inr fun q hq => by rw [← hv.1] at hq; simp at hq; omega
    · simp only [Value.slice.injEq] at e1
      obtain ⟨rfl, _, rfl⟩ := e1
      by_cases hroom : n + 1 ≤ c
      · have hsz : n * i.size + news.length ≤ cur.size := by
          have : (n + 1) * size ≤ c * size := Nat.mul_le_mul_right _ hroom
          rw [hi.2.1, hl, h5, Nat.succ_mul] at *
          omega
        have h0 := run_append_room (P := P) w t 0 e i hu hinf g n c cur hg ⟨r, 0, none⟩ 1 1 news (by rw [hl, hi.2.1, Nat.one_mul]) hcells h1 hroom hsz
        rw [h0] at hrun
        injection hrun with hv _
        simp only [Value.slice.injEq] at hv
        exact .inl (by rw [← hv.1])
      · have holds : ∀ j v, xs[j]? = some v → w.cell? ((⟨g, 0, none⟩ : Addr).add j) = some v := World.ownsRow.cells h rfl
        have hfit : Builtin.nextslicecap (n + 1) c * i.bytes ≤ 281474976710656 := by
          rw [hi.2.2]; exact growslice_fits (by omega) hbytes
        have h0 := run_append_grow (P := P) w t 0 e i z hu hinf hi.1 ⟨g, 0, none⟩ n c xs (by rw [h.len, hi.2.1]) holds ⟨r, 0, none⟩ 1 1 news (by rw [hl, hi.2.1, Nat.one_mul]) hcells (by omega) (by simp only [maxLen] at hnm; omega) hfit
        rw [h0] at hrun
        injection hrun with hv _
        simp only [Value.slice.injEq] at hv
        exact .inr fun q hq => by rw [← hv.1] at hq; simp at hq; omega
theorem OwnRows.fresh {w w' : World} {B : Nat} {e : TypeId} {k r : Nat} (hn : New w (.cells ⟨[]⟩ e (0, 0)) r w') (hb : B ≤ w.heap.size) : OwnRows w' B e k (some ⟨r, 0, none⟩) 0 0 [] [r] :=
  ⟨rfl, [], [], trivial, Own.of_blk0 hn.blk (by have := hn.r_eq; omega) (by simp) (by decide), by simp, by simp⟩
end Go.Proofs.YteakifedfnnmeaaDoor.Sx

namespace Go.Proofs.YteakifedfnnmeaaDoor
open Go Go.Proofs.YteakifedfnnmeaaDoor.Sx
set_option linter.unusedVariables false
set_option linter.unusedSimpArgs false
theorem OwnRows_pushF {P : Program} {w : World} {B : Nat} {t e : TypeId} {z : Value} {k bytes : Nat} {p : Option Addr} {n c r : Nat} {l : List (List D0)} {f fx : List Nat} {cs : List Value} {x : List D0} (h : OwnRows w B e k p n c l f)
    (hT : sliceT P t e z k bytes) (hb : B ≤ w.heap.size) (hr : Blk w r e cs) (hl : cs.length = k) (ho : Owns w B cs x fx) (hfx : fx.Nodup) (hdis : ∀ q ∈ fx, q ∉ f)
    (hbytes : (n + 1) * bytes ≤ 140737488355328) (hby : 1 ≤ bytes) :
    ∃ p' c' w' f', Appends P [t, t] [.slice p n c, .slice (some ⟨r, 0, none⟩) 1 1] (.slice p' (n + 1) c') w w' ∧ OwnRows w' B e k p' (n + 1) c' (l ++ [x]) f' ∧ Chg (p.map (·.block)).toList w w' ∧
      (∀ q ∈ f', q ∈ f ∨ q ∈ fx ∨ w.heap.size ≤ q) := by
  obtain ⟨hln, css, fs, ha, hown, rfl, hnd⟩ := h
  obtain ⟨p', c', w', hrun, hown', hch, hp⟩ := hown.push1 hT hb hr hl ho.reps.cells1 hbytes hby
  have hpl : ∀ q ∈ (p.map (·.block)).toList, B ≤ q := fun q hq => (World.ownsRow.lt hown q (by cases p <;> simp_all [Value.ownBlock])).1
  have hnd1 := (List.nodup_append.1 hnd)
  have hpin : ∀ q ∈ fs.flatten, q ∉ (p.map (·.block)).toList := fun q hq hm => hnd1.2.2 q hm q hq rfl
  have hpx : ∀ q ∈ fx, q ∉ (p.map (·.block)).toList := fun q hq hm => hdis q hq (List.mem_append_left _ hm)
  have hlt : ∀ q ∈ fs.flatten ++ fx, q < w.heap.size := fun q hq => by
    rcases List.mem_append.1 hq with hq | hq
    · exact (ha.lt q hq).2
    · exact (ho.lt q hq).2
  have e : (fs ++ [fx]).flatten = fs.flatten ++ fx := by simp
  refine ⟨p', c', w', (p'.map (·.block)).toList ++ (fs ++ [fx]).flatten, hrun, ⟨by simp [hln], css ++ [cs], fs ++ [fx], (ha.chg hch hpin).snoc hl (ho.chg hch hpx), by simpa using hown', rfl, ?_⟩, hch, fun q hq => by
    rw [e] at hq
    rcases List.mem_append.1 hq with hq | hq
    · have hpa := opt_mem hq
      rcases hp with hp | hp
      · rw [hp] at hpa
        exact .inl (List.mem_append_left _ (mem_opt hpa))
      · exact .inr (.inr (hp q hpa))
    · rcases List.mem_append.1 hq with hq | hq
      · exact .inl (List.mem_append_right _ hq)
      · exact .inr (.inl hq)⟩
  rw [e, List.nodup_append]
  refine ⟨by cases p' <;> simp, ?_, ?_⟩
  · rw [List.nodup_append]
    exact ⟨hnd1.2.1, hfx, fun a ha b hb e => hdis b hb (by rw [← e]; exact List.mem_append_right _ ha)⟩
  · intro a ha b hb hab
    subst hab
    have hpa := opt_mem ha
    rcases hp with hp | hp
    · rw [hp] at hpa
      have ham : a ∈ (p.map (·.block)).toList := mem_opt hpa
      rcases List.mem_append.1 hb with hb | hb
      · exact hpin a hb ham
      · exact hpx a hb ham
    · have := hp a hpa
      have := hlt a hb
      omega
end Go.Proofs.YteakifedfnnmeaaDoor

namespace Go.Proofs.YteakifedfnnmeaaDoor
open Go Go.Proofs.YteakifedfnnmeaaDoor.Sx
set_option linter.unusedVariables false
set_option linter.unusedSimpArgs false
def val : List Int → Int
  | [] => 0
  | x :: r => x + 1000000000 * val r
def Limbs (l : List Int) : Prop := ∀ x ∈ l, 0 ≤ x ∧ x < 1000000000
/-- no zero on top -/
def Canon (l : List Int) : Prop := Limbs l ∧ l.getLast? ≠ some 0
def digs (n : Nat) : List Int := if h : n = 0 then [] else ((n % 1000000000 : Nat) : Int) :: digs (n / 1000000000)
termination_by n
decreasing_by omega
theorem natOk_spec {l : List Int} : natOk l = true ↔ Canon l ∧ l.length ≤ 50 := by
  unfold natOk Canon Limbs
  simp only [Bool.and_eq_true, List.all_eq_true, isLimb, decide_eq_true_eq, Bool.not_eq_true', decide_eq_false_iff_not]
  constructor
  · rintro ⟨⟨h1, h2⟩, h3⟩
    exact ⟨⟨fun x hx => by have := h1 x hx; omega, h3⟩, h2⟩
  · rintro ⟨⟨h1, h3⟩, h2⟩
    exact ⟨⟨fun x hx => by have := h1 x hx; omega, h2⟩, h3⟩
theorem Limbs.nil : Limbs [] := fun x hx => by simp at hx
theorem Limbs.cons {x : Int} {r : List Int} : Limbs (x :: r) ↔ (0 ≤ x ∧ x < 1000000000) ∧ Limbs r := by simp [Limbs]
theorem Limbs.append {a b : List Int} : Limbs (a ++ b) ↔ Limbs a ∧ Limbs b := by
  simp only [Limbs, List.mem_append]
  exact ⟨fun h => ⟨fun x hx => h x (.inl hx), fun x hx => h x (.inr hx)⟩, fun h x hx => hx.elim (h.1 x) (h.2 x)⟩
theorem Limbs.take {a : List Int} (h : Limbs a) (k : Nat) : Limbs (a.take k) := fun x hx => h x (List.mem_of_mem_take hx)
theorem Limbs.getD {a : List Int} (h : Limbs a) (k : Nat) : 0 ≤ a.getD k 0 ∧ a.getD k 0 < 1000000000 := by
  by_cases hk : k < a.length
  · rw [List.getD_eq_getElem?_getD, List.getElem?_eq_getElem hk]
    exact h _ (List.getElem_mem hk)
  · rw [getD_beyond (by omega)]; omega
theorem val_nonneg : ∀ {l : List Int}, Limbs l → 0 ≤ val l
  | [], _ => Int.le_refl _
  | x :: r, h => by
    have h := Limbs.cons.1 h
    have := val_nonneg h.2
    simp only [val]; omega
theorem digs_zero : digs 0 = [] := by rw [digs]; simp
theorem digs_pos {n : Nat} (h : n ≠ 0) : digs n = ((n % 1000000000 : Nat) : Int) :: digs (n / 1000000000) := by rw [digs]; simp [h]
theorem Canon.cons {x : Int} {r : List Int} (h : Canon (x :: r)) : (0 ≤ x ∧ x < 1000000000) ∧ Canon r ∧ (r = [] → x ≠ 0) := by
  obtain ⟨h1, h2⟩ := h
  have h1 := Limbs.cons.1 h1
  refine ⟨h1.1, ⟨h1.2, ?_⟩, fun e => ?_⟩
  · intro e
    rw [List.getLast?_cons, e] at h2
    simp at h2
  · subst e; simpa using h2
theorem canon_pos : ∀ {l : List Int}, Canon l → l ≠ [] → 0 < val l
  | [], _, h => absurd rfl h
  | x :: r, h, _ => by
    obtain ⟨h1, h2, h3⟩ := h.cons
    simp only [val]
    have := val_nonneg h2.1
    by_cases hr : r = []
    · have := h3 hr; subst hr; simp [val]; omega
    · have := canon_pos h2 hr; omega
theorem digs_val : ∀ {l : List Int}, Canon l → digs (val l).toNat = l
  | [], _ => by simp [val, digs_zero]
  | x :: r, h => by
    obtain ⟨h1, h2, h3⟩ := h.cons
    have hp := canon_pos h (by simp)
    have hv := val_nonneg h2.1
    have e := digs_val h2
    rw [digs_pos (by omega)]
    simp only [val] at hp ⊢
    have e1 : (x + 1000000000 * val r).toNat % 1000000000 = x.toNat := by omega
    have e2 : (x + 1000000000 * val r).toNat / 1000000000 = (val r).toNat := by omega
    rw [e1, e2, e]
    congr 1; omega
end Go.Proofs.YteakifedfnnmeaaDoor

namespace Go.Proofs.YteakifedfnnmeaaDoor
open Go Go.Proofs.YteakifedfnnmeaaDoor.Sx
set_option linter.unusedVariables false
set_option linter.unusedSimpArgs false
theorem sliceT_int : sliceT P T_s_int T_int (.int .i64 0) 1 8 := ⟨by kernel_rfl, by kernel_rfl, rfl, by decide⟩
theorem run_append_none {P : Program} (w : World) (base : Nat) (t ty e : TypeId) (i : TypeInfo) (size : Nat) (ht : P.underlying t = some (.slice e)) (hi : P.info? e = some i)
    (v : Value) (n c : Nat) (xs : List Value) (hown : w.ownsRow base e size v n xs) :
    (Builtin.append_ #[t, t] ty #[v, .slice none 0 c]).run P w = .ok v w := by
  rcases hown.2 with ⟨rfl, rfl⟩ | ⟨g, cap, cur, rfl, _, _, hnc, _⟩
  · simp [Builtin.append_, run_underlying ht, sizeOf, typeInfo, hi, Builtin.lenOf, Builtin.firstCells]
  · simp [Builtin.append_, run_underlying ht, sizeOf, typeInfo, hi, Builtin.lenOf, Builtin.firstCells, hnc, storeCells]
/-- append a list of numbers onto numbers of one's own -/
theorem Sx.Own.appendI {w : World} {base : Nat} {p q : Option Addr} {n c m d : Nat} {zs ys : List Int} (h : Own w base T_int 1 p n c (zs.map (Value.int .i64))) (hb : base ≤ w.heap.size) (k : IntsR w q m d ys) (hn : n + m ≤ 100000000) :
    ∃ p' c' w', Appends P [T_s_int, T_s_int] [.slice p n c, .slice q m d] (.slice p' (n + m) c') w w' ∧ Own w' base T_int 1 p' (n + m) c' ((zs ++ ys).map (Value.int .i64)) ∧
      (∀ w0, Ext w0 w → w0.heap.size ≤ base → Ext w0 w') := by
  obtain ⟨hu, hi, hz, hs⟩ := sliceT_int
  cases hinf : P.info? T_int with
  | none => rw [hinf] at hi; cases hi
  | some i =>
    rw [hinf] at hi
    simp only [Option.map_some, Option.some.injEq, Prod.mk.injEq] at hi
    cases q with
    | none =>
      have hm : m = 0 := by
        rcases Nat.eq_zero_or_pos m with h0 | h0
        · exact h0
        · obtain ⟨b, off, hp, _⟩ := k.2.2.2 h0; cases hp
      subst hm
      have : ys = [] := List.eq_nil_of_length_eq_zero k.1
      subst this
      exact ⟨p, c, w, run_append_none w base T_s_int 0 T_int i 1 hu hinf _ n d _ h, by simpa using h, fun w0 h _ => h⟩
    | some a =>
      have hcells : ∀ j u, (ys.map (Value.int .i64))[j]? = some u → w.cell? (a.add j) = some u := by
        intro j u hj
        have hl : j < m := by
          have := (List.getElem?_eq_some_iff.1 hj).1
          rw [List.length_map, k.1] at this; exact this
        obtain ⟨b, off, hp, hseg⟩ := k.2.2.2 (by omega)
        cases hp
        rw [addr_add]
        exact hseg j u hj
      have hmax : n + m ≤ maxLen := by simp only [maxLen]; omega
      obtain ⟨v', w', hrun, hown, hgr, _⟩ := run_append_own (P := P) w base T_s_int 0 T_int i (.int .i64 0) 1 8 hu hinf hi.1 hi.2.1 hi.2.2 hz hs (.slice p n c) n (zs.map (Value.int .i64)) h a m d (ys.map (Value.int .i64)) (by simp [k.1])
        hcells (by simp [Value.oneCell']) hmax (by omega) hb
      have hlt := World.ownsRow.lt h
      have hv : ∃ p' c', v' = .slice p' (n + m) c' := by
        rcases hown.2 with ⟨e1, e2⟩ | ⟨g, cap, cur, e1, _⟩
        · exact ⟨none, 0, by rw [e1, e2]⟩
        · exact ⟨_, _, e1⟩
      obtain ⟨p', c', rfl⟩ := hv
      have hob : (Value.slice p n c).ownBlock = p.map (·.block) := by cases p <;> rfl
      refine ⟨p', c', w', hrun, by rw [List.map_append]; exact hown, fun w0 hx hb0 => ?_⟩
      refine hx.chg (S := (p.map (·.block)).toList) ⟨hgr.os, hgr.tape, hgr.output, hgr.size, fun k hk hn => hgr.block k hk ?_⟩ ?_
      · rw [hob]; intro e; rw [← e] at hn; simp at hn
      · intro x hx'
        have := (hlt x (by rw [hob]; cases p <;> simp_all)).1
        omega
/-- an empty slice that is new -/
theorem Sx.Own.fresh {w w1 : World} {r : Nat} (hn : New w (.cells ⟨[]⟩ T_int (0, 0)) r w1) : Own w1 w.heap.size T_int 1 (some ⟨r, 0, none⟩) 0 0 (([] : List Int).map (Value.int .i64)) :=
  Own.of_blk (n := 0) hn.blk (by rw [hn.r_eq]; exact Nat.le_refl _) rfl (by simp [maxLen])
/-- the first elements -/
theorem Sx.Own.sub {w : World} {base : Nat} {p : Option Addr} {n c m : Nat} {zs : List Int} (h : Own w base T_int 1 p n c (zs.map (Value.int .i64))) (hm : m ≤ n) : Own w base T_int 1 p m c ((zs.take m).map (Value.int .i64)) := by
  have hl := h.1
  simp only [List.length_map, Nat.mul_one] at hl
  refine ⟨by simp; omega, ?_⟩
  rcases h.2 with ⟨h1, h2⟩ | ⟨g, cap, cur, h1, h2, h3, h4, h5, h6, h7⟩
  · simp only [Value.slice.injEq] at h1
    left
    exact ⟨by rw [h1.1, h1.2.2, show m = 0 by omega], by omega⟩
  · simp only [Value.slice.injEq] at h1
    right
    refine ⟨g, cap, cur, by rw [h1.1, h1.2.2], h2, h3, by omega, h5, h6, ?_⟩
    rw [List.map_take, ← h7, List.take_take]
    congr 1
    omega
theorem Sx.IntsR.sub {w : World} {p : Option Addr} {n c m : Nat} {zs : List Int} (h : IntsR w p n c zs) (hm : m ≤ n) : IntsR w p m c (zs.take m) :=
  ⟨by simp [h.1]; omega, by have := h.2.1; omega, h.2.2.1, fun h0 => let ⟨b, off, hp, hs⟩ := h.2.2.2 (by omega); ⟨b, off, hp, by rw [List.map_take]; exact hs.take m⟩⟩
end Go.Proofs.YteakifedfnnmeaaDoor

namespace Go.Proofs.YteakifedfnnmeaaDoor
open Go Go.Proofs.YteakifedfnnmeaaDoor.Sx
set_option linter.unusedVariables false
set_option linter.unusedSimpArgs false
theorem Limbs.snoc {o : List Int} {x : Int} (h : Limbs o) (hx : 0 ≤ x ∧ x < 1000000000) : Limbs (o ++ [x]) := Limbs.append.2 ⟨h, Limbs.cons.2 ⟨hx, Limbs.nil⟩⟩
end Go.Proofs.YteakifedfnnmeaaDoor

namespace Go.Proofs.YteakifedfnnmeaaDoor
open Go Go.Proofs.YteakifedfnnmeaaDoor.Sx
set_option linter.unusedVariables false
set_option linter.unusedSimpArgs false
/-- an integer as its parts -/
def enc (z : Int) : List D0 := [.bool (decide (z < 0)), .ints (digs z.natAbs)]
def ival : List D0 → Int
  | [.bool b, .ints z] => if b then - val z else val z
  | _ => 0
/-- a valid integer is made of its value -/
theorem intOk_enc {d : List D0} (h : intOk d = true) : d = enc (ival d) ∧ ∃ b z, d = [.bool b, .ints z] ∧ Canon z ∧ z.length ≤ 50 := by
  match d, h with
  | [.bool b, .ints z], h =>
    simp only [intOk, Bool.and_eq_true, natOk_spec, Bool.or_eq_true, Bool.not_eq_true'] at h
    obtain ⟨⟨hc, hl⟩, hb⟩ := h
    refine ⟨?_, b, z, rfl, hc, hl⟩
    have hv := val_nonneg hc.1
    have hd := digs_val hc
    cases b with
    | false =>
      simp only [ival, enc, Bool.false_eq_true, if_false]
      rw [show (val z).natAbs = (val z).toNat by omega, hd]
      have : ¬ val z < 0 := by omega
      simp [this]
    | true =>
      have hne : z ≠ [] := by
        rcases hb with hb | hb
        · cases hb
        · cases z with
          | nil => simp at hb
          | cons a r => simp
      have hp := canon_pos hc hne
      simp only [ival, enc, if_true]
      rw [show (-val z).natAbs = (val z).toNat by omega, hd]
      have : -val z < 0 := by omega
      simp [hp]
theorem nodup_opt (p : Option Addr) : ((p.map (·.block)).toList : List Nat).Nodup := by cases p <;> simp
end Go.Proofs.YteakifedfnnmeaaDoor

namespace Go.Proofs.YteakifedfnnmeaaDoor
open Go Go.Proofs.YteakifedfnnmeaaDoor.Sx
set_option linter.unusedVariables false
set_option linter.unusedSimpArgs false
/-- append onto an empty slice without room: nothing that is there is touched -/
theorem Sx.append0 {w : World} {r : Nat} {q : Option Addr} {m d : Nat} {ys : List Int} (hb : Blk w r T_int []) (k : IntsR w q m d ys) (hm : m ≤ 100000000) :
    ∃ p' c' w', Appends P [T_s_int, T_s_int] [.slice (some ⟨r, 0, none⟩) 0 0, .slice q m d] (.slice p' m c') w w' ∧ Own w' r T_int 1 p' m c' (ys.map (Value.int .i64)) ∧ Ext w w' := by
  have h : Own w r T_int 1 (some ⟨r, 0, none⟩) 0 0 (([] : List Int).map (Value.int .i64)) := Own.of_blk0 hb (Nat.le_refl _) rfl (by decide)
  obtain ⟨p', c', w', h1, h2, h3⟩ := Own.appendI h (Nat.le_of_lt hb.lt) k (by omega)
  rw [Nat.zero_add] at h1 h2
  refine ⟨p', c', w', h1, by simpa using h2, ?_⟩
  obtain ⟨hu, hi, hz, hs⟩ := sliceT_int
  cases hinf : P.info? T_int with
  | none => rw [hinf] at hi; cases hi
  | some i =>
    rw [hinf] at hi
    simp only [Option.map_some, Option.some.injEq, Prod.mk.injEq] at hi
    cases q with
    | none =>
      have hm0 : m = 0 := by
        rcases Nat.eq_zero_or_pos m with h0 | h0
        · exact h0
        · obtain ⟨b, off, hp, _⟩ := k.2.2.2 h0; cases hp
      subst hm0
      have := run_append_none (P := P) w r T_s_int 0 T_int i 1 hu hinf _ 0 d _ h
      have h1 : (Builtin.append_ #[T_s_int, T_s_int] 0 #[.slice (some ⟨r, 0, none⟩) 0 0, .slice none 0 d]).run P w = .ok (.slice p' 0 c') w' := h1
      rw [this] at h1
      cases h1
      exact Ext.refl _
    | some a =>
      have hcells : ∀ j u, (ys.map (Value.int .i64))[j]? = some u → w.cell? (a.add j) = some u := by
        intro j u hj
        have hl : j < m := by
          have := (List.getElem?_eq_some_iff.1 hj).1
          rw [List.length_map, k.1] at this; exact this
        obtain ⟨b, off, hp, hseg⟩ := k.2.2.2 (by omega)
        cases hp
        rw [addr_add]
        exact hseg j u hj
      have h1 : (Builtin.append_ #[T_s_int, T_s_int] 0 #[.slice (some ⟨r, 0, none⟩) 0 0, .slice (some a) m d]).run P w = .ok (.slice p' m c') w' := h1
      rcases Nat.eq_zero_or_pos m with h0 | h0
      · subst h0
        have hy : ys = [] := List.eq_nil_of_length_eq_zero k.1
        subst hy
        have := run_append_room (P := P) w T_s_int 0 T_int i hu hinf r 0 0 #[] hb a 0 d [] (by simp) (by simp) (by simp) (by omega) (by simp)
        rw [this] at h1
        cases h1
        have e : w.setRow r ((#[] : Array Value).toList.take (0 * i.size) ++ ([] : List Value) ++ (#[] : Array Value).toList.drop (0 * i.size + ([] : List Value).length)).toArray = w := by
          have := setRow_self w r #[] T_int (0, 0) hb
          simpa using this
        rw [e]
        exact Ext.refl _
      · have hnext : Builtin.nextslicecap (0 + m) 0 * i.bytes ≤ 281474976710656 := by
          rw [Nat.zero_add, nextslicecap_zero h0, hi.2.2]; omega
        have := run_append_grow (P := P) w T_s_int 0 T_int i (.int .i64 0) hu hinf hi.1 ⟨r, 0, none⟩ 0 0 [] (by simp) (by simp) a m d (ys.map (Value.int .i64)) (by simp [k.1, hi.2.1]) hcells (by omega) (by omega) hnext
        rw [this] at h1
        injection h1 with _ hw
        rw [← hw]
        exact (Ext.drew w).trans ((Go.RowKit.Below.refl _ _).alloc (Nat.le_refl _) _)
end Go.Proofs.YteakifedfnnmeaaDoor

namespace Go.Proofs.YteakifedfnnmeaaDoor
open Go Go.Proofs.YteakifedfnnmeaaDoor.Sx
set_option linter.unusedVariables false
set_option linter.unusedSimpArgs false
theorem laws_szBook_c {w : World} {p : Option Addr} {n c : Nat} {l : List (List D0)} (h : RowsR w 4 p n c l) (hc : ∀ x ∈ l, x.map D0.code = [.str, .str, .bool, .ints]) (hok : ∀ x ∈ l, ∀ d ∈ x, d.ok) {left : Int} (h0 : 0 ≤ left) (h1 : left ≤ 1048576) :
    Ret P n_laws_szBook [.agg ⟨[.slice p n c]⟩, .int .i64 left] w fun v w' => ∃ r : Int, v = .int .i64 r ∧ (0 ≤ r → r + n + ((l.map bulks).sum : Nat) ≤ left) ∧ r ≤ 1048576 ∧ Ext w w' := by
  refine laws_szBook_ret ?_
  unfold laws_szBook
  intro r w1 hn
  refine ⟨_, _, _, hn.blk.load (by kernel_rfl) rfl, ?_⟩
  refine Ret.at (laws_szAcctS_c (h.ext hn.ext) hc hok h0 h1) ?_
  rintro v w2 ⟨k, hv, hk, hm, y⟩
  subst hv
  have x := hn.ext.trans y
  exact ⟨_, rfl, ifD (fun hl => ⟨_, rfl, by omega, by omega, x⟩) (fun hl => ⟨_, rfl, hk, hm, x⟩)⟩
theorem laws_toBook_c {w : World} {p : Option Addr} {n c : Nat} {l : List (List D0)} (h : RowsR w 4 p n c l) (hc : ∀ x ∈ l, x.map D0.code = [.str, .str, .bool, .ints]) (hn : n ≤ 1048576) (hb : ∀ x ∈ l, bulks x ≤ 1048576) :
    Ret P n_laws_toBook [.agg ⟨[.slice p n c]⟩] w fun v w' => ∃ p' c' f, v = .agg ⟨[.slice p' n c']⟩ ∧ OwnRows w' w.heap.size T_impl_Acct 4 p' n c' l f ∧ Ext w w' := by
  refine laws_toBook_ret ?_
  unfold laws_toBook
  intro r w1 hn1 r1 w2 hn2 r2 w3 hn3
  have x := (hn1.ext.trans hn2.ext).trans hn3.ext
  have b0 := (hn1.blk.ext hn2.ext).ext hn3.ext
  have b1 := hn2.blk.ext hn3.ext
  have b2 := hn3.blk
  have e1 := hn1.r_eq; have e2 := hn2.r_eq; have e3 := hn3.r_eq; have s1 := hn1.size; have s2 := hn2.size; have s3 := hn3.size
  refine ⟨_, _, _, b0.load (by kernel_rfl) rfl, ?_⟩
  refine Ret.at (laws_toAcctS_c (h.ext x) hc hn hb) ?_
  rintro v w4 ⟨p', c', f, hv, ho, y⟩
  subst hv
  have x := x.trans y; have b1 := b1.ext y; have b2 := b2.ext y
  obtain ⟨w5, st, b2', ch, sz⟩ := b2.store (P := P) (t := T_s_impl_Acct) (k := 0) (v := .slice p' n c') (by kernel_rfl) (by simp) rfl
  have b2' : Blk w5 r2 _ [.slice p' n c'] := b2'
  refine ⟨_, _, _, rfl, _, st, _, _, _, b2'.loadA0 (by kernel_rfl), ?_⟩
  have b1 := b1.chg ch (by simp; omega); have x := x.chg ch (by simp; omega)
  have ho := ho.chg ch (fun k hk hm => by have := (ho.lt k hk).1; simp at hm; omega)
  obtain ⟨w6, st, b1', ch, sz⟩ := b1.storeA0 (P := P) (t := T_impl_Book) (xs := [.slice p' n c']) (by kernel_rfl) rfl (by simp [Value.oneCell'])
  refine ⟨_, st, _, _, _, b1'.loadA0 (by kernel_rfl), p', c', f, rfl, ?_, x.chg ch (by simp; omega)⟩
  exact (ho.chg ch (fun k hk hm => by have := (ho.lt k hk).1; simp at hm; omega)).mono (by omega)
theorem laws_eqBook_c {w : World} {p q : Option Addr} {n c m d : Nat} {l s : List (List D0)} (h : RowsR w 4 p n c l) (k : RowsR w 4 q m d s) (hc : ∀ x ∈ l, x.map D0.code = [.str, .str, .bool, .ints]) (kc : ∀ x ∈ s, x.map D0.code = [.str, .str, .bool, .ints]) :
    Ret P n_laws_eqBook [.agg ⟨[.slice p n c]⟩, .agg ⟨[.slice q m d]⟩] w fun v w' => v = .bool (decide (l = s)) ∧ Ext w w' := by
  refine laws_eqBook_ret ?_
  unfold laws_eqBook
  intro r w1 hn1 r1 w2 hn2
  have x := hn1.ext.trans hn2.ext
  refine ⟨_, _, _, (hn1.blk.ext hn2.ext).load (by kernel_rfl) rfl, _, _, _, hn2.blk.load (by kernel_rfl) rfl, ?_⟩
  refine Ret.at (laws_eqAcctS_c (h.ext x) (k.ext x) hc kc) ?_
  rintro v w3 ⟨hv, y⟩
  subst hv
  have x := x.trans y
  exact ⟨_, rfl, ifN (fun hne => ⟨by rw [hne], x⟩) (fun heq => ⟨by rw [heq], x⟩)⟩
end Go.Proofs.YteakifedfnnmeaaDoor

namespace Go.Proofs.YteakifedfnnmeaaDoor
open Go Go.Proofs.YteakifedfnnmeaaDoor.Sx
set_option linter.unusedVariables false
set_option linter.unusedSimpArgs false
/-- a text that leads -/
def strOf : List D0 → ByteArray
  | .str s :: _ => s
  | _ => S []
def acctAt (l : List (List D0)) (name : ByteArray) : Int := firstI (fun x => decide (strOf x = name)) l
theorem spec_AcctAt_c {w : World} {p : Option Addr} {n c : Nat} {l : List (List D0)} (h : RowsR w 4 p n c l) (hc : ∀ x ∈ l, x.map D0.code = [.str, .str, .bool, .ints]) (name : ByteArray) :
    Ret P n_spec_AcctAt [.agg ⟨[.slice p n c]⟩, .string name] w fun v w' => v = .int .i64 (acctAt l name) ∧ Ext w w' := by
  refine spec_AcctAt_ret ?_
  unfold spec_AcctAt
  intro r w1 hn
  have hlen := h.1; have hcap := h.2.1; have hcm := h.2.2.1
  refine ⟨_, _, _, hn.blk.load (by kernel_rfl) rfl, fun i wr => ∃ j : Nat, i = j ∧ j ≤ n ∧ Ext w wr ∧ ∀ i (hi : i < l.length), i < j → decide (strOf l[i] = name) = false, fun i _ => n - i.toNat, ⟨0, rfl, by omega, hn.ext, fun i hi h => by omega⟩, ?_⟩
  intro junk wr i ⟨j, hij, hj, hx, hall⟩
  subst hij
  refine ifD (fun hlt => ?_) (fun hge => ?_)
  · have hjn : j < n := by omega
    obtain ⟨a, cs, hp, hk, hr, hl⟩ := (h.ext hx).at (P := P) (t := T_impl_Acct) (by kernel_rfl) hjn
    subst hp
    have hjl : j < l.length := by omega
    have hcode := hc _ (List.getElem_mem hjl)
    have hrr := hr
    obtain ⟨a0, a1, a2, p3, n3, c3, z3, rfl, hd, hi⟩ := open_Acct hr hcode
    refine ⟨⟨by omega, by omega⟩, _, _, _, _, _, _, by simpa using hl, ?_⟩
    intro r1 w2 hn2
    obtain ⟨w3, st, hb3, ch, sz⟩ := hn2.blk.storeA0 (P := P) (t := T_impl_Acct) (xs := [.string a0, .string a1, .bool a2, .slice p3 n3 c3]) (by kernel_rfl) rfl (by simp [Value.oneCell'])
    have x3 : Ext w w3 := (hx.trans hn2.ext).chg ch (by have := hn2.r_eq; have := hx.le; simp; omega)
    have hs : strOf l[j] = a0 := by rw [hd]; rfl
    refine ⟨w3, st, _, hb3.load (by kernel_rfl) rfl, ifD (fun e => ⟨?_, x3⟩) (fun e => ?_)⟩
    · rw [acctAt, firstI_some hjl (by simpa [hs] using e) hall]
    · refine exW ⟨by omega, by omega⟩ ⟨⟨j + 1, by omega, by omega, x3, fun i hi hij => ?_⟩, by simp; omega⟩
      by_cases hij' : i < j
      · exact hall i hi hij'
      · obtain rfl : i = j := by omega
        simpa [hs] using e
  · exact ⟨by rw [acctAt, firstI_none fun i hi => hall i hi (by omega)], hx⟩
theorem slices_IndexFunc_impl_Acct_impl_Acct_c {w : World} {p : Option Addr} {n c : Nat} {l : List (List D0)} (h : RowsR w 4 p n c l) (hc : ∀ x ∈ l, x.map D0.code = [.str, .str, .bool, .ints]) (f : Value) (q : List D0 → Bool)
    (hf : ∀ cs x w', Ext w w' → x ∈ l → Reps w' cs x → CallW P f [.agg ⟨cs⟩] w' fun e w'' => e = .returned (.bool (q x)) ∧ Ext w' w'') :
    Ret P n_slices_IndexFunc_impl_Acct_impl_Acct [.slice p n c, f] w fun v w' => v = .int .i64 (firstI q l) ∧ Ext w w' := by
  refine slices_IndexFunc_impl_Acct_impl_Acct_ret ?_
  unfold slices_IndexFunc_impl_Acct_impl_Acct
  have hlen := h.1; have hcap := h.2.1; have hcm := h.2.2.1
  refine ⟨fun i wr => ∃ j : Nat, i = j ∧ j ≤ n ∧ Ext w wr ∧ ∀ i (hi : i < l.length), i < j → q l[i] = false, fun i _ => n - i.toNat, ⟨0, rfl, by omega, Ext.refl _, fun i hi h => by omega⟩, ?_⟩
  intro junk wr i ⟨j, hij, hj, hx, hall⟩
  subst hij
  refine ifD (fun hlt => ?_) (fun hge => ?_)
  · have hjn : j < n := by omega
    obtain ⟨a, cs, hp, hk, hr, hl⟩ := (h.ext hx).at (P := P) (t := T_impl_Acct) (by kernel_rfl) hjn
    subst hp
    have hjl : j < l.length := by omega
    have hcode := hc _ (List.getElem_mem hjl)
    have hcall := hf _ _ _ hx (List.getElem_mem hjl) hr
    obtain ⟨a0, a1, a2, p3, n3, c3, z3, rfl, hd, hi⟩ := open_Acct hr hcode
    refine ⟨⟨by omega, by omega⟩, _, _, _, _, _, _, by simpa using hl, ?_⟩
    obtain ⟨g, first, captured, h1, h2, h3⟩ := hcall
    refine ⟨g, first, captured, h1, h2, Calls.mono h3 fun e w2 ⟨he, hy⟩ => ?_⟩
    refine ⟨_, he, fun e => ⟨by rw [firstI_some hjl e hall], hx.trans hy⟩, fun e => ?_⟩
    refine exW ⟨by omega, by omega⟩ ⟨⟨j + 1, by omega, by omega, hx.trans hy, fun i hi hij => ?_⟩, by simp; omega⟩
    by_cases hij' : i < j
    · exact hall i hi hij'
    · obtain rfl : i = j := by omega
      exact e
  · exact ⟨by rw [firstI_none fun i hi => hall i hi (by omega)], hx⟩
theorem impl_AcctAt_1_c {w : World} {cs : List Value} {x : List D0} (h : Reps w cs x) (hc : x.map D0.code = [.str, .str, .bool, .ints]) {b : Nat} {e : TypeId} {name : ByteArray} (hb : Blk w b e [.string name]) :
    Ret P n_impl_AcctAt_1 [.agg ⟨cs⟩, .pointer (some ⟨b, 0, none⟩)] w fun v w' => v = .bool (decide (strOf x = name)) ∧ Ext w w' := by
  obtain ⟨a0, a1, a2, p3, n3, c3, z3, rfl, hd, hi⟩ := open_Acct h hc
  refine impl_AcctAt_1_ret ?_
  unfold impl_AcctAt_1
  intro r w1 hn
  refine ⟨_, hn.blk.load (by kernel_rfl) rfl, _, (hb.ext hn.ext).load0 (by kernel_rfl) rfl, ?_, hn.ext⟩
  rw [hd]; rfl
theorem impl_AcctAt_c {w : World} {p : Option Addr} {n c : Nat} {l : List (List D0)} (h : RowsR w 4 p n c l) (hc : ∀ x ∈ l, x.map D0.code = [.str, .str, .bool, .ints]) (name : ByteArray) :
    Ret P n_impl_AcctAt [.agg ⟨[.slice p n c]⟩, .string name] w fun v w' => v = .int .i64 (acctAt l name) ∧ Ext w w' := by
  refine impl_AcctAt_ret ?_
  unfold impl_AcctAt
  intro r w1 hn1 r1 w2 hn2
  have x := hn1.ext.trans hn2.ext
  refine ⟨_, _, _, (hn1.blk.ext hn2.ext).load (by kernel_rfl) rfl, ?_⟩
  refine Ret.at (slices_IndexFunc_impl_Acct_impl_Acct_c (h.ext x) hc _ (fun x => decide (strOf x = name)) (fun cs x w' hx hm hr => ?_)) ?_
  · refine ⟨_, _, _, rfl, by kernel_rfl, ?_⟩
    refine Calls.mono (impl_AcctAt_1_c hr (hc _ hm) (hn2.blk.ext hx)) ?_
    rintro e w'' ⟨v, he, hv, y⟩
    subst hv
    exact ⟨he, y⟩
  · rintro v w3 ⟨hv, y⟩
    subst hv
    exact ⟨_, rfl, rfl, x.trans y⟩
end Go.Proofs.YteakifedfnnmeaaDoor

namespace Go.Proofs.YteakifedfnnmeaaDoor
open Go Go.Proofs.YteakifedfnnmeaaDoor.Sx
set_option linter.unusedVariables false
set_option linter.unusedSimpArgs false
/-- a list copied into a new row as long as it is -/
theorem Sx.copyI {w : World} {r : Nat} {q : Option Addr} {n d : Nat} {ys zs : List Int} (hb : Blk w r T_int (zs.map (Value.int .i64))) (hz : zs.length = n) (k : IntsR w q n d ys) :
    ∃ w', Copies P [T_s_int, T_s_int] [.slice (some ⟨r, 0, none⟩) n n, .slice q n d] (goInt n) w w' ∧ Blk w' r T_int (ys.map (Value.int .i64)) ∧ Chg [r] w w' ∧ w'.heap.size = w.heap.size := by
  obtain ⟨hu, hi, hz0, hs⟩ := sliceT_int
  cases hinf : P.info? T_int with
  | none => rw [hinf] at hi; cases hi
  | some i =>
    rw [hinf] at hi
    simp only [Option.map_some, Option.some.injEq, Prod.mk.injEq] at hi
    have hy := k.1
    cases q with
    | none =>
      have hm0 : n = 0 := by
        rcases Nat.eq_zero_or_pos n with h0 | h0
        · exact h0
        · obtain ⟨b, off, hp, _⟩ := k.2.2.2 h0; cases hp
      subst hm0
      have h1 : ys = [] := List.eq_nil_of_length_eq_zero hy
      have h2 : zs = [] := List.eq_nil_of_length_eq_zero hz
      subst h1; subst h2
      refine ⟨w, ?_, hb, Chg.refl _ _, rfl⟩
      show (Builtin.copy_ #[T_s_int, T_s_int] 0 #[.slice (some ⟨r, 0, none⟩) 0 0, .slice none 0 d]).run P w = .ok (goInt 0) w
      simp [Builtin.copy_, run_underlying hu, Builtin.lenOf, Builtin.firstCells, sizeOf, typeInfo, hinf, storeCells]
    | some a =>
      have hcells : ∀ j u, (ys.map (Value.int .i64))[j]? = some u → w.cell? (a.add j) = some u := by
        intro j u hj
        have hl : j < n := by
          have := (List.getElem?_eq_some_iff.1 hj).1
          rw [List.length_map, hy] at this; exact this
        obtain ⟨b, off, hp, hseg⟩ := k.2.2.2 (by omega)
        cases hp
        rw [addr_add]
        exact hseg j u hj
      have := run_copy_row (P := P) w T_s_int T_s_int 0 T_int r 0 n n a n d ⟨zs.map (Value.int .i64)⟩ T_int (ys.map (Value.int .i64)) hu (by rw [hinf]; simp [hi.2.1]) hb (by simp [hy]) hcells (by simp [hy, hz]) (by simp [Value.oneCell'])
      have e : ((⟨zs.map (Value.int .i64)⟩ : Array Value).toList.take 0 ++ ys.map (Value.int .i64) ++ (⟨zs.map (Value.int .i64)⟩ : Array Value).toList.drop (0 + (ys.map (Value.int .i64)).length)) = ys.map (Value.int .i64) := by
        rw [List.take_zero, List.nil_append, List.drop_of_length_le (by simp [hy, hz]), List.append_nil]
      rw [e] at this
      refine ⟨_, ?_, setRow_heap w r _ _ T_int _ hb, setRow_chg _ _ _, by simp⟩
      have e2 : (ys.map (Value.int .i64)).length = n := by simp [hy]
      rw [e2] at this
      exact this
theorem spec_l17Money_c {w : World} {xs : List Value} {dx : List D0} (h : Reps w xs dx) (hc : dx.map D0.code = [.str, .bool, .ints]) (hb : bulks dx ≤ 100000000) :
    Ret P n_spec_l17Money [.agg ⟨xs⟩] w fun v w' => ∃ vs' f, v = .agg ⟨vs'⟩ ∧ Owns w' w.heap.size vs' dx f ∧ f.Nodup ∧ Ext w w' := by
  obtain ⟨t0, a0, a1p, a1n, a1c, a1z, rfl, rfl, ha⟩ := open_Money h hc
  have l1 := ha.1
  simp only [bulks, D0.bulk, List.map_cons, List.map_nil, List.sum_cons, List.sum_nil] at hb
  refine spec_l17Money_ret ?_
  unfold spec_l17Money
  intro r w1 hn1 r1 w2 hn2
  have D := Ext.drew w2
  have X := (hn1.ext.trans hn2.ext).trans D
  have k0 := hn1.blk.ext hn2.ext; have k1 := hn2.blk.ext D
  have e2 := hn2.r_eq; have s1 := hn1.size; have s2 := hn2.size; have lD := D.le
  refine ⟨_, fun W hW => (k0.ext (D.trans hW)).loadAt 0 rfl (by kernel_rfl) rfl, _, fun W hW => (k0.ext (D.trans hW)).loadAt 1 rfl (by kernel_rfl) rfl, ?_⟩
  intro r2 w4 hn4
  have e4 := hn4.r_eq
  obtain ⟨p, c, w6, a1, o1, y6⟩ := append0 hn4.blk (ha.ext (X.trans hn4.ext)) (by omega)
  have Y := hn4.ext.trans y6
  refine ⟨hn4.ext, _, _, _, fun W hW => (k0.ext (D.trans hW)).loadAt 2 rfl (by kernel_rfl) rfl, _, _, _, _, a1, y6, ?_⟩
  obtain ⟨w7, st, hb7, ch, sz⟩ := (k1.ext Y).storeA0 (P := P) (t := T_impl_Money) (xs := [.string t0, .bool a0, .slice p a1n c]) (by kernel_rfl) rfl (by simp [Value.oneCell'])
  have n1 : ∀ q, p.map (·.block) = some q → q ∉ [r1] := fun q hq hm => by
    have := (World.ownsRow.lt o1 q (by rw [← hq]; cases p <;> rfl)).1
    simp at hm; omega
  have q1 : Own w7 w.heap.size T_int 1 p a1n c (a1z.map (Value.int .i64)) := (o1.chg ch n1).mono (by omega)
  exact ⟨w7, st, _, _, _, _, _, hb7.loadA0 (by kernel_rfl), _, _, rfl, Owns.append (Owns.str _ _ t0) (Owns.append (Owns.bool _ _ a0) (Owns.ints q1)), nodup_opt p, (X.trans Y).chg ch (by simp; omega)⟩
theorem impl_moneyCopy_c {w : World} {xs : List Value} {dx : List D0} (h : Reps w xs dx) (hc : dx.map D0.code = [.str, .bool, .ints]) (hb : bulks dx ≤ 100000000) :
    Ret P n_impl_moneyCopy [.agg ⟨xs⟩] w fun v w' => ∃ vs' f, v = .agg ⟨vs'⟩ ∧ Owns w' w.heap.size vs' dx f ∧ f.Nodup ∧ Ext w w' := by
  obtain ⟨t0, a0, a1p, a1n, a1c, a1z, rfl, rfl, ha⟩ := open_Money h hc
  have l1 := ha.1
  simp only [bulks, D0.bulk, List.map_cons, List.map_nil, List.sum_cons, List.sum_nil] at hb
  refine impl_moneyCopy_ret ?_
  unfold impl_moneyCopy
  intro r w1 hn1 r1 w2 hn2
  have k0 := hn1.blk.ext hn2.ext
  have e2 := hn2.r_eq; have s1 := hn1.size; have s2 := hn2.size
  refine ⟨_, _, _, k0.loadAt 2 rfl (by kernel_rfl) rfl, ⟨by omega, by omega, by omega⟩, ?_⟩
  intro r2 w3 hn3
  have e3 := hn3.r_eq; have s3 := hn3.size
  have hblk := hn3.blk
  rw [zeroRow_int, Nat.mul_one, show (List.replicate a1n (Value.int .i64 0)) = (List.replicate a1n (0 : Int)).map (Value.int .i64) by simp] at hblk
  obtain ⟨w4, cp, hb4, ch4, sz4⟩ := copyI hblk (by simp) (ha.ext ((hn1.ext.trans hn2.ext).trans hn3.ext))
  have D := Ext.drew w4
  have Y := ((hn1.ext.trans hn2.ext).trans hn3.ext).chg ch4 (by simp; omega)
  have k0 := (k0.ext hn3.ext).chg ch4 (by have := hn1.r_eq; simp; omega)
  have k1 := (hn2.blk.ext hn3.ext).chg ch4 (by simp; omega)
  have lD := D.le
  refine ⟨_, _, _, (hn1.blk.ext (hn2.ext.trans hn3.ext)).loadAt 2 rfl (by kernel_rfl) rfl, _, w4, cp, _, fun W hW => (k0.ext (D.trans hW)).loadAt 0 rfl (by kernel_rfl) rfl, _, fun W hW => (k0.ext (D.trans hW)).loadAt 1 rfl (by kernel_rfl) rfl, ⟨by omega, by omega⟩, ⟨by omega, by omega⟩, ?_⟩
  obtain ⟨w7, st, hb7, ch, sz⟩ := (k1.ext D).storeA0 (P := P) (t := T_impl_Money) (xs := [.string t0, .bool a0, .slice (some ⟨r2, 0, none⟩) a1n a1n]) (by kernel_rfl) rfl (by simp [Value.oneCell'])
  have q1 : Own w7 w.heap.size T_int 1 (some ⟨r2, 0, none⟩) a1n a1n (a1z.map (Value.int .i64)) := Own.of_blk ((hb4.ext D).chg ch (by simp; omega)) (by omega) (by simp [l1]) (by simp only [maxLen]; omega)
  have es : sub (some ⟨r2, 0, none⟩) 0 a1n 1 = some ⟨r2, 0, none⟩ := by simp [sub, Addr.add]
  rw [es, Nat.sub_zero]
  exact ⟨w7, st, _, _, _, _, _, hb7.loadA0 (by kernel_rfl), _, _, rfl, Owns.append (Owns.str _ _ t0) (Owns.append (Owns.bool _ _ a0) (Owns.ints q1)), by simp, (Y.trans D).chg ch (by simp; omega)⟩
end Go.Proofs.YteakifedfnnmeaaDoor

namespace Go.Proofs.YteakifedfnnmeaaDoor
open Go Go.Proofs.YteakifedfnnmeaaDoor.Sx
set_option linter.unusedVariables false
set_option linter.unusedSimpArgs false
theorem sliceT_acct : sliceT P T_s_impl_Acct T_impl_Acct (.agg ⟨[.string ByteArray.empty, .string ByteArray.empty, .bool false, .slice none 0 0]⟩) 4 64 := ⟨by kernel_rfl, by kernel_rfl, rfl, by decide⟩
theorem spec_l17Copy_c {w : World} {p : Option Addr} {n c : Nat} {l : List (List D0)} (h : RowsR w 4 p n c l) (hc : ∀ x ∈ l, x.map D0.code = [.str, .str, .bool, .ints]) (hn : n ≤ 1048576) (hb : ∀ x ∈ l, bulks x ≤ 1048576) :
    Ret P n_spec_l17Copy [.agg ⟨[.slice p n c]⟩] w fun v w' => ∃ p' c' f, v = .agg ⟨[.slice p' n c']⟩ ∧ OwnRows w' w.heap.size T_impl_Acct 4 p' n c' l f ∧ Ext w w' := by
  have hln := h.1; have hcap := h.2.1; have hcm := h.2.2.1
  refine spec_l17Copy_ret ?_
  unfold spec_l17Copy
  intro r w1 hn1 r1 w2 hn2
  have e1 := hn1.r_eq; have z1 := hn1.size; have e2 := hn2.r_eq; have z2 := hn2.size
  intro r3 w4 hn4
  have e4 := hn4.r_eq; have z4 := hn4.size
  obtain ⟨w5, st5, b5, y5⟩ := hn4.fill (P := P) (t := T_impl_Book) (xs := [.slice none 0 0]) (by simp [Value.oneCell']) (by kernel_rfl) rfl
  have Y5 := (hn1.ext.trans hn2.ext).trans y5
  have ly5 := y5.le
  have hor0 : OwnRows w5 w.heap.size T_impl_Acct 4 none 0 0 [] [] := ⟨rfl, [], [], trivial, Own.nil _ _ _ _, by simp, by simp⟩
  have hr3f : r3 ∉ ([] : List Nat) := by simp
  refine ⟨w5, st5, _, _, _, ((hn1.blk.ext hn2.ext).ext y5).loadAt 0 rfl (by kernel_rfl) rfl, ?_⟩
  have b1 := (hn2.blk.ext y5)
  refine ⟨fun i wr => ∃ (j : Nat) (op : Option Addr) (oc : Nat) (f : List Nat), i = j ∧ j ≤ n ∧ Blk wr r3 T_impl_Book [.slice op j oc] ∧ OwnRows wr w.heap.size T_impl_Acct 4 op j oc (l.take j) f ∧ r3 ∉ f ∧ r1 ∉ f ∧ Blk wr r1 T_impl_Book [.slice none 0 0] ∧ Ext w wr ∧ r3 < wr.heap.size, fun i _ => n - i.toNat, ⟨0, _, _, _, rfl, Nat.zero_le _, b5, hor0, hr3f, by simp <;> omega, b1, Y5, b5.lt⟩, ?_⟩
  intro junk wr i ⟨j, op, oc, f, hi, hj, hb3, hor, hr3, hr1, hb1, hx, hlt3⟩
  subst hi
  refine ifD (fun hlt => ?_) (fun hge => ?_)
  · have hjn : j < n := by omega
    have hjl : j < l.length := by omega
    obtain ⟨b, off, hpp, hs⟩ := (h.ext hx).2.2.2 (by omega)
    subst hpp
    obtain ⟨cs, hk, hr, hsg⟩ := hs j _ (List.getElem?_eq_getElem hjl)
    have hcode := hc _ (List.getElem_mem hjl)
    have hbb := hb _ (List.getElem_mem hjl)
    have hsnoc := List.take_succ_eq_append_getElem hjl
    obtain ⟨a0, a1, a2, a3p, a3n, a3c, a3z, rfl, hd, ha⟩ := open_Acct hr hcode
    rw [hd] at hsnoc hbb
    refine ⟨⟨by omega, by omega⟩, _, _, _, _, _, _, by rw [addr_add, Int.toNat_natCast]; exact hsg.loadAAt 0 [.string a0, .string a1, .bool a2, .slice a3p a3n a3c] rfl (by kernel_rfl) rfl, ?_⟩
    intro r4 w6 hn6
    have e6 := hn6.r_eq; have z6 := hn6.size
    obtain ⟨w7, st7, b7, y7⟩ := hn6.fill (P := P) (t := T_impl_Acct) (xs := [.string a0, .string a1, .bool a2, .slice a3p a3n a3c]) (by simp [Value.oneCell']) (by kernel_rfl) rfl
    have D := Ext.drew w7
    have Y7 := y7.trans D
    have hm : Reps wr [.string a1, .bool a2, .slice a3p a3n a3c] [.str a1, .bool a2, .ints a3z] := ⟨rfl, rfl, ⟨_, _, _, rfl, ha⟩, trivial⟩
    refine ⟨w7, st7, _, _, _, fun W hW => (hb3.ext (Y7.trans hW)).loadAt 0 rfl (by kernel_rfl) rfl, _, fun W hW => (b7.ext (D.trans hW)).loadAt 0 rfl (by kernel_rfl) rfl, _, _, _, _, _, fun W hW => (b7.ext (D.trans hW)).loadAAt 1 [.string a1, .bool a2, .slice a3p a3n a3c] rfl (by kernel_rfl) rfl, ?_⟩
    refine Ret.at (spec_l17Money_c (hm.ext Y7) rfl (by simp only [bulks, D0.bulk, List.map_cons, List.map_nil, List.sum_cons, List.sum_nil] at hbb ⊢; omega)) ?_
    rintro v w8 ⟨vs, fx, hv, ho, hnd, y8⟩
    subst hv
    have ho' := ho
    obtain ⟨d0, d1, dp, dn, dc, dz, rfl, hq, hbr⟩ := open_Money ho.reps rfl
    refine ⟨_, _, _, _, _, rfl, y8, ?_⟩
    intro r5 w9 hn9
    have e9 := hn9.r_eq; have z9 := hn9.size
    have Y8 := Y7.trans y8
    have Y9 := Y8.trans hn9.ext
    have l7 := Y7.le; have l8 := y8.le; have l9 := Y9.le; have lx := hx.le
    have ho9 : Owns w9 w.heap.size [.string a0, .string d0, .bool d1, .slice dp dn dc] [.str a0, .str a1, .bool a2, .ints a3z] fx := Owns.append (Owns.str _ _ a0) ((ho'.ext hn9.ext).mono (by omega))
    refine ⟨hn9.ext, ?_⟩
    obtain ⟨p', c', w10, f', hap, hor', hch, hf'⟩ := OwnRows_pushF (P := P) (hor.ext Y9) sliceT_acct (by omega) hn9.blk rfl ho9 hnd (fun q hq hm => by
      have h1 := (ho'.lt q hq).1
      have h2 := (hor.lt q hm).2
      omega) (by omega) (by omega)
    have hop : ∀ q ∈ (op.map (·.block)).toList, q ∈ f := by
      obtain ⟨_, _, _, _, _, hf, _⟩ := hor
      intro q hq
      rw [hf]; exact List.mem_append_left _ hq
    have hb3' := (hb3.ext Y9).chg hch (fun hm => hr3 (hop _ hm))
    have hb1' := (hb1.ext Y9).chg hch (fun hm => hr1 (hop _ hm))
    have hX10 : Ext w w10 := (hx.trans Y9).chg hch (fun q hq => (hor.lt q (hop q hq)).1)
    obtain ⟨w11, st11, b11, ch11, sz11⟩ := hb3'.store (P := P) (t := T_s_impl_Acct) (k := 0) (v := .slice p' (j + 1) c') (by kernel_rfl) (by simp) rfl
    have lc := hch.size
    have hlt1 := hb1.lt
    have n3 : r3 ∉ f' := fun hm => by
      rcases hf' r3 hm with h1 | h1 | h1
      · exact hr3 h1
      · have := (ho'.lt r3 h1).1; omega
      · omega
    have n1 : r1 ∉ f' := fun hm => by
      rcases hf' r1 hm with h1 | h1 | h1
      · exact hr1 h1
      · have := (ho'.lt r1 h1).1; omega
      · omega
    refine ⟨_, _, _, w10, hap, w11, st11, exW ⟨by omega, by omega⟩ ⟨⟨j + 1, p', c', f', rfl, by omega, b11, ?_, n3, n1, hb1'.chg ch11 (by simp; omega), hX10.chg ch11 (by simp; omega), by omega⟩, by show n - ((j : Int) + 1).toNat < n - (j : Int).toNat; omega⟩⟩
    rw [hsnoc]
    exact hor'.chg ch11 (fun q hq hm => by simp at hm; subst hm; exact n3 hq)
  · have hjn : j = n := by omega
    subst hjn
    rw [List.take_of_length_le (by omega)] at hor
    obtain ⟨w12, st12, b12, ch12, sz12⟩ := hb1.storeA0 (P := P) (t := T_impl_Book) (xs := [.slice op j oc]) (by kernel_rfl) rfl (by simp [Value.oneCell'])
    refine ⟨_, _, _, hb3.loadA0 (by kernel_rfl), w12, st12, _, _, _, b12.loadA0 (by kernel_rfl), op, oc, f, rfl, hor.chg ch12 (fun q hq hm => by simp at hm; subst hm; exact hr1 hq), hx.chg ch12 (by simp; omega)⟩
theorem impl_bookCopy_c {w : World} {p : Option Addr} {n c : Nat} {l : List (List D0)} (h : RowsR w 4 p n c l) (hc : ∀ x ∈ l, x.map D0.code = [.str, .str, .bool, .ints]) (hn : n ≤ 1048576) (hb : ∀ x ∈ l, bulks x ≤ 1048576) :
    Ret P n_impl_bookCopy [.agg ⟨[.slice p n c]⟩] w fun v w' => ∃ p' c' f, v = .agg ⟨[.slice p' n c']⟩ ∧ OwnRows w' w.heap.size T_impl_Acct 4 p' n c' l f ∧ Ext w w' := by
  have hln := h.1; have hcap := h.2.1; have hcm := h.2.2.1
  refine impl_bookCopy_ret ?_
  unfold impl_bookCopy
  intro r w1 hn1 r1 w2 hn2
  have e1 := hn1.r_eq; have z1 := hn1.size; have e2 := hn2.r_eq; have z2 := hn2.size
  refine ⟨_, _, _, (hn1.blk.ext hn2.ext).loadAt 0 rfl (by kernel_rfl) rfl, ?_⟩
  refine exW ⟨by omega, by omega⟩ ⟨⟨by omega, by omega, by omega⟩, ?_⟩
  intro r2 w3 hn3 r3 w4 hn4
  have e3 := hn3.r_eq; have z3 := hn3.size; have e4 := hn4.r_eq; have z4 := hn4.size
  obtain ⟨w5, st5, b5, y5⟩ := hn4.fill (P := P) (t := T_impl_Book) (xs := [.slice (some ⟨r2, 0, none⟩) 0 ((n : Int) + 1).toNat]) (by simp [Value.oneCell']) (by kernel_rfl) rfl
  have Y5 := ((hn1.ext.trans hn2.ext).trans hn3.ext).trans y5
  have ly5 := y5.le
  have hor0 : OwnRows w5 w.heap.size T_impl_Acct 4 (some ⟨r2, 0, none⟩) 0 ((n : Int) + 1).toNat [] [r2] := by
    have ho := Own.of_blk' (B := w.heap.size) (n := 0) (c := ((n : Int) + 1).toNat) (size := 4) (hn3.blk.ext y5) (by omega) (by simp [zeroRow]) (by omega) (by simp only [maxLen]; omega)
    exact ⟨rfl, [], [], trivial, by simpa using ho, by simp, by simp⟩
  have hr3f : r3 ∉ [r2] := by simp; omega
  refine ⟨w5, st5, _, _, _, (((hn1.blk.ext hn2.ext).ext hn3.ext).ext y5).loadAt 0 rfl (by kernel_rfl) rfl, ?_⟩
  have b1 := ((hn2.blk.ext hn3.ext).ext y5)
  refine ⟨fun i wr => ∃ (j : Nat) (op : Option Addr) (oc : Nat) (f : List Nat), i = j ∧ j ≤ n ∧ Blk wr r3 T_impl_Book [.slice op j oc] ∧ OwnRows wr w.heap.size T_impl_Acct 4 op j oc (l.take j) f ∧ r3 ∉ f ∧ r1 ∉ f ∧ Blk wr r1 T_impl_Book [.slice none 0 0] ∧ Ext w wr ∧ r3 < wr.heap.size, fun i _ => n - i.toNat, ⟨0, _, _, _, rfl, Nat.zero_le _, b5, hor0, hr3f, by simp <;> omega, b1, Y5, b5.lt⟩, ?_⟩
  intro junk wr i ⟨j, op, oc, f, hi, hj, hb3, hor, hr3, hr1, hb1, hx, hlt3⟩
  subst hi
  refine ifD (fun hlt => ?_) (fun hge => ?_)
  · have hjn : j < n := by omega
    have hjl : j < l.length := by omega
    obtain ⟨b, off, hpp, hs⟩ := (h.ext hx).2.2.2 (by omega)
    subst hpp
    obtain ⟨cs, hk, hr, hsg⟩ := hs j _ (List.getElem?_eq_getElem hjl)
    have hcode := hc _ (List.getElem_mem hjl)
    have hbb := hb _ (List.getElem_mem hjl)
    have hsnoc := List.take_succ_eq_append_getElem hjl
    obtain ⟨a0, a1, a2, a3p, a3n, a3c, a3z, rfl, hd, ha⟩ := open_Acct hr hcode
    rw [hd] at hsnoc hbb
    refine ⟨⟨by omega, by omega⟩, _, _, _, _, _, _, by rw [addr_add, Int.toNat_natCast]; exact hsg.loadAAt 0 [.string a0, .string a1, .bool a2, .slice a3p a3n a3c] rfl (by kernel_rfl) rfl, ?_⟩
    intro r4 w6 hn6
    have e6 := hn6.r_eq; have z6 := hn6.size
    obtain ⟨w7, st7, b7, y7⟩ := hn6.fill (P := P) (t := T_impl_Acct) (xs := [.string a0, .string a1, .bool a2, .slice a3p a3n a3c]) (by simp [Value.oneCell']) (by kernel_rfl) rfl
    have D := Ext.drew w7
    have Y7 := y7.trans D
    have hm : Reps wr [.string a1, .bool a2, .slice a3p a3n a3c] [.str a1, .bool a2, .ints a3z] := ⟨rfl, rfl, ⟨_, _, _, rfl, ha⟩, trivial⟩
    refine ⟨w7, st7, _, _, _, fun W hW => (hb3.ext (Y7.trans hW)).loadAt 0 rfl (by kernel_rfl) rfl, _, fun W hW => (b7.ext (D.trans hW)).loadAt 0 rfl (by kernel_rfl) rfl, _, _, _, _, _, fun W hW => (b7.ext (D.trans hW)).loadAAt 1 [.string a1, .bool a2, .slice a3p a3n a3c] rfl (by kernel_rfl) rfl, ?_⟩
    refine Ret.at (impl_moneyCopy_c (hm.ext Y7) rfl (by simp only [bulks, D0.bulk, List.map_cons, List.map_nil, List.sum_cons, List.sum_nil] at hbb ⊢; omega)) ?_
    rintro v w8 ⟨vs, fx, hv, ho, hnd, y8⟩
    subst hv
    have ho' := ho
    obtain ⟨d0, d1, dp, dn, dc, dz, rfl, hq, hbr⟩ := open_Money ho.reps rfl
    refine ⟨_, _, _, _, _, rfl, y8, ?_⟩
    intro r5 w9 hn9
    have e9 := hn9.r_eq; have z9 := hn9.size
    have Y8 := Y7.trans y8
    have Y9 := Y8.trans hn9.ext
    have l7 := Y7.le; have l8 := y8.le; have l9 := Y9.le; have lx := hx.le
    have ho9 : Owns w9 w.heap.size [.string a0, .string d0, .bool d1, .slice dp dn dc] [.str a0, .str a1, .bool a2, .ints a3z] fx := Owns.append (Owns.str _ _ a0) ((ho'.ext hn9.ext).mono (by omega))
    refine ⟨hn9.ext, ?_⟩
    obtain ⟨p', c', w10, f', hap, hor', hch, hf'⟩ := OwnRows_pushF (P := P) (hor.ext Y9) sliceT_acct (by omega) hn9.blk rfl ho9 hnd (fun q hq hm => by
      have h1 := (ho'.lt q hq).1
      have h2 := (hor.lt q hm).2
      omega) (by omega) (by omega)
    have hop : ∀ q ∈ (op.map (·.block)).toList, q ∈ f := by
      obtain ⟨_, _, _, _, _, hf, _⟩ := hor
      intro q hq
      rw [hf]; exact List.mem_append_left _ hq
    have hb3' := (hb3.ext Y9).chg hch (fun hm => hr3 (hop _ hm))
    have hb1' := (hb1.ext Y9).chg hch (fun hm => hr1 (hop _ hm))
    have hX10 : Ext w w10 := (hx.trans Y9).chg hch (fun q hq => (hor.lt q (hop q hq)).1)
    obtain ⟨w11, st11, b11, ch11, sz11⟩ := hb3'.store (P := P) (t := T_s_impl_Acct) (k := 0) (v := .slice p' (j + 1) c') (by kernel_rfl) (by simp) rfl
    have lc := hch.size
    have hlt1 := hb1.lt
    have n3 : r3 ∉ f' := fun hm => by
      rcases hf' r3 hm with h1 | h1 | h1
      · exact hr3 h1
      · have := (ho'.lt r3 h1).1; omega
      · omega
    have n1 : r1 ∉ f' := fun hm => by
      rcases hf' r1 hm with h1 | h1 | h1
      · exact hr1 h1
      · have := (ho'.lt r1 h1).1; omega
      · omega
    refine ⟨_, _, _, w10, hap, w11, st11, exW ⟨by omega, by omega⟩ ⟨⟨j + 1, p', c', f', rfl, by omega, b11, ?_, n3, n1, hb1'.chg ch11 (by simp; omega), hX10.chg ch11 (by simp; omega), by omega⟩, by show n - ((j : Int) + 1).toNat < n - (j : Int).toNat; omega⟩⟩
    rw [hsnoc]
    exact hor'.chg ch11 (fun q hq hm => by simp at hm; subst hm; exact n3 hq)
  · have hjn : j = n := by omega
    subst hjn
    rw [List.take_of_length_le (by omega)] at hor
    obtain ⟨w12, st12, b12, ch12, sz12⟩ := hb1.storeA0 (P := P) (t := T_impl_Book) (xs := [.slice op j oc]) (by kernel_rfl) rfl (by simp [Value.oneCell'])
    refine ⟨_, _, _, hb3.loadA0 (by kernel_rfl), w12, st12, _, _, _, b12.loadA0 (by kernel_rfl), op, oc, f, rfl, hor.chg ch12 (fun q hq hm => by simp at hm; subst hm; exact hr1 hq), hx.chg ch12 (by simp; omega)⟩
end Go.Proofs.YteakifedfnnmeaaDoor

namespace Go.Proofs.YteakifedfnnmeaaDoor.Sx
open Go Go.RowKit
set_option linter.unusedVariables false
set_option linter.unusedSimpArgs false
theorem copies_row {P : Program} {w : World} {dT sT e t : TypeId} {size g o dLen dCap sLen sCap : Nat} {a : Addr} {cur cs : List Value} (hu : P.underlying dT = some (.slice e)) (hs : (P.info? e).map (·.size) = some size)
    (hg : Blk w g t cur) (hn : cs.length = Nat.min sLen dLen * size) (hsrc : ∀ j v, cs[j]? = some v → w.cell? (a.add j) = some v) (hfit : o + cs.length ≤ cur.length) (h1 : ∀ v ∈ cs, v.oneCell' = true) :
    ∃ w', Copies P [dT, sT] [.slice (some ⟨g, o, none⟩) dLen dCap, .slice (some a) sLen sCap] (.int .i64 ((Nat.min sLen dLen : Nat) : Int)) w w' ∧ Blk w' g t (cur.take o ++ cs ++ cur.drop (o + cs.length)) ∧ Chg [g] w w' ∧ w'.heap.size = w.heap.size := by
  have hl := run_loadCells_list (P := P) w a cs hsrc
  have hst := run_storeCells_at P g o t cs 0 ⟨cur⟩ w hg (by simpa using hfit) h1
  refine ⟨_, ?_, setRow_heap w g ⟨cur⟩ _ t _ hg, setRow_chg _ _ _, by simp⟩
  unfold Copies
  cases hq : P.info? e with
  | none => simp [hq] at hs
  | some i =>
    have hi : i.size = size := by simpa [hq] using hs
    rw [hn] at hl
    simp only [Builtin.copy_, run_underlying hu, Builtin.lenOf, Builtin.firstCells, sizeOf, typeInfo, hq, hi, hl, hst, Sem.run_bind, Sem.run_pure, Result.andThen_ok, goInt]
    simp [typeInfo, hq, hi, hl, hst, run_underlying hu]
theorem Own.take {w : World} {B : Nat} {e : TypeId} {size : Nat} {p : Option Addr} {n c : Nat} {xs : List Value} (h : Own w B e size p n c xs) {i : Nat} (hi : i ≤ n) : Own w B e size p i c (xs.take (i * size)) := by
  have hl := h.len
  have him : i * size ≤ n * size := Nat.mul_le_mul_right _ hi
  refine ⟨by simp; omega, ?_⟩
  rcases h.2 with ⟨h1, h2⟩ | ⟨g, cap, cur, h1, hb, hg, h3, h4, h5, h6⟩
  · simp only [Value.slice.injEq] at h1
    obtain ⟨rfl, rfl, rfl⟩ := h1
    have : i = 0 := by omega
    subst this
    exact .inl ⟨rfl, rfl⟩
  · simp only [Value.slice.injEq] at h1
    obtain ⟨rfl, _, rfl⟩ := h1
    refine .inr ⟨g, c, cur, rfl, hb, hg, by omega, h4, h5, ?_⟩
    rw [← h6, List.take_take, Nat.min_eq_left him]
/-- append of rows onto a row of one's own: where it lies then -/
theorem Own.pushN {P : Program} {w : World} {B : Nat} {t e : TypeId} {z : Value} {size bytes : Nat} {p : Option Addr} {n c m mc : Nat} {a : Addr} {xs news : List Value} (h : Own w B e size p n c xs)
    (hT : sliceT P t e z size bytes) (hb : B ≤ w.heap.size) (hcells : ∀ j u, news[j]? = some u → w.cell? (a.add j) = some u) (hl : news.length = m * size) (h1 : ∀ u ∈ news, u.oneCell' = true)
    (hbytes : (n + m) * bytes ≤ 140737488355328) (hby : 1 ≤ bytes) (hm0 : 0 < m) :
    ∃ p' c' w', Appends P [t, t] [.slice p n c, .slice (some a) m mc] (.slice p' (n + m) c') w w' ∧ Own w' B e size p' (n + m) c' (xs ++ news) ∧ Chg (p.map (·.block)).toList w w' ∧
      ((p'.map (·.block) = p.map (·.block) ∧ n + m ≤ c) ∨ ((∀ q, p'.map (·.block) = some q → w.heap.size ≤ q) ∧ (p = none ∨ c < n + m))) := by
  obtain ⟨hu, hi, hz, hs⟩ := hT
  cases hinf : P.info? e with
  | none => rw [hinf] at hi; cases hi
  | some i =>
    rw [hinf] at hi
    simp only [Option.map_some, Option.some.injEq, Prod.mk.injEq] at hi
    have hnm : n + m ≤ maxLen := by
      have : n + m ≤ (n + m) * bytes := Nat.le_mul_of_pos_right _ hby
      simp only [maxLen]; omega
    obtain ⟨v', w', hrun, hown, hgr, _⟩ := run_append_own (P := P) w B t 0 e i z size bytes hu hinf hi.1 hi.2.1 hi.2.2 hz hs (.slice p n c) n xs h a m mc news hl hcells h1 hnm hbytes hb
    have hv : ∃ p' c', v' = .slice p' (n + m) c' := by
      rcases hown.2 with ⟨e1, e2⟩ | ⟨g, cap, cur, e1, _⟩
      · omega
      · exact ⟨_, _, e1⟩
    obtain ⟨p', c', rfl⟩ := hv
    have hob : (Value.slice p n c).ownBlock = p.map (·.block) := by cases p <;> rfl
    refine ⟨p', c', w', hrun, hown, ⟨hgr.os, hgr.tape, hgr.output, hgr.size, fun k hk hn => hgr.block k hk ?_⟩, ?_⟩
    · rw [hob]; intro e; rw [← e] at hn; simp at hn
    have hrun : (Builtin.append_ #[t, t] 0 #[.slice p n c, .slice (some a) m mc]).run P w = .ok (.slice p' (n + m) c') w' := hrun
    rcases h.2 with ⟨e1, e2⟩ | ⟨g, cap, cur, e1, hB, hg, h3, h4, h5, h6⟩
    · simp only [Value.slice.injEq] at e1
      obtain ⟨rfl, rfl, rfl⟩ := e1
      have h0 := run_append_nil (P := P) w t 0 e i z hu hinf hi.1 a m mc news (by rw [hl, hi.2.1]) hcells (by omega) (by simp only [maxLen] at hnm; omega) (by rw [hi.2.2]; rw [Nat.zero_add] at hbytes; omega)
      rw [h0] at hrun
      injection hrun with hv _
      simp only [Value.slice.injEq] at hv
      exact .inr ⟨fun q hq => by rw [← hv.1] at hq; simp at hq; omega, .inl rfl⟩
    · simp only [Value.slice.injEq] at e1
      obtain ⟨rfl, _, rfl⟩ := e1
      by_cases hroom : n + m ≤ c
      · have hsz : n * i.size + news.length ≤ cur.size := by
          have : (n + m) * size ≤ c * size := Nat.mul_le_mul_right _ hroom
          rw [hi.2.1, hl, h5, Nat.add_mul] at *
          omega
        have h0 := run_append_room (P := P) w t 0 e i hu hinf g n c cur hg a m mc news (by rw [hl, hi.2.1]) hcells h1 hroom hsz
        rw [h0] at hrun
        injection hrun with hv _
        simp only [Value.slice.injEq] at hv
        exact .inl ⟨by rw [← hv.1], hroom⟩
      · have holds : ∀ j v, xs[j]? = some v → w.cell? ((⟨g, 0, none⟩ : Addr).add j) = some v := World.ownsRow.cells h rfl
        have hfit : Builtin.nextslicecap (n + m) c * i.bytes ≤ 281474976710656 := by
          rw [hi.2.2]; exact growslice_fits (by omega) hbytes
        have h0 := run_append_grow (P := P) w t 0 e i z hu hinf hi.1 ⟨g, 0, none⟩ n c xs (by rw [h.len, hi.2.1]) holds a m mc news (by rw [hl, hi.2.1]) hcells (by omega) (by simp only [maxLen] at hnm; omega) hfit
        rw [h0] at hrun
        injection hrun with hv _
        simp only [Value.slice.injEq] at hv
        exact .inr ⟨fun q hq => by rw [← hv.1] at hq; simp at hq; omega, .inr (by omega)⟩
/-- append of new zero elements onto rows that leave no room: a new row -/
theorem Own.growZeros {P : Program} {w : World} {B : Nat} {t tn e : TypeId} {z : Value} {size bytes g i c k : Nat} {xs : List Value} (h : Own w B e size (some ⟨g, 0, none⟩) i c xs)
    (hT : sliceT P t e z size bytes) (htn : P.underlying tn = some (.int .i64)) (hk : 0 < k) (hg : c < i + k) (hbytes : (i + k) * bytes ≤ 140737488355328) (hby : 1 ≤ bytes) :
    ∃ r c' w' ys, Appends P [t, tn] [.slice (some ⟨g, 0, none⟩) i c, .int .i64 ((k : Nat) : Int)] (.slice (some ⟨r, 0, none⟩) (i + k) c') w w' ∧ Blk w' r e ys ∧ ys.length = c' * size ∧ i + k ≤ c' ∧ c' ≤ maxLen ∧ ys.take (i * size) = xs ∧ w.heap.size ≤ r ∧ Ext w w' := by
  obtain ⟨hu, hi, hz, hs⟩ := hT
  cases hinf : P.info? e with
  | none => rw [hinf] at hi; cases hi
  | some inf =>
    rw [hinf] at hi
    simp only [Option.map_some, Option.some.injEq, Prod.mk.injEq] at hi
    have hnm : i + k ≤ maxLen := by
      have : i + k ≤ (i + k) * bytes := Nat.le_mul_of_pos_right _ hby
      simp only [maxLen]; omega
    have hcells : ∀ j u, xs[j]? = some u → w.drew.cell? ((⟨g, 0, none⟩ : Addr).add j) = some u := World.ownsRow.cells h rfl
    have hold : (Builtin.firstCells inf.size i (.slice (some ⟨g, 0, none⟩) i c)).run P w.drew = .ok xs.toArray w.drew := by
      rw [hi.2.1]
      exact run_firstCells_some w.drew size i ⟨g, 0, none⟩ i c xs h.len hcells
    have hkb : k * inf.bytes ≤ 281474976710656 := by
      rw [hi.2.2]
      have : k * bytes ≤ (i + k) * bytes := Nat.mul_le_mul_right _ (by omega)
      omega
    have hr := Lib.run_append_grow_zeros (P := P) w t tn 0 e inf z .i64 .i64 hu htn hinf hi.1 (some ⟨g, 0, none⟩) i c xs hold k hk (by rw [hi.2.1]; exact hs) hg (by simp only [maxLen] at hnm; omega) hkb (by rw [hi.2.2]; exact growslice_fits hg hbytes)
    have hge := grownCap_ge w (i + k) c e
    have hcm : grownCap w (i + k) c e ≤ maxLen := grownCap_le_maxLen w (i + k) c e hnm
    have hb : Blk (w.drew.alloc (.cells (xs.toArray ++ Builtin.zeroCells z.cells k ++ Builtin.zeroCells z.cells (grownCap w (i + k) c e - (i + k))) e)) w.heap.size e (xs ++ (Builtin.zeroCells z.cells k).toList ++ (Builtin.zeroCells z.cells (grownCap w (i + k) c e - (i + k))).toList) := by
      have := heap_alloc_new w.drew (.cells (xs.toArray ++ Builtin.zeroCells z.cells k ++ Builtin.zeroCells z.cells (grownCap w (i + k) c e - (i + k))) e)
      refine Eq.trans this ?_
      congr 2
      apply Array.ext'
      simp
    refine ⟨_, _, _, _, hr, hb, ?_, hge, hcm, ?_, Nat.le_refl _, ((Below.refl _ _).drew).alloc (Nat.le_refl _) _⟩
    · simp only [List.length_append, Array.length_toList, size_zeroCells, hz, h.len, ← Nat.add_mul]
      congr 1
      omega
    · rw [List.append_assoc, ← h.len, List.take_left]
/-- the model's own entry of slices.overlaps, at two blocks -/
theorem externs_apart {P : Program} {f : Nat} {fn : Func} {tS tR e tA tB : TypeId} {size a la ca lb cb b off : Nat} {xs ys : List Value} {w : World} (hf : P.funcs[f]? = some fn) (hname : (fn.name == "runtime.NumGoroutine") = false)
    (hb : fn.body.isNone = true) (hn : Extern.findNext fn = none) (he : Extern.find fn = some (Extern.SlicesOverlaps.overlaps #[tS, tS] #[tR])) (ht : P.underlying tS = some (.slice e)) (hz : ∀ w, (Go.sizeOf e).run P w = .ok size w)
    (hA : Blk w a tA xs) (hB : Blk w b tB ys) (hne : a ≠ b) (hy : ys.length ≠ 0) :
    Externs P f [.slice (some ⟨a, 0, none⟩) la ca, .slice (some ⟨b, off, none⟩) lb cb] (.bool false) w w := by
  have hA' : w.heap[a]? = some (.cells ⟨xs⟩ tA (0, 0)) := hA
  have hB' : w.heap[b]? = some (.cells ⟨ys⟩ tB (0, 0)) := hB
  unfold Externs
  rw [run_callFunc_extern hf hname hb hn he]
  rw [Lib.run_overlaps_apart w tS tR e ht size hz ⟨a, 0, none⟩ ⟨b, off, none⟩ la ca lb cb hne tA tB xs.length ys.length (by simp [World.shape?, hA']) (by simp [World.shape?, hB']) hy (by simp [World.frozen?, hA']) (by simp [World.frozen?, hA'])]
  rfl
theorem AllO.ins {w : World} {B k : Nat} {cs : List Value} {x : List D0} {f : List Nat} (hk : cs.length = k) (ho : Owns w B cs x f) : ∀ {css : List (List Value)} {l : List (List D0)} {fs : List (List Nat)} (i : Nat), i ≤ l.length → AllO w B k css l fs → AllO w B k (css.take i ++ cs :: css.drop i) (l.take i ++ x :: l.drop i) (fs.take i ++ f :: fs.drop i)
  | css, l, fs, 0, _, h => by
    simp only [List.take_zero, List.drop_zero, List.nil_append]
    exact ⟨hk, ho, h⟩
  | _ :: _, _ :: _, _ :: _, i + 1, hi, h => ⟨h.1, h.2.1, AllO.ins hk ho i (by simpa using hi) h.2.2⟩
  | [], [], [], i + 1, hi, _ => by simp at hi
  | [], [], _ :: _, _, _, h => h.elim
  | [], _ :: _, _, _, _, h => h.elim
  | _ :: _, [], _, _, _, h => h.elim
  | _ :: _, _ :: _, [], _, _, h => h.elim
theorem AllO.put {w : World} {B k : Nat} {cs : List Value} {x : List D0} {f : List Nat} (hk : cs.length = k) (ho : Owns w B cs x f) : ∀ {css : List (List Value)} {l : List (List D0)} {fs : List (List Nat)} (i : Nat), AllO w B k css l fs → AllO w B k (css.set i cs) (l.set i x) (fs.set i f)
  | [], [], [], _, _ => trivial
  | _ :: _, _ :: _, _ :: _, 0, h => ⟨hk, ho, h.2.2⟩
  | _ :: _, _ :: _, _ :: _, i + 1, h => ⟨h.1, h.2.1, AllO.put hk ho i h.2.2⟩
  | [], [], _ :: _, _, h => h.elim
  | [], _ :: _, _, _, h => h.elim
  | _ :: _, [], _, _, h => h.elim
  | _ :: _, _ :: _, [], _, h => h.elim
theorem mem_ins {α : Type} {fs : List (List α)} {f : List α} {i : Nat} {y : α} (h : y ∈ (fs.take i ++ f :: fs.drop i).flatten) : y ∈ f ∨ y ∈ fs.flatten := by
  rw [List.flatten_append, List.flatten_cons, List.mem_append, List.mem_append] at h
  rcases h with h | h | h
  · obtain ⟨g, hg, hy⟩ := List.mem_flatten.1 h
    exact .inr (List.mem_flatten.2 ⟨g, List.mem_of_mem_take hg, hy⟩)
  · exact .inl h
  · obtain ⟨g, hg, hy⟩ := List.mem_flatten.1 h
    exact .inr (List.mem_flatten.2 ⟨g, List.mem_of_mem_drop hg, hy⟩)
theorem nodup_ins {α : Type} {fs : List (List α)} {f : List α} (h : fs.flatten.Nodup) (hf : f.Nodup) (hd : ∀ y ∈ f, y ∉ fs.flatten) (i : Nat) : (fs.take i ++ f :: fs.drop i).flatten.Nodup := by
  have e : fs.flatten = (fs.take i).flatten ++ (fs.drop i).flatten := by rw [← List.flatten_append, List.take_append_drop]
  rw [e] at h hd
  rw [List.nodup_append] at h
  rw [List.flatten_append, List.flatten_cons, List.nodup_append]
  refine ⟨h.1, ?_, ?_⟩
  · rw [List.nodup_append]
    exact ⟨hf, h.2.1, fun a ha b hb e => hd a ha (by rw [e]; exact List.mem_append_right _ hb)⟩
  · intro a ha b hb e
    rcases List.mem_append.1 hb with hb | hb
    · exact hd b hb (by rw [← e]; exact List.mem_append_left _ ha)
    · exact h.2.2 a ha b hb e
theorem mem_put {α : Type} {fs : List (List α)} {f : List α} {i : Nat} {y : α} (h : y ∈ (fs.set i f).flatten) : y ∈ f ∨ y ∈ fs.flatten := by
  obtain ⟨g, hg, hy⟩ := List.mem_flatten.1 h
  rcases List.mem_or_eq_of_mem_set hg with h1 | h1
  · exact .inr (List.mem_flatten.2 ⟨g, h1, hy⟩)
  · rw [h1] at hy; exact .inl hy
theorem nodup_put {α : Type} {fs : List (List α)} {f : List α} (h : fs.flatten.Nodup) (hf : f.Nodup) (hd : ∀ y ∈ f, y ∉ fs.flatten) (i : Nat) : (fs.set i f).flatten.Nodup := by
  induction fs generalizing i with
  | nil => simp
  | cons g fs ih =>
    rw [List.flatten_cons, List.nodup_append] at h
    cases i with
    | zero =>
      rw [List.set_cons_zero, List.flatten_cons, List.nodup_append]
      exact ⟨hf, h.2.1, fun a ha b hb e => hd a ha (by rw [e, List.flatten_cons]; exact List.mem_append_right _ hb)⟩
    | succ i =>
      rw [List.set_cons_succ, List.flatten_cons, List.nodup_append]
      refine ⟨h.1, ih h.2.1 (fun y hy hm => hd y hy (by rw [List.flatten_cons]; exact List.mem_append_right _ hm)) i, fun a ha b hb e => ?_⟩
      rcases mem_put hb with hb | hb
      · exact hd b hb (by rw [← e, List.flatten_cons]; exact List.mem_append_left _ ha)
      · exact h.2.2 a ha b hb e
theorem flat_ins {α : Type} {k : Nat} : ∀ {css : List (List α)}, (∀ c ∈ css, c.length = k) → ∀ (i : Nat) (cs : List α), i ≤ css.length → (css.take i ++ cs :: css.drop i).flatten = css.flatten.take (i * k) ++ cs ++ css.flatten.drop (i * k)
  | css, h, 0, cs, _ => by simp
  | c :: css, h, i + 1, cs, hi => by
    have ih := flat_ins (css := css) (fun d hd => h d (List.mem_cons_of_mem _ hd)) i cs (by simpa using hi)
    have hc := h c List.mem_cons_self
    have e : (i + 1) * k = c.length + i * k := by rw [hc, Nat.succ_mul, Nat.add_comm]
    rw [List.take_succ_cons, List.drop_succ_cons, List.cons_append, List.flatten_cons, ih, List.flatten_cons, e, List.take_length_add_append, List.drop_length_add_append]
    simp
/-- a row put into a slice of structs of one's own -/
theorem OwnRows.ins {w : World} {B : Nat} {e : TypeId} {k : Nat} {p : Option Addr} {n c : Nat} {l : List (List D0)} {f : List Nat} (h : OwnRows w B e k p n c l f) {i : Nat} (hi : i ≤ n) :
    ∃ xs, Own w B e k p n c xs ∧ (∀ v ∈ xs, v.oneCell' = true) ∧ ∀ w' p' c' cs x fx, Own w' B e k p' (n + 1) c' (xs.take (i * k) ++ cs ++ xs.drop (i * k)) → Chg (p.map (·.block)).toList w w' →
      (p'.map (·.block) = p.map (·.block) ∨ ∀ q, p'.map (·.block) = some q → w.heap.size ≤ q) → cs.length = k → Owns w' B cs x fx → fx.Nodup → (∀ q ∈ fx, q ∉ f) → (∀ q ∈ fx, p'.map (·.block) ≠ some q) →
      ∃ f', OwnRows w' B e k p' (n + 1) c' (l.take i ++ x :: l.drop i) f' ∧ ∀ q ∈ f', q ∈ f ∨ q ∈ fx ∨ w.heap.size ≤ q := by
  obtain ⟨hl, css, fs, ha, ho, rfl, hnd⟩ := h
  obtain ⟨hlen, hcl, hfl⟩ := ha.lens
  refine ⟨css.flatten, ho, ha.cells1, ?_⟩
  intro w' p' c' cs x fx ho' hch hp hcs hox hnx hdis hpx
  have hnd1 := List.nodup_append.1 hnd
  have hpin : ∀ q ∈ fs.flatten, q ∉ (p.map (·.block)).toList := fun q hq hm => hnd1.2.2 q hm q hq rfl
  have ha' := AllO.ins hcs hox i (by omega) (ha.chg hch hpin)
  have hlt : ∀ q ∈ fs.flatten, q < w.heap.size := fun q hq => (ha.lt q hq).2
  refine ⟨(p'.map (·.block)).toList ++ (fs.take i ++ fx :: fs.drop i).flatten, ⟨by simp; omega, _, _, ha', by rw [flat_ins hlen i cs (by omega)]; exact ho', rfl, ?_⟩, ?_⟩
  · rw [List.nodup_append]
    refine ⟨by cases p' <;> simp, nodup_ins hnd1.2.1 hnx (fun y hy hm => hdis y hy (List.mem_append_right _ hm)) i, ?_⟩
    intro a ha b hb hab
    subst hab
    have hpa := opt_mem ha
    rcases mem_ins hb with hb | hb
    · exact hpx a hb hpa
    · rcases hp with hp | hp
      · rw [hp] at hpa
        exact hpin a hb (mem_opt hpa)
      · have := hp a hpa
        have := hlt a hb
        omega
  · intro q hq
    rcases List.mem_append.1 hq with hq | hq
    · have hpa := opt_mem hq
      rcases hp with hp | hp
      · rw [hp] at hpa
        exact .inl (List.mem_append_left _ (mem_opt hpa))
      · exact .inr (.inr (hp q hpa))
    · rcases mem_ins hq with hq | hq
      · exact .inr (.inl hq)
      · exact .inl (List.mem_append_right _ hq)
/-- a row of a slice of structs of one's own, another one put there -/
theorem OwnRows.put {w : World} {B : Nat} {e : TypeId} {k : Nat} {p : Option Addr} {n c : Nat} {l : List (List D0)} {f : List Nat} (h : OwnRows w B e k p n c l f) {i : Nat} {x : List D0} (hx : l[i]? = some x) :
    ∃ b xs cs zs, p = some ⟨b, 0, none⟩ ∧ B ≤ b ∧ b ∈ f ∧ xs.length = i * k ∧ cs.length = k ∧ Blk w b e (xs ++ cs ++ zs) ∧ Reps w cs x ∧
      ∀ w' cs' x' f', Chg [b] w w' → cs'.length = k → Blk w' b e (xs ++ cs' ++ zs) → Owns w' B cs' x' f' → f'.Nodup → (∀ y ∈ f', y ∉ f) → ∃ f'', OwnRows w' B e k p n c (l.set i x') f'' ∧ ∀ q ∈ f'', q ∈ f ∨ q ∈ f' := by
  obtain ⟨hl, css, fs, ha, ho, rfl, hnd⟩ := h
  have hi : i < l.length := (List.getElem?_eq_some_iff.1 hx).1
  obtain ⟨cs, fi, hcs, hfi, hk, how⟩ := ha.focus i x hx
  obtain ⟨hlen, hcl, hfl⟩ := ha.lens
  obtain ⟨b, ys, rfl, hb, hblk, hyl, hnc, hc, hy⟩ := ho.blk (by omega)
  have hsp := congrArg List.flatten (cons_at hcs)
  rw [List.flatten_append, List.flatten_cons] at hsp
  have hA : (css.take i).flatten.length = i * k := by
    rw [flat_len fun c hc => hlen c (List.mem_of_mem_take hc), List.length_take, Nat.min_eq_left (by omega)]
  have hys : ys = (css.take i).flatten ++ cs ++ ((css.drop (i + 1)).flatten ++ ys.drop (n * k)) := by
    conv => lhs; rw [← List.take_append_drop (n * k) ys, hy, hsp]
    simp
  have hnd1 := List.nodup_append.1 hnd
  have hpin : ∀ q ∈ fs.flatten, q ∉ [b] := fun q hq hm => hnd1.2.2 q (by simpa using hm) q hq rfl
  rw [hys] at hblk
  refine ⟨b, _, cs, _, rfl, hb, by simp, hA, hk, hblk, how.reps, ?_⟩
  intro w' cs' x' f' hch hk' hblk' how' hnf hdis
  have ha' := AllO.put hk' how' i (ha.chg hch hpin)
  have hset : (css.set i cs').flatten = (css.take i).flatten ++ cs' ++ (css.drop (i + 1)).flatten := by
    rw [List.set_eq_take_append_cons_drop, if_pos (by omega), List.flatten_append, List.flatten_cons, List.append_assoc]
  refine ⟨[b] ++ (fs.set i f').flatten, ⟨by simpa using hl, _, _, ha', ?_, by simp, ?_⟩, ?_⟩
  · rw [hset]
    have hlen2 : ((css.take i).flatten ++ cs' ++ (css.drop (i + 1)).flatten).length = n * k := by
      rw [← hset, flat_len (k := k) (fun c hc => by
        rcases List.mem_or_eq_of_mem_set hc with h1 | h1
        · exact hlen c h1
        · rw [h1]; exact hk')]
      rw [List.length_set, show css.length = n by omega]
    have hyl2 : ((css.take i).flatten ++ cs' ++ ((css.drop (i + 1)).flatten ++ ys.drop (n * k))).length = c * k := by
      rw [← hyl]
      conv => rhs; rw [hys]
      simp only [List.length_append, hk, hk']
    have := Own.of_blk' (B := B) (n := n) hblk' hb hyl2 hnc hc
    rwa [← List.append_assoc, List.take_left' hlen2] at this
  · rw [List.nodup_append]
    refine ⟨by simp, nodup_put hnd1.2.1 hnf (fun y hy hm => hdis y hy (List.mem_append_right _ hm)) i, ?_⟩
    intro a ha b' hb' hab
    subst hab
    rcases mem_put hb' with hb' | hb'
    · exact hdis a hb' (by simp at ha; subst ha; simp)
    · exact hpin a hb' ha
  · intro q hq
    rcases List.mem_append.1 hq with hq | hq
    · exact .inl (by simp at hq; subst hq; simp)
    · rcases mem_put hq with hq | hq
      · exact .inr hq
      · exact .inl (List.mem_append_right _ hq)
end Go.Proofs.YteakifedfnnmeaaDoor.Sx

namespace Go.Proofs.YteakifedfnnmeaaDoor
open Go Go.Proofs.YteakifedfnnmeaaDoor.Sx
set_option linter.unusedVariables false
set_option linter.unusedSimpArgs false
theorem sub0g (p : Option Addr) (c k : Nat) : Sx.sub p 0 c k = p := by
  unfold Sx.sub
  split
  · rfl
  · cases p <;> simp [Addr.add]
theorem subS {b i c k : Nat} (h : i < c) : Sx.sub (some ⟨b, 0, none⟩) i c k = some ⟨b, i * k, none⟩ := by
  unfold Sx.sub
  rw [if_neg (by omega)]
  show some ((⟨b, 0, none⟩ : Addr).add (i * k)) = _
  rw [addr_add, Nat.zero_add]
theorem len_copy {α : Type} {cur cs : List α} {o : Nat} (h : o + cs.length ≤ cur.length) : (cur.take o ++ cs ++ cur.drop (o + cs.length)).length = cur.length := by
  simp only [List.length_append, List.length_take, List.length_drop]
  omega
theorem list_grow {α : Type} {ys A news D : List α} {a m : Nat} (hA : ys.take a = A) (ha : A.length = a) (hm : news.length = m) :
    (((ys.take a ++ news ++ ys.drop (a + m)).take (a + m) ++ D ++ (ys.take a ++ news ++ ys.drop (a + m)).drop (a + m + D.length)).take (a + m + D.length)) = A ++ news ++ D := by
  have h1 : (A ++ news).length = a + m := by simp [ha, hm]
  rw [hA, List.take_left' h1, List.take_left' (by simp [ha, hm]; omega)]
theorem list_shift {α : Type} {ys A news D : List α} {a m : Nat} (hA : ys.take a = A) (hy : a + m ≤ ys.length) (ha : A.length = a) (hm : news.length = m) :
    (((ys.take (a + m) ++ D ++ ys.drop (a + m + D.length)).take a ++ news ++ (ys.take (a + m) ++ D ++ ys.drop (a + m + D.length)).drop (a + m)).take (a + m + D.length)) = A ++ news ++ D := by
  have h1 : (ys.take (a + m)).length = a + m := by simp; omega
  have h2 : (ys.take (a + m) ++ D ++ ys.drop (a + m + D.length)).take a = A := by
    rw [List.append_assoc, List.take_append_of_le_length (by omega), List.take_take, Nat.min_eq_left (by omega), hA]
  have h3 : (ys.take (a + m) ++ D ++ ys.drop (a + m + D.length)).drop (a + m) = D ++ ys.drop (a + m + D.length) := by
    rw [List.append_assoc, List.drop_left' h1]
  rw [h2, h3, ← List.append_assoc, List.take_left' (by simp [ha, hm]; omega)]
theorem ins_sliceT_Acct : sliceT P T_s_impl_Acct T_impl_Acct (.agg ⟨[.string ByteArray.empty, .string ByteArray.empty, .bool false, .slice none 0 0]⟩) 4 64 := ⟨by kernel_rfl, by kernel_rfl, rfl, by decide⟩
theorem ins_overlaps_Acct {a b off lb cb : Nat} {xs ys : List Value} {w : World} {tA tB : TypeId} (hA : Blk w a tA xs) (hB : Blk w b tB ys) (hne : a ≠ b) (hy : ys.length ≠ 0) :
    Externs P n_slices_overlaps_impl_Acct [.slice (some ⟨a, 0, none⟩) 1 1, .slice (some ⟨b, off, none⟩) lb cb] (.bool false) w w :=
  externs_apart Tryd.func49 (by kernel_rfl) (by kernel_rfl) (by kernel_rfl) (by kernel_rfl) (tR := T_bool) (show P.underlying T_s_impl_Acct = some (.slice T_impl_Acct) by kernel_rfl) (size := 4) (fun w => by
    have h := ins_sliceT_Acct.2.1
    cases hq : P.info? T_impl_Acct with
    | none => rw [hq] at h; cases h
    | some i =>
      rw [hq] at h
      simp only [Option.map_some, Option.some.injEq, Prod.mk.injEq] at h
      rw [sizeOf_run hq, h.2.1]) hA hB hne hy
theorem ins_Acct_c {w : World} {B : Nat} {p : Option Addr} {n c r i : Nat} {xs news : List Value} (h : Own w B T_impl_Acct 4 p n c xs) (h1 : ∀ v ∈ xs, v.oneCell' = true) (hr : Blk w r T_impl_Acct news) (hl : news.length = 4) (hn1 : ∀ v ∈ news, v.oneCell' = true)
    (hpr : p.map (·.block) ≠ some r) (hi : i ≤ n) (hB : B ≤ w.heap.size) (hbytes : (n + 1) * 64 ≤ 140737488355328) :
    Ret P n_slices_Insert_impl_Acct_impl_Acct [.slice p n c, .int .i64 ((i : Nat) : Int), .slice (some ⟨r, 0, none⟩) 1 1] w fun v w' => ∃ p' c', v = .slice p' (n + 1) c' ∧ Own w' B T_impl_Acct 4 p' (n + 1) c' (xs.take (i * 4) ++ news ++ xs.drop (i * 4)) ∧ Chg (p.map (·.block)).toList w w' ∧
      (p'.map (·.block) = p.map (·.block) ∨ ∀ q, p'.map (·.block) = some q → w.heap.size ≤ q) := by
  have hlen := h.len
  have hseg : ∀ W, Ext w W → ∀ j u, news[j]? = some u → W.cell? ((⟨r, 0, none⟩ : Addr).add j) = some u := fun W hW j u hj => by rw [addr_add, Nat.zero_add, (hr.ext hW).cell, hj]
  refine slices_Insert_impl_Acct_impl_Acct_ret ?_
  unfold slices_Insert_impl_Acct_impl_Acct
  simp only [Int.toNat_natCast, Nat.sub_zero, sub0g]
  refine ⟨⟨by omega, by omega⟩, ifD (fun hh => absurd hh (by decide)) (fun _ => ifD (fun he => ?_) (fun hne => exW ⟨by omega, by omega⟩ (ifD (fun hgr => ?_) (fun hroom => ?_))))⟩
  · have hin : i = n := by omega
    subst hin
    obtain ⟨p', c', w', hrun, hown, hch, hp⟩ := h.pushN (mc := 1) (m := 1) ins_sliceT_Acct hB (hseg w (Ext.refl w)) (by rw [hl]) hn1 hbytes (by decide) (by decide)
    refine ⟨p', i + 1, c', w', hrun, p', c', rfl, ?_, hch, ?_⟩
    · rw [List.take_of_length_le (by omega), List.drop_of_length_le (by omega), List.append_nil]
      exact hown
    · rcases hp with ⟨hp, _⟩ | ⟨hp, _⟩
      · exact .inl hp
      · exact .inr hp
  · have hin : i < n := by omega
    obtain ⟨b, ys, rfl, hb, hblk, hyl, hnc, hcm, hy⟩ := h.blk (by omega)
    have hcn : c = n := by omega
    subst hcn
    have hnr : r ≠ b := fun e => hpr (by rw [e]; rfl)
    have hbl := hblk.lt
    refine ⟨⟨by omega, by omega⟩, exW ⟨by omega, by omega⟩ (exW ⟨by omega, by omega⟩ ?_)⟩
    rw [show ((c : Nat) : Int) + ((1 : Nat) : Int) - ((i : Nat) : Int) = ((c + 1 - i : Nat) : Int) by omega]
    obtain ⟨r', c', w1, ys1, hA, hb1, hyl1, hle1, hcm1, htk, hr', hx1⟩ := (h.take (i := i) (by omega)).growZeros (tn := T_int) (k := c + 1 - i) ins_sliceT_Acct (by kernel_rfl) (by omega) (by omega) (by rw [show i + (c + 1 - i) = c + 1 by omega]; exact hbytes) (by decide)
    rw [show i + (c + 1 - i) = c + 1 by omega] at hA hle1
    have hAl : (xs.take (i * 4)).length = i * 4 := by simp; omega
    obtain ⟨w2, hC2, hb2, ch2, sz2⟩ := copies_row (P := P) (dT := T_s_impl_Acct) (sT := T_s_impl_Acct) (e := T_impl_Acct) (size := 4) (o := i * 4) (dLen := c + 1 - i) (dCap := c' - i) (sLen := 1) (sCap := 1) (cs := news) (by kernel_rfl) (by kernel_rfl) hb1 (by rw [hl, show Nat.min 1 (c + 1 - i) = 1 from Nat.min_eq_left (by omega)]) (hseg w1 hx1) (by omega) hn1
    have hblk2 := (hblk.ext hx1).chg ch2 (by simp; omega)
    have hdr := Ext.drew w2
    have hD : (xs.drop (i * 4)).length = (c - i) * 4 := by simp; omega
    have hsrc : ∀ j u, (xs.drop (i * 4))[j]? = some u → w2.drew.cell? ((⟨b, i * 4, none⟩ : Addr).add j) = some u := fun j u hj => by
      rw [addr_add, (hblk2.ext hdr).cell]
      rw [List.getElem?_drop, ← hy, List.getElem?_take] at hj
      split at hj
      · exact hj
      · cases hj
    obtain ⟨w3, hC3, hb3, ch3, sz3⟩ := copies_row (P := P) (dT := T_s_impl_Acct) (sT := T_s_impl_Acct) (e := T_impl_Acct) (size := 4) (o := (i + 1) * 4) (dLen := c + 1 - (i + 1)) (dCap := c' - (i + 1)) (sLen := c - i) (sCap := c - i) (cs := xs.drop (i * 4)) (by kernel_rfl) (by kernel_rfl) (hb2.ext hdr) (by rw [hD, show Nat.min (c - i) (c + 1 - (i + 1)) = c - i from Nat.min_eq_left (by omega)]) hsrc (by simp; omega) (fun v hv => h1 v (List.mem_of_mem_drop hv))
    refine ⟨_, _, _, w1, hA, ⟨by omega, by omega⟩, ((Nat.min 1 (c + 1 - i) : Nat) : Int), w2, ?_, exW ⟨by omega, by omega⟩ ⟨⟨by omega, by omega⟩, ⟨by omega, by omega⟩, ((Nat.min (c - i) (c + 1 - (i + 1)) : Nat) : Int), w3, ?_, _, c', rfl, ?_, ?_, .inr fun q hq => by simp at hq; omega⟩⟩
    · rw [subS (by omega)]; exact hC2
    · rw [show (((i : Nat) : Int) + ((1 : Nat) : Int)).toNat = i + 1 by omega, subS (by omega), subS (by omega)]; exact hC3
    · have hL2 := len_copy (cur := ys1) (cs := news) (o := i * 4) (by omega)
      have hL3 := len_copy (cur := ys1.take (i * 4) ++ news ++ ys1.drop (i * 4 + news.length)) (cs := xs.drop (i * 4)) (o := (i + 1) * 4) (by omega)
      rw [hL2] at hL3
      rw [show (i + 1) * 4 = i * 4 + 4 by omega, hl] at hL3
      have hfin := list_grow (D := xs.drop (i * 4)) (m := 4) htk hAl hl
      have hyl3 := hb3
      rw [show (i + 1) * 4 = i * 4 + 4 by omega, hl] at hb3
      have := Own.of_blk' (B := B) (n := c + 1) (c := c') hb3 (by omega) (hL3.trans hyl1) hle1 hcm1
      rw [show (c + 1) * 4 = i * 4 + 4 + (xs.drop (i * 4)).length by omega, hfin] at this
      exact this
    · have h12 : Ext w w2 := hx1.chg ch2 (by simp; omega)
      exact ((h12.trans hdr).chg ch3 (by simp; omega)).toChg
  · have hin : i < n := by omega
    obtain ⟨b, ys, rfl, hb, hblk, hyl, hnc, hcm, hy⟩ := h.blk (by omega)
    have hnr : r ≠ b := fun e => hpr (by rw [e]; rfl)
    have hD : (xs.drop (i * 4)).length = (n - i) * 4 := by simp; omega
    have hAl : (xs.take (i * 4)).length = i * 4 := by simp; omega
    have hdr := Ext.drew w
    have hsrc : ∀ j u, (xs.drop (i * 4))[j]? = some u → w.drew.cell? ((⟨b, i * 4, none⟩ : Addr).add j) = some u := fun j u hj => by
      rw [addr_add, (hblk.ext hdr).cell]
      rw [List.getElem?_drop, ← hy, List.getElem?_take] at hj
      split at hj
      · exact hj
      · cases hj
    obtain ⟨w2, hC2, hb2, ch2, sz2⟩ := copies_row (P := P) (dT := T_s_impl_Acct) (sT := T_s_impl_Acct) (e := T_impl_Acct) (size := 4) (o := (i + 1) * 4) (dLen := n + 1 - (i + 1)) (dCap := c - (i + 1)) (sLen := n + 1 - i) (sCap := c - i) (cs := xs.drop (i * 4)) (by kernel_rfl) (by kernel_rfl) (hblk.ext hdr) (by rw [hD, show Nat.min (n + 1 - i) (n + 1 - (i + 1)) = n - i from (Nat.min_eq_right (by omega)).trans (by omega)]) hsrc (by omega) (fun v hv => h1 v (List.mem_of_mem_drop hv))
    have hseg2 : ∀ j u, news[j]? = some u → w2.cell? ((⟨r, 0, none⟩ : Addr).add j) = some u := fun j u hj => by rw [addr_add, Nat.zero_add, ((hr.ext hdr).chg ch2 (by simpa using hnr)).cell, hj]
    obtain ⟨w3, hC3, hb3, ch3, sz3⟩ := copies_row (P := P) (dT := T_s_impl_Acct) (sT := T_s_impl_Acct) (e := T_impl_Acct) (size := 4) (o := i * 4) (dLen := n + 1 - i) (dCap := c - i) (sLen := 1) (sCap := 1) (cs := news) (by kernel_rfl) (by kernel_rfl) hb2 (by rw [hl, show Nat.min 1 (n + 1 - i) = 1 from Nat.min_eq_left (by omega)]) hseg2 (by simp; omega) hn1
    refine exW ⟨by omega, by omega⟩ ?_
    rw [show (((n : Nat) : Int) + ((1 : Nat) : Int)).toNat = n + 1 by omega]
    refine ⟨⟨by omega, by omega⟩, exW ⟨by omega, by omega⟩ ⟨⟨by omega, by omega⟩, false, w, ?_, ifN (fun _ => exW ⟨by omega, by omega⟩ ⟨⟨by omega, by omega⟩, ⟨by omega, by omega⟩, ((Nat.min (n + 1 - i) (n + 1 - (i + 1)) : Nat) : Int), w2, ?_, ⟨by omega, by omega⟩, ((Nat.min 1 (n + 1 - i) : Nat) : Int), w3, ?_, _, c, rfl, ?_, ?_, .inl rfl⟩) (fun hh => absurd hh (by simp))⟩⟩
    · rw [show (((i : Nat) : Int) + ((1 : Nat) : Int)).toNat = i + 1 by omega, subS (by omega)]
      exact ins_overlaps_Acct hr hblk hnr (by omega)
    · rw [show (((i : Nat) : Int) + ((1 : Nat) : Int)).toNat = i + 1 by omega, subS (by omega), subS (by omega)]; exact hC2
    · rw [subS (by omega)]; exact hC3
    · have hA : ys.take (i * 4) = xs.take (i * 4) := by rw [← hy, List.take_take, Nat.min_eq_left (by omega)]
      have hL2 := len_copy (cur := ys) (cs := xs.drop (i * 4)) (o := (i + 1) * 4) (by omega)
      have hL3 := len_copy (cur := ys.take ((i + 1) * 4) ++ xs.drop (i * 4) ++ ys.drop ((i + 1) * 4 + (xs.drop (i * 4)).length)) (cs := news) (o := i * 4) (by omega)
      rw [hL2] at hL3
      rw [show (i + 1) * 4 = i * 4 + 4 by omega, hl] at hL3
      have hfin := list_shift (D := xs.drop (i * 4)) (m := 4) hA (by omega) hAl hl
      rw [show (i + 1) * 4 = i * 4 + 4 by omega, hl] at hb3
      have := Own.of_blk' (B := B) (n := n + 1) (c := c) hb3 hb (hL3.trans hyl) (by omega) hcm
      rw [show (n + 1) * 4 = i * 4 + 4 + (xs.drop (i * 4)).length by omega, hfin] at this
      exact this
    · exact (hdr.toChg.trans ch2).trans ch3
end Go.Proofs.YteakifedfnnmeaaDoor

namespace Go.Proofs.YteakifedfnnmeaaDoor
open Go Go.Proofs.YteakifedfnnmeaaDoor.Sx
set_option linter.unusedVariables false
set_option linter.unusedSimpArgs false
def acAt : List (List D0) → ByteArray → Nat
  | [], _ => 0
  | x :: r, c => if Op.bytesLess (strOf x).toList c.toList = true then acAt r c + 1 else 0
theorem acAt_unique : ∀ {l : List (List D0)} {c : ByteArray} {k : Nat}, k ≤ l.length → (∀ j x, l[j]? = some x → j < k → Op.bytesLess (strOf x).toList c.toList = true) → (∀ x, l[k]? = some x → Op.bytesLess (strOf x).toList c.toList = false) → k = acAt l c
  | [], c, k, hk, _, _ => by simp at hk; subst hk; rfl
  | x :: r, c, 0, _, _, h2 => by
    have := h2 x rfl
    unfold acAt
    rw [this]; rfl
  | x :: r, c, k + 1, hk, h1, h2 => by
    have h0 := h1 0 x rfl (by omega)
    have ih := acAt_unique (l := r) (c := c) (k := k) (by simpa using hk) (fun j y hj hlt => h1 (j + 1) y (by simpa using hj) (by omega)) (fun y hy => h2 y (by simpa using hy))
    unfold acAt
    rw [h0, ← ih]; rfl
def openRow (name cur : ByteArray) : List D0 := [.str name, .str cur, .bool false, .ints []]
def openL (l : List (List D0)) (name cur : ByteArray) : List (List D0) := l.take (acAt l name) ++ openRow name cur :: l.drop (acAt l name)
def openOk (l : List (List D0)) (name cur : ByteArray) : Bool := bookOk l && (decide (acctAt l name < 0) && bookOk (openL l name cur))
def openT (l : List (List D0)) (name cur : ByteArray) : List (List D0) := if openOk l name cur then openL l name cur else []
theorem openL_mem {l : List (List D0)} {name cur : ByteArray} {x : List D0} (h : x ∈ openL l name cur) : x ∈ l ∨ x = openRow name cur := by
  unfold openL at h
  rcases List.mem_append.1 h with h | h
  · exact .inl (List.mem_of_mem_take h)
  · rcases List.mem_cons.1 h with h | h
    · exact .inr h
    · exact .inl (List.mem_of_mem_drop h)
theorem openL_code {l : List (List D0)} (hc : ∀ x ∈ l, x.map D0.code = [.str, .str, .bool, .ints]) (name cur : ByteArray) : ∀ x ∈ openL l name cur, x.map D0.code = [.str, .str, .bool, .ints] := fun x hx => by
  rcases openL_mem hx with h | h
  · exact hc x h
  · rw [h]; rfl
theorem openL_bulk {l : List (List D0)} (hb : ∀ x ∈ l, bulks x ≤ 1048576) {name cur : ByteArray} (s1 : name.size ≤ 1048576) (s2 : cur.size ≤ 1048576) : ∀ x ∈ openL l name cur, bulks x ≤ 4194304 := fun x hx => by
  rcases openL_mem hx with h | h
  · have := hb x h; omega
  · rw [h]
    simp only [openRow, bulks, D0.bulk, List.map_cons, List.map_nil, List.sum_cons, List.sum_nil, List.length_nil]
    omega
theorem bookOk_len {l : List (List D0)} (h : bookOk l = true) : l.length ≤ 12 := by
  simp only [bookOk, Bool.and_eq_true, decide_eq_true_eq] at h
  exact h.1
theorem bookOk_leg {l : List (List D0)} (h : bookOk l = true) : ∀ x ∈ l, legOk x = true := fun x hx => by
  obtain ⟨i, hi, rfl⟩ := List.getElem_of_mem hx
  simp only [bookOk, Bool.and_eq_true, List.all_eq_true] at h
  have := h.2 i (List.mem_range.2 hi)
  simp only [bookRowOk, Bool.and_eq_true] at this
  rw [getD_row hi] at this
  exact this.1
theorem leg_cnt {x : List D0} (hc : x.map D0.code = [.str, .str, .bool, .ints]) (h : legOk x = true) : cnts x ≤ 60 := by
  obtain ⟨a, es, he, c1⟩ := code_str hc
  obtain ⟨b, es2, he2, c2⟩ := code_str c1
  obtain ⟨s, es3, he3, c3⟩ := code_bool c2
  obtain ⟨z, es4, he4, c4⟩ := code_ints c3
  have := code_nil c4
  subst this; subst he4; subst he3; subst he2; subst he
  simp only [legOk, Bool.and_eq_true] at h
  have hm := h.2
  simp only [moneyOk, Bool.and_eq_true] at hm
  obtain ⟨_, b', z', he, _, hl⟩ := intOk_enc hm.1.2
  simp only [List.cons.injEq, D0.bool.injEq, D0.ints.injEq, and_true] at he
  obtain ⟨_, rfl⟩ := he
  have he : cnts [.str a, .str b, .bool s, .ints z] = 1 + (1 + (1 + ((z.length : Nat) + 0))) := rfl
  rw [he]
  omega
theorem cntL_maxA {M : Int} (hM : 0 ≤ M) : ∀ (l : List (List D0)), (∀ x ∈ l, cnts x ≤ M) → cntL l ≤ (l.length : Nat) * M
  | [], _ => by simp [cntL]
  | x :: l, h => by
    have h1 := h x (.head _); have h2 := cntL_maxA hM l fun y hy => h y (.tail _ hy)
    simp only [cntL, List.length_cons, Int.natCast_add, Int.natCast_one, Int.add_mul, Int.one_mul]
    omega
theorem book_cnt {l : List (List D0)} (hc : ∀ x ∈ l, x.map D0.code = [.str, .str, .bool, .ints]) (h : bookOk l = true) : cntL l ≤ 1000000000 := by
  have hl := bookOk_len h
  have := cntL_maxA (M := 60) (by decide) l (fun x hx => leg_cnt (hc x hx) (bookOk_leg h x hx))
  omega
theorem openT_code {l : List (List D0)} (hc : ∀ x ∈ l, x.map D0.code = [.str, .str, .bool, .ints]) (name cur : ByteArray) : ∀ x ∈ openT l name cur, x.map D0.code = [.str, .str, .bool, .ints] := by
  unfold openT
  split
  · exact openL_code hc name cur
  · intro x hx; simp at hx
theorem openT_cnt {l : List (List D0)} (hc : ∀ x ∈ l, x.map D0.code = [.str, .str, .bool, .ints]) (name cur : ByteArray) : cntL (openT l name cur) ≤ 1000000000 := by
  unfold openT
  split
  · rename_i h
    simp only [openOk, Bool.and_eq_true] at h
    exact book_cnt (openL_code hc name cur) h.2.2
  · decide
theorem rows0 (w : World) (B : Nat) (e : TypeId) (k : Nat) : OwnRows w B e k none 0 0 [] [] := ⟨rfl, [], [], trivial, Own.nil _ _ _ _, by simp, by simp⟩
theorem own_openRow (w : World) (B : Nat) (name cur : ByteArray) : Owns w B [.string name, .string cur, .bool false, .slice none 0 0] (openRow name cur) [] :=
  Owns.append (Owns.str _ _ name) (Owns.append (Owns.str _ _ cur) (Owns.append (Owns.bool w B false) (Owns.ints (zs := []) (Own.nil w B T_int 1))))
theorem own_pushA {w : World} {B : Nat} {t e : TypeId} {z : Value} {size bytes : Nat} {g n c m mc : Nat} {a : Addr} {xs news : List Value} (h : Sx.Own w B e size (some ⟨g, 0, none⟩) n c xs)
    (hT : sliceT P t e z size bytes) (hb : B ≤ w.heap.size) (hcells : ∀ j u, news[j]? = some u → w.cell? (a.add j) = some u) (hl : news.length = m * size) (h1 : ∀ u ∈ news, u.oneCell' = true)
    (hbytes : (n + m) * bytes ≤ 140737488355328) (hby : 1 ≤ bytes) :
    ∃ g' c' w', Appends P [t, t] [.slice (some ⟨g, 0, none⟩) n c, .slice (some a) m mc] (.slice (some ⟨g', 0, none⟩) (n + m) c') w w' ∧ Sx.Own w' B e size (some ⟨g', 0, none⟩) (n + m) c' (xs ++ news) ∧ Chg [g] w w' ∧ (g' = g ∨ w.heap.size ≤ g') := by
  rcases Nat.eq_zero_or_pos m with h0 | h0
  · subst h0
    have hn : news = [] := List.eq_nil_of_length_eq_zero (by simpa using hl)
    subst hn
    obtain ⟨hu, hi, hz, hs⟩ := hT
    cases hinf : P.info? e with
    | none => rw [hinf] at hi; cases hi
    | some i =>
      rw [hinf] at hi
      simp only [Option.map_some, Option.some.injEq, Prod.mk.injEq] at hi
      rcases h.2 with ⟨e1, e2⟩ | ⟨g2, cap, cur, e1, hB, hg, h3, h4, h5, h6⟩
      · simp at e1
      · simp only [Value.slice.injEq, Option.some.injEq, Addr.mk.injEq, and_true, true_and] at e1
        obtain ⟨rfl, rfl⟩ := e1
        have hsz : n * i.size + ([] : List Value).length ≤ cur.size := by
          have : n * size ≤ c * size := Nat.mul_le_mul_right _ h3
          simp only [List.length_nil, Nat.add_zero, hi.2.1, h5]
          exact this
        obtain ⟨v', w', hrun, hown, hgr, _⟩ := run_append_own (P := P) w B t 0 e i z size bytes hu hinf hi.1 hi.2.1 hi.2.2 hz hs (.slice (some ⟨g, 0, none⟩) n c) n xs h a 0 mc [] hl hcells h1 (by omega) (by simpa using hbytes) hb
        have hr := run_append_room (P := P) w t 0 e i hu hinf g n c cur hg a 0 mc [] (by simp) hcells h1 (by omega) hsz
        rw [hr] at hrun
        injection hrun with hv hw
        subst hv
        subst hw
        refine ⟨g, c, _, hr, hown, ⟨hgr.os, hgr.tape, hgr.output, hgr.size, fun k hk hn => hgr.block k hk ?_⟩, .inl rfl⟩
        intro e; simp [Value.ownBlock] at e; simp at hn; omega
  · obtain ⟨p', c', w', hA, hO, hC, hP⟩ := Sx.Own.pushN h (mc := mc) hT hb hcells hl h1 hbytes hby h0
    obtain ⟨g', ys, rfl, _⟩ := hO.blk (by omega)
    refine ⟨g', c', w', hA, hO, hC, ?_⟩
    rcases hP with ⟨hp, _⟩ | ⟨hp, _⟩
    · simp at hp; exact .inl hp
    · exact .inr (hp g' rfl)
/-- append of rows that may be none at all -/
theorem own_pushS {w : World} {B : Nat} {t e : TypeId} {z : Value} {size bytes : Nat} {g n c m mc : Nat} {q : Option Addr} {xs news : List Value} (h : Sx.Own w B e size (some ⟨g, 0, none⟩) n c xs)
    (hT : sliceT P t e z size bytes) (hb : B ≤ w.heap.size) (hsrc : (m = 0 ∧ q = none) ∨ ∃ a, q = some a ∧ ∀ j u, news[j]? = some u → w.cell? (a.add j) = some u) (hl : news.length = m * size) (h1 : ∀ u ∈ news, u.oneCell' = true)
    (hbytes : (n + m) * bytes ≤ 140737488355328) (hby : 1 ≤ bytes) :
    ∃ g' c' w', Appends P [t, t] [.slice (some ⟨g, 0, none⟩) n c, .slice q m mc] (.slice (some ⟨g', 0, none⟩) (n + m) c') w w' ∧ Sx.Own w' B e size (some ⟨g', 0, none⟩) (n + m) c' (xs ++ news) ∧ Chg [g] w w' ∧ (g' = g ∨ w.heap.size ≤ g') := by
  rcases hsrc with ⟨rfl, rfl⟩ | ⟨a, rfl, hc⟩
  · have hn : news = [] := List.eq_nil_of_length_eq_zero (by simpa using hl)
    subst hn
    obtain ⟨hu, hi, hz, hs⟩ := hT
    cases hinf : P.info? e with
    | none => rw [hinf] at hi; cases hi
    | some i =>
      exact ⟨g, c, w, run_append_none w B t 0 e i size hu hinf _ n mc _ h, by simpa using h, Chg.refl _ _, .inl rfl⟩
  · exact own_pushA h hT hb hc hl h1 hbytes hby
/-- rows, a new row and the rest of the rows, one after the other -/
theorem ins3 {wk wa : World} {B n c j r3 : Nat} {p : Option Addr} {l : List (List D0)} {f : List Nat} (how : OwnRows wk B T_impl_Acct 4 p n c l f) (hB : B ≤ wk.heap.size) (hj : j ≤ n) (hn : n ≤ 1000000) (hna : New wk (.cells ⟨[]⟩ T_impl_Acct (0, 0)) r3 wa) :
    ∃ g1 c1 w14, Appends P [T_s_impl_Acct, T_s_impl_Acct] [.slice (some ⟨r3, 0, none⟩) 0 0, .slice p j c] (.slice (some ⟨g1, 0, none⟩) j c1) wa w14 ∧ Ext wk w14 ∧ j ≤ c ∧
      ∀ (x : List D0) (cs : List Value) (r4 : Nat) (w16 : World), New w14 (.cells ⟨cs⟩ T_impl_Acct (0, 0)) r4 w16 → cs.length = 4 → (∀ u ∈ cs, u.oneCell' = true) → (∀ W, Owns W B cs x []) →
        ∃ g2 c2 w17, Appends P [T_s_impl_Acct, T_s_impl_Acct] [.slice (some ⟨g1, 0, none⟩) j c1, .slice (some ⟨r4, 0, none⟩) 1 1] (.slice (some ⟨g2, 0, none⟩) (j + 1) c2) w16 w17 ∧ Ext wk w17 ∧
          ∃ g3 c3 w18 f', Appends P [T_s_impl_Acct, T_s_impl_Acct] [.slice (some ⟨g2, 0, none⟩) (j + 1) c2, .slice (Sx.sub p j c 4) (n - j) (c - j)] (.slice (some ⟨g3, 0, none⟩) (n + 1) c3) w17 w18 ∧ OwnRows w18 B T_impl_Acct 4 (some ⟨g3, 0, none⟩) (n + 1) c3 (l.take j ++ x :: l.drop j) f' ∧ Ext wk w18 := by
  have hra := hna.r_eq; have hza := hna.size
  obtain ⟨xs, hown, h1, hins⟩ := how.ins (i := j) hj
  have hxl : xs.length = n * 4 := hown.len
  have hle := hown.le
  have hT := sliceT_acct
  -- where the rows come from
  have src : ∀ W, Ext wk W → (p = none ∧ n = 0) ∨ ∃ b, p = some ⟨b, 0, none⟩ ∧ Seg W b 0 xs ∧ b < wk.heap.size := fun W hW => by
    rcases hown.2 with ⟨e1, e2⟩ | ⟨g, cap, cu, e1, hBg, hg, h3, h4, h5, h6⟩
    · left
      simp only [Value.slice.injEq] at e1
      exact ⟨e1.1, e1.2.1⟩
    · right
      simp only [Value.slice.injEq] at e1
      have hbk : Blk wk g T_impl_Acct cu.toList := by cases cu; exact hg
      have := ((hbk.ext hW).seg).take (n * 4)
      refine ⟨g, e1.1, ?_, hbk.lt⟩
      rw [show xs = cu.toList.take (n * 4) from h6.symm]
      exact this
  obtain ⟨g1, c1, w14, hA1, hO1, ch1, hg1⟩ := own_pushS (m := j) (mc := c) (q := p) (news := xs.take (j * 4)) (Sx.Own.of_blk0 (base := B) (size := 4) (n := 0) hna.blk (by omega) (by simp) (by decide) : Sx.Own wa B T_impl_Acct 4 (some ⟨r3, 0, none⟩) 0 0 []) hT (by omega) (by
      rcases src wa hna.ext with ⟨rfl, h0⟩ | ⟨b, rfl, hs, _⟩
      · exact .inl ⟨by omega, rfl⟩
      · refine .inr ⟨_, rfl, fun i u hi => ?_⟩
        rw [addr_add]
        exact (hs.take (j * 4)) i u hi) (by simp; omega) (fun u hu => h1 u (List.mem_of_mem_take hu)) (by omega) (by decide)
  rw [Nat.zero_add, List.nil_append] at hO1
  rw [Nat.zero_add] at hA1
  have X14 : Ext wk w14 := hna.ext.chg ch1 (by simp; omega)
  refine ⟨g1, c1, w14, hA1, X14, by omega, ?_⟩
  intro x cs r4 w16 hn16 hcl hc1 hox
  have e16 := hn16.r_eq; have z16 := hn16.size
  have l14 := X14.le
  have hg1l : g1 < w14.heap.size := by
    rcases hO1.2 with ⟨e1, e2⟩ | ⟨g, cap, cu, e1, hBg, hg, h3, h4, h5, h6⟩
    · simp at e1
    · simp only [Value.slice.injEq, Option.some.injEq, Addr.mk.injEq, and_true, true_and] at e1
      obtain ⟨rfl, rfl⟩ := e1
      exact (Array.getElem?_eq_some_iff.1 hg).1
  have hg1B : wk.heap.size ≤ g1 := by rcases hg1 with h | h <;> omega
  obtain ⟨g2, c2, w17, hA2, hO2, ch2, hg2⟩ := own_pushA (m := 1) (mc := 1) (a := ⟨r4, 0, none⟩) (news := cs) (hO1.ext hn16.ext) hT (by omega) (fun i u hi => by rw [addr_add, Nat.zero_add, hn16.blk.cell, hi]) (by rw [hcl]) hc1 (by omega) (by decide)
  have X17 : Ext wk w17 := (X14.trans hn16.ext).chg ch2 (by simp; omega)
  have hg2B : wk.heap.size ≤ g2 := by rcases hg2 with h | h <;> omega
  refine ⟨g2, c2, w17, hA2, X17, ?_⟩
  have l17 := X17.le
  obtain ⟨g3, c3, w18, hA3, hO3, ch3, hg3⟩ := own_pushS (m := n - j) (mc := c - j) (q := Sx.sub p j c 4) (news := xs.drop (j * 4)) hO2 hT (by omega) (by
      rcases src w17 X17 with ⟨rfl, h0⟩ | ⟨b, rfl, hs, _⟩
      · exact .inl ⟨by omega, by unfold Sx.sub; split <;> rfl⟩
      · by_cases hjc : j < c
        · refine .inr ⟨⟨b, j * 4, none⟩, subS hjc, fun i u hi => ?_⟩
          rw [addr_add]
          have := (hs.drop (j * 4)) i u hi
          rwa [Nat.zero_add] at this
        · refine .inr ⟨⟨b, 0, none⟩, by unfold Sx.sub; rw [if_pos (by omega)], fun i u hi => ?_⟩
          have := (List.getElem?_eq_some_iff.1 hi).1
          simp at this; omega) (by simp; omega) (fun u hu => h1 u (List.mem_of_mem_drop hu)) (by omega) (by decide)
  rw [show j + 1 + (n - j) = n + 1 by omega] at hA3 hO3
  have X18 : Ext wk w18 := X17.chg ch3 (by simp; omega)
  have hg3B : wk.heap.size ≤ g3 := by rcases hg3 with h | h <;> omega
  obtain ⟨f', hor, _⟩ := hins w18 (some ⟨g3, 0, none⟩) c3 cs x [] hO3 X18.toChg (.inr (fun q hq => by simp at hq; omega)) hcl (hox w18) List.nodup_nil (by simp) (by simp)
  exact ⟨g3, c3, w18, f', hA3, hor, X18⟩
end Go.Proofs.YteakifedfnnmeaaDoor

namespace Go.Proofs.YteakifedfnnmeaaDoor
open Go
abbrev muLink : Go.Conc.Locks.MuLink := { lock := 72, unlock := 73, ilock := 84, iunlock := 85, lockSlow := 98, unlockSlow := 101, disable := 94, enable := 96, acquire := 97, relMerge := 99, cas32 := 95, add32 := 100, tMutex := 83, tIMutex := 81, tPMutex := 111, tPIMutex := 117, tPI32 := 119, tUP := 121, tNoCopy := 78, tU32 := 79 }
theorem muLib : Go.Conc.Locks.MuLib Tryd.prog muLink :=
  ⟨Tryd.func72, Tryd.func73, Tryd.func84, Tryd.func85, Tryd.func94, Tryd.func96, Tryd.func97, Tryd.func99, Tryd.func95, Tryd.func100, Tryd.underlying81, Tryd.runUnderlying81, Tryd.sizeOf81, Tryd.isAgg81, Tryd.zeroValue81, Tryd.underlying83, Tryd.runUnderlying83, Tryd.sizeOf83, Tryd.isAgg83, Tryd.zeroValue83, Tryd.underlying111, Tryd.runUnderlying111, Tryd.sizeOf111, Tryd.isAgg111, Tryd.zeroValue111, Tryd.underlying117, Tryd.runUnderlying117, Tryd.sizeOf117, Tryd.isAgg117, Tryd.zeroValue117, Tryd.underlying119, Tryd.runUnderlying119, Tryd.sizeOf119, Tryd.isAgg119, Tryd.zeroValue119, Tryd.underlying121, Tryd.runUnderlying121, Tryd.sizeOf121, Tryd.isAgg121, Tryd.zeroValue121, Tryd.underlying78, Tryd.runUnderlying78, Tryd.sizeOf78, Tryd.isAgg78, Tryd.zeroValue78, Tryd.underlying21, Tryd.runUnderlying21, Tryd.sizeOf21, Tryd.isAgg21, Tryd.zeroValue21, (by kernel_rfl)⟩
end Go.Proofs.YteakifedfnnmeaaDoor

namespace Go.Proofs.YteakifedfnnmeaaDoor
open Go Go.Proofs Go.Proofs.YteakifedfnnmeaaDoor.Sx
set_option linter.unusedVariables false
set_option linter.unusedSimpArgs false
theorem blk_setCellC {w : World} {b k : Nat} {e : TypeId} {cs : List Value} (h : Blk w b e cs) (v : Value) : Blk (w.setCell ⟨b, k, none⟩ v) b e (cs.set k v) ∧ Chg [b] w (w.setCell ⟨b, k, none⟩ v) := by
  have h' : w.heap[b]? = some (.cells ⟨cs⟩ e (0, 0)) := h
  refine ⟨?_, rfl, rfl, rfl, by simp [World.setCell], fun j hj hn => ?_⟩
  rotate_left
  · show (w.heap.modify b _)[j]? = _
    rw [Array.getElem?_modify, if_neg (fun e => hn (by rw [e]; simp))]
  show (w.heap.modify b _)[b]? = _
  rw [Array.getElem?_modify, if_pos rfl, h']
  simp
theorem blk_frozenC {w : World} {b k : Nat} {e : TypeId} {cs : List Value} (h : Blk w b e cs) : w.frozen? ⟨b, k, none⟩ = false := by
  have h' : w.heap[b]? = some (.cells ⟨cs⟩ e (0, 0)) := h
  simp [World.frozen?, h']
set_option maxHeartbeats 1000000 in
theorem change_BookOpen {w : World} {r n c : Nat} {e : TypeId} {p : Option Addr} {c0 c1 : Value} {Q : Bool → Option Addr → Nat → Nat → World → Prop} (hb : Blk w r e [.int .i32 0, .int .u32 0, .slice p n c])
    (hcall : ∀ w1, Blk w1 r e [.int .i32 1, .int .u32 0, .slice p n c] → Chg [r] w w1 → w1.heap.size = w.heap.size → Calls Tryd.prog 26 #[.pointer (some ⟨r, 2, none⟩), c0, c1] w1 fun ed w2 => ∃ ok p' n' c', ed = .returned (.bool ok) ∧ Q ok p' n' c' w2 ∧ Blk w2 r e [.int .i32 1, .int .u32 0, .slice p' n' c']) :
    Calls Tryd.prog 48 #[.pointer (some ⟨r, 0, none⟩), .func (.func 26) #[] #[c0, c1]] w fun ed w' => ∃ v, ed = .returned v ∧ ∃ ok p' n' c' w2, v = .bool ok ∧ Q ok p' n' c' w2 ∧ Chg [r] w2 w' ∧ w'.heap.size = w2.heap.size ∧ Blk w' r e [.int .i32 0, .int .u32 0, .slice p' n' c'] := by
  obtain ⟨hb1, ch1⟩ := blk_setCellC (k := 0) hb (.int .i32 1)
  have hc0 : w.cell? ⟨r, 0, none⟩ = some (.int .i32 0) := by rw [hb.cell]; rfl
  have hcl := hcall (w.setCell ⟨r, 0, none⟩ (.int .i32 1)) hb1 ch1 (by simp [World.setCell])
  go_enter_defers Tryd.func48, Tryd.ntmps48
  go_wp2_with (first | (go_at_call 72; refine (Go.MuLone.lock_free muLib ⟨r, 0, none⟩ _ hc0 (blk_frozenC hb)).mono ?_; rintro e w' ⟨rfl, rfl⟩) | (go_at_call 26; refine hcl.mono ?_; rintro e w2 ⟨ok, p', n', c', rfl, hQ, hb2⟩))
  refine leaves_cons (f := 73) (args := #[.pointer (some ⟨r, 0, none⟩)]) (by simp) (by simp [go_sem]) ?_
  refine (Go.MuLone.unlock_deferred muLib ⟨r, 0, none⟩ .returning _ (by rw [hb2.cell]; rfl) (blk_frozenC hb2)).mono ?_
  rintro e u' w'' ⟨rfl, rfl, rfl⟩
  obtain ⟨hb3, ch3⟩ := blk_setCellC (k := 0) hb2 (.int .i32 0)
  exact ⟨_, results_tmp rfl _ _ _, _, rfl, ok, p', n', c', w2, rfl, hQ, ch3, by simp [World.setCell], hb3⟩
end Go.Proofs.YteakifedfnnmeaaDoor

namespace Go.Proofs.YteakifedfnnmeaaDoor
open Go Go.Proofs.YteakifedfnnmeaaDoor.Sx
set_option linter.unusedVariables false
set_option linter.unusedSimpArgs false
set_option maxHeartbeats 1000000 in
theorem impl_BookOpen_1_c {w0 w : World} {B r n c rn rc : Nat} {e : TypeId} {p : Option Addr} {l : List (List D0)} {f : List Nat} {name cur : ByteArray} (ht : Tab w0) (hx0 : Ext w0 w) (hB0 : w0.heap.size ≤ B) (hr0 : w0.heap.size ≤ r)
    (hb : Blk w r e [.int .i32 1, .int .u32 0, .slice p n c]) (ho : OwnRows w B T_impl_Acct 4 p n c l f) (hrf : r ∉ f) (hB : B ≤ w.heap.size) (hc : ∀ x ∈ l, x.map D0.code = [.str, .str, .bool, .ints]) (hn : n ≤ 1000) (hbk : ∀ x ∈ l, bulks x ≤ 1048576)
    (hnm : Blk w rn T_string [.string name]) (hcr : Blk w rc T_string [.string cur]) (s1 : name.size ≤ 1048576) (s2 : cur.size ≤ 1048576) :
    Ret P n_impl_BookOpen_1 [.pointer (some ⟨r, 2, none⟩), .pointer (some ⟨rn, 0, none⟩), .pointer (some ⟨rc, 0, none⟩)] w fun v w2 => ∃ p' c' f', v = .bool (bookOk (openL l name cur)) ∧ OwnRows w2 B T_impl_Acct 4 p' (n + 1) c' (openL l name cur) f' ∧ (∀ q ∈ f', q ∈ f ∨ w.heap.size ≤ q) ∧ Blk w2 r e [.int .i32 1, .int .u32 0, .slice p' (n + 1) c'] ∧ Chg (r :: (p.map (·.block)).toList) w w2 := by
  have hln := ho.1
  refine impl_BookOpen_1_ret ?_
  unfold impl_BookOpen_1
  refine ⟨fun i wv => ∃ j : Nat, i = j ∧ j ≤ n ∧ (∀ a (x : List D0), l[a]? = some x → a < j → Op.bytesLess (strOf x).toList name.toList = true) ∧ Ext w wv, fun i _ => n - i.toNat, ⟨0, rfl, by omega, fun a x _ ha => absurd ha (by omega), Ext.refl w⟩, ?_⟩
  intro junk wv atv ⟨j, hj, hjn, hless, hx⟩
  subst hj
  have d1 := Ext.drew wv
  refine ⟨_, _, _, fun V hV => (hb.ext (hx.trans (d1.trans hV))).loadAt 2 rfl (by kernel_rfl) rfl, ifD (fun hlt => ?_) (fun hge => ⟨fun h => absurd h (by simp), fun _ => ?_⟩)⟩
  · have hjl : j < l.length := by omega
    obtain ⟨b1, xs1, cs1, zs1, hpb, _, _, hxl, hcl, hblk, hrep, _⟩ := ho.put (List.getElem?_eq_getElem hjl)
    obtain ⟨a0, a1, a2, a3p, a3n, a3c, a3z, rfl, hd, _⟩ := open_Acct hrep (hc _ (List.getElem_mem hjl))
    have hs0 : strOf l[j] = a0 := by rw [hd]; rfl
    subst hpb
    refine ⟨_, _, _, fun V hV => (hb.ext (hx.trans (d1.trans hV))).loadAt 2 rfl (by kernel_rfl) rfl, ⟨by omega, by omega⟩, _, fun V hV => (hblk.ext (hx.trans (d1.trans hV))).loadAt (j * 4) (by rw [addr_add, addr_add, Nat.zero_add, Nat.add_zero, Int.toNat_natCast]) (by kernel_rfl) (by rw [List.append_assoc, ← hxl, List.getElem?_append_right (Nat.le_refl _), Nat.sub_self]; rfl), _, fun V hV => (hnm.ext (hx.trans (d1.trans hV))).loadAt 0 rfl (by kernel_rfl) rfl, fun hl => ?_, fun hnl => ?_⟩
    · refine exW ⟨by omega, by omega⟩ ⟨⟨j + 1, rfl, by omega, fun a y hy ha => ?_, hx.trans d1⟩, by show n - ((j : Int) + 1).toNat < n - (j : Int).toNat; omega⟩
      by_cases hak : a < j
      · exact hless a y hy hak
      · have : a = j := by omega
        subst this
        rw [List.getElem?_eq_getElem hjl] at hy
        simp only [Option.some.injEq] at hy
        rw [← hy, hs0]; exact hl
    · have hpos : j = acAt l name := acAt_unique (by omega) hless (fun y hy => by
        rw [List.getElem?_eq_getElem hjl] at hy
        simp only [Option.some.injEq] at hy
        rw [← hy, hs0]; exact hnl)
      have hopen : openL l name cur = l.take j ++ openRow name cur :: l.drop j := by unfold openL; rw [← hpos]
      have d2 := (Ext.drew wv).trans (Ext.drew wv.drew)
      refine ⟨_, _, _, fun V hV => (hb.ext (hx.trans (d2.trans hV))).loadAt 2 rfl (by kernel_rfl) rfl, _, fun V hV => (hnm.ext (hx.trans (d2.trans hV))).loadAt 0 rfl (by kernel_rfl) rfl, _, fun V hV => (hcr.ext (hx.trans (d2.trans hV))).loadAt 0 rfl (by kernel_rfl) rfl, ?_⟩
      intro r5 w8 hn8
      have e8 := hn8.r_eq; have z8 := hn8.size
      have X8 := (hx.trans d2).trans hn8.ext
      have lX := (hx.trans d2).le
      have lX8 := X8.le
      obtain ⟨xs, hown, h1, hins⟩ := (ho.ext X8).ins (i := j) hjn
      have hpl : ∀ q ∈ ((some (⟨b1, 0, none⟩ : Addr)).map (·.block)).toList, q < w.heap.size ∧ q ∈ f ∧ B ≤ q := fun q hq => by
        obtain ⟨_, _, _, _, _, hf, _⟩ := id ho
        have hm : q ∈ f := by rw [hf]; exact List.mem_append_left _ hq
        exact ⟨(ho.lt q hm).2, hm, (ho.lt q hm).1⟩
      refine ⟨hn8.ext, ?_⟩
      refine Ret.at (ins_Acct_c hown h1 hn8.blk rfl (by simp [Value.oneCell']) (fun e => by have := (hpl r5 (by rw [e]; simp)).1; omega) hjn (by omega) (by omega)) ?_
      rintro v w9 ⟨p', c', hv, how, hch, hpp⟩
      subst hv
      refine ⟨_, _, _, rfl, ?_⟩
      obtain ⟨f', hor, hf'⟩ := hins w9 p' c' _ (openRow name cur) [] how hch hpp rfl (own_openRow _ _ name cur) List.nodup_nil (by simp) (by simp)
      rw [← hopen] at hor
      have hrp : r ∉ ((some (⟨b1, 0, none⟩ : Addr)).map (·.block)).toList := fun hm => hrf (hpl r hm).2.1
      have hr9 := (hb.ext X8).chg hch hrp
      have hlr := hb.lt
      have hrf' : r ∉ f' := fun hm => by
        rcases hf' r hm with h | h | h
        · exact hrf h
        · simp at h
        · omega
      obtain ⟨w10, st10, b10, ch10, sz10⟩ := hr9.store (P := P) (t := T_s_impl_Acct) (k := 2) (v := .slice p' (n + 1) c') (by kernel_rfl) (by simp) rfl
      rw [addr_add, Nat.zero_add] at st10
      refine ⟨w10, st10, _, _, _, b10.loadAAt 2 [.slice p' (n + 1) c'] rfl (by kernel_rfl) rfl, ?_⟩
      have hor10 := hor.chg ch10 (fun q hq hm => by simp at hm; subst hm; exact hrf' hq)
      have lc9 := hch.size
      have C10 : Chg (r :: ((some (⟨b1, 0, none⟩ : Addr)).map (·.block)).toList) w w10 := (X8.toChg.trans (hch.mono (fun k hk => List.mem_cons_of_mem _ hk))).trans (ch10.mono (fun k hk => by simp at hk; simp [hk]))
      have X10 : Ext w0 w10 := hx0.chg C10 (fun q hq => by
        rcases List.mem_cons.1 hq with rfl | hq
        · exact hr0
        · exact Nat.le_trans hB0 (hpl q hq).2.2)
      refine Ret.at (impl_BookOk_w hor10.rows (openL_code hc name cur) (by omega) (openL_bulk hbk s1 s2) (ht.ext X10)) ?_
      rintro v w11 ⟨hv, y11⟩
      subst hv
      exact ⟨_, rfl, p', c', f', rfl, hor10.ext y11, fun q hq => by
        rcases hf' q hq with h | h | h
        · exact .inl h
        · simp at h
        · exact .inr (by omega), b10.ext y11, C10.trans y11.toChg⟩
  · have hpos : j = acAt l name := acAt_unique (by omega) hless (fun y hy => by
      rw [List.getElem?_eq_none (by omega)] at hy; cases hy)
    have hopen : openL l name cur = l.take j ++ openRow name cur :: l.drop j := by unfold openL; rw [← hpos]
    have d2 := (Ext.drew wv).trans (Ext.drew wv.drew)
    refine ⟨_, _, _, fun V hV => (hb.ext (hx.trans (d2.trans hV))).loadAt 2 rfl (by kernel_rfl) rfl, _, fun V hV => (hnm.ext (hx.trans (d2.trans hV))).loadAt 0 rfl (by kernel_rfl) rfl, _, fun V hV => (hcr.ext (hx.trans (d2.trans hV))).loadAt 0 rfl (by kernel_rfl) rfl, ?_⟩
    intro r5 w8 hn8
    have e8 := hn8.r_eq; have z8 := hn8.size
    have X8 := (hx.trans d2).trans hn8.ext
    have lX := (hx.trans d2).le
    have lX8 := X8.le
    obtain ⟨xs, hown, h1, hins⟩ := (ho.ext X8).ins (i := j) hjn
    have hpl : ∀ q ∈ (p.map (·.block)).toList, q < w.heap.size ∧ q ∈ f ∧ B ≤ q := fun q hq => by
      obtain ⟨_, _, _, _, _, hf, _⟩ := id ho
      have hm : q ∈ f := by rw [hf]; exact List.mem_append_left _ hq
      exact ⟨(ho.lt q hm).2, hm, (ho.lt q hm).1⟩
    refine ⟨hn8.ext, ?_⟩
    refine Ret.at (ins_Acct_c hown h1 hn8.blk rfl (by simp [Value.oneCell']) (fun e => by have := (hpl r5 (by rw [e]; simp)).1; omega) hjn (by omega) (by omega)) ?_
    rintro v w9 ⟨p', c', hv, how, hch, hpp⟩
    subst hv
    refine ⟨_, _, _, rfl, ?_⟩
    obtain ⟨f', hor, hf'⟩ := hins w9 p' c' _ (openRow name cur) [] how hch hpp rfl (own_openRow _ _ name cur) List.nodup_nil (by simp) (by simp)
    rw [← hopen] at hor
    have hrp : r ∉ (p.map (·.block)).toList := fun hm => hrf (hpl r hm).2.1
    have hr9 := (hb.ext X8).chg hch hrp
    have hlr := hb.lt
    have hrf' : r ∉ f' := fun hm => by
      rcases hf' r hm with h | h | h
      · exact hrf h
      · simp at h
      · omega
    obtain ⟨w10, st10, b10, ch10, sz10⟩ := hr9.store (P := P) (t := T_s_impl_Acct) (k := 2) (v := .slice p' (n + 1) c') (by kernel_rfl) (by simp) rfl
    rw [addr_add, Nat.zero_add] at st10
    refine ⟨w10, st10, _, _, _, b10.loadAAt 2 [.slice p' (n + 1) c'] rfl (by kernel_rfl) rfl, ?_⟩
    have hor10 := hor.chg ch10 (fun q hq hm => by simp at hm; subst hm; exact hrf' hq)
    have lc9 := hch.size
    have C10 : Chg (r :: (p.map (·.block)).toList) w w10 := (X8.toChg.trans (hch.mono (fun k hk => List.mem_cons_of_mem _ hk))).trans (ch10.mono (fun k hk => by simp at hk; simp [hk]))
    have X10 : Ext w0 w10 := hx0.chg C10 (fun q hq => by
      rcases List.mem_cons.1 hq with rfl | hq
      · exact hr0
      · exact Nat.le_trans hB0 (hpl q hq).2.2)
    refine Ret.at (impl_BookOk_w hor10.rows (openL_code hc name cur) (by omega) (openL_bulk hbk s1 s2) (ht.ext X10)) ?_
    rintro v w11 ⟨hv, y11⟩
    subst hv
    exact ⟨_, rfl, p', c', f', rfl, hor10.ext y11, fun q hq => by
      rcases hf' q hq with h | h | h
      · exact .inl h
      · simp at h
      · exact .inr (by omega), b10.ext y11, C10.trans y11.toChg⟩
set_option maxHeartbeats 1000000 in
theorem impl_changed_BookOpen_c {w : World} {n c rn rc : Nat} {p : Option Addr} {l : List (List D0)} {name cur : ByteArray} (ht : Tab w) (h : RowsR w 4 p n c l) (hc : ∀ x ∈ l, x.map D0.code = [.str, .str, .bool, .ints]) (hn : n ≤ 1000) (hbk : ∀ x ∈ l, bulks x ≤ 1048576)
    (hnm : Blk w rn T_string [.string name]) (hcr : Blk w rc T_string [.string cur]) (s1 : name.size ≤ 1048576) (s2 : cur.size ≤ 1048576) :
    Ret P n_impl_changed [.agg ⟨[.slice p n c]⟩, .func (.func 26) #[] #[.pointer (some ⟨rn, 0, none⟩), .pointer (some ⟨rc, 0, none⟩)]] w fun v w' => ∃ p' n' c' f, v = .tuple #[.agg ⟨[.slice p' n' c']⟩, .bool (bookOk (openL l name cur))] ∧ OwnRows w' w.heap.size T_impl_Acct 4 p' n' c' (if bookOk (openL l name cur) then openL l name cur else []) f ∧ Ext w w' := by
  have hln := h.1
  refine impl_changed_ret ?_
  unfold impl_changed
  intro r w1 hn1 r1 w2 hn2
  have e1 := hn1.r_eq; have z1 := hn1.size; have e2 := hn2.r_eq; have z2 := hn2.size
  have X2 := hn1.ext.trans hn2.ext
  refine ⟨_, _, _, (hn1.blk.ext hn2.ext).loadA0 (by kernel_rfl), ?_⟩
  refine Ret.at (impl_bookCopy_c (h.ext X2) hc (by omega) hbk) ?_
  rintro v w3 ⟨p3, c3, f3, hv, ho3, y3⟩
  subst hv
  refine ⟨_, _, _, rfl, ?_⟩
  intro r2 w4 hn4
  have e4 := hn4.r_eq; have z4 := hn4.size
  obtain ⟨w5, st5, b5, y5⟩ := hn4.fill (P := P) (t := T_impl_guarded) (xs := [.int .i32 0, .int .u32 0, .slice p3 n c3]) (by simp [Value.oneCell']) (by kernel_rfl) rfl
  have l3 := y3.le; have l5 := y5.le
  refine ⟨w5, st5, ?_⟩
  have X5 := (X2.trans y3).trans y5
  have hr23 : r2 ∉ f3 := fun hm => by have := (ho3.lt r2 hm).2; omega
  refine Ret.at (P := P) (change_BookOpen (Q := fun ok p' n' c' W => ok = bookOk (openL l name cur) ∧ ∃ f', OwnRows W w.heap.size T_impl_Acct 4 p' n' c' (openL l name cur) f' ∧ r2 ∉ f' ∧ r1 ∉ f' ∧ Ext w W ∧ Blk W r1 T_impl_Book [.slice none 0 0]) b5 ?_) ?_
  · intro w6 b6 ch6 sz6
    have X6 : Ext w w6 := X5.chg ch6 (by simp; omega)
    have lt5 := b5.lt
    refine Calls.mono (impl_BookOpen_1_c (w0 := w) (f := f3) ht X6 (Nat.le_refl _) (by omega) b6 (((ho3.ext y5).mono (by omega)).chg ch6 (fun q hq hm => by simp at hm; subst hm; exact hr23 hq)) hr23 (by omega) hc hn hbk ((hnm.ext X5).chg ch6 (by have := hnm.lt; simp; omega)) ((hcr.ext X5).chg ch6 (by have := hcr.lt; simp; omega)) s1 s2) ?_
    rintro ed w7 ⟨v, hv, p', c', f', hvb, hor, hff, hb7, C7⟩
    subst hv
    subst hvb
    refine ⟨_, p', n + 1, c', rfl, ⟨rfl, f', hor, fun hm => ?_, fun hm => ?_, X6.chg C7 (fun q hq => ?_), ?_⟩, hb7⟩
    · rcases hff r2 hm with h | h
      · exact hr23 h
      · omega
    · rcases hff r1 hm with h | h
      · have := (ho3.lt r1 h).1; omega
      · omega
    · rcases List.mem_cons.1 hq with rfl | hq
      · omega
      · obtain ⟨_, _, _, _, _, hf, _⟩ := id ho3
        have := (ho3.lt q (by rw [hf]; exact List.mem_append_left _ hq)).1
        omega
    · refine ((((hn2.blk.ext y3).ext y5).chg ch6 (by simp; omega))).chg C7 (fun hm => ?_)
      rcases List.mem_cons.1 hm with hm | hm
      · omega
      · obtain ⟨_, _, _, _, _, hf, _⟩ := id ho3
        have := (ho3.lt r1 (by rw [hf]; exact List.mem_append_left _ hm)).1
        omega
  rintro v w7 ⟨ok, p', n', c', w8, hv, ⟨hok, f', hor, hrf, hr1f, hx8, hb18⟩, ch7, sz7, b7⟩
  subst hv
  subst hok
  have X7 : Ext w w7 := hx8.chg ch7 (by simp; omega)
  have hor7 := hor.chg ch7 (fun q hq hm => by simp at hm; subst hm; exact hrf hq)
  have hb17 := hb18.chg ch7 (by simp; omega)
  refine ⟨_, rfl, ifN (fun hno => ?_) (fun hyes => ?_)⟩
  · obtain ⟨w12, st12, b12, ch12, sz12⟩ := hb17.storeA0 (P := P) (t := T_impl_Book) (xs := [.slice none 0 0]) (by kernel_rfl) rfl (by simp [Value.oneCell'])
    refine ⟨w12, st12, _, _, _, b12.loadA0 (by kernel_rfl), none, 0, 0, [], by rw [hno], ?_, X7.chg ch12 (by simp; omega)⟩
    rw [hno]
    exact rows0 _ _ _ _
  · have hl1 := hb17.lt
    obtain ⟨w12, st12, b12, ch12, sz12⟩ := hb17.storeA0 (P := P) (t := T_impl_Book) (xs := [.slice p' n' c']) (by kernel_rfl) rfl (by simp [Value.oneCell'])
    refine ⟨_, _, _, b7.loadAAt 2 [.slice p' n' c'] rfl (by kernel_rfl) rfl, w12, st12, _, _, _, b12.loadA0 (by kernel_rfl), p', n', c', f', by rw [hyes], ?_, X7.chg ch12 (by simp; omega)⟩
    rw [hyes, if_pos rfl]
    exact hor7.chg ch12 (fun q hq hm => by simp at hm; subst hm; exact hr1f hq)
end Go.Proofs.YteakifedfnnmeaaDoor

namespace Go.Proofs.YteakifedfnnmeaaDoor
open Go Go.Proofs.YteakifedfnnmeaaDoor.Sx
set_option linter.unusedVariables false
set_option linter.unusedSimpArgs false
theorem openT_no {l : List (List D0)} {name cur : ByteArray} (h : openOk l name cur = false) : openT l name cur = [] := by unfold openT; rw [h]; rfl
theorem openT_yes {l : List (List D0)} {name cur : ByteArray} (h1 : bookOk l = true) (h2 : acctAt l name < 0) : openOk l name cur = bookOk (openL l name cur) ∧ openT l name cur = if bookOk (openL l name cur) then openL l name cur else [] := by
  have : openOk l name cur = bookOk (openL l name cur) := by unfold openOk; rw [h1, decide_eq_true h2]; rfl
  exact ⟨this, by unfold openT; rw [this]⟩
set_option maxHeartbeats 1000000 in
theorem impl_BookOpen_o {w : World} {p : Option Addr} {n c : Nat} {l : List (List D0)} (h : RowsR w 4 p n c l) (hc : ∀ x ∈ l, x.map D0.code = [.str, .str, .bool, .ints]) (hn : n ≤ 1048576) (hb : ∀ x ∈ l, bulks x ≤ 1048576) (name : ByteArray) (s1 : name.size ≤ 1048576) (cur : ByteArray) (s2 : cur.size ≤ 1048576) (ht : Tab w) :
    Ret P n_impl_BookOpen [.agg ⟨[.slice p n c]⟩, .string name, .string cur] w fun v w' => ∃ p' n' c' f, v = .tuple #[.agg ⟨[.slice p' n' c']⟩, .bool (openOk l name cur)] ∧ OwnRows w' w.heap.size T_impl_Acct 4 p' n' c' (openT l name cur) f ∧ Ext w w' := by
  have hln := h.1
  refine impl_BookOpen_ret ?_
  unfold impl_BookOpen
  intro r w1 hn1 r1 w2 hn2 r2 w3 hn3 r3 w4 hn4
  have e1 := hn1.r_eq; have z1 := hn1.size; have e2 := hn2.r_eq; have z2 := hn2.size; have e3 := hn3.r_eq; have z3 := hn3.size; have e4 := hn4.r_eq; have z4 := hn4.size
  have Y1 := (hn2.ext.trans hn3.ext).trans hn4.ext
  have X4 := hn1.ext.trans Y1
  have b0 := hn1.blk.ext Y1
  have b1 := hn2.blk.ext (hn3.ext.trans hn4.ext)
  have b2 := hn3.blk.ext hn4.ext
  have b3 := hn4.blk
  refine ⟨_, _, _, b0.loadA0 (by kernel_rfl), ?_⟩
  refine Ret.at (impl_BookOk_c (h.ext X4) hc hn hb (ht.ext X4)) ?_
  rintro v w5 ⟨hv, y5⟩
  subst hv
  have X5 := X4.trans y5
  have no : ∀ W, Ext w4 W → openOk l name cur = false → ∃ wv, Stores P T_impl_Book ⟨r3, 0, none⟩ (.agg #[.slice none 0 0]) W wv ∧ ∃ p n c, Loads P T_impl_Book ⟨r3, 0, none⟩ (.agg #[.slice p n c]) wv ∧ ∃ p' n' c' f, Value.tuple #[.agg #[.slice p n c], .bool false] = .tuple #[.agg ⟨[.slice p' n' c']⟩, .bool (openOk l name cur)] ∧ OwnRows wv w.heap.size T_impl_Acct 4 p' n' c' (openT l name cur) f ∧ Ext w wv := fun W hW hno => by
    obtain ⟨w12, st12, b12, ch12, sz12⟩ := (b3.ext hW).storeA0 (P := P) (t := T_impl_Book) (xs := [.slice none 0 0]) (by kernel_rfl) rfl (by simp [Value.oneCell'])
    refine ⟨w12, st12, _, _, _, b12.loadA0 (by kernel_rfl), none, 0, 0, [], by rw [hno], ?_, (X4.trans hW).chg ch12 (by simp; omega)⟩
    rw [openT_no hno]
    exact rows0 _ _ _ _
  refine ⟨_, rfl, ifN (fun hno => ifT (no w5 y5 (by unfold openOk; rw [hno]; rfl))) (fun hok => ?_)⟩
  have h12 := bookOk_len hok
  refine ⟨_, _, _, (b0.ext y5).loadA0 (by kernel_rfl), _, (b1.ext y5).loadAt 0 rfl (by kernel_rfl) rfl, ?_⟩
  refine Ret.at (impl_AcctAt_c (h.ext X5) hc name) ?_
  rintro v w6 ⟨hv, y6⟩
  subst hv
  have Y6 := y5.trans y6
  have X6 := X4.trans Y6
  refine ⟨_, rfl, ifD (fun hge => no w6 Y6 (by unfold openOk; rw [hok, decide_eq_false (by omega)]; rfl)) (fun hlt => ?_)⟩
  obtain ⟨q1, q2⟩ := openT_yes (cur := cur) hok (show acctAt l name < 0 by omega)
  refine ⟨_, _, _, (b0.ext Y6).loadA0 (by kernel_rfl), ?_⟩
  refine Ret.at (impl_changed_BookOpen_c (ht.ext X6) (h.ext X6) hc (by omega) hb (b1.ext Y6) (b2.ext Y6) s1 s2) ?_
  rintro v w7 ⟨p', n', c', f, hv, hor, y7⟩
  subst hv
  have lt3 := b3.lt
  have l6 := Y6.le
  obtain ⟨w8, st8, b8, ch8, sz8⟩ := ((b3.ext Y6).ext y7).storeA0 (P := P) (t := T_impl_Book) (xs := [.slice p' n' c']) (by kernel_rfl) rfl (by simp [Value.oneCell'])
  refine ⟨_, _, _, _, rfl, w8, st8, _, _, _, b8.loadA0 (by kernel_rfl), p', n', c', f, by rw [q1], ?_, (X6.trans y7).chg ch8 (by simp; omega)⟩
  rw [q2]
  exact (hor.chg ch8 (fun q hq hm => by have := (hor.lt q hq).1; simp at hm; omega)).mono X6.le
end Go.Proofs.YteakifedfnnmeaaDoor

namespace Go.Proofs.YteakifedfnnmeaaDoor
open Go Go.Proofs.YteakifedfnnmeaaDoor.Sx
set_option linter.unusedVariables false
set_option linter.unusedSimpArgs false
set_option maxHeartbeats 1000000 in
theorem spec_BookOpen_j0_c {w W : World} {p : Option Addr} {n c r r1 : Nat} {l : List (List D0)} {name cur : ByteArray} (h : RowsR w 4 p n c l) (hc : ∀ x ∈ l, x.map D0.code = [.str, .str, .bool, .ints]) (hn : n ≤ 1000) (hb : ∀ x ∈ l, bulks x ≤ 1048576) (s1 : name.size ≤ 1048576) (s2 : cur.size ≤ 1048576) (X : Ext w W)
    (b0 : Blk W r T_impl_Book [.slice p n c]) (b1 : Blk W r1 T_impl_Book [.slice none 0 0]) (hr1 : w.heap.size ≤ r1) (q1 : openOk l name cur = bookOk (openL l name cur)) (q2 : openT l name cur = if bookOk (openL l name cur) then openL l name cur else []) :
    spec_BookOpen_j0 name cur r r1 W fun v w' => ∃ p' n' c' f, v = .tuple #[.agg ⟨[.slice p' n' c']⟩, .bool (openOk l name cur)] ∧ OwnRows w' w.heap.size T_impl_Acct 4 p' n' c' (openT l name cur) f ∧ Ext w w' := by
  have hln := h.1
  have lt1' := b1.lt
  have lX := X.le
  unfold spec_BookOpen_j0
  refine ⟨_, _, _, b0.loadA0 (by kernel_rfl), ?_⟩
  refine Ret.at (spec_l17Copy_c (h.ext X) hc (by omega) hb) ?_
  rintro v w4 ⟨p3, c3, f3, hv, ho3, y3⟩
  subst hv
  refine ⟨_, _, _, rfl, ?_⟩
  intro r2 w5 hn5
  have e5 := hn5.r_eq; have z5 := hn5.size
  obtain ⟨w6, st6, b2, y6⟩ := hn5.fill (P := P) (t := T_impl_Book) (xs := [.slice p3 n c3]) (by simp [Value.oneCell']) (by kernel_rfl) rfl
  have ho5 := ho3.ext y6
  have Y6 := y3.trans y6
  have X5 := X.trans Y6
  have b1 := b1.ext Y6
  have ly3 := y3.le; have ly6 := y6.le
  refine ⟨w6, st6, fun k wk => ∃ j : Nat, k = j ∧ j ≤ n ∧ (∀ a (x : List D0), l[a]? = some x → a < j → Op.bytesLess (strOf x).toList name.toList = true) ∧ Ext w6 wk, fun k _ => n - k.toNat, ⟨0, rfl, by omega, fun a x _ ha => absurd ha (by omega), Ext.refl w6⟩, ?_⟩
  intro junk wk k ⟨j, hj, hjn, hless, hxk⟩
  subst hj
  refine ⟨_, _, _, (b2.ext hxk).loadAt 0 rfl (by kernel_rfl) rfl, ifD (fun hlt => ?_) (fun hge => ⟨fun h => absurd h (by simp), fun _ => ?_⟩)⟩
  · have hjl : j < l.length := by omega
    obtain ⟨g, xs1, cs1, zs1, hpb, _, _, hxl, hcl, hblk, hrep, _⟩ := ho5.put (List.getElem?_eq_getElem hjl)
    obtain ⟨a0, a1, a2, a3p, a3n, a3c, a3z, rfl, hd, _⟩ := open_Acct hrep (hc _ (List.getElem_mem hjl))
    have hs0 : strOf l[j] = a0 := by rw [hd]; rfl
    subst hpb
    refine ⟨_, _, _, (b2.ext hxk).loadAt 0 rfl (by kernel_rfl) rfl, ⟨by omega, by omega⟩, _, (hblk.ext hxk).loadAt (j * 4) (by rw [addr_add, addr_add, Nat.zero_add, Nat.add_zero, Int.toNat_natCast]) (by kernel_rfl) (by rw [List.append_assoc, ← hxl, List.getElem?_append_right (Nat.le_refl _), Nat.sub_self]; rfl), fun hl => ?_, fun hnl => ?_⟩
    · refine exW ⟨by omega, by omega⟩ ⟨⟨j + 1, rfl, by omega, fun a y hy ha => ?_, hxk⟩, by show n - ((j : Int) + 1).toNat < n - (j : Int).toNat; omega⟩
      by_cases hak : a < j
      · exact hless a y hy hak
      · have : a = j := by omega
        subst this
        rw [List.getElem?_eq_getElem hjl] at hy
        simp only [Option.some.injEq] at hy
        rw [← hy, hs0]; exact hl
    · have hpos : j = acAt l name := acAt_unique (by omega) hless (fun y hy => by
        rw [List.getElem?_eq_getElem hjl] at hy
        simp only [Option.some.injEq] at hy
        rw [← hy, hs0]; exact hnl)
      intro r3 w8 hn8
      have Y8 := hxk.trans hn8.ext
      obtain ⟨g1, c1, w9, hA1, X9, hjc, hrest⟩ := ins3 (ho5.ext hxk) (by have := hxk.le; omega) hjn (by omega) hn8
      rw [Int.toNat_natCast]
      refine ⟨_, _, _, (b2.ext Y8).loadAt 0 rfl (by kernel_rfl) rfl, ⟨by omega, by omega⟩, some ⟨g1, 0, none⟩, j, c1, w9, by rw [Nat.sub_zero, Nat.sub_zero, sub0g]; exact hA1, ?_⟩
      intro r4 w10 hn10
      obtain ⟨g2, c2, w11, hA2, X11, g3, c3, w12, f', hA3, hor, X12⟩ := hrest (openRow name cur) _ r4 w10 hn10 rfl (by simp [Value.oneCell']) (fun W => own_openRow W _ name cur)
      have hopen : openL l name cur = l.take j ++ openRow name cur :: l.drop j := by unfold openL; rw [← hpos]
      rw [← hopen] at hor
      refine ⟨_, _, _, w11, hA2, _, _, _, ((b2.ext hxk).ext X11).loadAt 0 rfl (by kernel_rfl) rfl, ⟨by omega, by omega⟩, _, _, _, w12, hA3, ?_⟩
      intro r5 w13 hn13
      have e13 := hn13.r_eq; have z13 := hn13.size
      obtain ⟨w14, st14, b14, y14⟩ := hn13.fill (P := P) (t := T_impl_Book) (xs := [.slice (some ⟨g3, 0, none⟩) (n + 1) c3]) (by simp [Value.oneCell']) (by kernel_rfl) rfl
      have Y14 := hxk.trans (X12.trans y14)
      have X14 := X5.trans Y14
      refine ⟨w14, st14, _, _, _, b14.loadA0 (by kernel_rfl), ?_⟩
      refine Ret.at (spec_BookOk_w (hor.ext y14).rows (openL_code hc name cur) (by omega) (openL_bulk hb s1 s2)) ?_
      rintro v w15 ⟨hv, y15⟩
      subst hv
      have hb1 := (b1.ext Y14).ext y15
      have X15 := X14.trans y15
      have lt1 := b1.lt
      have l5k := (hxk.trans X12).le
      refine ⟨_, rfl, ifN (fun hno => ?_) (fun hyes => ?_)⟩
      · obtain ⟨w16, st16, b16, ch16, sz16⟩ := hb1.storeA0 (P := P) (t := T_impl_Book) (xs := [.slice none 0 0]) (by kernel_rfl) rfl (by simp [Value.oneCell'])
        refine ⟨w16, st16, _, _, _, b16.loadA0 (by kernel_rfl), none, 0, 0, [], by rw [q1, hno], ?_, X15.chg ch16 (by simp; omega)⟩
        rw [openT_no (by rw [q1, hno])]
        exact rows0 _ _ _ _
      · obtain ⟨w16, st16, b16, ch16, sz16⟩ := hb1.storeA0 (P := P) (t := T_impl_Book) (xs := [.slice (some ⟨g3, 0, none⟩) (n + 1) c3]) (by kernel_rfl) rfl (by simp [Value.oneCell'])
        refine ⟨_, _, _, (b14.ext y15).loadA0 (by kernel_rfl), w16, st16, _, _, _, b16.loadA0 (by kernel_rfl), _, _, _, f', by rw [q1, hyes], ?_, X15.chg ch16 (by simp; omega)⟩
        rw [q2, hyes, if_pos rfl]
        exact ((((hor.ext y14).ext y15).chg ch16 (fun q hq hm => by have := (hor.lt q hq).1; simp at hm; omega))).mono (by omega)
  · have hpos : j = acAt l name := acAt_unique (by omega) hless (fun y hy => by
      rw [List.getElem?_eq_none (by omega)] at hy; cases hy)
    intro r3 w8 hn8
    have Y8 := hxk.trans hn8.ext
    obtain ⟨g1, c1, w9, hA1, X9, hjc, hrest⟩ := ins3 (ho5.ext hxk) (by have := hxk.le; omega) hjn (by omega) hn8
    rw [Int.toNat_natCast]
    refine ⟨_, _, _, (b2.ext Y8).loadAt 0 rfl (by kernel_rfl) rfl, ⟨by omega, by omega⟩, some ⟨g1, 0, none⟩, j, c1, w9, by rw [Nat.sub_zero, Nat.sub_zero, sub0g]; exact hA1, ?_⟩
    intro r4 w10 hn10
    obtain ⟨g2, c2, w11, hA2, X11, g3, c3, w12, f', hA3, hor, X12⟩ := hrest (openRow name cur) _ r4 w10 hn10 rfl (by simp [Value.oneCell']) (fun W => own_openRow W _ name cur)
    have hopen : openL l name cur = l.take j ++ openRow name cur :: l.drop j := by unfold openL; rw [← hpos]
    rw [← hopen] at hor
    refine ⟨_, _, _, w11, hA2, _, _, _, ((b2.ext hxk).ext X11).loadAt 0 rfl (by kernel_rfl) rfl, ⟨by omega, by omega⟩, _, _, _, w12, hA3, ?_⟩
    intro r5 w13 hn13
    have e13 := hn13.r_eq; have z13 := hn13.size
    obtain ⟨w14, st14, b14, y14⟩ := hn13.fill (P := P) (t := T_impl_Book) (xs := [.slice (some ⟨g3, 0, none⟩) (n + 1) c3]) (by simp [Value.oneCell']) (by kernel_rfl) rfl
    have Y14 := hxk.trans (X12.trans y14)
    have X14 := X5.trans Y14
    refine ⟨w14, st14, _, _, _, b14.loadA0 (by kernel_rfl), ?_⟩
    refine Ret.at (spec_BookOk_w (hor.ext y14).rows (openL_code hc name cur) (by omega) (openL_bulk hb s1 s2)) ?_
    rintro v w15 ⟨hv, y15⟩
    subst hv
    have hb1 := (b1.ext Y14).ext y15
    have X15 := X14.trans y15
    have lt1 := b1.lt
    have l5k := (hxk.trans X12).le
    refine ⟨_, rfl, ifN (fun hno => ?_) (fun hyes => ?_)⟩
    · obtain ⟨w16, st16, b16, ch16, sz16⟩ := hb1.storeA0 (P := P) (t := T_impl_Book) (xs := [.slice none 0 0]) (by kernel_rfl) rfl (by simp [Value.oneCell'])
      refine ⟨w16, st16, _, _, _, b16.loadA0 (by kernel_rfl), none, 0, 0, [], by rw [q1, hno], ?_, X15.chg ch16 (by simp; omega)⟩
      rw [openT_no (by rw [q1, hno])]
      exact rows0 _ _ _ _
    · obtain ⟨w16, st16, b16, ch16, sz16⟩ := hb1.storeA0 (P := P) (t := T_impl_Book) (xs := [.slice (some ⟨g3, 0, none⟩) (n + 1) c3]) (by kernel_rfl) rfl (by simp [Value.oneCell'])
      refine ⟨_, _, _, (b14.ext y15).loadA0 (by kernel_rfl), w16, st16, _, _, _, b16.loadA0 (by kernel_rfl), _, _, _, f', by rw [q1, hyes], ?_, X15.chg ch16 (by simp; omega)⟩
      rw [q2, hyes, if_pos rfl]
      exact ((((hor.ext y14).ext y15).chg ch16 (fun q hq hm => by have := (hor.lt q hq).1; simp at hm; omega))).mono (by omega)
set_option maxHeartbeats 1000000 in
theorem spec_BookOpen_o {w : World} {p : Option Addr} {n c : Nat} {l : List (List D0)} (h : RowsR w 4 p n c l) (hc : ∀ x ∈ l, x.map D0.code = [.str, .str, .bool, .ints]) (hn : n ≤ 1048576) (hb : ∀ x ∈ l, bulks x ≤ 1048576) (name : ByteArray) (s1 : name.size ≤ 1048576) (cur : ByteArray) (s2 : cur.size ≤ 1048576) :
    Ret P n_spec_BookOpen [.agg ⟨[.slice p n c]⟩, .string name, .string cur] w fun v w' => ∃ p' n' c' f, v = .tuple #[.agg ⟨[.slice p' n' c']⟩, .bool (openOk l name cur)] ∧ OwnRows w' w.heap.size T_impl_Acct 4 p' n' c' (openT l name cur) f ∧ Ext w w' := by
  have hln := h.1
  refine spec_BookOpen_ret ?_
  unfold spec_BookOpen
  intro r w1 hn1 r1 w2 hn2
  have e1 := hn1.r_eq; have z1 := hn1.size; have e2 := hn2.r_eq; have z2 := hn2.size
  have X2 := hn1.ext.trans hn2.ext
  have b0 := hn1.blk.ext hn2.ext
  have b1 := hn2.blk
  refine ⟨_, _, _, b0.loadA0 (by kernel_rfl), ?_⟩
  refine Ret.at (spec_BookOk_c (h.ext X2) hc hn hb) ?_
  rintro v w5 ⟨hv, y5⟩
  subst hv
  have X5 := X2.trans y5
  have no : ∀ W, Ext w2 W → openOk l name cur = false → ∃ wv, Stores P T_impl_Book ⟨r1, 0, none⟩ (.agg #[.slice none 0 0]) W wv ∧ ∃ p n c, Loads P T_impl_Book ⟨r1, 0, none⟩ (.agg #[.slice p n c]) wv ∧ ∃ p' n' c' f, Value.tuple #[.agg #[.slice p n c], .bool false] = .tuple #[.agg ⟨[.slice p' n' c']⟩, .bool (openOk l name cur)] ∧ OwnRows wv w.heap.size T_impl_Acct 4 p' n' c' (openT l name cur) f ∧ Ext w wv := fun W hW hno => by
    obtain ⟨w12, st12, b12, ch12, sz12⟩ := (b1.ext hW).storeA0 (P := P) (t := T_impl_Book) (xs := [.slice none 0 0]) (by kernel_rfl) rfl (by simp [Value.oneCell'])
    refine ⟨w12, st12, _, _, _, b12.loadA0 (by kernel_rfl), none, 0, 0, [], by rw [hno], ?_, (X2.trans hW).chg ch12 (by simp; omega)⟩
    rw [openT_no hno]
    exact rows0 _ _ _ _
  refine ⟨_, rfl, ifN (fun hno => ifT (no w5 y5 (by unfold openOk; rw [hno]; rfl))) (fun hok => ?_)⟩
  have h12 := bookOk_len hok
  refine ⟨_, _, _, (b0.ext y5).loadA0 (by kernel_rfl), ?_⟩
  refine Ret.at (spec_AcctAt_c (h.ext X5) hc name) ?_
  rintro v w6 ⟨hv, y6⟩
  subst hv
  have Y6 := y5.trans y6
  refine ⟨_, rfl, ifD (fun hge => no w6 Y6 (by unfold openOk; rw [hok, decide_eq_false (by omega)]; rfl)) (fun hlt => ?_)⟩
  obtain ⟨q1, q2⟩ := openT_yes (cur := cur) hok (show acctAt l name < 0 by omega)
  exact spec_BookOpen_j0_c h hc (by omega) hb s1 s2 (X2.trans Y6) (b0.ext Y6) (b1.ext Y6) (by omega) q1 q2
end Go.Proofs.YteakifedfnnmeaaDoor

namespace Go.Proofs.YteakifedfnnmeaaDoor
open Go Go.Proofs.YteakifedfnnmeaaDoor.Sx
set_option linter.unusedVariables false
set_option linter.unusedSimpArgs false
theorem impl_BookOpen_c {w : World} {p : Option Addr} {n c : Nat} {l : List (List D0)} (h : RowsR w 4 p n c l) (hc : ∀ x ∈ l, x.map D0.code = [.str, .str, .bool, .ints]) (hn : n ≤ 1048576) (hb : ∀ x ∈ l, bulks x ≤ 1048576) (name : ByteArray) (s1 : name.size ≤ 1048576) (cur : ByteArray) (s2 : cur.size ≤ 1048576) (ht : Tab w) :
    Ret P n_impl_BookOpen [.agg ⟨[.slice p n c]⟩, .string name, .string cur] w fun v w' => ∃ p' n' c' f, v = .tuple #[.agg ⟨[.slice p' n' c']⟩, .bool (openOk l name cur)] ∧ OwnRows w' w.heap.size T_impl_Acct 4 p' n' c' (openT l name cur) f ∧ (∀ x ∈ openT l name cur, x.map D0.code = [.str, .str, .bool, .ints]) ∧ cntL (openT l name cur) ≤ 1000000000 ∧ Ext w w' :=
  (impl_BookOpen_o h hc hn hb name s1 cur s2 ht).mono fun v w' ⟨p', n', c', f, hv, ho, hx⟩ => ⟨p', n', c', f, hv, ho, openT_code hc name cur, openT_cnt hc name cur, hx⟩
theorem spec_BookOpen_c {w : World} {p : Option Addr} {n c : Nat} {l : List (List D0)} (h : RowsR w 4 p n c l) (hc : ∀ x ∈ l, x.map D0.code = [.str, .str, .bool, .ints]) (hn : n ≤ 1048576) (hb : ∀ x ∈ l, bulks x ≤ 1048576) (name : ByteArray) (s1 : name.size ≤ 1048576) (cur : ByteArray) (s2 : cur.size ≤ 1048576) :
    Ret P n_spec_BookOpen [.agg ⟨[.slice p n c]⟩, .string name, .string cur] w fun v w' => ∃ p' n' c', v = .tuple #[.agg ⟨[.slice p' n' c']⟩, .bool (openOk l name cur)] ∧ RowsR w' 4 p' n' c' (openT l name cur) ∧ (∀ x ∈ openT l name cur, x.map D0.code = [.str, .str, .bool, .ints]) ∧ Ext w w' :=
  (spec_BookOpen_o h hc hn hb name s1 cur s2).mono fun v w' ⟨p', n', c', f, hv, ho, hx⟩ => ⟨p', n', c', hv, ho.rows, openT_code hc name cur, hx⟩
end Go.Proofs.YteakifedfnnmeaaDoor

namespace Go.Proofs.YteakifedfnnmeaaDoor.Sx
open Go Go.RowKit
set_option linter.unusedVariables false
set_option linter.unusedSimpArgs false
theorem Fl.trans {os : List Obj} {ss : List (Option Nat)} {w : World} {s1 : List (Option Nat)} {w1 : World} {s2 : List (Option Nat)} {w2 : World} (h : Fl os ss w s1 w1) (g : Fl os s1 w1 s2 w2) : Fl os ss w s2 w2 := by
  induction h with
  | refl => exact g
  | step h1 h2 _ ih => exact .step h1 h2 (ih g)
theorem Fl.old {os : List Obj} {ss : List (Option Nat)} {w : World} {s1 : List (Option Nat)} {w1 : World} (h : Fl os ss w s1 w1) {k r : Nat} (hk : s1[k]? = some (some r)) : ss[k]? = some (some r) ∨ w.heap.size ≤ r := by
  induction h with
  | refl => exact .inl hk
  | step h1 h2 h3 ih =>
    rename_i ss w k' o s' w'
    have hs : (w.alloc o).heap.size = w.heap.size + 1 := by simp
    rcases ih hk with h | h
    · by_cases e : k' = k
      · subst e
        have hl : k' < ss.length := by
          rcases Nat.lt_or_ge k' ss.length with h | h
          · exact h
          · rw [List.getElem?_eq_none h] at h1; cases h1
        rw [List.getElem?_set_self hl] at h
        simp at h
        exact .inr (by omega)
      · rw [List.getElem?_set_ne e] at h
        exact .inl h
    · exact .inr (by omega)
def FlS (os : List Obj) (w0 : World) (ss : List (Option Nat)) (w : World) : Prop :=
  Ext w0 w ∧ (∀ (k r : Nat), ss[k]? = some (some r) → w0.heap.size ≤ r ∧ r < w.heap.size ∧ w.heap[r]? = os[k]?) ∧ (∀ (k l r : Nat), ss[k]? = some (some r) → ss[l]? = some (some r) → k = l)
theorem FlS.ext {os : List Obj} {w0 w w' : World} {ss : List (Option Nat)} (h : FlS os w0 ss w) (y : Ext w w') : FlS os w0 ss w' :=
  ⟨h.1.trans y, fun k r hk => by
    obtain ⟨a, b, c⟩ := h.2.1 k r hk
    exact ⟨a, Nat.lt_of_lt_of_le b y.le, (y.block r b).trans c⟩, h.2.2⟩
theorem FlS.step {os : List Obj} {w0 w w' : World} {ss ss' : List (Option Nat)} (h : FlS os w0 ss w) (f : Fl os ss w ss' w') : FlS os w0 ss' w' := by
  induction f with
  | refl => exact h
  | step h1 h2 h3 ih =>
    rename_i ss w k' o s' w'
    refine ih ?_
    have y : Ext w (w.alloc o) := (Below.refl _ _).alloc (Nat.le_refl _) _
    have hs : (w.alloc o).heap.size = w.heap.size + 1 := by simp
    have hg : (w.alloc o).heap[w.heap.size]? = some o := heap_alloc_new w _
    have hl : k' < ss.length := by
      rcases Nat.lt_or_ge k' ss.length with h | h
      · exact h
      · rw [List.getElem?_eq_none h] at h1; cases h1
    have hx := h.ext y
    have hle := h.1.le
    refine ⟨hx.1, fun k r hk => ?_, fun k l r hk hl' => ?_⟩
    · by_cases e : k' = k
      · subst e
        rw [List.getElem?_set_self hl] at hk
        simp at hk
        subst hk
        exact ⟨hle, by omega, hg.trans h2.symm⟩
      · rw [List.getElem?_set_ne e] at hk
        exact hx.2.1 k r hk
    · by_cases e : k' = k
      · by_cases e2 : k' = l
        · omega
        · subst e
          rw [List.getElem?_set_self hl] at hk
          simp at hk
          subst hk
          rw [List.getElem?_set_ne e2] at hl'
          have := (h.2.1 l _ hl').2.1
          omega
      · rw [List.getElem?_set_ne e] at hk
        by_cases e2 : k' = l
        · subst e2
          rw [List.getElem?_set_self hl] at hl'
          simp at hl'
          subst hl'
          have := (h.2.1 k _ hk).2.1
          omega
        · rw [List.getElem?_set_ne e2] at hl'
          exact h.2.2 k l r hk hl'
theorem FlS.first {os : List Obj} {w0 w : World} {ss0 ss : List (Option Nat)} (f : Fl os ss0 w0 ss w) (h : ss0.all Option.isNone = true) : FlS os w0 ss w := by
  refine FlS.step ⟨Ext.refl _, fun k r hk => ?_, fun k l r hk _ => ?_⟩ f <;>
  · have hm := List.mem_of_getElem? hk
    have := List.all_eq_true.1 h _ hm
    simp at this
theorem FlS.blk {os : List Obj} {w0 w : World} {ss : List (Option Nat)} {k r : Nat} {cs : List Value} {e : TypeId} (h : FlS os w0 ss w) (hk : ss[k]? = some (some r)) (ho : os[k]? = some (.cells ⟨cs⟩ e (0, 0))) : w0.heap.size ≤ r ∧ r < w.heap.size ∧ Blk w r e cs := by
  obtain ⟨a, b, c⟩ := h.2.1 k r hk
  exact ⟨a, b, c.trans ho⟩
theorem FlS.ne {os : List Obj} {w0 w : World} {ss : List (Option Nat)} {k l r s : Nat} (h : FlS os w0 ss w) (hk : ss[k]? = some (some r)) (hl : ss[l]? = some (some s)) (e : k ≠ l) : r ≠ s := fun hh => e (h.2.2 k l r hk (hh ▸ hl))
theorem FlS.apart {os : List Obj} {w0 wc we w' : World} {ss ss' : List (Option Nat)} {k r : Nat} (h : FlS os w0 ss wc) (f : Fl os ss we ss' w') (hk : ss'[k]? = some (some r)) : r < wc.heap.size ∨ we.heap.size ≤ r := by
  rcases f.old hk with a | a
  · exact .inl (h.2.1 k r a).2.1
  · exact .inr a
end Go.Proofs.YteakifedfnnmeaaDoor.Sx

namespace Go.Proofs.YteakifedfnnmeaaDoor
open Go Go.Proofs.YteakifedfnnmeaaDoor.Sx
set_option linter.unusedVariables false
set_option linter.unusedSimpArgs false
theorem laws_markIntS_c {w : World} {B : Nat} {p : Option Addr} {n c : Nat} {zs : List Int} {k : Int} (h : Own w B T_int 1 p n c (zs.map (Value.int .i64))) (h0 : 0 ≤ k) (h1 : k + n ≤ 9223372036854775807) :
    Ret P n_laws_markIntS [.slice p n c, .int .i64 k] w fun v w' => v = .int .i64 (k + n) ∧ Own w' B T_int 1 p n c ((mkI n k).map (Value.int .i64)) ∧ Chg (p.map (·.block)).toList w w' := by
  have hz : zs.length = n := by have := h.len; simpa using this
  have hcap := h.le
  refine laws_markIntS_ret ?_
  unfold laws_markIntS
  refine ⟨fun k1 i wr => ∃ j : Nat, i = j ∧ j ≤ n ∧ k1 = k + j ∧ Own wr B T_int 1 p n c ((mkI j k ++ zs.drop j).map (Value.int .i64)) ∧ Chg (p.map (·.block)).toList w wr, fun _ i _ => n - i.toNat, ⟨0, rfl, by omega, by omega, by simpa [mkI] using h, Chg.refl _ _⟩, ?_⟩
  intro junk wr k1 i ⟨j, hij, hj, hk1, ho, hch⟩
  subst hij; subst hk1
  refine ifD (fun hlt => ?_) (fun hge => ?_)
  · obtain ⟨b, w2, hp, st, ho2, ch2, sz2⟩ := ho.set (P := P) (t := T_int) (i := j) (v := .int .i64 (k + j)) (by simp [mkI_len]; omega) (by kernel_rfl) rfl
    subst hp
    refine ⟨⟨by omega, by omega⟩, w2, by simpa using st, exW ⟨by omega, by omega⟩ (exW ⟨by omega, by omega⟩ ⟨⟨j + 1, by omega, by omega, by omega, ?_, hch.trans ch2⟩, ?_⟩)⟩
    · have e : (mkI j k ++ zs.drop j).set j (k + (j : Nat)) = mkI (j + 1) k ++ zs.drop (j + 1) := by
        rw [List.set_append_right _ _ (by rw [mkI_len]; omega), mkI_len, Nat.sub_self, mkI_succ, List.drop_eq_getElem_cons (show j < zs.length by omega), List.set_cons_zero, List.append_assoc]
        rfl
      rw [← e, List.map_set]
      exact ho2
    · show n - ((j : Int) + 1).toNat < n - (j : Int).toNat
      omega
  · have hjn : j = n := by omega
    subst hjn
    rw [List.drop_of_length_le (by omega), List.append_nil] at ho
    exact ⟨rfl, ho, hch⟩
theorem laws_heldIntS_c {w : World} {p : Option Addr} {n c : Nat} {k : Int} (h : IntsR w p n c (mkI n k)) (h0 : 0 ≤ k) (h1 : k + n ≤ 9223372036854775807) :
    Ret P n_laws_heldIntS [.slice p n c, .int .i64 k] w fun v w' => v = .int .i64 (k + n) ∧ Ext w w' := by
  have hcap := h.2.1; have hcm := h.2.2.1
  refine laws_heldIntS_ret ?_
  unfold laws_heldIntS
  refine ⟨fun k1 i wr => ∃ j : Nat, i = j ∧ j ≤ n ∧ k1 = k + j ∧ Ext w wr, fun _ i _ => n - i.toNat, ⟨0, rfl, by omega, by omega, Ext.refl _⟩, ?_⟩
  intro junk wr k1 i ⟨j, hij, hj, hk1, hx⟩
  subst hij; subst hk1
  refine ifD (fun hlt => ?_) (fun hge => ?_)
  · have hjn : j < n := by omega
    obtain ⟨a, hpa, hl⟩ := (h.ext hx).at (P := P) (t := T_int) (by kernel_rfl) hjn
    subst hpa
    rw [mkI_get] at hl
    refine ⟨⟨by omega, by omega⟩, k + (j : Nat), by simpa using hl, ifD (fun hne => absurd rfl hne) (fun _ => exW ⟨by omega, by omega⟩ (exW ⟨by omega, by omega⟩ ⟨⟨j + 1, by omega, by omega, by omega, hx⟩, ?_⟩))⟩
    show n - ((j : Int) + 1).toNat < n - (j : Int).toNat
    omega
  · have hjn : j = n := by omega
    subst hjn
    exact ⟨rfl, hx⟩
theorem bne_no {a b : Bool} (e : a = b) : ¬ (!(a == b)) = true := by subst e; simp
theorem convs_bytes {w : World} {s e d ee : TypeId} {r : Nat} (xs : List Int) (hs : P.underlying s = some (.slice e)) (he : P.underlying e = some (.int .u8)) (hd : P.underlying d = some .string) (hb : Blk w r ee (xs.map (Value.int .u8))) :
    Convs P s d (.slice (some ⟨r, 0, none⟩) xs.length xs.length) (.string (strOfNums xs)) w :=
  run_convert_bytes_arg w s e hs he r 0 xs.length xs.length xs rfl (fun i hi => by
    have := hb.seg i (.int .u8 (xs.getD i 0)) (by simp [List.getD_eq_getElem?_getD, List.getElem?_eq_getElem hi])
    simpa using this) d hd
theorem laws_markText_c {k : Int} (hk : k ≤ 1000000000000000000) (w : World) : Ret P n_laws_markText [.int .i64 k] w fun v w' => v = .string (mtext k) ∧ Ext w w' := by
  refine laws_markText_ret ?_
  unfold laws_markText
  refine ifD (fun h => ⟨by rw [mtext, if_pos h], Ext.refl _⟩) (fun h => ?_)
  refine ⟨fun k1 out wr => 0 ≤ k1 ∧ k1 ≤ k ∧ out.size + k1 ≤ k ∧ mdig k1.toNat out = mdig k.toNat ByteArray.empty ∧ Ext w wr, fun k1 _ _ => k1.toNat, ⟨by omega, by omega, by show (0 : Int) + k ≤ k; omega, rfl, Ext.refl _⟩, ?_⟩
  intro junk wr k1 out ⟨h0, hle, hsz, hm, hx⟩
  refine ifD (fun hpos => ?_) (fun hz => ?_)
  · have ht : Int.tmod k1 10 = k1 % 10 := Int.tmod_eq_emod_of_nonneg h0
    have htd : Int.tdiv k1 10 = k1 / 10 := Int.tdiv_eq_ediv_of_nonneg h0
    refine ⟨by decide, _, rfl, ?_⟩
    rw [ht]
    refine exW ⟨by omega, by omega⟩ ⟨_, rfl, ?_⟩
    have wu : IntKind.wrap .u8 (48 + k1 % 10) = 48 + k1 % 10 := by
      simp only [IntKind.wrap, IntKind.bits, IntKind.signed]
      simp
      omega
    rw [wu]
    intro r w1 hn
    refine ⟨_, convs_bytes (ee := T_uint8) [48 + k1 % 10] (e := T_uint8) (by kernel_rfl) (by kernel_rfl) (by kernel_rfl) hn.blk, ?_, _, rfl, by decide, ?_⟩
    · rw [strOfNums_size]; simp; omega
    rw [htd]
    refine exW ⟨by omega, by omega⟩ ⟨⟨by omega, by omega, ?_, ?_, hx.trans hn.ext⟩, ?_⟩
    · rw [ByteArray.size_append, strOfNums_size]; simp; omega
    · rw [← hm, mdig_pos (k := k1.toNat) (by omega)]
      have e1 : (k1 / 10).toNat = k1.toNat / 10 := by omega
      have e2 : (48 + k1 % 10) = ((48 + k1.toNat % 10 : Nat) : Int) := by omega
      rw [e1, e2]
    · show (k1 / 10).toNat < k1.toNat
      omega
  · have : k1.toNat = 0 := by omega
    rw [this, mdig_zero] at hm
    refine ⟨?_, _, rfl, ?_, hx⟩
    · show 1 + out.size ≤ 9223372036854775807
      omega
    · rw [mtext, if_neg h, hm]
end Go.Proofs.YteakifedfnnmeaaDoor

namespace Go.Proofs.YteakifedfnnmeaaDoor
open Go Go.Proofs.YteakifedfnnmeaaDoor.Sx
set_option linter.unusedVariables false
set_option linter.unusedSimpArgs false
theorem cntL_nn {d : List (List D0)} {m : Int} (_ : cntL d ≤ m) : 0 ≤ cntL d := cntL_nonneg d
end Go.Proofs.YteakifedfnnmeaaDoor

namespace Go.Proofs.YteakifedfnnmeaaDoor
open Go Go.Proofs.YteakifedfnnmeaaDoor.Sx
set_option linter.unusedVariables false
set_option linter.unusedSimpArgs false
theorem laws_markAcctS_c {w : World} {B : Nat} {e : TypeId} {p : Option Addr} {n c : Nat} {l : List (List D0)} {f : List Nat} {k : Int} (h : OwnRows w B e 4 p n c l f) (hc : ∀ x ∈ l, x.map D0.code = [.str, .str, .bool, .ints]) (h0 : 0 ≤ k) (h1 : k + cntL l ≤ 1000000000000000000) :
    Ret P n_laws_markAcctS [.slice p n c, .int .i64 k] w fun v w' => v = .int .i64 (k + cntL l) ∧ OwnRows w' B e 4 p n c (markL l k) f ∧ Chg f w w' := by
  have hz := h.1; have hcap := h.rows.2.1; have hcm := h.rows.2.2.1
  refine laws_markAcctS_ret ?_
  unfold laws_markAcctS
  refine ⟨fun k1 i wr => ∃ j : Nat, i = j ∧ j ≤ n ∧ k1 = k + cntL (l.take j) ∧ OwnRows wr B e 4 p n c (markL (l.take j) k ++ l.drop j) f ∧ Chg f w wr, fun _ i _ => n - i.toNat, ⟨0, rfl, by omega, by simp [cntL], by simpa [markL] using h, Chg.refl _ _⟩, ?_⟩
  intro junk wr k1 i ⟨j, hij, hj, hk1, ho, hch⟩
  subst hij
  refine ifD (fun hlt => ?_) (fun hge => ?_)
  · have hjl : j < l.length := by omega
    obtain ⟨x, hxe⟩ : ∃ x, l[j]? = some x := ⟨_, List.getElem?_eq_getElem hjl⟩
    have hcode := hc x (List.mem_of_getElem? hxe)
    obtain ⟨hct, hcle⟩ := cntL_row hxe
    have hcn := cntL_nonneg (l.take j)
    obtain ⟨b, xs, cs, zs, fi, hp, hB, hA, hk, blk, ow, ndf, hbf, hbm, hfm, back⟩ := ho.focus (markL_at hxe)
    subst hp
    obtain ⟨a0, us, es, rfl, rfl, ow2, hcode2⟩ := ow.consStr hcode
    clear ow hcode; have ow := ow2; have hcode := hcode2; clear ow2 hcode2
    obtain ⟨a1, us, es, rfl, rfl, ow2, hcode2⟩ := ow.consStr hcode
    clear ow hcode; have ow := ow2; have hcode := hcode2; clear ow2 hcode2
    obtain ⟨a2, us, es, rfl, rfl, ow2, hcode2⟩ := ow.consBool hcode
    clear ow hcode; have ow := ow2; have hcode := hcode2; clear ow2 hcode2
    obtain ⟨a3p, a3n, a3c, a3z, us, es, f3, rfl, rfl, rfl, o3, ow2, hcode2⟩ := ow.consInts hcode
    clear ow hcode; have ow := ow2; have hcode := hcode2; clear ow2 hcode2
    obtain ⟨rfl, rfl, rfl⟩ := ow.done hcode
    simp only [cnts, D0.cnt] at hct hcle
    have z3 : a3z.length = a3n := by have := o3.len; simpa using this
    have m3 : ∀ q, a3p.map (·.block) = some q → q ∈ ((a3p.map (·.block)).toList ++ ([] : List Nat)) := fun q hq => List.mem_append_left _ (mem_opt hq)
    have u3 : ∀ {W : World} {W2 : World} {zs : List Value}, Own W B T_int 1 a3p a3n a3c zs → Chg [b] W W2 → Own W2 B T_int 1 a3p a3n a3c zs := fun o ch => o.chg ch (fun q hq hm => hbf (List.mem_singleton.1 hm ▸ m3 q hq))
    have chT : Chg (b :: ((a3p.map (·.block)).toList ++ ([] : List Nat))) wr wr := Chg.refl _ _
    have sub1 : ∀ q ∈ [b], q ∈ b :: ((a3p.map (·.block)).toList ++ ([] : List Nat)) := fun q hq => by rw [List.mem_singleton.1 hq]; exact List.mem_cons_self
    refine Ret.at (laws_markText_c (by omega) _) ?_
    rintro v w1 ⟨hv, y⟩
    subst hv
    have blk := blk.ext y; have chT := chT.trans y.toChg
    have o3 := o3.ext y
    obtain ⟨w2, st, blk2, ch, sz⟩ := blk.storeMid (P := P) (t := T_string) (v := .string (mtext (k1))) hA 0 (by simp) (by kernel_rfl) rfl rfl
    have blk : Blk w2 b e (xs ++ [.string (mtext (k1)), .string a1, .bool a2, .slice a3p a3n a3c] ++ zs) := blk2; clear blk2
    have chT := chT.trans (ch.mono sub1)
    have o3 := u3 o3 ch
    refine ⟨_, rfl, ⟨by omega, by omega⟩, w2, (by simp only [addr_add, Int.toNat_natCast, Nat.zero_add, Nat.add_zero]; exact st), exW ⟨by omega, by omega⟩ ?_⟩
    refine Ret.at (laws_markText_c (by omega) _) ?_
    rintro v w3 ⟨hv, y⟩
    subst hv
    have blk := blk.ext y; have chT := chT.trans y.toChg
    have o3 := o3.ext y
    obtain ⟨w4, st, blk2, ch, sz⟩ := blk.storeMid (P := P) (t := T_string) (v := .string (mtext (k1 + 1))) hA 1 (by simp) (by kernel_rfl) rfl rfl
    have blk : Blk w4 b e (xs ++ [.string (mtext (k1)), .string (mtext (k1 + 1)), .bool a2, .slice a3p a3n a3c] ++ zs) := blk2; clear blk2
    have chT := chT.trans (ch.mono sub1)
    have o3 := u3 o3 ch
    refine ⟨_, rfl, ⟨by omega, by omega⟩, w4, (by simp only [addr_add, Int.toNat_natCast, Nat.zero_add, Nat.add_zero]; exact st), exW ⟨by omega, by omega⟩ ?_⟩
    refine ⟨by decide, _, rfl, ⟨by omega, by omega⟩, ?_⟩
    rw [Int.tmod_eq_emod_of_nonneg (show (0 : Int) ≤ k1 + 1 + 1 by omega)]
    obtain ⟨w5, st, blk2, ch, sz⟩ := blk.storeMid (P := P) (t := T_bool) (v := .bool (decide ((k1 + 1 + 1) % 3 = 0))) hA 2 (by simp) (by kernel_rfl) rfl rfl
    have blk : Blk w5 b e (xs ++ [.string (mtext (k1)), .string (mtext (k1 + 1)), .bool (decide ((k1 + 1 + 1) % 3 = 0)), .slice a3p a3n a3c] ++ zs) := blk2; clear blk2
    have chT := chT.trans (ch.mono sub1)
    have o3 := u3 o3 ch
    refine ⟨w5, (by simp only [addr_add, Int.toNat_natCast, Nat.zero_add, Nat.add_zero]; exact st), exW ⟨by omega, by omega⟩ ?_⟩
    refine ⟨⟨by omega, by omega⟩, _, _, _, (by simp only [addr_add, Int.toNat_natCast, Nat.zero_add, Nat.add_zero]; exact (blk.segMid hA).loadAt 3 rfl (by kernel_rfl) rfl), ?_⟩
    refine Ret.at (laws_markIntS_c o3 (by omega) (by omega)) ?_
    rintro v w6 ⟨hv, on, ch⟩
    subst hv
    have blk := blk.chg ch (fun hm => hbf (m3 _ (opt_mem hm)))
    have chT := chT.trans (ch.mono (fun q hq => List.mem_cons_of_mem _ (m3 q (opt_mem hq))))
    have o3 := on; clear on
    refine ⟨_, rfl, ?_⟩
    refine exW ⟨by omega, by omega⟩ ⟨⟨j + 1, by omega, by omega, by omega, ?_, hch.trans (chT.mono (fun q hq => ?_))⟩, ?_⟩
    · rw [← markL_set hxe, ← hk1]
      have e : marks [.str a0, .str a1, .bool a2, .ints a3z] k1 = [.str (mtext (k1)), .str (mtext (k1 + 1)), .bool (decide ((k1 + 1 + 1) % 3 = 0)), .ints (mkI a3n (k1 + 1 + 1 + 1))] := by simp only [marks, D0.mark, D0.cnt, z3] <;> rfl
      rw [e]
      exact back _ [.string (mtext (k1)), .string (mtext (k1 + 1)), .bool (decide ((k1 + 1 + 1) % 3 = 0)), .slice a3p a3n a3c] _ chT rfl blk (Owns.append (Owns.str _ _ _) (Owns.append (Owns.str _ _ _) (Owns.append (Owns.bool _ _ _) (Owns.append (Owns.ints o3) (Owns.nil _ _)))))
    · rcases List.mem_cons.1 hq with h | h
      · rw [h]; exact hbm
      · exact hfm q h
    · show n - ((j : Int) + 1).toNat < n - (j : Int).toNat
      omega
  · have hjn : j = n := by omega
    subst hjn
    rw [List.take_of_length_le (by omega), List.drop_of_length_le (by omega), List.append_nil] at ho
    rw [List.take_of_length_le (by omega)] at hk1
    exact ⟨by rw [hk1], ho, hch⟩
theorem laws_heldAcctS_c {w : World} {p : Option Addr} {n c : Nat} {l : List (List D0)} {k : Int} (h : RowsR w 4 p n c (markL l k)) (hc : ∀ x ∈ l, x.map D0.code = [.str, .str, .bool, .ints]) (h0 : 0 ≤ k) (h1 : k + cntL l ≤ 1000000000000000000) :
    Ret P n_laws_heldAcctS [.slice p n c, .int .i64 k] w fun v w' => v = .int .i64 (k + cntL l) ∧ Ext w w' := by
  have hz : l.length = n := by have := h.1; rwa [markL_len] at this
  have hcap := h.2.1; have hcm := h.2.2.1
  refine laws_heldAcctS_ret ?_
  unfold laws_heldAcctS
  refine ⟨fun k1 i wr => ∃ j : Nat, i = j ∧ j ≤ n ∧ k1 = k + cntL (l.take j) ∧ Ext w wr, fun _ i _ => n - i.toNat, ⟨0, rfl, by omega, by simp [cntL], Ext.refl _⟩, ?_⟩
  intro junk wr k1 i ⟨j, hij, hj, hk1, hx⟩
  subst hij
  refine ifD (fun hlt => ?_) (fun hge => ?_)
  · have hjl : j < l.length := by omega
    obtain ⟨x, hxe⟩ : ∃ x, l[j]? = some x := ⟨_, List.getElem?_eq_getElem hjl⟩
    have hcode := hc x (List.mem_of_getElem? hxe)
    obtain ⟨hct, hcle⟩ := cntL_row hxe
    have hcn := cntL_nonneg (l.take j)
    obtain ⟨b, off, hp, hs⟩ := (h.ext hx).2.2.2 (by omega)
    subst hp
    obtain ⟨cs, hk, hr, hsg⟩ := hs j _ (markL_get l k j x hxe)
    rw [← hk1] at hr
    obtain ⟨s0, es, rfl, hcode2⟩ := code_str hcode
    clear hcode; have hcode := hcode2; clear hcode2
    obtain ⟨s1, es, rfl, hcode2⟩ := code_str hcode
    clear hcode; have hcode := hcode2; clear hcode2
    obtain ⟨s2, es, rfl, hcode2⟩ := code_bool hcode
    clear hcode; have hcode := hcode2; clear hcode2
    obtain ⟨z3, es, rfl, hcode2⟩ := code_ints hcode
    clear hcode; have hcode := hcode2; clear hcode2
    have hn := code_nil hcode; subst hn
    simp only [marks, D0.mark, D0.cnt] at hr
    simp only [cnts, D0.cnt] at hct hcle
    obtain ⟨a0, us, es, rfl, hd, hr2, hc2⟩ := hr.str rfl
    cases hd
    clear hr hc2; have hr := hr2; clear hr2
    obtain ⟨a1, us, es, rfl, hd, hr2, hc2⟩ := hr.str rfl
    cases hd
    clear hr hc2; have hr := hr2; clear hr2
    obtain ⟨a2, us, es, rfl, hd, hr2, hc2⟩ := hr.bool rfl
    cases hd
    clear hr hc2; have hr := hr2; clear hr2
    obtain ⟨a3p, a3n, a3c, a3z, us, es, rfl, hd, g3, hr2, hc2⟩ := hr.ints rfl
    cases hd
    clear hr hc2; have hr := hr2; clear hr2
    obtain ⟨hv, _⟩ := hr.done rfl
    subst hv
    have y3 : z3.length = a3n := by have := g3.1; rwa [mkI_len] at this
    rw [y3] at g3
    have X : Ext wr wr := Ext.refl _
    have D := Ext.drew wr; have X := X.trans D
    refine ⟨⟨by omega, by omega⟩, _, fun W' hW => (by simp only [addr_add, Int.toNat_natCast, Nat.zero_add, Nat.add_zero]; exact (hsg.ext (X.trans hW)).loadAt 0 rfl (by kernel_rfl) rfl), ?_⟩
    refine Ret.at (laws_markText_c (by omega) _) ?_
    rintro v w1 ⟨hv, y⟩
    subst hv
    have X := X.trans y
    refine ⟨_, rfl, y, ifD (fun hne => absurd rfl hne) (fun _ => exW ⟨by omega, by omega⟩ ?_)⟩
    have D := Ext.drew w1; have X := X.trans D
    refine ⟨⟨by omega, by omega⟩, _, fun W' hW => (by simp only [addr_add, Int.toNat_natCast, Nat.zero_add, Nat.add_zero]; exact (hsg.ext (X.trans hW)).loadAt 1 rfl (by kernel_rfl) rfl), ?_⟩
    refine Ret.at (laws_markText_c (by omega) _) ?_
    rintro v w2 ⟨hv, y⟩
    subst hv
    have X := X.trans y
    refine ⟨_, rfl, y, ifD (fun hne => absurd rfl hne) (fun _ => exW ⟨by omega, by omega⟩ ?_)⟩
    refine ⟨⟨by omega, by omega⟩, _, (by simp only [addr_add, Int.toNat_natCast, Nat.zero_add, Nat.add_zero]; exact (hsg.ext X).loadAt 2 rfl (by kernel_rfl) rfl), by decide, _, rfl, ?_⟩
    rw [Int.tmod_eq_emod_of_nonneg (show (0 : Int) ≤ k1 + 1 + 1 by omega)]
    refine ⟨fun h => absurd h (bne_no rfl), fun _ => exW ⟨by omega, by omega⟩ ?_⟩
    refine ⟨⟨by omega, by omega⟩, _, _, _, (by simp only [addr_add, Int.toNat_natCast, Nat.zero_add, Nat.add_zero]; exact (hsg.ext X).loadAt 3 rfl (by kernel_rfl) rfl), ?_⟩
    refine Ret.at (laws_heldIntS_c (n := a3n) (k := k1 + 1 + 1 + 1) (by have := g3.ext X;  exact this) (by omega) (by omega)) ?_
    rintro v w3 ⟨hv, y⟩
    subst hv
    have X := X.trans y
    refine ⟨_, rfl, ifD (fun h => absurd h (by omega)) (fun _ => ?_)⟩
    refine exW ⟨by omega, by omega⟩ ⟨⟨j + 1, by omega, by omega, by omega, hx.trans X⟩, ?_⟩
    show n - ((j : Int) + 1).toNat < n - (j : Int).toNat
    omega
  · have hjn : j = n := by omega
    subst hjn
    rw [List.take_of_length_le (by omega)] at hk1
    exact ⟨by rw [hk1], hx⟩
end Go.Proofs.YteakifedfnnmeaaDoor

namespace Go.Proofs.YteakifedfnnmeaaDoor
open Go Go.Proofs.YteakifedfnnmeaaDoor.Sx
set_option linter.unusedVariables false
set_option linter.unusedSimpArgs false
theorem laws_markBook_c {w : World} {B : Nat} {e : TypeId} {p : Option Addr} {n c : Nat} {l : List (List D0)} {f : List Nat} {k : Int} (h : OwnRows w B e 4 p n c l f) (hc : ∀ x ∈ l, x.map D0.code = [.str, .str, .bool, .ints]) (h0 : 0 ≤ k) (h1 : k + cntL l ≤ 1000000000000000000) :
    Ret P n_laws_markBook [.agg ⟨[.slice p n c]⟩, .int .i64 k] w fun v w' => v = .int .i64 (k + cntL l) ∧ OwnRows w' B e 4 p n c (markL l k) f ∧ Chg f w w' := by
  refine laws_markBook_ret ?_
  unfold laws_markBook
  intro r w1 hn
  refine ⟨_, _, _, hn.blk.loadAt 0 rfl (by kernel_rfl) rfl, ?_⟩
  refine Ret.at (laws_markAcctS_c (h.ext hn.ext) hc h0 h1) ?_
  rintro v w2 ⟨hv, ho, ch⟩
  subst hv
  exact ⟨_, rfl, rfl, ho, hn.ext.toChg.trans ch⟩
theorem laws_heldBook_c {w : World} {p : Option Addr} {n c : Nat} {l : List (List D0)} {k : Int} (h : RowsR w 4 p n c (markL l k)) (hc : ∀ x ∈ l, x.map D0.code = [.str, .str, .bool, .ints]) (h0 : 0 ≤ k) (h1 : k + cntL l ≤ 1000000000000000000) :
    Ret P n_laws_heldBook [.agg ⟨[.slice p n c]⟩, .int .i64 k] w fun v w' => v = .int .i64 (k + cntL l) ∧ Ext w w' := by
  refine laws_heldBook_ret ?_
  unfold laws_heldBook
  intro r w1 hn
  refine ⟨_, _, _, hn.blk.loadAt 0 rfl (by kernel_rfl) rfl, ?_⟩
  refine Ret.at (laws_heldAcctS_c (h.ext hn.ext) hc h0 h1) ?_
  rintro v w2 ⟨hv, y⟩
  subst hv
  have := cntL_nonneg l
  exact ⟨_, rfl, ifD (fun h => absurd h (by omega)) (fun _ => ⟨rfl, hn.ext.trans y⟩)⟩
end Go.Proofs.YteakifedfnnmeaaDoor
