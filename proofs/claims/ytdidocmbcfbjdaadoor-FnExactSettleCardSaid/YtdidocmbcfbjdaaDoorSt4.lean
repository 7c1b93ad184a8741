/-
  Parts of the proof of settle_holds: CCurr, CWord, CLegsOk, CIntAdd, CCmp, CDebtsOk, CSpecInt, DMark, DMarkS, CBookSum, CUndo, CMoneySum, CCopy, CAcctAt, CSums, CSumsS, CBalanced, CPosI, CPositions, CSettleL, CSettleI, CNatOf, CMul, CDecCmp, CSettleS, CSettle, SxFlS, DM, WSettle, SxRow, SxOpen, CTab.
  Conditions: none.
-/
import Derived.Laws.BytesArg
import Derived.ProofKit
import Derived.Deep.Slices
import Derived.Test.YtdidocmbcfbjdaaDoorRows
import Derived.OpenShut
import Derived.Lib.LaidTab
import Derived.Test.YtdidocmbcfbjdaaDoorSt3

namespace Go.Proofs.YtdidocmbcfbjdaaDoor
open Go Go.Proofs.YtdidocmbcfbjdaaDoor.Sx
set_option linter.unusedVariables false
set_option linter.unusedSimpArgs false
def curCells (r : CurRow) : List Value := [.string r.1, .string r.2.1, .int .i64 r.2.2.1, .int .i64 r.2.2.2]
def curZero : CurRow := (ByteArray.empty, ByteArray.empty, 0, 0)
def curFind : List CurRow → ByteArray → CurRow
  | [], _ => curZero
  | r :: l, c => if r.1 = c then r else curFind l c
def curIn (l : List CurRow) (c : ByteArray) : Bool := l.any fun r => decide (r.1 = c)
def curKnown (c : ByteArray) : Bool := curIn implTab c
/-- the program's table lies in its variable -/
def Tab (w : World) : Prop := Seg w 0 0 (implTab.flatMap curCells)
theorem Tab.ext {w w' : World} (h : Tab w) (he : Ext w w') : Tab w' := Seg.ext h he
theorem curIn_drop {l : List CurRow} {c : ByteArray} {j : Nat} (hj : j < l.length) : curIn (l.drop j) c = (decide ((l[j]'hj).1 = c) || curIn (l.drop (j + 1)) c) := by
  rw [List.drop_eq_getElem_cons hj, curIn, List.any_cons]; rfl
theorem curFind_drop {l : List CurRow} {c : ByteArray} {j : Nat} (hj : j < l.length) : curFind (l.drop j) c = if (l[j]'hj).1 = c then l[j]'hj else curFind (l.drop (j + 1)) c := by
  rw [List.drop_eq_getElem_cons hj, curFind]
theorem curFind_fst {c : ByteArray} : ∀ {l : List CurRow}, (∀ r ∈ l, r.1 ≠ ByteArray.empty) → decide ((curFind l c).1 ≠ ByteArray.empty) = curIn l c
  | [], _ => by simp [curFind, curIn, curZero]
  | r :: l, h => by
    unfold curFind
    have hr := h r (.head _)
    have ih := curFind_fst (c := c) fun r hr => h r (.tail _ hr)
    rw [curIn, List.any_cons]
    by_cases he : r.1 = c
    · rw [if_pos he, decide_eq_true hr]; simp [he]
    · rw [if_neg he, ih]; simp [he, curIn]
theorem flat_row : ∀ (l : List CurRow) (j : Nat) (hj : j < l.length), ((l.flatMap curCells).drop (j * 4)).take 4 = curCells (l[j]'hj)
  | r :: l, 0, _ => by simp [List.flatMap_cons, curCells]
  | r :: l, j + 1, hj => by
    have := flat_row l j (by simpa using hj)
    rw [List.flatMap_cons, show (j + 1) * 4 = 4 + j * 4 by omega, ← List.drop_drop, List.drop_left' (show (curCells r).length = 4 from rfl), this]
    rfl
theorem flat_length : ∀ (l : List CurRow), (l.flatMap curCells).length = l.length * 4
  | [] => rfl
  | r :: l => by rw [List.flatMap_cons, List.length_append, flat_length l, List.length_cons]; simp [curCells]; omega
theorem impl_length : implTab.length = 20 := rfl
set_option maxRecDepth 100000 in
theorem index_cur {j : Nat} (hj : j < implTab.length) {K : Value → Prop} (h : K (.agg ⟨curCells (implTab[j]'hj)⟩)) : indexS P T_20_impl_currency (.agg ⟨implTab.flatMap curCells⟩) (.int .i64 (j : Nat)) K := by
  have hu : P.underlying T_20_impl_currency = some (.array 20 T_impl_currency) := und_T_20_impl_currency
  have hc : P.cellsOf T_impl_currency = 4 := by kernel_rfl
  obtain ⟨fs, hs⟩ := und_T_impl_currency
  have hs : P.underlying T_impl_currency = some (.struct fs) := hs
  have hl := impl_length
  unfold indexS
  rw [hu]
  refine ⟨⟨by omega, by omega⟩, _, ?_, h⟩
  unfold partS
  rw [hs, hc]
  show Value.agg ⟨((implTab.flatMap curCells).drop (((j : Nat) : Int).toNat * 4)).take 4⟩ = _
  rw [Int.toNat_natCast, flat_row]
set_option maxRecDepth 100000 in
theorem impl_currencyOf_c {w : World} (ht : Tab w) (c : ByteArray) :
    Ret P n_impl_currencyOf [.string c] w fun v w' => v = .tuple #[.agg ⟨curCells (curFind implTab c)⟩, .bool (curKnown c)] ∧ Ext w w' := by
  have hlen := impl_length
  refine impl_currencyOf_ret ?_
  unfold impl_currencyOf
  intro r w1 hn1
  have e1 := hn1.r_eq; have s1 := hn1.size
  refine ⟨_, loadsA (by rw [flat_length]; kernel_rfl) (ht.ext hn1.ext), ?_⟩
  refine ⟨fun i wr => ∃ j : Nat, i = j ∧ j ≤ 20 ∧ Ext w1 wr ∧ curFind implTab c = curFind (implTab.drop j) c ∧ curKnown c = curIn (implTab.drop j) c, fun i _ => 20 - i.toNat, ⟨0, rfl, by omega, Ext.refl _, rfl, rfl⟩, ?_⟩
  intro junk wr i ⟨j, hij, hj, hx, hf, hk⟩
  subst hij
  have lx := hx.le
  refine ifD (fun hlt => ?_) (fun hge => ?_)
  · have hjl : j < implTab.length := by omega
    rw [curFind_drop hjl] at hf
    rw [curIn_drop hjl] at hk
    apply index_cur hjl
    intro r1 w2 hn2
    obtain ⟨w3, st, hb3, y3⟩ := hn2.fill (P := P) (t := T_impl_currency) (xs := curCells (implTab[j]'hjl)) (by simp [curCells, Value.oneCell']) (by kernel_rfl) rfl
    refine ⟨w3, st, _, hb3.loadAt 0 rfl (by kernel_rfl) rfl, ifD (fun heq => ?_) (fun hne => ?_)⟩
    · have hf := hf.trans (if_pos heq)
      rw [decide_eq_true heq, Bool.true_or] at hk
      obtain ⟨w4, st4, hb4, ch, sz⟩ := (hn1.blk.ext (hx.trans y3)).storeA0 (P := P) (t := T_impl_currency) (xs := curCells (implTab[j]'hjl)) (by kernel_rfl) rfl (by simp [curCells, Value.oneCell'])
      refine ⟨_, _, _, _, hb3.loadA0 (by kernel_rfl), w4, st4, _, _, _, _, hb4.loadA0 (by kernel_rfl), ?_, ((hn1.ext.trans hx).trans y3).chg ch (by simp; omega)⟩
      rw [hf, hk]; rfl
    · have hf := hf.trans (if_neg hne)
      rw [decide_eq_false hne, Bool.false_or] at hk
      refine exW ⟨by omega, by omega⟩ ⟨⟨j + 1, by omega, by omega, hx.trans y3, hf, hk⟩, ?_⟩
      show 20 - ((j : Int) + 1).toNat < 20 - (j : Int).toNat
      omega
  · rw [List.drop_of_length_le (by omega)] at hf hk
    obtain ⟨w4, st4, hb4, ch, sz⟩ := (hn1.blk.ext hx).storeA0 (P := P) (t := T_impl_currency) (xs := curCells curZero) (by kernel_rfl) rfl (by simp [curCells, Value.oneCell'])
    refine ⟨w4, st4, _, _, _, _, hb4.loadA0 (by kernel_rfl), ?_, (hn1.ext.trans hx).chg ch (by simp; omega)⟩
    rw [hf, hk]; rfl
theorem impl_CurKnown_c {w : World} (ht : Tab w) (c : ByteArray) :
    Ret P n_impl_CurKnown [.string c] w fun v w' => v = .bool (curKnown c) ∧ Ext w w' := by
  refine impl_CurKnown_ret ?_
  unfold impl_CurKnown
  refine Ret.at (impl_currencyOf_c ht c) ?_
  rintro v w1 ⟨hv, y1⟩
  subst hv
  refine ⟨_, _, _, _, _, rfl, ?_⟩
  intro r w2 hn2
  obtain ⟨w3, st, hb3, y3⟩ := hn2.fill (P := P) (t := T_impl_currency) (xs := curCells (curFind implTab c)) (by simp [curCells, Value.oneCell']) (by kernel_rfl) rfl
  exact ⟨w3, st, rfl, y1.trans y3⟩
theorem spec_nonempty : ∀ r ∈ specTab, r.1 ≠ ByteArray.empty := by
  have : (specTab.all fun r => decide (r.1 ≠ ByteArray.empty)) = true := by decide +kernel
  intro r hr
  rw [List.all_eq_true] at this
  exact of_decide_eq_true (this r hr)
theorem spec_known (c : ByteArray) : curIn specTab c = curKnown c := by
  have h1 : (specTab.all fun r => curIn implTab r.1) = true := by decide +kernel
  have h2 : (implTab.all fun r => curIn specTab r.1) = true := by decide +kernel
  rw [List.all_eq_true] at h1 h2
  have key : ∀ {a b : List CurRow}, (∀ r ∈ a, curIn b r.1 = true) → curIn a c = true → curIn b c = true := by
    intro a b h hc
    unfold curIn at hc
    rw [List.any_eq_true] at hc
    obtain ⟨r, hr, he⟩ := hc
    have he := of_decide_eq_true he
    have := h r hr
    rwa [he] at this
  unfold curKnown
  cases h3 : curIn specTab c with
  | true => exact (key h1 h3).symm
  | false =>
    cases h4 : curIn implTab c with
    | false => rfl
    | true => rw [key h2 h4] at h3; cases h3
theorem spec_length : specTab.length = 20 := rfl
theorem spec_l08Find_c {w : World} (c : ByteArray) :
    Ret P n_spec_l08Find [.string c] w fun v w' => v = .agg ⟨curCells (curFind specTab c)⟩ ∧ Ext w w' := by
  have hlen := spec_length
  refine spec_l08Find_ret ?_
  unfold spec_l08Find
  intro r w1 hn1
  have e1 := hn1.r_eq; have s1 := hn1.size
  refine Ret.at (R := fun v w' => ∃ r, v = .slice (some ⟨r, 0, none⟩) 20 20 ∧ Seg w' r 0 (specTab.flatMap curCells) ∧ Ext w1 w') ?_ ?_
  · refine spec_l08Table_ret ?_
    unfold spec_l08Table
    intro r2 w2 hn2
    exact ⟨r2, rfl, hn2.blk.seg, hn2.ext⟩
  rintro v w2 ⟨r2, hv, hseg, y2⟩
  subst hv
  refine ⟨_, _, _, rfl, ?_⟩
  refine ⟨fun i wr => ∃ j : Nat, i = j ∧ j ≤ 20 ∧ Ext w2 wr ∧ curFind specTab c = curFind (specTab.drop j) c, fun i _ => 20 - i.toNat, ⟨0, rfl, by omega, Ext.refl _, rfl⟩, ?_⟩
  intro junk wr i ⟨j, hij, hj, hx, hf⟩
  subst hij
  have lx := hx.le; have ly := y2.le
  refine ifD (fun hlt => ?_) (fun hge => ?_)
  · have hjl : j < specTab.length := by omega
    rw [curFind_drop hjl] at hf
    have hrow : Seg wr r2 (0 + j * 4) (curCells (specTab[j]'hjl)) := by
      rw [← flat_row specTab j hjl]
      exact ((hseg.ext hx).drop (j * 4)).take 4
    refine ⟨⟨by omega, by omega⟩, _, _, _, _, (by simp only [addr_add, Int.toNat_natCast]; exact loadsA (cs := curCells (specTab[j]'hjl)) (by kernel_rfl) hrow), ?_⟩
    intro r1 w3 hn3
    obtain ⟨w4, st, hb4, y4⟩ := hn3.fill (P := P) (t := T_spec_l08Row) (xs := curCells (specTab[j]'hjl)) (by simp [curCells, Value.oneCell']) (by kernel_rfl) rfl
    refine ⟨w4, st, _, hb4.loadAt 0 rfl (by kernel_rfl) rfl, ifD (fun heq => ?_) (fun hne => ?_)⟩
    · have hf := hf.trans (if_pos heq)
      obtain ⟨w5, st5, hb5, ch, sz⟩ := (hn1.blk.ext ((y2.trans hx).trans y4)).storeA0 (P := P) (t := T_spec_l08Row) (xs := curCells (specTab[j]'hjl)) (by kernel_rfl) rfl (by simp [curCells, Value.oneCell'])
      refine ⟨_, _, _, _, hb4.loadA0 (by kernel_rfl), w5, st5, _, _, _, _, hb5.loadA0 (by kernel_rfl), ?_, (((hn1.ext.trans y2).trans hx).trans y4).chg ch (by simp; omega)⟩
      rw [hf]; rfl
    · have hf := hf.trans (if_neg hne)
      refine exW ⟨by omega, by omega⟩ ⟨⟨j + 1, by omega, by omega, hx.trans y4, hf⟩, ?_⟩
      show 20 - ((j : Int) + 1).toNat < 20 - (j : Int).toNat
      omega
  · rw [List.drop_of_length_le (by omega)] at hf
    obtain ⟨w4, st4, hb4, ch, sz⟩ := (hn1.blk.ext (y2.trans hx)).storeA0 (P := P) (t := T_spec_l08Row) (xs := curCells curZero) (by kernel_rfl) rfl (by simp [curCells, Value.oneCell'])
    refine ⟨w4, st4, _, _, _, _, hb4.loadA0 (by kernel_rfl), ?_, ((hn1.ext.trans y2).trans hx).chg ch (by simp; omega)⟩
    rw [hf]; rfl
theorem spec_CurKnown_c {w : World} (c : ByteArray) :
    Ret P n_spec_CurKnown [.string c] w fun v w' => v = .bool (curKnown c) ∧ Ext w w' := by
  refine spec_CurKnown_ret ?_
  unfold spec_CurKnown
  refine Ret.at (spec_l08Find_c c) ?_
  rintro v w1 ⟨hv, y1⟩
  subst hv
  refine ⟨_, _, _, _, rfl, ?_, y1⟩
  rw [← spec_known, ← curFind_fst spec_nonempty]
  rfl
end Go.Proofs.YtdidocmbcfbjdaaDoor

namespace Go.Proofs.YtdidocmbcfbjdaaDoor
open Go Go.Proofs.YtdidocmbcfbjdaaDoor.Sx
set_option linter.unusedVariables false
set_option linter.unusedSimpArgs false
def bAt (s : ByteArray) (i : Nat) : Int := (((s[i]?).getD 0).toNat : Nat)
def okB (lo hi low high b : Int) : Bool := !((decide (b < lo) || decide (hi < b)) && (decide (b < low) || decide (high < b)))
def isAll (s : ByteArray) (lo hi low high : Int) : Bool := decide (0 < s.size) && (List.range s.size).all fun i => okB lo hi low high (bAt s i)
def isWord (s : ByteArray) : Bool := isAll s 97 122 48 57 && decide (s.size ≤ 12) && decide (97 ≤ bAt s 0)
theorem byte_at {s : ByteArray} {i : Nat} (h : i < s.size) : ∃ b : UInt8, s[((i : Nat) : Int).toNat]? = some b ∧ bAt s i = (b.toNat : Nat) := by
  have e : s[i]? = some (s[i]'h) := getElem?_pos s i h
  exact ⟨s[i]'h, by rw [Int.toNat_natCast]; exact e, by unfold bAt; rw [e]; rfl⟩
theorem isAll_no {s : ByteArray} {lo hi low high : Int} {i : Nat} (hi' : i < s.size) (h : okB lo hi low high (bAt s i) = false) : isAll s lo hi low high = false := by
  unfold isAll
  have : ((List.range s.size).all fun i => okB lo hi low high (bAt s i)) = false := by
    rw [Bool.eq_false_iff]
    intro ha
    rw [List.all_eq_true] at ha
    have := ha i (List.mem_range.2 hi')
    rw [h] at this; cases this
  rw [this, Bool.and_false]
theorem isAll_yes {s : ByteArray} {lo hi low high : Int} (h : ∀ i < s.size, okB lo hi low high (bAt s i) = true) : isAll s lo hi low high = decide (0 < s.size) := by
  unfold isAll
  have : ((List.range s.size).all fun i => okB lo hi low high (bAt s i)) = true := by
    rw [List.all_eq_true]
    exact fun i hi => h i (List.mem_range.1 hi)
  rw [this, Bool.and_true]
theorem spec_l01All_c (s : ByteArray) (lo hi low high : Int) (hs : s.size ≤ 9000000000000000000) (w : World) :
    Ret P n_spec_l01All [.string s, .int .u8 lo, .int .u8 hi, .int .u8 low, .int .u8 high] w fun v w' => v = .bool (isAll s lo hi low high) ∧ w' = w := by
  refine spec_l01All_ret ?_
  unfold spec_l01All
  refine ⟨fun i wr => ∃ j : Nat, i = j ∧ j ≤ s.size ∧ wr = w ∧ ∀ k < j, okB lo hi low high (bAt s k) = true, fun i _ => s.size - i.toNat, ⟨0, rfl, by omega, rfl, by simp⟩, ?_⟩
  intro junk wr i ⟨j, hij, hj, hw, hall⟩
  subst hij; subst hw
  refine ifD (fun hlt => ?_) (fun hge => ⟨?_, rfl⟩)
  · have hjs : j < s.size := by omega
    obtain ⟨b, hb, e⟩ := byte_at hjs
    have bad : okB lo hi low high (b.toNat : Nat) = false → (fun (v : Value) (w' : World) => v = .bool (isAll s lo hi low high) ∧ w' = wr) (.bool false) wr := fun h => ⟨by rw [isAll_no hjs (by rw [e]; exact h)], rfl⟩
    have next : okB lo hi low high (b.toNat : Nat) = true → ∃ t17 : Int, t17 = IntKind.wrap .i64 ((j : Int) + 1) ∧ (fun (i : Int) (wr' : World) => ∃ j : Nat, i = j ∧ j ≤ s.size ∧ wr' = wr ∧ ∀ k < j, okB lo hi low high (bAt s k) = true) t17 wr ∧ (fun (i : Int) (_ : World) => s.size - i.toNat) t17 wr < (fun (i : Int) (_ : World) => s.size - i.toNat) (j : Int) wr := by
      intro h
      refine exW ⟨by omega, by omega⟩ ⟨⟨j + 1, by omega, by omega, rfl, fun k hk => ?_⟩, ?_⟩
      · rcases Nat.lt_or_ge k j with h1 | h1
        · exact hall k h1
        · have : k = j := by omega
          subst this; rw [e]; exact h
      · show s.size - ((j : Int) + 1).toNat < s.size - (j : Int).toNat
        omega
    refine ⟨by omega, b, hb, ifD (fun h1 => ifT ⟨by omega, b, hb, ifD (fun h2 => ifT (bad ?_)) (fun h2 => ⟨by omega, b, hb, ifD (fun h3 => bad ?_) (fun h3 => next ?_)⟩)⟩) (fun h1 => ⟨by omega, b, hb, ifD (fun h2 => ⟨by omega, b, hb, ifD (fun h3 => ifT (bad ?_)) (fun h3 => ⟨by omega, b, hb, ifD (fun h4 => bad ?_) (fun h4 => next ?_)⟩)⟩) (fun h2 => ifF (next ?_))⟩)⟩
    all_goals (simp [okB]; omega)
  · rw [isAll_yes (fun i hi => hall i (by omega))]
    congr 1
    simp
theorem spec_IsWord_c (s : ByteArray) (hs : s.size ≤ 9000000000000000000) (w : World) : Ret P n_spec_IsWord [.string s] w fun v w' => v = .bool (isWord s) ∧ w' = w := by
  refine spec_IsWord_ret ?_
  unfold spec_IsWord
  refine Ret.at (spec_l01All_c s 97 122 48 57 hs w) ?_
  rintro v w1 ⟨hv, hw⟩
  subst hv; subst hw
  refine ⟨_, rfl, fun h1 => ifD (fun h2 => ?_) (fun h2 => ⟨?_, rfl⟩), fun h1 => ifF ⟨?_, rfl⟩⟩
  · have h0 : 0 < s.size := by
      unfold isAll at h1
      simp only [Bool.and_eq_true, decide_eq_true_eq] at h1
      exact h1.1
    obtain ⟨b, hb, e⟩ := byte_at h0
    refine ⟨by omega, b, hb, ?_, rfl⟩
    unfold isWord
    rw [h1, e, decide_eq_true (show s.size ≤ 12 by omega)]
    simp
  · unfold isWord
    rw [decide_eq_false (show ¬ s.size ≤ 12 by omega)]
    simp
  · unfold isWord
    rw [h1]
    simp
theorem impl_isLower_c (c : Int) (w : World) : Ret P n_impl_isLower [.int .u8 c] w fun v w' => v = .bool (decide (97 ≤ c ∧ c ≤ 122)) ∧ w' = w := by
  refine impl_isLower_ret ?_
  unfold impl_isLower
  refine ifD (fun h => ⟨?_, rfl⟩) (fun h => ⟨?_, rfl⟩) <;> simp [h]
theorem impl_isDigit_c (c : Int) (w : World) : Ret P n_impl_isDigit [.int .u8 c] w fun v w' => v = .bool (decide (48 ≤ c ∧ c ≤ 57)) ∧ w' = w := by
  refine impl_isDigit_ret ?_
  unfold impl_isDigit
  refine ifD (fun h => ⟨?_, rfl⟩) (fun h => ⟨?_, rfl⟩) <;> simp [h]
theorem impl_IsWord_c (s : ByteArray) (hs : s.size ≤ 9000000000000000000) (w : World) : Ret P n_impl_IsWord [.string s] w fun v w' => v = .bool (isWord s) ∧ w' = w := by
  refine impl_IsWord_ret ?_
  unfold impl_IsWord
  refine ifD (fun h => ifT (ifT ⟨?_, rfl⟩)) (fun h0 => ifD (fun h => ifT ⟨?_, rfl⟩) (fun h1 => ?_))
  · unfold isWord isAll
    rw [decide_eq_false (show ¬ 0 < s.size by omega)]
    simp
  · unfold isWord
    rw [decide_eq_false (show ¬ s.size ≤ 12 by omega)]
    simp
  have hp : 0 < s.size := by omega
  obtain ⟨b, hb, e⟩ := byte_at hp
  refine ⟨by omega, b, hb, ?_⟩
  refine Ret.at (impl_isLower_c _ w) ?_
  rintro v w1 ⟨hv, hw⟩
  subst hv; subst hw
  refine ⟨_, rfl, ifN (fun hno => ⟨?_, rfl⟩) (fun hlow => ?_)⟩
  · have hno := of_decide_eq_false hno
    by_cases h97 : 97 ≤ bAt s 0
    · unfold isWord
      rw [isAll_no hp (by rw [e] at h97 ⊢; simp [okB]; omega)]
      simp
    · unfold isWord
      rw [decide_eq_false h97]
      simp
  have hlow := of_decide_eq_true hlow
  unfold impl_IsWord_j0
  refine ⟨fun i wr => ∃ j : Nat, i = j ∧ 1 ≤ j ∧ j ≤ s.size ∧ wr = w1 ∧ ∀ k < j, okB 97 122 48 57 (bAt s k) = true, fun i _ => s.size - i.toNat, ⟨1, rfl, by omega, by omega, rfl, fun k hk => ?_⟩, ?_⟩
  · have : k = 0 := by omega
    subst this
    rw [e]; simp [okB]; omega
  intro junk wr i ⟨j, hij, hj1, hj, hw, hall⟩
  subst hij; subst hw
  refine ifD (fun hlt => ?_) (fun hge => ⟨?_, rfl⟩)
  · have hjs : j < s.size := by omega
    obtain ⟨b, hb, e⟩ := byte_at hjs
    have next : okB 97 122 48 57 (b.toNat : Nat) = true → ∃ t17 : Int, t17 = IntKind.wrap .i64 ((j : Int) + 1) ∧ (fun (i : Int) (wr' : World) => ∃ j : Nat, i = j ∧ 1 ≤ j ∧ j ≤ s.size ∧ wr' = wr ∧ ∀ k < j, okB 97 122 48 57 (bAt s k) = true) t17 wr ∧ (fun (i : Int) (_ : World) => s.size - i.toNat) t17 wr < (fun (i : Int) (_ : World) => s.size - i.toNat) (j : Int) wr := by
      intro h
      refine exW ⟨by omega, by omega⟩ ⟨⟨j + 1, by omega, by omega, by omega, rfl, fun k hk => ?_⟩, ?_⟩
      · rcases Nat.lt_or_ge k j with h1 | h1
        · exact hall k h1
        · have : k = j := by omega
          subst this; rw [e]; exact h
      · show s.size - ((j : Int) + 1).toNat < s.size - (j : Int).toNat
        omega
    refine ⟨by omega, b, hb, ?_⟩
    refine Ret.at (impl_isLower_c _ wr) ?_
    rintro v w1 ⟨hv, hw⟩
    subst hv; subst hw
    refine ⟨_, rfl, ifN (fun hno => ⟨by omega, b, hb, ?_⟩) (fun hyes => ifF (next ?_))⟩
    · have hno := of_decide_eq_false hno
      refine Ret.at (impl_isDigit_c _ _) ?_
      rintro v w2 ⟨hv, hw⟩
      subst hv; subst hw
      refine ⟨_, rfl, ifN (fun hno2 => ⟨?_, rfl⟩) (fun hyes2 => next ?_)⟩
      · have hno2 := of_decide_eq_false hno2
        unfold isWord
        rw [isAll_no hjs (by rw [e]; simp [okB]; omega)]
        simp
      · have hyes2 := of_decide_eq_true hyes2
        simp [okB]; omega
    · have hyes := of_decide_eq_true hyes
      simp [okB]; omega
  · unfold isWord
    rw [isAll_yes (fun i hi => hall i (by omega)), decide_eq_true (show s.size ≤ 12 by omega), decide_eq_true hp, e, decide_eq_true (show (97 : Int) ≤ (b.toNat : Nat) by omega)]
    rfl
def moneyOk : List D0 → Bool
  | [.str c, .bool b, .ints z] => curKnown c && intOk [.bool b, .ints z] && decide (z.length ≤ 4)
  | _ => false
theorem spec_MoneyOk_c {w : World} {xs : List Value} {dx : List D0} (h : Reps w xs dx) (hc : dx.map D0.code = [.str, .bool, .ints]) :
    Ret P n_spec_MoneyOk [.agg ⟨xs⟩] w fun v w' => v = .bool (moneyOk dx) ∧ Ext w w' := by
  obtain ⟨t0, a0, a1p, a1n, a1c, a1z, rfl, rfl, ha⟩ := open_Money h hc
  have hl := ha.1
  refine spec_MoneyOk_ret ?_
  unfold spec_MoneyOk
  intro r w1 hn1
  refine ⟨_, hn1.blk.loadAt 0 rfl (by kernel_rfl) rfl, ?_⟩
  refine Ret.at (spec_CurKnown_c t0) ?_
  rintro v w2 ⟨hv, y2⟩
  subst hv
  have X := hn1.ext.trans y2
  have b := hn1.blk.ext y2
  refine ⟨_, rfl, fun e1 => ?_, fun e1 => ifF ⟨by simp only [moneyOk, e1, Bool.false_and], X⟩⟩
  refine ⟨_, _, _, _, b.loadAAt 1 [.bool a0, .slice a1p a1n a1c] rfl (by kernel_rfl) rfl, ?_⟩
  have hs : Reps w2 [.bool a0, .slice a1p a1n a1c] [.bool a0, .ints a1z] := ⟨rfl, ⟨_, _, _, rfl, ha.ext X⟩, trivial⟩
  refine Ret.at (spec_IntOk_c hs rfl) ?_
  rintro v w3 ⟨hv, y3⟩
  subst hv
  refine ⟨_, rfl, fun e2 => ⟨_, _, _, (b.ext y3).loadAt 2 rfl (by kernel_rfl) rfl, ?_, X.trans y3⟩, fun e2 => ⟨by simp only [moneyOk, e2, Bool.and_false, Bool.false_and], X.trans y3⟩⟩
  simp only [moneyOk, e1, e2, Bool.true_and]
  congr 1
  simp; omega
theorem impl_MoneyOk_c {w : World} (ht : Tab w) {xs : List Value} {dx : List D0} (h : Reps w xs dx) (hc : dx.map D0.code = [.str, .bool, .ints]) :
    Ret P n_impl_MoneyOk [.agg ⟨xs⟩] w fun v w' => v = .bool (moneyOk dx) ∧ Ext w w' := by
  obtain ⟨t0, a0, a1p, a1n, a1c, a1z, rfl, rfl, ha⟩ := open_Money h hc
  have hl := ha.1
  refine impl_MoneyOk_ret ?_
  unfold impl_MoneyOk
  intro r w1 hn1
  refine ⟨_, hn1.blk.loadAt 0 rfl (by kernel_rfl) rfl, ?_⟩
  refine Ret.at (impl_CurKnown_c (ht.ext hn1.ext) t0) ?_
  rintro v w2 ⟨hv, y2⟩
  subst hv
  have X := hn1.ext.trans y2
  have b := hn1.blk.ext y2
  refine ⟨_, rfl, fun e1 => ?_, fun e1 => ifF ⟨by simp only [moneyOk, e1, Bool.false_and], X⟩⟩
  refine ⟨_, _, _, _, b.loadAAt 1 [.bool a0, .slice a1p a1n a1c] rfl (by kernel_rfl) rfl, ?_⟩
  have hs : Reps w2 [.bool a0, .slice a1p a1n a1c] [.bool a0, .ints a1z] := ⟨rfl, ⟨_, _, _, rfl, ha.ext X⟩, trivial⟩
  refine Ret.at (impl_IntOk_c hs rfl) ?_
  rintro v w3 ⟨hv, y3⟩
  subst hv
  refine ⟨_, rfl, fun e2 => ⟨_, _, _, (b.ext y3).loadAt 2 rfl (by kernel_rfl) rfl, ?_, X.trans y3⟩, fun e2 => ⟨by simp only [moneyOk, e2, Bool.and_false, Bool.false_and], X.trans y3⟩⟩
  simp only [moneyOk, e1, e2, Bool.true_and]
  congr 1
  simp; omega
end Go.Proofs.YtdidocmbcfbjdaaDoor

namespace Go.Proofs.YtdidocmbcfbjdaaDoor
open Go Go.Proofs.YtdidocmbcfbjdaaDoor.Sx
set_option linter.unusedVariables false
set_option linter.unusedSimpArgs false
theorem all_no {f : List D0 → Bool} {l : List (List D0)} {i : Nat} (hi : i < l.length) (h : f (l[i]'hi) = false) : l.all f = false := by
  rw [Bool.eq_false_iff]
  intro ha
  rw [List.all_eq_true] at ha
  rw [ha _ (List.getElem_mem hi)] at h; cases h
theorem all_yes {f : List D0 → Bool} {l : List (List D0)} (h : ∀ i (hi : i < l.length), f (l[i]'hi) = true) : l.all f = true := by
  rw [List.all_eq_true]
  intro x hx
  obtain ⟨i, hi, rfl⟩ := List.getElem_of_mem hx
  exact h i hi
end Go.Proofs.YtdidocmbcfbjdaaDoor

namespace Go.Proofs.YtdidocmbcfbjdaaDoor
open Go Go.Proofs.YtdidocmbcfbjdaaDoor.Sx
set_option linter.unusedVariables false
set_option linter.unusedSimpArgs false
def iadd (d e : List D0) : List D0 := if intOk d && intOk e then icap (ival d + ival e) else enc 0
theorem enc0 : enc 0 = [.bool false, .ints []] := by simp [enc, digs_zero]
theorem icap_code (z : Int) : (icap z).map D0.code = [.bool, .ints] := rfl
theorem capL_canon {n : Nat} : Canon (capL (digs n)) ∧ (capL (digs n)).length ≤ 50 := by
  unfold capL
  split
  · exact ⟨digs_canon n, by assumption⟩
  · exact ⟨⟨Limbs.nil, by simp⟩, by simp⟩
theorem icap_ok (z : Int) : intOk (icap z) = true := by
  have h := capL_canon (n := z.natAbs)
  simp only [icap, mkS, intOk, natOk_spec.2 h, Bool.true_and]
  cases decide (z < 0) <;> cases (capL (digs z.natAbs)) <;> simp
theorem mkS_digs {neg : Bool} {m : Nat} {z : Int} (hm : m = z.natAbs) (hs : m ≠ 0 → neg = decide (z < 0)) : mkS neg (capL (digs m)) = icap z := by
  subst hm
  by_cases h0 : z.natAbs = 0
  · have hz : z = 0 := by omega
    subst hz
    simp [icap, mkS, digs_zero, capL]
  · rw [hs h0]; rfl
end Go.Proofs.YtdidocmbcfbjdaaDoor

namespace Go.Proofs.YtdidocmbcfbjdaaDoor
open Go Go.Proofs.YtdidocmbcfbjdaaDoor.Sx
set_option linter.unusedVariables false
set_option linter.unusedSimpArgs false
def sgn (z : Int) : Int := if z < 0 then -1 else if z = 0 then 0 else 1
theorem impl_intSign_c {w : World} {xs : List Value} {z : Int} (h : Reps w xs (enc z)) : Ret P n_impl_intSign [.agg ⟨xs⟩] w fun v w' => v = .int .i64 (sgn z) ∧ Ext w w' := by
  obtain ⟨a0, a1p, a1n, a1c, a1z, rfl, hd, ha⟩ := open_Signed h rfl
  simp only [enc, List.cons.injEq, D0.bool.injEq, D0.ints.injEq, and_true] at hd
  obtain ⟨rfl, rfl⟩ := hd
  have hl := ha.1
  have he := isEmpty_digs (n := z.natAbs)
  refine impl_intSign_ret ?_
  unfold impl_intSign
  intro r w1 hn
  have hzero : (a1n = 0) ↔ z = 0 := by
    rw [← hl, List.length_eq_zero_iff, digs_nil]; omega
  refine ⟨_, _, _, hn.blk.load (by kernel_rfl) rfl, ifD (fun h0 => ⟨?_, hn.ext⟩) (fun h0 => ⟨_, hn.blk.load (by kernel_rfl) rfl, fun e => ⟨?_, hn.ext⟩, fun e => ⟨?_, hn.ext⟩⟩)⟩
  · have : z = 0 := hzero.1 (by omega)
    subst this; rfl
  · have e := of_decide_eq_true e
    simp [sgn, e]
  · have e := of_decide_eq_false e
    have : z ≠ 0 := fun h => h0 (by have := hzero.2 h; omega)
    simp [sgn, e, this]
theorem impl_intNeg_c {w : World} {xs : List Value} {z : Int} (h : Reps w xs (enc z)) (hz : (digs z.natAbs).length ≤ 10000000) : Ret P n_impl_intNeg [.agg ⟨xs⟩] w fun v w' => ∃ vs' f, v = .agg ⟨vs'⟩ ∧ Owns w' w.heap.size vs' (enc (-z)) f ∧ f.Nodup ∧ Ext w w' := by
  obtain ⟨a0, a1p, a1n, a1c, a1z, rfl, hd, ha⟩ := open_Signed h rfl
  simp only [enc, List.cons.injEq, D0.bool.injEq, D0.ints.injEq, and_true] at hd
  obtain ⟨rfl, rfl⟩ := hd
  have hl := ha.1
  refine impl_intNeg_ret ?_
  unfold impl_intNeg
  intro r w1 hn1 r1 w2 hn2
  have x := hn1.ext.trans hn2.ext
  have D := Ext.drew w2
  have XD := x.trans D
  have k0 := hn1.blk.ext hn2.ext
  have e2 := hn2.r_eq; have s1 := hn1.size; have s2 := hn2.size
  refine ⟨_, fun W hW => (k0.ext (D.trans hW)).load (by kernel_rfl) rfl, _, _, _, fun W hW => (k0.ext (D.trans hW)).load (by kernel_rfl) rfl, ?_⟩
  refine Ret.at (impl_natCopy_c (ha.ext XD) (by omega)) ?_
  rintro v w3 ⟨p, c, hv, ho, y3⟩
  subst hv
  refine ⟨_, _, _, rfl, y3, ?_⟩
  refine Ret.at (impl_signed_c ho.ints.1) ?_
  rintro v w4 ⟨hv, y4⟩
  subst hv
  have lD := D.le
  obtain ⟨w5, st, hb5, ch, sz⟩ := (((hn2.blk.ext D).ext y3).ext y4).storeA0 (P := P) (t := T_impl_Signed) (xs := [.bool (!(decide (z < 0)) && !(digs z.natAbs).isEmpty), .slice p a1n c]) (by kernel_rfl) rfl (by simp [Value.oneCell'])
  refine ⟨_, _, _, _, rfl, w5, st, _, _, _, _, hb5.loadA0 (by kernel_rfl), _, _, rfl, ?_, nodup_opt p, ((XD.trans y3).trans y4).chg ch (by simp; omega)⟩
  have eb : (!(decide (z < 0)) && !(digs z.natAbs).isEmpty) = decide (-z < 0) := by
    rw [isEmpty_digs]
    by_cases h0 : z = 0
    · subst h0; rfl
    · by_cases h1 : z < 0
      · have : ¬ (-z < 0) := by omega
        simp [h1]; omega
      · have h2 : z.natAbs ≠ 0 := by omega
        simp [h1, h0]; omega
  rw [eb]
  have := ((Owns.int2 (b := decide (-z < 0)) (ho.ext y4)).chg1 ch (by omega)).mono (B' := w.heap.size) (by omega)
  unfold enc
  rw [Int.natAbs_neg]
  exact this
theorem impl_intCmp_c {w : World} {xs ys : List Value} {x y : Int} (h : Reps w xs (enc x)) (k : Reps w ys (enc y)) (hx : (digs x.natAbs).length ≤ 10000000) (hy : (digs y.natAbs).length ≤ 10000000) :
    Ret P n_impl_intCmp [.agg ⟨xs⟩, .agg ⟨ys⟩] w fun v w' => v = .int .i64 (sgn (x - y)) ∧ Ext w w' := by
  have hr := h; have kr := k
  obtain ⟨a0, a1p, a1n, a1c, a1z, rfl, hd, ha⟩ := open_Signed h rfl
  obtain ⟨b0, b1p, b1n, b1c, b1z, rfl, he, hb⟩ := open_Signed k rfl
  refine impl_intCmp_ret ?_
  unfold impl_intCmp
  intro r w1 hn1 r1 w2 hn2
  have X := hn1.ext.trans hn2.ext
  have D := Ext.drew w2
  have XD := X.trans D
  have k0 := hn1.blk.ext hn2.ext; have k1 := hn2.blk
  refine ⟨_, _, _, _, fun W hW => (k0.ext (D.trans hW)).loadA0 (by kernel_rfl), _, _, _, _, fun W hW => (k1.ext (D.trans hW)).loadA0 (by kernel_rfl), ?_⟩
  refine Ret.at (impl_intNeg_c (kr.ext XD) hy) ?_
  rintro v w3 ⟨vs', f, hv, ho, _, y3⟩
  subst hv
  obtain ⟨q0, q1p, q1n, q1c, q1z, rfl, hq, hqi⟩ := open_Signed ho.reps (enc_code _)
  refine ⟨_, _, _, _, rfl, y3, ?_⟩
  refine Ret.at (impl_intAdd_c (hr.ext (XD.trans y3)) ho.reps hx (by rw [Int.natAbs_neg]; exact hy)) ?_
  rintro v w4 ⟨p, n, c, hv, hown, y4⟩
  subst hv
  refine ⟨_, _, _, _, rfl, ?_⟩
  have hs : Reps w4 [.bool (decide (x + -y < 0)), .slice p n c] (enc (x + -y)) := ⟨rfl, ⟨_, _, _, rfl, hown.ints⟩, trivial⟩
  refine Ret.at (impl_intSign_c hs) ?_
  rintro v w5 ⟨hv, y5⟩
  subst hv
  exact ⟨_, rfl, rfl, ((XD.trans y3).trans y4).trans y5⟩
end Go.Proofs.YtdidocmbcfbjdaaDoor

namespace Go.Proofs.YtdidocmbcfbjdaaDoor
open Go Go.Proofs.YtdidocmbcfbjdaaDoor.Sx
set_option linter.unusedVariables false
set_option linter.unusedSimpArgs false
def debtOk (cur : ByteArray) : List D0 → Bool
  | [.str a, .str b, .str c, .bool s, .ints z] => moneyOk [.str c, .bool s, .ints z] && decide (c = cur) && decide (0 < ival [.bool s, .ints z]) && isWord a && isWord b && !(decide (a = b))
  | _ => false
def debtsOk (cur : ByteArray) (l : List (List D0)) : Bool := curKnown cur && decide (l.length ≤ 20) && l.all (debtOk cur)
theorem moneyOk_int {c : ByteArray} {b : Bool} {z : List Int} (h : moneyOk [.str c, .bool b, .ints z] = true) : intOk [.bool b, .ints z] = true := by
  simp only [moneyOk, Bool.and_eq_true] at h
  exact h.1.2
theorem isign_sgn {z : Int} (h : intOk (enc z) = true) : isign (enc z) = sgn z := by rw [isign_enc h]; rfl
theorem sgn_le {z : Int} : sgn z ≤ 0 ↔ ¬ 0 < z := by
  unfold sgn
  by_cases h1 : z < 0
  · rw [if_pos h1]; omega
  · rw [if_neg h1]
    by_cases h2 : z = 0
    · rw [if_pos h2]; omega
    · rw [if_neg h2]; omega
theorem spec_DebtsOk_c {w : World} (cur : ByteArray) {p : Option Addr} {n c : Nat} {l : List (List D0)} (h : RowsR w 5 p n c l) (hc : ∀ x ∈ l, x.map D0.code = [.str, .str, .str, .bool, .ints]) (hn : n ≤ 1048576) (hb : ∀ x ∈ l, bulks x ≤ 1048576) :
    Ret P n_spec_DebtsOk [.string cur, .slice p n c] w fun v w' => v = .bool (debtsOk cur l) ∧ Ext w w' := by
  have hz := h.1; have hcap := h.2.1; have hcm := h.2.2.1
  refine spec_DebtsOk_ret ?_
  unfold spec_DebtsOk
  refine ⟨fun i wr => ∃ j : Nat, i = j ∧ j ≤ n ∧ Ext w wr ∧ ∀ i (hi : i < l.length), i < j → debtOk cur (l[i]'hi) = true, fun i _ => n - i.toNat, ⟨0, rfl, by omega, Ext.refl _, fun i _ h => absurd h (by omega)⟩, ?_⟩
  intro junk wr i ⟨j, hij, hj, hx, hall⟩
  subst hij
  refine ifD (fun hlt => ?_) (fun hge => ?_)
  · have hjn : j < n := by omega
    have hjl : j < l.length := by omega
    obtain ⟨a, cs, hp, hk, hr, hl⟩ := (h.ext hx).at (P := P) (t := T_impl_Debt) (by kernel_rfl) hjn
    subst hp
    have hrr := hr; have hcode := hc _ (List.getElem_mem hjl); have hbj := hb _ (List.getElem_mem hjl)
    obtain ⟨a0, a1, a2, a3, a4p, a4n, a4c, a4z, rfl, hd, ha⟩ := open_Debt hr hcode
    rw [hd] at hbj
    simp only [bulks, D0.bulk, List.map_cons, List.map_nil, List.sum_cons, List.sum_nil] at hbj
    have bad : debtOk cur [.str a0, .str a1, .str a2, .bool a3, .ints a4z] = false → debtsOk cur l = false := fun h => by
      unfold debtsOk
      rw [all_no hjl (by rw [hd]; exact h), Bool.and_false]
    refine ⟨⟨by omega, by omega⟩, _, _, _, _, _, _, _, by simpa using hl, ?_⟩
    intro r w2 hn2
    obtain ⟨w3, st, hb3, y3⟩ := hn2.fill (P := P) (t := T_impl_Debt) hrr.cells1 (by kernel_rfl) rfl
    have hm : Reps w3 [.string a2, .bool a3, .slice a4p a4n a4c] [.str a2, .bool a3, .ints a4z] := ⟨rfl, rfl, ⟨_, _, _, rfl, ha.ext y3⟩, trivial⟩
    refine ⟨w3, st, _, _, _, _, _, hb3.loadAAt 2 [.string a2, .bool a3, .slice a4p a4n a4c] rfl (by kernel_rfl) rfl, ?_⟩
    refine Ret.at (spec_MoneyOk_c hm rfl) ?_
    rintro v w4 ⟨hv, y4⟩
    subst hv
    have X4 := (hx.trans y3).trans y4
    have hb4 := hb3.ext y4
    refine ⟨_, rfl, ifN (fun hno => ifT (ifT (ifT (ifT (ifT ⟨by rw [bad (by simp only [debtOk, hno, Bool.false_and])], X4⟩))))) (fun h1 => ?_)⟩
    have hio := moneyOk_int h1
    have henc := (intOk_enc hio).1
    refine ⟨_, hb4.loadAt 2 rfl (by kernel_rfl) rfl, ifD (fun hno => ifT (ifT (ifT (ifT ⟨by rw [bad (by simp only [debtOk, decide_eq_false hno, Bool.and_false, Bool.false_and])], X4⟩)))) (fun hcur => ?_)⟩
    have hcur : a2 = cur := by simpa using hcur
    have hs : Reps w4 [.bool a3, .slice a4p a4n a4c] (enc (ival [.bool a3, .ints a4z])) := by
      rw [← henc]
      exact ⟨rfl, ⟨_, _, _, rfl, (ha.ext y3).ext y4⟩, trivial⟩
    refine ⟨_, _, _, _, hb4.loadAAt 3 [.bool a3, .slice a4p a4n a4c] rfl (by kernel_rfl) rfl, ?_⟩
    refine Ret.at (spec_IntSign_c hs (enc_code _)) ?_
    rintro v w5 ⟨hv, y5⟩
    subst hv
    have X5 := X4.trans y5
    have hb5 := hb4.ext y5
    refine ⟨_, rfl, ?_⟩
    rw [isign_sgn (by rw [← henc]; exact hio)]
    refine ifD (fun hno => ifT (ifT (ifT ⟨by rw [bad (by simp only [debtOk, decide_eq_false (sgn_le.1 hno), Bool.and_false, Bool.false_and])], X5⟩))) (fun hpos => ?_)
    have hpos : 0 < ival [.bool a3, .ints a4z] := Decidable.byContradiction fun hh => hpos (sgn_le.2 hh)
    refine ⟨_, hb5.loadAt 0 rfl (by kernel_rfl) rfl, ?_⟩
    refine Ret.at (spec_IsWord_c a0 (by omega) _) ?_
    rintro v w6 ⟨hv, hw⟩
    subst hv; subst hw
    refine ⟨_, rfl, ifN (fun hno => ifT (ifT ⟨by rw [bad (by simp only [debtOk, hno, Bool.and_false, Bool.false_and])], X5⟩)) (fun h4 => ?_)⟩
    refine ⟨_, hb5.loadAt 1 rfl (by kernel_rfl) rfl, ?_⟩
    refine Ret.at (spec_IsWord_c a1 (by omega) _) ?_
    rintro v w7 ⟨hv, hw⟩
    subst hv; subst hw
    refine ⟨_, rfl, ifN (fun hno => ifT ⟨by rw [bad (by simp only [debtOk, hno, Bool.and_false, Bool.false_and])], X5⟩) (fun h5 => ?_)⟩
    refine ⟨_, hb5.loadAt 0 rfl (by kernel_rfl) rfl, _, hb5.loadAt 1 rfl (by kernel_rfl) rfl, ifD (fun heq => ⟨by rw [bad (by simp only [debtOk, decide_eq_true heq, Bool.not_true, Bool.and_false])], X5⟩) (fun hne => ?_)⟩
    refine exW ⟨by omega, by omega⟩ ⟨⟨j + 1, by omega, by omega, X5, fun i hi hij => ?_⟩, ?_⟩
    · rcases Nat.lt_or_ge i j with h3 | h3
      · exact hall i hi h3
      · have : i = j := by omega
        subst this
        rw [hd]
        simp only [debtOk, h1, decide_eq_true hcur, decide_eq_true hpos, h4, h5, decide_eq_false hne, Bool.and_self, Bool.not_false]
    · show n - ((j : Int) + 1).toNat < n - (j : Int).toNat
      omega
  · refine Ret.at (spec_CurKnown_c cur) ?_
    rintro v w1 ⟨hv, y1⟩
    subst hv
    have hlast : l.all (debtOk cur) = true := all_yes fun i hi => hall i hi (by omega)
    refine ⟨_, rfl, fun hk => ⟨?_, hx.trans y1⟩, fun hk => ⟨?_, hx.trans y1⟩⟩
    · unfold debtsOk
      rw [hlast, hk, Bool.and_true, Bool.true_and]
      exact congrArg Value.bool (decide_eq_decide.2 (by omega))
    · unfold debtsOk
      rw [hk, Bool.false_and, Bool.false_and]
theorem impl_DebtsOk_c {w : World} (cur : ByteArray) {p : Option Addr} {n c : Nat} {l : List (List D0)} (h : RowsR w 5 p n c l) (hc : ∀ x ∈ l, x.map D0.code = [.str, .str, .str, .bool, .ints]) (hn : n ≤ 1048576) (hb : ∀ x ∈ l, bulks x ≤ 1048576) (ht : Tab w) :
    Ret P n_impl_DebtsOk [.string cur, .slice p n c] w fun v w' => v = .bool (debtsOk cur l) ∧ Ext w w' := by
  have hz := h.1; have hcap := h.2.1; have hcm := h.2.2.1
  refine impl_DebtsOk_ret ?_
  unfold impl_DebtsOk
  refine Ret.at (impl_CurKnown_c ht cur) ?_
  rintro v w1 ⟨hv, y1⟩
  subst hv
  refine ⟨_, rfl, ifN (fun hno => ifT ⟨?_, y1⟩) (fun hcu => ifD (fun h20 => ⟨?_, y1⟩) (fun h20 => ?_))⟩
  · unfold debtsOk
    rw [hno, Bool.false_and, Bool.false_and]
  · unfold debtsOk
    rw [decide_eq_false (show ¬ l.length ≤ 20 by omega), Bool.and_false, Bool.false_and]
  unfold impl_DebtsOk_j0
  refine ⟨fun i wr => ∃ j : Nat, i = j ∧ j ≤ n ∧ Ext w wr ∧ ∀ i (hi : i < l.length), i < j → debtOk cur (l[i]'hi) = true, fun i _ => n - i.toNat, ⟨0, rfl, by omega, y1, fun i _ h => absurd h (by omega)⟩, ?_⟩
  intro junk wr i ⟨j, hij, hj, hx, hall⟩
  subst hij
  refine ifD (fun hlt => ?_) (fun hge => ?_)
  · have hjn : j < n := by omega
    have hjl : j < l.length := by omega
    obtain ⟨a, cs, hp, hk, hr, hl⟩ := (h.ext hx).at (P := P) (t := T_impl_Debt) (by kernel_rfl) hjn
    subst hp
    have hrr := hr; have hcode := hc _ (List.getElem_mem hjl); have hbj := hb _ (List.getElem_mem hjl)
    obtain ⟨a0, a1, a2, a3, a4p, a4n, a4c, a4z, rfl, hd, ha⟩ := open_Debt hr hcode
    rw [hd] at hbj
    simp only [bulks, D0.bulk, List.map_cons, List.map_nil, List.sum_cons, List.sum_nil] at hbj
    have bad : debtOk cur [.str a0, .str a1, .str a2, .bool a3, .ints a4z] = false → debtsOk cur l = false := fun h => by
      unfold debtsOk
      rw [all_no hjl (by rw [hd]; exact h), Bool.and_false]
    refine ⟨⟨by omega, by omega⟩, _, _, _, _, _, _, _, by simpa using hl, ?_⟩
    intro r w2 hn2
    obtain ⟨w3, st, hb3, y3⟩ := hn2.fill (P := P) (t := T_impl_Debt) hrr.cells1 (by kernel_rfl) rfl
    have hm : Reps w3 [.string a2, .bool a3, .slice a4p a4n a4c] [.str a2, .bool a3, .ints a4z] := ⟨rfl, rfl, ⟨_, _, _, rfl, ha.ext y3⟩, trivial⟩
    refine ⟨w3, st, _, _, _, _, _, hb3.loadAAt 2 [.string a2, .bool a3, .slice a4p a4n a4c] rfl (by kernel_rfl) rfl, ?_⟩
    refine Ret.at (impl_MoneyOk_c (ht.ext (hx.trans y3)) hm rfl) ?_
    rintro v w4 ⟨hv, y4⟩
    subst hv
    have X4 := (hx.trans y3).trans y4
    have hb4 := hb3.ext y4
    refine ⟨_, rfl, ifN (fun hno => ifT (ifT (ifT (ifT (ifT ⟨by rw [bad (by simp only [debtOk, hno, Bool.false_and])], X4⟩))))) (fun h1 => ?_)⟩
    have hio := moneyOk_int h1
    have henc := (intOk_enc hio).1
    refine ⟨_, hb4.loadAt 2 rfl (by kernel_rfl) rfl, ifD (fun hno => ifT (ifT (ifT (ifT ⟨by rw [bad (by simp only [debtOk, decide_eq_false hno, Bool.and_false, Bool.false_and])], X4⟩)))) (fun hcur => ?_)⟩
    have hcur : a2 = cur := by simpa using hcur
    have hs : Reps w4 [.bool a3, .slice a4p a4n a4c] (enc (ival [.bool a3, .ints a4z])) := by
      rw [← henc]
      exact ⟨rfl, ⟨_, _, _, rfl, (ha.ext y3).ext y4⟩, trivial⟩
    refine ⟨_, _, _, _, hb4.loadAAt 3 [.bool a3, .slice a4p a4n a4c] rfl (by kernel_rfl) rfl, ?_⟩
    refine Ret.at (impl_intSign_c hs) ?_
    rintro v w5 ⟨hv, y5⟩
    subst hv
    have X5 := X4.trans y5
    have hb5 := hb4.ext y5
    refine ⟨_, rfl, ?_⟩
    refine ifD (fun hno => ifT (ifT (ifT ⟨by rw [bad (by simp only [debtOk, decide_eq_false (sgn_le.1 hno), Bool.and_false, Bool.false_and])], X5⟩))) (fun hpos => ?_)
    have hpos : 0 < ival [.bool a3, .ints a4z] := Decidable.byContradiction fun hh => hpos (sgn_le.2 hh)
    refine ⟨_, hb5.loadAt 0 rfl (by kernel_rfl) rfl, ?_⟩
    refine Ret.at (impl_IsWord_c a0 (by omega) _) ?_
    rintro v w6 ⟨hv, hw⟩
    subst hv; subst hw
    refine ⟨_, rfl, ifN (fun hno => ifT (ifT ⟨by rw [bad (by simp only [debtOk, hno, Bool.and_false, Bool.false_and])], X5⟩)) (fun h4 => ?_)⟩
    refine ⟨_, hb5.loadAt 1 rfl (by kernel_rfl) rfl, ?_⟩
    refine Ret.at (impl_IsWord_c a1 (by omega) _) ?_
    rintro v w7 ⟨hv, hw⟩
    subst hv; subst hw
    refine ⟨_, rfl, ifN (fun hno => ifT ⟨by rw [bad (by simp only [debtOk, hno, Bool.and_false, Bool.false_and])], X5⟩) (fun h5 => ?_)⟩
    refine ⟨_, hb5.loadAt 0 rfl (by kernel_rfl) rfl, _, hb5.loadAt 1 rfl (by kernel_rfl) rfl, ifD (fun heq => ⟨by rw [bad (by simp only [debtOk, decide_eq_true heq, Bool.not_true, Bool.and_false])], X5⟩) (fun hne => ?_)⟩
    refine exW ⟨by omega, by omega⟩ ⟨⟨j + 1, by omega, by omega, X5, fun i hi hij => ?_⟩, ?_⟩
    · rcases Nat.lt_or_ge i j with h3 | h3
      · exact hall i hi h3
      · have : i = j := by omega
        subst this
        rw [hd]
        simp only [debtOk, h1, decide_eq_true hcur, decide_eq_true hpos, h4, h5, decide_eq_false hne, Bool.and_self, Bool.not_false]
    · show n - ((j : Int) + 1).toNat < n - (j : Int).toNat
      omega
  · refine ⟨?_, hx⟩
    unfold debtsOk
    rw [all_yes fun i hi => hall i hi (by omega), hcu, decide_eq_true (show l.length ≤ 20 by omega)]
    rfl
end Go.Proofs.YtdidocmbcfbjdaaDoor

namespace Go.Proofs.YtdidocmbcfbjdaaDoor
open Go Go.Proofs.YtdidocmbcfbjdaaDoor.Sx
set_option linter.unusedVariables false
set_option linter.unusedSimpArgs false
theorem digs_len : ∀ (k : Nat) {n : Nat}, n < 1000000000 ^ k → (digs n).length ≤ k
  | 0, n, h => by
    have : n = 0 := by simpa using h
    subst this; simp [digs_zero]
  | k + 1, n, h => by
    by_cases h0 : n = 0
    · subst h0; simp [digs_zero]
    · rw [digs_pos h0, List.length_cons]
      have := digs_len k (n := n / 1000000000) (Nat.div_lt_of_lt_mul (by rw [Nat.mul_comm, ← Nat.pow_succ]; exact h))
      omega
theorem icap_fit {z : Int} (h : (digs z.natAbs).length ≤ 50) : icap z = enc z := by
  unfold icap capL
  rw [if_pos h]
  simp only [mkS, enc, isEmpty_digs]
  by_cases h0 : z < 0
  · have : z.natAbs ≠ 0 := by omega
    simp [h0]; omega
  · simp [h0]
theorem spec_l04Make_c {w : World} {neg : Bool} {p : Option Addr} {n c : Nat} {z : List Int} (h : IntsR w p n c z) (hl : Limbs z) :
    Ret P n_spec_l04Make [.bool neg, .slice p n c] w fun v w' => ∃ b p n c, v = .agg ⟨[.bool b, .slice p n c]⟩ ∧ b = (neg && !(capL (digs (val z).toNat)).isEmpty) ∧ Own w' w.heap.size T_int 1 p n c ((capL (digs (val z).toNat)).map (Value.int .i64)) ∧ Ext w w' := by
  refine spec_l04Make_ret ?_
  unfold spec_l04Make
  intro r w1 hn1
  refine Ret.at (spec_l02Cap_c (h.ext hn1.ext)) ?_
  rintro v w2 ⟨p', n', c', hv, hw, hr⟩
  subst hv; subst hw
  rw [trimL_eq hl] at hr
  have hn' := hr.1
  have h50 : n' ≤ 50 := by
    have := (capL_canon (n := (val z).toNat)).2
    omega
  have e1 := hn1.r_eq
  refine ⟨_, _, _, rfl, fun e => ?_, fun e => ?_⟩
  all_goals
    intro r1 w3 hn3
    obtain ⟨p2, c2, w4, g1, g2, g3⟩ := Own.appendI (Own.fresh hn3) hn3.ext.le (hr.ext hn3.ext) (by omega)
    rw [Nat.zero_add] at g1 g2
    rw [List.nil_append] at g2
    have y4 : Ext w2 w4 := g3 w2 hn3.ext (Nat.le_refl _)
    refine ⟨_, _, _, _, g1, ?_⟩
  · obtain ⟨w5, st, hb5, ch, sz⟩ := (hn1.blk.ext y4).storeA0 (P := P) (t := T_impl_Signed) (xs := [.bool (decide ((0 : Int) < (n' : Nat))), .slice p2 n' c2]) (by kernel_rfl) rfl (by simp [Value.oneCell'])
    refine ⟨w5, st, _, _, _, _, hb5.loadA0 (by kernel_rfl), _, _, _, _, rfl, by rw [len_bool hn', e]; rfl, (g2.chg ch (fun q hq => ?_)).mono hn1.ext.le, (hn1.ext.trans y4).chg ch (by simp; omega)⟩
    have := (World.ownsRow.lt g2 q (by rw [← hq]; cases p2 <;> rfl)).1
    have := hn1.size
    simp; omega
  · obtain ⟨w5, st, hb5, ch, sz⟩ := (hn1.blk.ext y4).storeA0 (P := P) (t := T_impl_Signed) (xs := [.bool false, .slice p2 n' c2]) (by kernel_rfl) rfl (by simp [Value.oneCell'])
    refine ⟨w5, st, _, _, _, _, hb5.loadA0 (by kernel_rfl), _, _, _, _, rfl, by rw [e]; rfl, (g2.chg ch (fun q hq => ?_)).mono hn1.ext.le, (hn1.ext.trans y4).chg ch (by simp; omega)⟩
    have := (World.ownsRow.lt g2 q (by rw [← hq]; cases p2 <;> rfl)).1
    have := hn1.size
    simp; omega
theorem spec_l04Add_c {w : World} {xs ys : List Value} {x y : Int} (h : Reps w xs (enc x)) (k : Reps w ys (enc y)) (hx : (digs x.natAbs).length ≤ 1000000) (hy : (digs y.natAbs).length ≤ 1000000) :
    Ret P n_spec_l04Add [.agg ⟨xs⟩, .agg ⟨ys⟩] w fun v w' => ∃ vs' f, v = .agg ⟨vs'⟩ ∧ Owns w' w.heap.size vs' (icap (x + y)) f ∧ f.Nodup ∧ Ext w w' := by
  obtain ⟨a0, a1p, a1n, a1c, a1z, rfl, hd, ha⟩ := open_Signed h rfl
  obtain ⟨b0, b1p, b1n, b1c, b1z, rfl, he, hb⟩ := open_Signed k rfl
  simp only [enc, List.cons.injEq, D0.bool.injEq, D0.ints.injEq, and_true] at hd he
  obtain ⟨rfl, rfl⟩ := hd
  obtain ⟨rfl, rfl⟩ := he
  have la := ha.1; have lb := hb.1
  have ca := digs_canon x.natAbs; have cb := digs_canon y.natAbs
  have va := val_digs x.natAbs; have vb := val_digs y.natAbs
  refine spec_l04Add_ret ?_
  unfold spec_l04Add
  intro r w1 hn1 r1 w2 hn2 r2 w3 hn3
  have X := (hn1.ext.trans hn2.ext).trans hn3.ext
  have e1 := hn1.r_eq; have e2 := hn2.r_eq; have e3 := hn3.r_eq; have s1 := hn1.size; have s2 := hn2.size; have s3 := hn3.size
  have k0 := (hn1.blk.ext hn2.ext).ext hn3.ext; have k1 := hn2.blk.ext hn3.ext; have k2 := hn3.blk
  have fin : ∀ (W : World) (neg : Bool) (p : Option Addr) (n c : Nat) (z : List Int), IntsR W p n c z → Limbs z → Ext w3 W → (val z).toNat = (x + y).natAbs → ((val z).toNat ≠ 0 → neg = decide (x + y < 0)) →
      Calls P n_spec_l04Make ⟨[.bool neg, .slice p n c]⟩ W fun e_1 wv_7 => ∃ (t170 : Bool) (t171_p : Option Addr) (t171_n : Nat) (t171_c : Nat), e_1 = .returned (.agg #[(.bool t170), (.slice t171_p t171_n t171_c)]) ∧
        ∃ wv_8, Stores P T_impl_Signed ⟨r2, 0, none⟩ (.agg #[(.bool t170), (.slice t171_p t171_n t171_c)]) wv_7 wv_8 ∧
        ∃ (r0 : Bool) (r1_p : Option Addr) (r1_n : Nat) (r1_c : Nat), Loads P T_impl_Signed ⟨r2, 0, none⟩ (.agg #[(.bool r0), (.slice r1_p r1_n r1_c)]) wv_8 ∧ (fun (v : Value) (w' : World) => ∃ vs' f, v = .agg ⟨vs'⟩ ∧ Owns w' w.heap.size vs' (icap (x + y)) f ∧ f.Nodup ∧ Ext w w') (.agg #[(.bool r0), (.slice r1_p r1_n r1_c)]) wv_8 := by
    intro W neg p n c z hz hlz hW hm hs
    refine Ret.at (spec_l04Make_c hz hlz) ?_
    rintro v W2 ⟨b, q, qn, qc, hv, hbb, ho, y2⟩
    subst hv
    have hW0 := hW.le
    obtain ⟨W3, st, hb3, ch, sz⟩ := ((k2.ext hW).ext y2).storeA0 (P := P) (t := T_impl_Signed) (xs := [.bool b, .slice q qn qc]) (by kernel_rfl) rfl (by simp [Value.oneCell'])
    have ow := Owns.int2 (b := b) ho
    rw [hbb] at ow
    have ow2 : Owns W2 W.heap.size [.bool b, .slice q qn qc] (icap (x + y)) (q.map (·.block)).toList := by
      rw [← mkS_digs hm hs, hbb]; exact ow
    refine ⟨_, _, _, _, rfl, W3, st, _, _, _, _, hb3.loadA0 (by kernel_rfl), _, _, rfl, (ow2.chg1 ch (by omega)).mono (by have := X.le; omega), nodup_opt q, ((X.trans hW).trans y2).chg ch (by simp; omega)⟩
  refine ⟨_, k0.load (by kernel_rfl) rfl, _, k1.load (by kernel_rfl) rfl, fun es => ?_, fun es => ?_⟩
  · have es' : decide (x < 0) = decide (y < 0) := by simpa using es
    have D := Ext.drew w3
    refine ⟨_, fun W hW => (k0.ext (D.trans hW)).load (by kernel_rfl) rfl, _, _, _, fun W hW => (k0.ext (D.trans hW)).load (by kernel_rfl) rfl, _, _, _, fun W hW => (k1.ext (D.trans hW)).load (by kernel_rfl) rfl, ?_⟩
    refine Ret.at (spec_l02Add_c (ha.ext (X.trans D)) (hb.ext (X.trans D)) ca.1 cb.1 (by omega) (by omega)) ?_
    rintro v w4 ⟨p, n, c, o, hv, hr, hlo, hln, hvo, y4⟩
    subst hv
    rw [va, vb] at hvo
    refine ⟨_, _, _, rfl, y4, fin w4 _ p n c o hr hlo (D.trans y4) ?_ ?_⟩
    · by_cases hx0 : x < 0 <;> by_cases hy0 : y < 0 <;> simp [hx0, hy0] at es' <;> omega
    · intro h0
      by_cases hx0 : x < 0 <;> by_cases hy0 : y < 0 <;> simp [hx0, hy0] at es' ⊢ <;> omega
  · have es' : ¬ (decide (x < 0) = decide (y < 0)) := by simpa using es
    refine ⟨_, _, _, k0.load (by kernel_rfl) rfl, _, _, _, k1.load (by kernel_rfl) rfl, ?_⟩
    refine Ret.at (spec_l02Cmp_c (ha.ext X) (hb.ext X)) ?_
    rintro v w4 ⟨hv, y4⟩
    subst hv
    have cv := cmpL_val ca cb
    rw [va, vb] at cv
    have X4 := X.trans y4
    have k0 := k0.ext y4; have k1 := k1.ext y4
    have D := Ext.drew w4
    refine ⟨_, rfl, ifD (fun hge => ?_) (fun hlt => ?_)⟩
    · have hge' : y.natAbs ≤ x.natAbs := by
        rcases cv with h | h | h <;> omega
      refine ⟨_, fun W hW => (k0.ext (D.trans hW)).load (by kernel_rfl) rfl, _, _, _, fun W hW => (k0.ext (D.trans hW)).load (by kernel_rfl) rfl, _, _, _, fun W hW => (k1.ext (D.trans hW)).load (by kernel_rfl) rfl, ?_⟩
      have hll : b1n ≤ a1n := by
        rcases Nat.lt_or_ge a1n b1n with h | h
        · have := canon_len ca cb (by omega); omega
        · exact h
      refine Ret.at (spec_l02Sub_c (ha.ext (X4.trans D)) (hb.ext (X4.trans D)) ca.1 cb.1 (by omega) hll (by omega)) ?_
      rintro v w7 ⟨p, n, c, hv, hr, y7⟩
      subst hv
      rw [va, vb] at hr
      have vd := val_digs ((x.natAbs : Int) - y.natAbs).toNat
      refine ⟨_, _, _, rfl, y7, fin w7 _ p n c _ hr (digs_limbs _) ((y4.trans D).trans y7) ?_ ?_⟩
      · by_cases hx0 : x < 0 <;> by_cases hy0 : y < 0 <;> simp [hx0, hy0] at es' <;> omega
      · intro h0
        by_cases hx0 : x < 0 <;> by_cases hy0 : y < 0 <;> simp [hx0, hy0] at es' ⊢ <;> omega
    · have hlt' : x.natAbs < y.natAbs := by
        rcases cv with h | h | h <;> omega
      refine ⟨_, fun W hW => (k1.ext (D.trans hW)).load (by kernel_rfl) rfl, _, _, _, fun W hW => (k1.ext (D.trans hW)).load (by kernel_rfl) rfl, _, _, _, fun W hW => (k0.ext (D.trans hW)).load (by kernel_rfl) rfl, ?_⟩
      have hll : a1n ≤ b1n := by
        rcases Nat.lt_or_ge b1n a1n with h | h
        · have := canon_len cb ca (by omega); omega
        · exact h
      refine Ret.at (spec_l02Sub_c (hb.ext (X4.trans D)) (ha.ext (X4.trans D)) cb.1 ca.1 (by omega) hll (by omega)) ?_
      rintro v w7 ⟨p, n, c, hv, hr, y7⟩
      subst hv
      rw [va, vb] at hr
      have vd := val_digs ((y.natAbs : Int) - x.natAbs).toNat
      refine ⟨_, _, _, rfl, y7, fin w7 _ p n c _ hr (digs_limbs _) ((y4.trans D).trans y7) ?_ ?_⟩
      · by_cases hx0 : x < 0 <;> by_cases hy0 : y < 0 <;> simp [hx0, hy0] at es' <;> omega
      · intro h0
        by_cases hx0 : x < 0 <;> by_cases hy0 : y < 0 <;> simp [hx0, hy0] at es' ⊢ <;> omega
theorem spec_IntAdd_c {w : World} {xs ys : List Value} {dx dy : List D0} (h : Reps w xs dx) (k : Reps w ys dy) (hc : dx.map D0.code = [.bool, .ints]) (kc : dy.map D0.code = [.bool, .ints]) :
    Ret P n_spec_IntAdd [.agg ⟨xs⟩, .agg ⟨ys⟩] w fun v w' => ∃ vs' f, v = .agg ⟨vs'⟩ ∧ Owns w' w.heap.size vs' (iadd dx dy) f ∧ f.Nodup ∧ Ext w w' := by
  have hr := h; have kr := k
  obtain ⟨a0, a1p, a1n, a1c, a1z, rfl, hd, ha⟩ := open_Signed h hc
  obtain ⟨b0, b1p, b1n, b1c, b1z, rfl, he, hb⟩ := open_Signed k kc
  refine spec_IntAdd_ret ?_
  unfold spec_IntAdd
  intro r w1 hn1 r1 w2 hn2 r2 w3 hn3
  have X := (hn1.ext.trans hn2.ext).trans hn3.ext
  have e1 := hn1.r_eq; have e2 := hn2.r_eq; have e3 := hn3.r_eq; have s1 := hn1.size; have s2 := hn2.size; have s3 := hn3.size
  have k0 := (hn1.blk.ext hn2.ext).ext hn3.ext; have k1 := hn2.blk.ext hn3.ext; have k2 := hn3.blk
  have bad : ∀ W, Ext w3 W → (intOk dx && intOk dy) = false → ∃ wv_8, Stores P T_impl_Signed ⟨r2, 0, none⟩ (.agg #[(.bool false), (.slice none 0 0)]) W wv_8 ∧
      ∃ (r0 : Bool) (r1_p : Option Addr) (r1_n : Nat) (r1_c : Nat), Loads P T_impl_Signed ⟨r2, 0, none⟩ (.agg #[(.bool r0), (.slice r1_p r1_n r1_c)]) wv_8 ∧ (fun (v : Value) (w' : World) => ∃ vs' f, v = .agg ⟨vs'⟩ ∧ Owns w' w.heap.size vs' (iadd dx dy) f ∧ f.Nodup ∧ Ext w w') (.agg #[(.bool r0), (.slice r1_p r1_n r1_c)]) wv_8 := by
    intro W hW hno
    obtain ⟨w5, st, hb5, ch, sz⟩ := (k2.ext hW).storeA0 (P := P) (t := T_impl_Signed) (xs := [.bool false, .slice none 0 0]) (by kernel_rfl) rfl (by simp [Value.oneCell'])
    refine ⟨w5, st, _, _, _, _, hb5.loadA0 (by kernel_rfl), _, _, rfl, ?_, nodup_opt none, (X.trans hW).chg ch (by simp; omega)⟩
    have : iadd dx dy = [.bool false, .ints []] := by rw [iadd, hno, ← enc0]; rfl
    rw [this]
    exact Owns.int2 (z := []) (Own.nil w5 _ T_int 1 : Own w5 w.heap.size T_int 1 none 0 0 (([] : List Int).map (Value.int .i64)))
  refine ⟨_, _, _, _, k0.loadA0 (by kernel_rfl), ?_⟩
  refine Ret.at (spec_IntOk_c (hr.ext X) hc) ?_
  rintro v w4 ⟨hv, y4⟩
  subst hv
  refine ⟨_, rfl, ifN (fun hno => ifT (bad w4 y4 (by simp [hno]))) (fun hok1 => ?_)⟩
  refine ⟨_, _, _, _, (k1.ext y4).loadA0 (by kernel_rfl), ?_⟩
  refine Ret.at (spec_IntOk_c (kr.ext (X.trans y4)) kc) ?_
  rintro v w5 ⟨hv, y5⟩
  subst hv
  refine ⟨_, rfl, ifN (fun hno => bad w5 (y4.trans y5) (by simp [hno])) (fun hok2 => ?_)⟩
  have X5 := (X.trans y4).trans y5
  obtain ⟨ex, _, zx, hx1, cx, lx⟩ := intOk_enc hok1
  obtain ⟨ey, _, zy, hy1, cy, ly⟩ := intOk_enc hok2
  have lenx : (digs (ival dx).natAbs).length ≤ 50 := by
    rw [ex] at hx1
    simp only [enc, List.cons.injEq, D0.ints.injEq, and_true] at hx1
    rw [hx1.2]; exact lx
  have leny : (digs (ival dy).natAbs).length ≤ 50 := by
    rw [ey] at hy1
    simp only [enc, List.cons.injEq, D0.ints.injEq, and_true] at hy1
    rw [hy1.2]; exact ly
  refine ⟨_, _, _, _, ((k0.ext y4).ext y5).loadA0 (by kernel_rfl), _, _, _, _, ((k1.ext y4).ext y5).loadA0 (by kernel_rfl), ?_⟩
  refine Ret.at (spec_l04Add_c (x := ival dx) (y := ival dy) (by rw [← ex]; exact hr.ext X5) (by rw [← ey]; exact kr.ext X5) (by omega) (by omega)) ?_
  rintro v w6 ⟨vs', f, hv, ho, hnd, y6⟩
  subst hv
  obtain ⟨q0, q1p, q1n, q1c, q1z, rfl, hq, hqi⟩ := open_Signed ho.reps (icap_code _)
  have X6 := X5.trans y6
  have s4 := X5.le; have s34 := y4.le; have s35 := y5.le
  obtain ⟨w7, st, hb7, ch, sz⟩ := (((k2.ext y4).ext y5).ext y6).storeA0 (P := P) (t := T_impl_Signed) (xs := [.bool q0, .slice q1p q1n q1c]) (by kernel_rfl) rfl ho.reps.cells1
  refine ⟨_, _, _, _, rfl, w7, st, _, _, _, _, hb7.loadA0 (by kernel_rfl), _, f, rfl, ?_, hnd, X6.chg ch (by simp; omega)⟩
  have : iadd dx dy = icap (ival dx + ival dy) := by rw [iadd, hok1, hok2]; rfl
  rw [this]
  exact (ho.chg1 ch (by omega)).mono (by omega)
end Go.Proofs.YtdidocmbcfbjdaaDoor

namespace Go.Proofs.YtdidocmbcfbjdaaDoor
open Go Go.Proofs.YtdidocmbcfbjdaaDoor.Sx
set_option linter.unusedVariables false
set_option linter.unusedSimpArgs false
theorem laws_markIntS_c {w : World} {B : Nat} {p : Option Addr} {n c : Nat} {zs : List Int} {k : Int} (h : Own w B T_int 1 p n c (zs.map (Value.int .i64))) (h0 : 0 ≤ k) (h1 : k + n ≤ 9223372036854775807) :
    Ret P n_laws_markIntS [.slice p n c, .int .i64 k] w fun v w' => v = .int .i64 (k + n) ∧ Own w' B T_int 1 p n c ((mkI n k).map (Value.int .i64)) ∧ Chg (p.map (·.block)).toList w w' := by
  have hz : zs.length = n := by have := h.len; simpa using this
  have hcap := h.le
  refine laws_markIntS_ret ?_
  unfold laws_markIntS
  refine ⟨fun k1 i wr => ∃ j : Nat, i = j ∧ j ≤ n ∧ k1 = k + j ∧ Own wr B T_int 1 p n c ((mkI j k ++ zs.drop j).map (Value.int .i64)) ∧ Chg (p.map (·.block)).toList w wr, fun _ i _ => n - i.toNat, ⟨0, rfl, by omega, by omega, by simpa [mkI] using h, Chg.refl _ _⟩, ?_⟩
  intro junk wr k1 i ⟨j, hij, hj, hk1, ho, hch⟩
  subst hij; subst hk1
  refine ifD (fun hlt => ?_) (fun hge => ?_)
  · obtain ⟨b, w2, hp, st, ho2, ch2, sz2⟩ := ho.set (P := P) (t := T_int) (i := j) (v := .int .i64 (k + j)) (by simp [mkI_len]; omega) (by kernel_rfl) rfl
    subst hp
    refine ⟨⟨by omega, by omega⟩, w2, by simpa using st, exW ⟨by omega, by omega⟩ (exW ⟨by omega, by omega⟩ ⟨⟨j + 1, by omega, by omega, by omega, ?_, hch.trans ch2⟩, ?_⟩)⟩
    · have e : (mkI j k ++ zs.drop j).set j (k + (j : Nat)) = mkI (j + 1) k ++ zs.drop (j + 1) := by
        rw [List.set_append_right _ _ (by rw [mkI_len]; omega), mkI_len, Nat.sub_self, mkI_succ, List.drop_eq_getElem_cons (show j < zs.length by omega), List.set_cons_zero, List.append_assoc]
        rfl
      rw [← e, List.map_set]
      exact ho2
    · show n - ((j : Int) + 1).toNat < n - (j : Int).toNat
      omega
  · have hjn : j = n := by omega
    subst hjn
    rw [List.drop_of_length_le (by omega), List.append_nil] at ho
    exact ⟨rfl, ho, hch⟩
theorem laws_heldIntS_c {w : World} {p : Option Addr} {n c : Nat} {k : Int} (h : IntsR w p n c (mkI n k)) (h0 : 0 ≤ k) (h1 : k + n ≤ 9223372036854775807) :
    Ret P n_laws_heldIntS [.slice p n c, .int .i64 k] w fun v w' => v = .int .i64 (k + n) ∧ Ext w w' := by
  have hcap := h.2.1; have hcm := h.2.2.1
  refine laws_heldIntS_ret ?_
  unfold laws_heldIntS
  refine ⟨fun k1 i wr => ∃ j : Nat, i = j ∧ j ≤ n ∧ k1 = k + j ∧ Ext w wr, fun _ i _ => n - i.toNat, ⟨0, rfl, by omega, by omega, Ext.refl _⟩, ?_⟩
  intro junk wr k1 i ⟨j, hij, hj, hk1, hx⟩
  subst hij; subst hk1
  refine ifD (fun hlt => ?_) (fun hge => ?_)
  · have hjn : j < n := by omega
    obtain ⟨a, hpa, hl⟩ := (h.ext hx).at (P := P) (t := T_int) (by kernel_rfl) hjn
    subst hpa
    rw [mkI_get] at hl
    refine ⟨⟨by omega, by omega⟩, k + (j : Nat), by simpa using hl, ifD (fun hne => absurd rfl hne) (fun _ => exW ⟨by omega, by omega⟩ (exW ⟨by omega, by omega⟩ ⟨⟨j + 1, by omega, by omega, by omega, hx⟩, ?_⟩))⟩
    show n - ((j : Int) + 1).toNat < n - (j : Int).toNat
    omega
  · have hjn : j = n := by omega
    subst hjn
    exact ⟨rfl, hx⟩
theorem bne_no {a b : Bool} (e : a = b) : ¬ (!(a == b)) = true := by subst e; simp
theorem convs_bytes {w : World} {s e d ee : TypeId} {r : Nat} (xs : List Int) (hs : P.underlying s = some (.slice e)) (he : P.underlying e = some (.int .u8)) (hd : P.underlying d = some .string) (hb : Blk w r ee (xs.map (Value.int .u8))) :
    Convs P s d (.slice (some ⟨r, 0, none⟩) xs.length xs.length) (.string (strOfNums xs)) w :=
  run_convert_bytes_arg w s e hs he r 0 xs.length xs.length xs rfl (fun i hi => by
    have := hb.seg i (.int .u8 (xs.getD i 0)) (by simp [List.getD_eq_getElem?_getD, List.getElem?_eq_getElem hi])
    simpa using this) d hd
theorem laws_markText_c {k : Int} (hk : k ≤ 1000000000000000000) (w : World) : Ret P n_laws_markText [.int .i64 k] w fun v w' => v = .string (mtext k) ∧ Ext w w' := by
  refine laws_markText_ret ?_
  unfold laws_markText
  refine ifD (fun h => ⟨by rw [mtext, if_pos h], Ext.refl _⟩) (fun h => ?_)
  refine ⟨fun k1 out wr => 0 ≤ k1 ∧ k1 ≤ k ∧ out.size + k1 ≤ k ∧ mdig k1.toNat out = mdig k.toNat ByteArray.empty ∧ Ext w wr, fun k1 _ _ => k1.toNat, ⟨by omega, by omega, by show (0 : Int) + k ≤ k; omega, rfl, Ext.refl _⟩, ?_⟩
  intro junk wr k1 out ⟨h0, hle, hsz, hm, hx⟩
  refine ifD (fun hpos => ?_) (fun hz => ?_)
  · have ht : Int.tmod k1 10 = k1 % 10 := Int.tmod_eq_emod_of_nonneg h0
    have htd : Int.tdiv k1 10 = k1 / 10 := Int.tdiv_eq_ediv_of_nonneg h0
    refine ⟨by decide, _, rfl, ?_⟩
    rw [ht]
    refine exW ⟨by omega, by omega⟩ ⟨_, rfl, ?_⟩
    have wu : IntKind.wrap .u8 (48 + k1 % 10) = 48 + k1 % 10 := by
      simp only [IntKind.wrap, IntKind.bits, IntKind.signed]
      simp
      omega
    rw [wu]
    intro r w1 hn
    refine ⟨_, convs_bytes (ee := T_uint8) [48 + k1 % 10] (e := T_uint8) (by kernel_rfl) (by kernel_rfl) (by kernel_rfl) hn.blk, ?_, _, rfl, by decide, ?_⟩
    · rw [strOfNums_size]; simp; omega
    rw [htd]
    refine exW ⟨by omega, by omega⟩ ⟨⟨by omega, by omega, ?_, ?_, hx.trans hn.ext⟩, ?_⟩
    · rw [ByteArray.size_append, strOfNums_size]; simp; omega
    · rw [← hm, mdig_pos (k := k1.toNat) (by omega)]
      have e1 : (k1 / 10).toNat = k1.toNat / 10 := by omega
      have e2 : (48 + k1 % 10) = ((48 + k1.toNat % 10 : Nat) : Int) := by omega
      rw [e1, e2]
    · show (k1 / 10).toNat < k1.toNat
      omega
  · have : k1.toNat = 0 := by omega
    rw [this, mdig_zero] at hm
    refine ⟨?_, _, rfl, ?_, hx⟩
    · show 1 + out.size ≤ 9223372036854775807
      omega
    · rw [mtext, if_neg h, hm]
end Go.Proofs.YtdidocmbcfbjdaaDoor

namespace Go.Proofs.YtdidocmbcfbjdaaDoor
open Go Go.Proofs.YtdidocmbcfbjdaaDoor.Sx
set_option linter.unusedVariables false
set_option linter.unusedSimpArgs false
theorem cntL_nn {d : List (List D0)} {m : Int} (_ : cntL d ≤ m) : 0 ≤ cntL d := cntL_nonneg d
end Go.Proofs.YtdidocmbcfbjdaaDoor

namespace Go.Proofs.YtdidocmbcfbjdaaDoor
open Go Go.Proofs.YtdidocmbcfbjdaaDoor.Sx
set_option linter.unusedVariables false
set_option linter.unusedSimpArgs false
theorem digs_len_le {n : Nat} (h : n < 1000000000000000000000000000000000000000000000000000000) : (digs n).length ≤ 6 := digs_len 6 (by omega)
theorem money_bound {c : ByteArray} {b : Bool} {z : List Int} (h : moneyOk [.str c, .bool b, .ints z] = true) : (ival [.bool b, .ints z]).natAbs ≤ 1000000000000000000000000000000000000 := by
  have hi := moneyOk_int h
  simp only [moneyOk, Bool.and_eq_true, decide_eq_true_eq] at h
  obtain ⟨_, _, _, h1, hc, _⟩ := intOk_enc hi
  simp only [List.cons.injEq, D0.bool.injEq, D0.ints.injEq, and_true] at h1
  obtain ⟨rfl, rfl⟩ := h1
  have hv := val_nonneg hc.1
  have hlt := val_lt hc.1
  have h6 : (1000000000 : Nat) ^ z.length ≤ 1000000000 ^ 4 := Nat.pow_le_pow_right (by decide) h.2
  have h6' := Int.ofNat_le.2 h6
  rw [Int.natCast_pow, Int.natCast_pow] at h6'
  have h7 : val z < (1000000000 : Int) ^ 4 := Int.lt_of_lt_of_le hlt h6'
  have h8 : ((1000000000 : Int) ^ 4) = 1000000000000000000000000000000000000 := by decide
  rw [h8] at h7
  cases b <;> simp only [ival, if_true, Bool.false_eq_true, if_false] <;> omega
theorem enc_small {z : Int} (h : z.natAbs < 1000000000000000000000000000000000000000000000000000000) : intOk (enc z) = true := by
  have := digs_len_le h
  rw [← icap_fit (by omega)]; exact icap_ok z
theorem iadd_small {x y : Int} (hx : x.natAbs < 100000000000000000000000000000000000000000000000000000) (hy : y.natAbs < 100000000000000000000000000000000000000000000000000000) : iadd (enc x) (enc y) = enc (x + y) := by
  have h3 : (digs (x + y).natAbs).length ≤ 6 := digs_len_le (by omega)
  rw [iadd, enc_small (by omega), enc_small (by omega)]
  simp only [Bool.and_self, if_true]
  rw [ival_enc, ival_enc]
  exact icap_fit (by omega)
end Go.Proofs.YtdidocmbcfbjdaaDoor

namespace Go.Proofs.YtdidocmbcfbjdaaDoor
open Go Go.Proofs.YtdidocmbcfbjdaaDoor.Sx
set_option linter.unusedVariables false
set_option linter.unusedSimpArgs false
def zeroMoney : List D0 := [.str ByteArray.empty, .bool false, .ints []]
def moneyMk (cur : ByteArray) (z : Int) : List D0 := if moneyOk (.str cur :: enc z) then .str cur :: enc z else zeroMoney
theorem moneyMk_code (cur : ByteArray) (z : Int) : (moneyMk cur z).map D0.code = [.str, .bool, .ints] := by unfold moneyMk; split <;> rfl
/-- an amount made: it holds the very integer that it is made of -/
theorem spec_l09Make_c {w : World} {B : Nat} {xs : List Value} {z : Int} {f : List Nat} (cur : ByteArray) (h : Owns w B xs (enc z) f) (hnd : f.Nodup) (hB : B ≤ w.heap.size) :
    Ret P n_spec_l09Make [.string cur, .agg ⟨xs⟩] w fun v w' => ∃ vs f', v = .tuple #[.agg ⟨vs⟩, .bool (moneyOk (.str cur :: enc z))] ∧ Owns w' B vs (moneyMk cur z) f' ∧ f'.Nodup ∧ Ext w w' := by
  have ho := h
  obtain ⟨a0, a1p, a1n, a1c, a1z, rfl, hd, ha⟩ := open_Signed h.reps (enc_code _)
  refine spec_l09Make_ret ?_
  unfold spec_l09Make
  intro r w1 hn1 r1 w2 hn2
  refine ⟨_, _, _, _, (hn1.blk.ext hn2.ext).loadA0 (by kernel_rfl), ?_⟩
  intro r2 w3 hn3
  have e1 := hn1.r_eq; have e2 := hn2.r_eq; have e3 := hn3.r_eq; have s1 := hn1.size; have s2 := hn2.size; have s3 := hn3.size
  obtain ⟨w4, st4, hb4, y4⟩ := hn3.fill (P := P) (t := T_impl_Money) (xs := [.string cur, .bool a0, .slice a1p a1n a1c]) (by simp [Value.oneCell']) (by kernel_rfl) rfl
  have X := (hn1.ext.trans hn2.ext).trans y4
  have k1 := hn2.blk.ext y4
  refine ⟨w4, st4, _, _, _, _, _, hb4.loadA0 (by kernel_rfl), ?_⟩
  have hm : Reps w4 [.string cur, .bool a0, .slice a1p a1n a1c] (.str cur :: enc z) := ⟨rfl, h.reps.ext X⟩
  refine Ret.at (spec_MoneyOk_c hm rfl) ?_
  rintro v w5 ⟨hv, y5⟩
  subst hv
  have X5 := X.trans y5
  refine ⟨_, rfl, ifN (fun hno => ?_) (fun hyes => ?_)⟩
  · obtain ⟨w6, st6, hb6, ch, sz⟩ := (k1.ext y5).storeA0 (P := P) (t := T_impl_Money) (xs := [.string ByteArray.empty, .bool false, .slice none 0 0]) (by kernel_rfl) rfl (by simp [Value.oneCell'])
    refine ⟨w6, st6, _, _, _, _, _, hb6.loadA0 (by kernel_rfl), [.string ByteArray.empty, .bool false, .slice none 0 0], [], by rw [hno], ?_, List.nodup_nil, X5.chg ch (by simp; omega)⟩
    unfold moneyMk
    rw [hno]
    exact Owns.append (Owns.str _ _ _) (Owns.append (Owns.bool _ _ false) (Owns.ints (zs := []) (Own.nil w6 B T_int 1)))
  · obtain ⟨w6, st6, hb6, ch, sz⟩ := (k1.ext y5).storeA0 (P := P) (t := T_impl_Money) (xs := [.string cur, .bool a0, .slice a1p a1n a1c]) (by kernel_rfl) rfl (by simp [Value.oneCell'])
    refine ⟨_, _, _, _, _, (hb4.ext y5).loadA0 (by kernel_rfl), w6, st6, _, _, _, _, _, hb6.loadA0 (by kernel_rfl), [.string cur, .bool a0, .slice a1p a1n a1c], f, by rw [hyes], ?_, hnd, X5.chg ch (by simp; omega)⟩
    unfold moneyMk
    rw [hyes]
    have h5 := ((ho.ext X5).chg ch fun k hk hm => by
      have := (ho.lt k hk).2
      simp at hm; omega)
    exact Owns.append (Owns.str _ _ cur) h5
theorem spec_IntNeg_c {w : World} {xs : List Value} {z : Int} (h : Reps w xs (enc z)) (hok : intOk (enc z) = true) :
    Ret P n_spec_IntNeg [.agg ⟨xs⟩] w fun v w' => ∃ vs' f, v = .agg ⟨vs'⟩ ∧ Owns w' w.heap.size vs' (enc (-z)) f ∧ f.Nodup ∧ Ext w w' := by
  have hr := h
  obtain ⟨a0, a1p, a1n, a1c, a1z, rfl, hd, ha⟩ := open_Signed h (enc_code _)
  simp only [enc, List.cons.injEq, D0.bool.injEq, D0.ints.injEq, and_true] at hd
  obtain ⟨rfl, rfl⟩ := hd
  have hlen : (digs z.natAbs).length ≤ 50 := by
    obtain ⟨_, _, _, h1, hc, hl⟩ := intOk_enc hok
    simp only [enc, List.cons.injEq, D0.bool.injEq, D0.ints.injEq, and_true] at h1
    rw [h1.2]; exact hl
  refine spec_IntNeg_ret ?_
  unfold spec_IntNeg
  intro r w1 hn1 r1 w2 hn2
  have X := hn1.ext.trans hn2.ext
  have e1 := hn1.r_eq; have e2 := hn2.r_eq; have s1 := hn1.size; have s2 := hn2.size
  refine ⟨_, _, _, _, (hn1.blk.ext hn2.ext).loadA0 (by kernel_rfl), ?_⟩
  refine Ret.at (spec_IntOk_c (hr.ext X) rfl) ?_
  rintro v w3 ⟨hv, y3⟩
  subst hv
  refine ⟨_, rfl, ifN (fun hno => absurd (hno.symm.trans hok) (by simp)) (fun _ => ?_)⟩
  have k0 := (hn1.blk.ext hn2.ext).ext y3
  refine ⟨_, k0.loadAt 0 rfl (by kernel_rfl) rfl, _, _, _, k0.loadAt 1 rfl (by kernel_rfl) rfl, ?_⟩
  refine Ret.at (spec_l04Make_c (ha.ext (X.trans y3)) (digs_limbs _)) ?_
  rintro v w4 ⟨b, q, qn, qc, hv, hbb, ho, y4⟩
  subst hv
  have l3 := y3.le
  obtain ⟨w5, st, hb5, ch, sz⟩ := ((hn2.blk.ext y3).ext y4).storeA0 (P := P) (t := T_impl_Signed) (xs := [.bool b, .slice q qn qc]) (by kernel_rfl) rfl (by simp [Value.oneCell'])
  have ow := Owns.int2 (b := b) ho
  rw [hbb, val_digs, show (((z.natAbs : Nat) : Int)).toNat = z.natAbs from rfl] at ow
  have e : mkS (!decide (z < 0)) (capL (digs z.natAbs)) = enc (-z) := by
    rw [← icap_fit (z := -z) (by rw [Int.natAbs_neg]; exact hlen)]
    refine mkS_digs (by rw [Int.natAbs_neg]) fun h0 => ?_
    by_cases h1 : z < 0
    · simp [h1]; omega
    · simp [h1]; omega
  have ow2 : Owns w4 w3.heap.size [.bool b, .slice q qn qc] (enc (-z)) (q.map (·.block)).toList := by
    rw [← e, hbb, val_digs, show (((z.natAbs : Nat) : Int)).toNat = z.natAbs from rfl]; exact ow
  exact ⟨_, _, _, _, rfl, w5, st, _, _, _, _, hb5.loadA0 (by kernel_rfl), _, _, rfl, (ow2.chg1 ch (by omega)).mono (by omega), nodup_opt q, ((X.trans y3).trans y4).chg ch (by simp; omega)⟩
end Go.Proofs.YtdidocmbcfbjdaaDoor

namespace Go.Proofs.YtdidocmbcfbjdaaDoor
open Go Go.Proofs.YtdidocmbcfbjdaaDoor.Sx
set_option linter.unusedVariables false
set_option linter.unusedSimpArgs false
def moneyVal : List D0 → Int
  | [.str c, .bool b, .ints z] => ival [.bool b, .ints z]
  | _ => 0
def msOk (cur : ByteArray) : List D0 → Bool
  | [.str c, .bool b, .ints z] => moneyOk [.str c, .bool b, .ints z] && decide (c = cur)
  | _ => false
theorem val_bound {cur : ByteArray} {x : List D0} (h : msOk cur x = true) : (moneyVal x).natAbs ≤ 1000000000000000000000000000000000000 := by
  unfold msOk at h
  split at h
  · simp only [Bool.and_eq_true] at h
    exact money_bound h.1
  · cases h
theorem impl_moneyOf_c {w : World} (ht : Tab w) {B : Nat} {xs : List Value} {z : Int} {f : List Nat} (cur : ByteArray) (h : Owns w B xs (enc z) f) (hnd : f.Nodup) (hB : B ≤ w.heap.size) :
    Ret P n_impl_moneyOf [.string cur, .agg ⟨xs⟩] w fun v w' => ∃ vs f', v = .tuple #[.agg ⟨vs⟩, .bool (moneyOk (.str cur :: enc z))] ∧ Owns w' B vs (moneyMk cur z) f' ∧ f'.Nodup ∧ Ext w w' := by
  have ho := h
  obtain ⟨a0, a1p, a1n, a1c, a1z, rfl, hd, ha⟩ := open_Signed h.reps (enc_code _)
  refine impl_moneyOf_ret ?_
  unfold impl_moneyOf
  intro r w1 hn1 r1 w2 hn2
  refine ⟨_, _, _, _, (hn1.blk.ext hn2.ext).loadA0 (by kernel_rfl), ?_⟩
  intro r2 w3 hn3
  have e1 := hn1.r_eq; have e2 := hn2.r_eq; have e3 := hn3.r_eq; have s1 := hn1.size; have s2 := hn2.size; have s3 := hn3.size
  obtain ⟨w4, st4, hb4, y4⟩ := hn3.fill (P := P) (t := T_impl_Money) (xs := [.string cur, .bool a0, .slice a1p a1n a1c]) (by simp [Value.oneCell']) (by kernel_rfl) rfl
  have X := (hn1.ext.trans hn2.ext).trans y4
  have k1 := hn2.blk.ext y4
  refine ⟨w4, st4, _, _, _, _, _, hb4.loadA0 (by kernel_rfl), ?_⟩
  have hm : Reps w4 [.string cur, .bool a0, .slice a1p a1n a1c] (.str cur :: enc z) := ⟨rfl, h.reps.ext X⟩
  refine Ret.at (impl_MoneyOk_c (ht.ext X) hm rfl) ?_
  rintro v w5 ⟨hv, y5⟩
  subst hv
  have X5 := X.trans y5
  refine ⟨_, rfl, fun hyes => ?_, fun hno => ?_⟩
  · obtain ⟨w6, st6, hb6, ch, sz⟩ := (k1.ext y5).storeA0 (P := P) (t := T_impl_Money) (xs := [.string cur, .bool a0, .slice a1p a1n a1c]) (by kernel_rfl) rfl (by simp [Value.oneCell'])
    refine ⟨_, _, _, _, _, (hb4.ext y5).loadA0 (by kernel_rfl), w6, st6, _, _, _, _, _, hb6.loadA0 (by kernel_rfl), [.string cur, .bool a0, .slice a1p a1n a1c], f, by rw [hyes], ?_, hnd, X5.chg ch (by simp; omega)⟩
    unfold moneyMk
    rw [hyes]
    have h5 := ((ho.ext X5).chg ch fun k hk hm => by
      have := (ho.lt k hk).2
      simp at hm; omega)
    exact Owns.append (Owns.str _ _ cur) h5
  · obtain ⟨w6, st6, hb6, ch, sz⟩ := (k1.ext y5).storeA0 (P := P) (t := T_impl_Money) (xs := [.string ByteArray.empty, .bool false, .slice none 0 0]) (by kernel_rfl) rfl (by simp [Value.oneCell'])
    refine ⟨w6, st6, _, _, _, _, _, hb6.loadA0 (by kernel_rfl), [.string ByteArray.empty, .bool false, .slice none 0 0], [], by rw [hno], ?_, List.nodup_nil, X5.chg ch (by simp; omega)⟩
    unfold moneyMk
    rw [hno]
    exact Owns.append (Owns.str _ _ _) (Owns.append (Owns.bool _ _ false) (Owns.ints (zs := []) (Own.nil w6 B T_int 1)))
end Go.Proofs.YtdidocmbcfbjdaaDoor

namespace Go.Proofs.YtdidocmbcfbjdaaDoor
open Go Go.Proofs.YtdidocmbcfbjdaaDoor.Sx
set_option linter.unusedVariables false
set_option linter.unusedSimpArgs false
theorem impl_intCopy_c {w : World} {xs : List Value} {dx : List D0} (h : Reps w xs dx) (hc : dx.map D0.code = [.bool, .ints]) (hb : bulks dx ≤ 100000000) :
    Ret P n_impl_intCopy [.agg ⟨xs⟩] w fun v w' => ∃ vs' f, v = .agg ⟨vs'⟩ ∧ Owns w' w.heap.size vs' dx f ∧ f.Nodup ∧ Ext w w' := by
  obtain ⟨a0, a1p, a1n, a1c, a1z, rfl, rfl, ha⟩ := open_Signed h hc
  have l1 := ha.1
  simp only [bulks, D0.bulk, List.map_cons, List.map_nil, List.sum_cons, List.sum_nil] at hb
  refine impl_intCopy_ret ?_
  unfold impl_intCopy
  intro r w1 hn1 r1 w2 hn2
  have D := Ext.drew w2
  have X := (hn1.ext.trans hn2.ext).trans D
  have k0 := hn1.blk.ext hn2.ext; have k1 := hn2.blk.ext D
  have e2 := hn2.r_eq; have s1 := hn1.size; have s2 := hn2.size; have lD := D.le
  refine ⟨_, fun W hW => (k0.ext (D.trans hW)).loadAt 0 rfl (by kernel_rfl) rfl, _, _, _, fun W hW => (k0.ext (D.trans hW)).loadAt 1 rfl (by kernel_rfl) rfl, ?_⟩
  refine Ret.at (impl_natCopy_c (ha.ext X) (by omega)) ?_
  rintro v w3 ⟨p, c, hv, ho, y3⟩
  subst hv
  obtain ⟨w4, st, hb4, ch, sz⟩ := (k1.ext y3).storeA0 (P := P) (t := T_impl_Signed) (xs := [.bool a0, .slice p a1n c]) (by kernel_rfl) rfl (by simp [Value.oneCell'])
  exact ⟨_, _, _, rfl, y3, w4, st, _, _, _, _, hb4.loadA0 (by kernel_rfl), _, _, rfl, ((Owns.int2 ho).chg1 ch (by omega)).mono (by omega), nodup_opt p, (X.trans y3).chg ch (by simp; omega)⟩
end Go.Proofs.YtdidocmbcfbjdaaDoor

namespace Go.Proofs.YtdidocmbcfbjdaaDoor
open Go Go.Proofs.YtdidocmbcfbjdaaDoor.Sx
set_option linter.unusedVariables false
set_option linter.unusedSimpArgs false
/-- a text that leads -/
def strOf : List D0 → ByteArray
  | .str s :: _ => s
  | _ => S []
end Go.Proofs.YtdidocmbcfbjdaaDoor

namespace Go.Proofs.YtdidocmbcfbjdaaDoor
open Go Go.Proofs.YtdidocmbcfbjdaaDoor.Sx
set_option linter.unusedVariables false
set_option linter.unusedSimpArgs false
theorem sumAdd_bound {M N : Nat} : ∀ {s : List (ByteArray × Int)} {c : ByteArray} {u : Int}, (∀ x ∈ s, x.2.natAbs ≤ M) → u.natAbs ≤ N → ∀ x ∈ sumAdd s c u, x.2.natAbs ≤ M + N
  | [], c, u, _, hu, x, hx => by simp [sumAdd] at hx; subst hx; show u.natAbs ≤ M + N; omega
  | y :: r, c, u, h, hu, x, hx => by
    have hy := h y List.mem_cons_self
    have hr : ∀ x ∈ r, x.2.natAbs ≤ M := fun x hx => h x (List.mem_cons_of_mem _ hx)
    unfold sumAdd at hx
    split at hx
    · rcases List.mem_cons.1 hx with hx | hx
      · rw [hx]; omega
      · exact sumAdd_bound hr hu x hx
    · split at hx
      · rcases List.mem_cons.1 hx with hx | hx
        · rw [hx]; show (y.2 + u).natAbs ≤ M + N; omega
        · have := hr x hx; omega
      · rcases List.mem_cons.1 hx with hx | hx
        · rw [hx]; show u.natAbs ≤ M + N; omega
        · have := h x hx; omega
theorem money_abs {c : ByteArray} {b : Bool} {z : List Int} (h : moneyOk [.str c, .bool b, .ints z] = true) : ∃ u : Int, [D0.bool b, .ints z] = enc u ∧ u = ival [.bool b, .ints z] ∧ u.natAbs ≤ 1000000000000000000000000000000000000 := by
  have hi := moneyOk_int h
  refine ⟨_, (intOk_enc hi).1, rfl, ?_⟩
  have : msOk c [.str c, .bool b, .ints z] = true := by simp only [msOk, h, decide_true, Bool.and_self]
  exact val_bound this
end Go.Proofs.YtdidocmbcfbjdaaDoor

namespace Go.Proofs.YtdidocmbcfbjdaaDoor
open Go Go.Proofs.YtdidocmbcfbjdaaDoor.Sx
set_option linter.unusedVariables false
set_option linter.unusedSimpArgs false
/-- the first that is not less is the place -/
theorem posOf_unique : ∀ {s : List (ByteArray × Int)} {c : ByteArray} {k : Nat}, k ≤ s.length → (∀ j x, s[j]? = some x → j < k → bLess x.1 c = true) → (∀ x, s[k]? = some x → bLess x.1 c = false) → k = posOf s c
  | [], c, k, hk, _, _ => by simp at hk; subst hk; rfl
  | x :: r, c, 0, _, _, h2 => by
    have := h2 x rfl
    simp [posOf, this]
  | x :: r, c, k + 1, hk, h1, h2 => by
    have hx := h1 0 x rfl (by omega)
    have := posOf_unique (s := r) (c := c) (k := k) (by simpa using hk) (fun j y hy hj => h1 (j + 1) y (by simpa using hy) (by omega)) (fun y hy => h2 y (by simpa using hy))
    simp only [posOf, hx, if_true]
    omega
/-- append of any number of rows onto rows of one's own -/
theorem Sx.Own.pushM {w : World} {B : Nat} {t e : TypeId} {z : Value} {size bytes : Nat} {g n c m mc : Nat} {a : Addr} {xs news : List Value} (h : Sx.Own w B e size (some ⟨g, 0, none⟩) n c xs)
    (hT : sliceT P t e z size bytes) (hb : B ≤ w.heap.size) (hcells : ∀ j u, news[j]? = some u → w.cell? (a.add j) = some u) (hl : news.length = m * size) (h1 : ∀ u ∈ news, u.oneCell' = true)
    (hbytes : (n + m) * bytes ≤ 140737488355328) (hby : 1 ≤ bytes) :
    ∃ g' c' w', Appends P [t, t] [.slice (some ⟨g, 0, none⟩) n c, .slice (some a) m mc] (.slice (some ⟨g', 0, none⟩) (n + m) c') w w' ∧ Sx.Own w' B e size (some ⟨g', 0, none⟩) (n + m) c' (xs ++ news) ∧ Chg [g] w w' ∧ (g' = g ∨ w.heap.size ≤ g') := by
  rcases Nat.eq_zero_or_pos m with h0 | h0
  · subst h0
    have hn : news = [] := List.eq_nil_of_length_eq_zero (by simpa using hl)
    subst hn
    obtain ⟨hu, hi, hz, hs⟩ := hT
    cases hinf : P.info? e with
    | none => rw [hinf] at hi; cases hi
    | some i =>
      rw [hinf] at hi
      simp only [Option.map_some, Option.some.injEq, Prod.mk.injEq] at hi
      rcases h.2 with ⟨e1, e2⟩ | ⟨g2, cap, cur, e1, hB, hg, h3, h4, h5, h6⟩
      · simp at e1
      · simp only [Value.slice.injEq, Option.some.injEq, Addr.mk.injEq, and_true, true_and] at e1
        obtain ⟨rfl, rfl⟩ := e1
        have hsz : n * i.size + ([] : List Value).length ≤ cur.size := by
          have : n * size ≤ c * size := Nat.mul_le_mul_right _ h3
          simp only [List.length_nil, Nat.add_zero, hi.2.1, h5]
          exact this
        obtain ⟨v', w', hrun, hown, hgr, _⟩ := run_append_own (P := P) w B t 0 e i z size bytes hu hinf hi.1 hi.2.1 hi.2.2 hz hs (.slice (some ⟨g, 0, none⟩) n c) n xs h a 0 mc [] hl hcells h1 (by omega) (by simpa using hbytes) hb
        have hr := run_append_room (P := P) w t 0 e i hu hinf g n c cur hg a 0 mc [] (by simp) hcells h1 (by omega) hsz
        rw [hr] at hrun
        injection hrun with hv hw
        subst hv
        subst hw
        refine ⟨g, c, _, hr, hown, ⟨hgr.os, hgr.tape, hgr.output, hgr.size, fun k hk hn => hgr.block k hk ?_⟩, .inl rfl⟩
        intro e; simp [Value.ownBlock] at e; simp at hn; omega
  · obtain ⟨p', c', w', hA, hO, hC, hP⟩ := h.pushN (mc := mc) hT hb hcells hl h1 hbytes hby h0
    obtain ⟨g', ys, rfl, _⟩ := hO.blk (by omega)
    refine ⟨g', c', w', hA, hO, hC, ?_⟩
    rcases hP with ⟨hp, _⟩ | ⟨hp, _⟩
    · simp at hp; exact .inl hp
    · exact .inr (hp g' rfl)
end Go.Proofs.YtdidocmbcfbjdaaDoor

namespace Go.Proofs.YtdidocmbcfbjdaaDoor
open Go Go.Proofs.YtdidocmbcfbjdaaDoor.Sx
set_option linter.unusedVariables false
set_option linter.unusedSimpArgs false
theorem row_at {s : List (ByteArray × Int)} {j : Nat} (h : j < s.length) (h2 : j < (sumsRows s).length) : (sumsRows s)[j] = .str s[j].1 :: enc s[j].2 := by simp [sumsRows]
end Go.Proofs.YtdidocmbcfbjdaaDoor

namespace Go.Proofs.YtdidocmbcfbjdaaDoor
open Go Go.Proofs.YtdidocmbcfbjdaaDoor.Sx
set_option linter.unusedVariables false
set_option linter.unusedSimpArgs false
/-- two additions at two keys may change places -/
theorem sumAdd_comm {a b : ByteArray} (hab : a ≠ b) (u v : Int) : ∀ {s : List (ByteArray × Int)}, Ordered s → sumAdd (sumAdd s a u) b v = sumAdd (sumAdd s b v) a u
  | [], _ => by
    have hba : b ≠ a := fun e => hab e.symm
    by_cases h1 : bLess a b = true
    · have h2 : bLess b a = false := by
        cases h : bLess b a with
        | false => rfl
        | true => have := bLess_trans h1 h; rw [bLess_irrefl] at this; cases this
      simp [sumAdd, h1, h2, hba]
    · have h2 : bLess b a = true := by
        cases h : bLess b a with
        | true => rfl
        | false => exact absurd (bLess_tri (by simpa using h1) h) hab
      simp [sumAdd, h1, h2, hab]
  | x :: r, ho => by
    have hba : b ≠ a := fun e => hab e.symm
    have hr := (List.pairwise_cons.1 ho).2
    have ih := sumAdd_comm hab u v hr
    have tri : ∀ c, bLess x.1 c = true ∨ x.1 = c ∨ (bLess x.1 c = false ∧ x.1 ≠ c ∧ bLess c x.1 = true) := fun c => by
      cases h : bLess x.1 c with
      | true => exact .inl rfl
      | false =>
        by_cases e : x.1 = c
        · exact .inr (.inl e)
        · right; right
          refine ⟨rfl, e, ?_⟩
          cases h2 : bLess c x.1 with
          | true => rfl
          | false => exact absurd (bLess_tri h h2) e
    have asy : ∀ {c d : ByteArray}, bLess c d = true → bLess d c = false := fun {c d} h => by
      cases h2 : bLess d c with
      | false => rfl
      | true => have := bLess_trans h h2; rw [bLess_irrefl] at this; cases this
    rcases tri a with ha | ha | ⟨ha, hae, hal⟩
    · rcases tri b with hb | hb | ⟨hb, hbe, hbl⟩
      · simp [sumAdd, ha, hb, ih]
      · subst hb
        simp [sumAdd, ha, bLess_irrefl]
      · have hlt := bLess_trans hbl ha
        simp [sumAdd, ha, hb, hbe, hlt]
    · subst ha
      rcases tri b with hb | hb | ⟨hb, hbe, hbl⟩
      · simp [sumAdd, hb, bLess_irrefl]
      · exact absurd hb hab
      · simp [sumAdd, hb, hbe, bLess_irrefl, hbl]
    · rcases tri b with hb | hb | ⟨hb, hbe, hbl⟩
      · have hlt := bLess_trans hal hb
        simp [sumAdd, ha, hae, hb, hlt]
      · subst hb
        simp [sumAdd, ha, hae, bLess_irrefl, hal]
      · cases hlt : bLess a b with
        | true =>
          have h2 := asy hlt
          simp [sumAdd, ha, hae, hb, hbe, hlt, h2, hba]
        | false =>
          have h2 : bLess b a = true := by
            cases h : bLess b a with
            | true => rfl
            | false => exact absurd (bLess_tri hlt h) hab
          simp [sumAdd, ha, hae, hb, hbe, hlt, h2, hab]
def debtKV : List D0 → ByteArray × ByteArray × Int
  | [.str a, .str b, .str _, .bool s, .ints z] => (a, b, ival [.bool s, .ints z])
  | _ => (ByteArray.empty, ByteArray.empty, 0)
def posStep (s : List (ByteArray × Int)) (x : List D0) : List (ByteArray × Int) := sumAdd (sumAdd s (debtKV x).2.1 (debtKV x).2.2) (debtKV x).1 (-(debtKV x).2.2)
def posTo (l : List (List D0)) (j : Nat) : List (ByteArray × Int) := (l.take j).foldl posStep []
theorem posTo_succ {l : List (List D0)} {j : Nat} (h : j < l.length) : posTo l (j + 1) = posStep (posTo l j) l[j] := by
  unfold posTo
  rw [List.take_succ_eq_append_getElem h, List.foldl_append]
  rfl
theorem posTo_ordered (l : List (List D0)) : ∀ j, j ≤ l.length → Ordered (posTo l j)
  | 0, _ => List.Pairwise.nil
  | j + 1, h => by rw [posTo_succ (by omega)]; exact sumAdd_ordered (sumAdd_ordered (posTo_ordered l j (by omega)))
theorem posTo_len (l : List (List D0)) : ∀ j, j ≤ l.length → (posTo l j).length ≤ 2 * j
  | 0, _ => Nat.le_refl _
  | j + 1, h => by
    rw [posTo_succ (by omega)]
    unfold posStep
    have h1 := (sumAdd_len (sumAdd (posTo l j) (debtKV l[j]).2.1 (debtKV l[j]).2.2) (debtKV l[j]).1 (-(debtKV l[j]).2.2)).1
    have h2 := (sumAdd_len (posTo l j) (debtKV l[j]).2.1 (debtKV l[j]).2.2).1
    have := posTo_len l j (by omega)
    omega
theorem debt_facts {cur : ByteArray} {x : List D0} (hc : x.map D0.code = [.str, .str, .str, .bool, .ints]) (h : debtOk cur x = true) : ∃ a b c u, x = .str a :: .str b :: .str c :: enc u ∧ u.natAbs ≤ 1000000000000000000000000000000000000 ∧ debtKV x = (a, b, u) ∧ a ≠ b ∧ intOk (enc u) = true := by
  obtain ⟨a, es, he, c1⟩ := code_str hc
  obtain ⟨b, es2, he2, c2⟩ := code_str c1
  obtain ⟨c, es3, he3, c3⟩ := code_str c2
  obtain ⟨s, es4, he4, c4⟩ := code_bool c3
  obtain ⟨z, es5, he5, c5⟩ := code_ints c4
  have := code_nil c5
  subst this; subst he5; subst he4; subst he3; subst he2; subst he
  simp only [debtOk, Bool.and_eq_true, Bool.not_eq_true', decide_eq_false_iff_not] at h
  obtain ⟨u, h1, h2, h3⟩ := money_abs h.1.1.1.1.1
  have hi := moneyOk_int h.1.1.1.1.1
  rw [h1] at hi
  exact ⟨a, b, c, u, by rw [h1], h3, by rw [h2]; rfl, h.2, hi⟩
theorem debts_facts {cur : ByteArray} {l : List (List D0)} (h : debtsOk cur l = true) : l.length ≤ 20 ∧ ∀ x ∈ l, debtOk cur x = true := by
  simp only [debtsOk, Bool.and_eq_true, decide_eq_true_eq, List.all_eq_true] at h
  exact ⟨h.1.2, h.2⟩
theorem posTo_bound {cur : ByteArray} {l : List (List D0)} (hc : ∀ x ∈ l, x.map D0.code = [.str, .str, .str, .bool, .ints]) (hok : debtsOk cur l = true) : ∀ j, j ≤ l.length → ∀ x ∈ posTo l j, x.2.natAbs ≤ (2 * j) * 1000000000000000000000000000000000000
  | 0, _, x, hx => by simp [posTo] at hx
  | j + 1, h, x, hx => by
    rw [posTo_succ (by omega)] at hx
    have hm : l[j] ∈ l := List.getElem_mem (by omega)
    obtain ⟨a, b, c, u, he, hu, hk, _, _⟩ := debt_facts (hc _ hm) ((debts_facts hok).2 _ hm)
    unfold posStep at hx
    rw [hk] at hx
    have h1 := sumAdd_bound (c := b) (posTo_bound hc hok j (by omega)) hu
    have h2 := sumAdd_bound (N := 1000000000000000000000000000000000000) (c := a) h1 (by rw [Int.natAbs_neg]; exact hu) x hx
    rw [show 2 * (j + 1) = (2 * j + 1) + 1 by omega, Nat.succ_mul, Nat.succ_mul]
    exact h2
def posT (cur : ByteArray) (l : List (List D0)) : List (List D0) := if debtsOk cur l then sumsRows (posTo l l.length) else []
theorem pos40 {cur : ByteArray} {l : List (List D0)} (hc : ∀ x ∈ l, x.map D0.code = [.str, .str, .str, .bool, .ints]) (hok : debtsOk cur l = true) {j : Nat} (hj : j ≤ l.length) : ∀ x ∈ posTo l j, x.2.natAbs ≤ 40000000000000000000000000000000000000 := fun x hx => by
  have h1 := posTo_bound hc hok j hj x hx
  have h2 := (debts_facts hok).1
  exact Nat.le_trans h1 (Nat.le_trans (Nat.mul_le_mul_right _ (show 2 * j ≤ 40 by omega)) (by decide))
/-- what lies at a place, and what is put there -/
theorem bump {w5 : World} {B b n2 c2 : Nat} {s : List (ByteArray × Int)} {key : ByteArray} {f2 : List Nat} {e : TypeId} (ho5 : OwnRows w5 B e 3 (some ⟨b, 0, none⟩) n2 c2 (sumsRows (sumAdd s key 0)) f2) (ht : aggT P T_impl_Signed 2 = true) :
    ∃ (v : Int) (kp : Option Addr) (kn kc : Nat), B ≤ b ∧ b < w5.heap.size ∧ (sumAdd s key 0)[posOf s key]? = some (key, v) ∧ (∀ W, Ext w5 W → Loads P T_impl_Signed ((⟨b, posOf s key * 3, none⟩ : Addr).add 1) (.agg #[.bool (decide (v < 0)), .slice kp kn kc]) W) ∧
      Reps w5 [.bool (decide (v < 0)), .slice kp kn kc] (enc v) ∧
      ∀ (u : Int) (W8 : World) (b8 : Bool) (p8 : Option Addr) (n8 c8 : Nat) (f8 : List Nat), Ext w5 W8 → Owns W8 B [.bool b8, .slice p8 n8 c8] (enc (v + u)) f8 → f8.Nodup → (∀ q ∈ f8, w5.heap.size ≤ q) →
        ∃ w9 f9, Stores P T_impl_Signed ((⟨b, posOf s key * 3, none⟩ : Addr).add 1) (.agg #[.bool b8, .slice p8 n8 c8]) W8 w9 ∧ OwnRows w9 B e 3 (some ⟨b, 0, none⟩) n2 c2 (sumsRows (sumAdd s key u)) f9 ∧ Chg [b] W8 w9 ∧ w9.heap.size = W8.heap.size ∧ (∀ q ∈ f9, q ∈ f2 ∨ q ∈ f8) := by
  obtain ⟨v, hv1, _⟩ := sumAdd_two (s := s) (c := key) (u := 0)
  have hrow : (sumsRows (sumAdd s key 0))[posOf s key]? = some (.str key :: enc v) := by
    unfold sumsRows
    rw [List.getElem?_map, hv1]
    rfl
  obtain ⟨b', xs, cs5, zs, hpb, hbB, hbf, hxl, hcl, hblk, hrep, hput⟩ := ho5.put hrow
  simp only [Option.some.injEq, Addr.mk.injEq, and_true] at hpb
  obtain rfl := hpb
  obtain ⟨k0, k1, kp, kn, kc, kz, rfl, hkd, hki⟩ := open_Money hrep rfl
  simp only [enc, List.cons.injEq, D0.str.injEq, D0.bool.injEq, D0.ints.injEq, and_true] at hkd
  obtain ⟨rfl, rfl, rfl⟩ := hkd
  refine ⟨v, kp, kn, kc, hbB, hblk.lt, hv1, fun W hW => (hblk.ext hW).loadAAt (posOf s key * 3 + 1) [.bool (decide (v < 0)), .slice kp kn kc] (by rw [addr_add]) ht (by rw [← hxl, List.append_assoc, List.drop_length_add_append]; rfl), ⟨rfl, ⟨_, _, _, rfl, hki⟩, trivial⟩, ?_⟩
  intro u W8 b8 p8 n8 c8 f8 hx h8 hn8 hf8
  have hblk8 := hblk.ext hx
  have hpl : posOf s key * 3 + 3 ≤ (xs ++ [Value.string key, Value.bool (decide (v < 0)), Value.slice kp kn kc] ++ zs).length := by simp [hxl]
  obtain ⟨w9, st9, hb9, ch9, sz9⟩ := hblk8.storeA (P := P) (t := T_impl_Signed) (k := posOf s key * 3 + 1) (xs := [.bool b8, .slice p8 n8 c8]) ht (by simp only [List.length_cons, List.length_nil]; omega) (by simp [Value.oneCell'])
  have hnew : (xs ++ [Value.string key, Value.bool (decide (v < 0)), Value.slice kp kn kc] ++ zs).take (posOf s key * 3 + 1) ++ [Value.bool b8, .slice p8 n8 c8] ++ (xs ++ [Value.string key, Value.bool (decide (v < 0)), Value.slice kp kn kc] ++ zs).drop (posOf s key * 3 + 1 + [Value.bool b8, .slice p8 n8 c8].length) = xs ++ [Value.string key, Value.bool b8, .slice p8 n8 c8] ++ zs := by
    rw [← hxl, List.append_assoc xs, List.take_length_add_append, Nat.add_assoc, List.drop_length_add_append]
    simp
  rw [hnew] at hb9
  have hbl := hblk.lt
  have ho9 : Owns w9 B [.string key, .bool b8, .slice p8 n8 c8] (.str key :: enc (v + u)) f8 := Owns.append (Owns.str _ _ key) (h8.chg ch9 (fun k hk hm => by
    have := hf8 k hk
    simp at hm; omega))
  obtain ⟨f9, hor9, hf9⟩ := hput w9 _ _ f8 (hx.toChg.trans ch9) rfl hb9 ho9 hn8 (fun y hy hm => by have := hf8 y hy; have := (ho5.lt y hm).2; omega)
  refine ⟨w9, f9, ?_, ?_, ch9, sz9, hf9⟩
  · rw [addr_add] at st9 ⊢
    rw [Nat.zero_add] at st9
    exact st9
  · obtain ⟨v', hv1', hv2'⟩ := sumAdd_two (s := s) (c := key) (u := u)
    rw [hv1] at hv1'
    simp only [Option.some.injEq, Prod.mk.injEq, true_and] at hv1'
    subst hv1'
    have : sumsRows (sumAdd s key u) = (sumsRows (sumAdd s key 0)).set (posOf s key) (.str key :: enc (v + u)) := by
      rw [hv2']
      unfold sumsRows
      rw [List.map_set]
    rw [this]
    exact hor9
theorem impl_Positions_1_c {w : World} {xs ys : List Value} {a b : ByteArray} {d e : Bool} {z z2 : List Int} (h : Reps w xs [.str a, .bool d, .ints z]) (g : Reps w ys [.str b, .bool e, .ints z2]) :
    Ret P n_impl_Positions_1 [.agg ⟨xs⟩, .agg ⟨ys⟩] w fun v w' => v = .int .i64 (cmpS a b) ∧ Ext w w' := by
  obtain ⟨a0, a1, ap, an, ac, az, rfl, hd, _⟩ := open_Pos h rfl
  obtain ⟨b0, b1, bp, bn, bc, bz, rfl, he, _⟩ := open_Pos g rfl
  cases hd
  cases he
  refine impl_Positions_1_ret ?_
  unfold impl_Positions_1
  intro r w1 hn1 r1 w2 hn2
  have q0 := hn1.blk.ext hn2.ext; have q1 := hn2.blk
  have y := hn1.ext.trans hn2.ext
  refine ⟨_, q0.loadAt 0 rfl (by kernel_rfl) rfl, _, q1.loadAt 0 rfl (by kernel_rfl) rfl, fun h => ⟨?_, y⟩, fun h => ⟨_, q0.loadAt 0 rfl (by kernel_rfl) rfl, _, q1.loadAt 0 rfl (by kernel_rfl) rfl, fun g => ⟨?_, y⟩, fun g => ⟨?_, y⟩⟩⟩
  · unfold cmpS; rw [if_pos (show bLess a b = true from h)]
  · unfold cmpS
    rw [if_neg (show ¬ bLess a b = true by show ¬ Op.bytesLess _ _ = true; rw [h]; simp)]
    rw [h] at g
    simp at g
    rw [if_neg g]
  · unfold cmpS
    rw [if_neg (show ¬ bLess a b = true by show ¬ Op.bytesLess _ _ = true; rw [h]; simp)]
    rw [h] at g
    simp at g
    rw [if_pos g]
set_option maxHeartbeats 1000000 in
theorem impl_Positions_o {w : World} (cur : ByteArray) {p : Option Addr} {n c : Nat} {l : List (List D0)} (h : RowsR w 5 p n c l) (hc : ∀ x ∈ l, x.map D0.code = [.str, .str, .str, .bool, .ints]) (hn : n ≤ 1048576) (hb : ∀ x ∈ l, bulks x ≤ 1048576) (ht : Tab w) :
    Ret P n_impl_Positions [.string cur, .slice p n c] w fun v w' => ∃ p' n' c' f, v = .tuple #[.slice p' n' c', .bool (debtsOk cur l)] ∧ OwnRows w' w.heap.size T_impl_Pos 3 p' n' c' (posT cur l) f ∧ Ext w w' := by
  have hln := h.1
  refine impl_Positions_ret ?_
  unfold impl_Positions
  refine Ret.at (impl_DebtsOk_c cur h hc hn hb ht) ?_
  rintro v w0 ⟨hv, y0⟩
  subst hv
  refine ⟨_, rfl, ifN (fun hno => ⟨none, 0, 0, [], by rw [hno], ?_, y0⟩) (fun hok => ?_)⟩
  · have : posT cur l = [] := by unfold posT; rw [hno]; rfl
    rw [this]; exact ⟨rfl, [], [], trivial, Own.nil _ _ _ _, by simp, by simp⟩
  obtain ⟨hl20, hall⟩ := debts_facts hok
  have hlim : ∀ x : Int, x.natAbs ≤ 100 * 1000000000000000000000000000000000000 → (digs x.natAbs).length ≤ 10000000 := fun x hx => by have := digs_len_le (n := x.natAbs) (by omega); omega
  intro r w1 hn1
  have e1 := hn1.r_eq; have z1 := hn1.size
  obtain ⟨w2, st2, b2, y2⟩ := hn1.fill (P := P) (t := T_impl_ordered_loop_example_g00793_impl_Pos) (xs := [.slice none 0 0, .func (.func 51) ⟨[]⟩ ⟨[]⟩]) (by simp [Value.oneCell']) (by kernel_rfl) rfl
  have lb2 := b2.lt
  have ly0 := y0.le
  have hcf : ∀ (W : World) (cs ys : List Value) (a b : ByteArray) (d e : Bool) (z z2 : List Int) (w' : World), Ext W w' → Reps w' cs [.str a, .bool d, .ints z] → Reps w' ys [.str b, .bool e, .ints z2] → CallW P (.func (.func 51) ⟨[]⟩ ⟨[]⟩) [.agg ⟨cs⟩, .agg ⟨ys⟩] w' fun e w'' => e = .returned (.int .i64 (cmpS a b)) ∧ Ext w' w'' := by
    intro W cs ys a b d e z z2 w' _ h1 h2
    refine ⟨_, _, _, rfl, by kernel_rfl, ?_⟩
    refine Calls.mono (impl_Positions_1_c h1 h2) ?_
    rintro e w'' ⟨v, he, hv, y⟩
    subst hv
    exact ⟨he, y⟩
  refine ⟨w2, st2, fun i wr => ∃ (j : Nat) (p' : Option Addr) (n' c' : Nat) (f : List Nat), i = j ∧ j ≤ n ∧ Blk wr r T_impl_ordered_loop_example_g00793_impl_Pos [.slice p' n' c', .func (.func 51) ⟨[]⟩ ⟨[]⟩] ∧ OwnRows wr (r + 1) T_impl_Pos 3 p' n' c' (sumsRows (posTo l j)) f ∧ Ext w wr, fun i _ => n - i.toNat, ⟨0, none, 0, 0, [], rfl, Nat.zero_le _, b2, ⟨rfl, [], [], trivial, Own.nil _ _ _ _, by simp, by simp⟩, y0.trans y2⟩, ?_⟩
  intro junk wr i ⟨j, p', n', c', f, hij, hj, hbr, ho, hx⟩
  subst hij
  refine ifD (fun hlt => ?_) (fun hge => ?_)
  rotate_left
  · have hjn : j = n := by omega
    subst hjn
    refine ⟨_, _, _, hbr.loadAt 0 rfl (by kernel_rfl) rfl, _, _, _, f, by rw [hok], ?_, hx⟩
    have : posT cur l = sumsRows (posTo l j) := by unfold posT; rw [hok, if_pos rfl, hln]
    rw [this]
    exact ho.mono (by omega)
  have hjn : j < n := by omega
  have hjl : j < l.length := by omega
  have hrl := hbr.lt
  have hm : l[j] ∈ l := List.getElem_mem hjl
  obtain ⟨from_, to_, dc, u, he, hu, hkv, hab, _⟩ := debt_facts (hc _ hm) (hall _ hm)
  obtain ⟨bl, offl, hpl, hsl0⟩ := h.2.2.2 (by omega)
  subst hpl
  obtain ⟨cs, hk, hr0, hsg⟩ := hsl0 j _ (List.getElem?_eq_getElem hjl)
  rw [he] at hr0
  obtain ⟨s0, s1, s2, s3, sp, sn, sc, sz, rfl, hd, hsi⟩ := open_Debt hr0 rfl
  simp only [enc, List.cons.injEq, D0.str.injEq, D0.bool.injEq, D0.ints.injEq, and_true] at hd
  obtain ⟨rfl, rfl, rfl, rfl, rfl⟩ := hd
  have hru : ∀ W, Ext w W → Reps W [.bool (decide (u < 0)), .slice sp sn sc] (enc u) := fun W hW => ⟨rfl, ⟨_, _, _, rfl, hsi.ext hW⟩, trivial⟩
  have hld : Loads P T_impl_Debt ((⟨bl, offl, none⟩ : Addr).add (j * 5)) (.agg ⟨[.string from_, .string to_, .string dc, .bool (decide (u < 0)), .slice sp sn sc]⟩) wr := (hsg.ext hx).loadAAt 0 _ (by rw [addr_add]; rfl) (by kernel_rfl) rfl
  refine ⟨⟨by omega, by omega⟩, _, _, _, _, _, _, _, by rw [Int.toNat_natCast]; exact hld, ?_⟩
  intro r1 w3 hn3
  have e3 := hn3.r_eq
  obtain ⟨w4, st4, b4, y4⟩ := hn3.fill (P := P) (t := T_impl_Debt) (xs := [.string from_, .string to_, .string dc, .bool (decide (u < 0)), .slice sp sn sc]) (by simp [Value.oneCell']) (by kernel_rfl) rfl
  have lx := hx.le; have l4 := y4.le
  have hsl := ho.1
  rw [sumsRows_len] at hsl
  have hslen := posTo_len l j (by omega)
  have hsz := pos40 hc hok (j := j) (by omega)
  have lb4 := b4.lt
  refine ⟨w4, st4, _, b4.loadAt 1 rfl (by kernel_rfl) rfl, ?_⟩
  refine Ret.at (at_Pos_c (hbr.ext y4) (ho.ext y4) (posTo_ordered l j (by omega)) (fun hm => by have := (ho.lt r hm).1; omega) (by omega) (by omega) rfl (hcf w4) to_) ?_
  rintro v w5 ⟨b, n2, c2, f2, hv, hb5, ho5, hch5, hf5⟩
  subst hv
  have hpB : ∀ q ∈ (p'.map (·.block)).toList, q ∈ f := fun q hq => by obtain ⟨_, _, _, _, _, hf, _⟩ := ho; rw [hf]; exact List.mem_append_left _ hq
  have X5 : Ext w w5 := (hx.trans y4).chg hch5 (fun q hq => by
    rcases List.mem_cons.1 hq with hq | hq
    · omega
    · have := (ho.lt q (hpB q hq)).1; omega)
  have b4' : Blk w5 r1 T_impl_Debt [.string from_, .string to_, .string dc, .bool (decide (u < 0)), .slice sp sn sc] := b4.chg hch5 (fun hm => by
    rcases List.mem_cons.1 hm with hm | hm
    · omega
    · have := (ho.lt r1 (hpB r1 hm)).2; omega)
  have l5 := hch5.size
  obtain ⟨v, kp, kn, kc, hbB, hblt, hat, hld1, hrv, hbump⟩ := bump ho5 (by kernel_rfl)
  have hvb : v.natAbs ≤ 41 * 1000000000000000000000000000000000000 := by
    have := sumAdd_bound (N := 0) (c := to_) (u := 0) hsz (by simp) _ (List.mem_of_getElem? hat)
    exact Nat.le_trans this (by decide)
  have d5 := Ext.drew w5
  refine ⟨_, rfl, _, _, _, _, fun W hW => hld1 W (d5.trans hW), _, _, _, _, fun W hW => ((b4'.ext d5).ext hW).loadAAt 3 [.bool (decide (u < 0)), .slice sp sn sc] rfl (by kernel_rfl) rfl, ?_⟩
  refine Ret.at (impl_intAdd_c (hrv.ext d5) (hru _ (X5.trans d5)) (hlim v (Nat.le_trans hvb (Nat.mul_le_mul_right _ (by decide)))) (hlim u (Nat.le_trans hu (Nat.le_mul_of_pos_left _ (by decide))))) ?_
  rintro v8 w8 ⟨mp, mn, mc, hv8, hown8, y8⟩
  subst hv8
  have Y8 := d5.trans y8
  have lY8 := Y8.le
  obtain ⟨w9, f9, st9, ho9, ch9, sz9, hf9⟩ := hbump u w8 _ mp mn mc (mp.map (·.block)).toList Y8 ((Owns.int2 (b := decide (v + u < 0)) hown8).mono (by have := d5.le; omega)) (nodup_opt mp) (fun q hq => by
    have h1 := (World.ownsRow.lt hown8 q (by cases mp <;> simp_all [Value.ownBlock])).1
    have := d5.le; omega)
  have X9 : Ext w w9 := (X5.trans Y8).chg ch9 (by simp; omega)
  have hb9 : Blk w9 r T_impl_ordered_loop_example_g00793_impl_Pos [.slice (some ⟨b, 0, none⟩) n2 c2, .func (.func 51) ⟨[]⟩ ⟨[]⟩] := (hb5.ext Y8).chg ch9 (by simp; omega)
  have b49 : b ≠ r1 := fun e => by
    have hbin : b ∈ f2 := by obtain ⟨_, _, _, _, _, hf, _⟩ := ho5; rw [hf]; simp
    rcases hf5 b hbin with h1 | h1
    · have := (ho.lt b h1).2; omega
    · omega
  have b4'' := (b4'.ext Y8).chg ch9 (by simp; omega)
  have hs1 := sumAdd_ordered (c := to_) (u := u) (posTo_ordered l j (by omega))
  have hn2 := ho9.1
  rw [sumsRows_len] at hn2
  have hlen1 := (sumAdd_len (posTo l j) to_ u).1
  have hsz1 := sumAdd_bound (c := to_) hsz hu
  have hf9r : ∀ q ∈ f9, r + 1 ≤ q := fun q hq => (ho9.lt q hq).1
  refine ⟨_, _, _, _, rfl, w9, st9, _, b4''.loadAt 0 rfl (by kernel_rfl) rfl, ?_⟩
  refine Ret.at (at_Pos_c hb9 ho9 hs1 (fun hm => by have := hf9r r hm; omega) (by omega) (by omega) rfl (hcf w9) from_) ?_
  rintro v w10 ⟨b', n3, c3, f3, hv, hb10, ho10, hch10, hf10⟩
  subst hv
  have hbin9 : b ∈ f9 := by obtain ⟨_, _, _, _, _, hf, _⟩ := ho9; rw [hf]; simp
  have X10 : Ext w w10 := X9.chg hch10 (fun q hq => by
    rcases List.mem_cons.1 hq with hq | hq
    · omega
    · simp at hq; omega)
  have b410 : Blk w10 r1 T_impl_Debt [.string from_, .string to_, .string dc, .bool (decide (u < 0)), .slice sp sn sc] := b4''.chg hch10 (fun hm => by
    rcases List.mem_cons.1 hm with hm | hm
    · omega
    · simp at hm; omega)
  have l10 := hch10.size
  obtain ⟨v2, kp2, kn2, kc2, hbB2, hblt2, hat2, hld2, hrv2, hbump2⟩ := bump ho10 (by kernel_rfl)
  have hvb2 : v2.natAbs ≤ 42 * 1000000000000000000000000000000000000 := by
    have := sumAdd_bound (N := 0) (c := from_) (u := 0) hsz1 (by simp) _ (List.mem_of_getElem? hat2)
    exact Nat.le_trans this (by decide)
  have d10 := Ext.drew w10
  refine ⟨_, rfl, _, _, _, _, fun W hW => hld2 W (d10.trans hW), _, _, _, _, fun W hW => ((b410.ext d10).ext hW).loadAAt 3 [.bool (decide (u < 0)), .slice sp sn sc] rfl (by kernel_rfl) rfl, ?_⟩
  refine Ret.at (impl_intNeg_c (hru _ (X10.trans d10)) (hlim u (Nat.le_trans hu (Nat.le_mul_of_pos_left _ (by decide))))) ?_
  rintro v11 w11 ⟨vs11, f11, hv11, ho11, nd11, y11⟩
  subst hv11
  obtain ⟨g0, gp, gn, gc', gz, rfl, _, _⟩ := open_Signed ho11.reps (enc_code _)
  refine ⟨_, _, _, _, rfl, y11, ?_⟩
  refine Ret.at (impl_intAdd_c ((hrv2.ext d10).ext y11) ho11.reps (hlim v2 (Nat.le_trans hvb2 (Nat.mul_le_mul_right _ (by decide)))) (hlim (-u) (by rw [Int.natAbs_neg]; exact Nat.le_trans hu (Nat.le_mul_of_pos_left _ (by decide))))) ?_
  rintro v12 w12 ⟨mp2, mn2, mc2, hv12, hown12, y12⟩
  subst hv12
  have Y12 := (d10.trans y11).trans y12
  have lY12 := Y12.le
  have ly11 := (d10.trans y11).le
  obtain ⟨w13, f13, st13, ho13, ch13, sz13, hf13⟩ := hbump2 (-u) w12 _ mp2 mn2 mc2 (mp2.map (·.block)).toList Y12 ((Owns.int2 (b := decide (v2 + -u < 0)) hown12).mono (by omega)) (nodup_opt mp2) (fun q hq => by
    have h1 := (World.ownsRow.lt hown12 q (by cases mp2 <;> simp_all [Value.ownBlock])).1
    omega)
  have X13 : Ext w w13 := (X10.trans Y12).chg ch13 (by simp; omega)
  refine ⟨_, _, _, _, rfl, w13, st13, exW ⟨by omega, by omega⟩ ⟨⟨j + 1, _, _, _, f13, rfl, by omega, (hb10.ext Y12).chg ch13 (by simp; omega), ?_, X13⟩, by show n - ((j : Int) + 1).toNat < n - (j : Int).toNat; omega⟩⟩
  rw [posTo_succ hjl]
  unfold posStep
  rw [hkv]
  exact ho13
end Go.Proofs.YtdidocmbcfbjdaaDoor

namespace Go.Proofs.YtdidocmbcfbjdaaDoor
open Go Go.Proofs.YtdidocmbcfbjdaaDoor.Sx
set_option linter.unusedVariables false
set_option linter.unusedSimpArgs false
set_option maxHeartbeats 1000000 in
theorem spec_l16Add_c {w : World} {B b n c : Nat} {s : List (ByteArray × Int)} {f : List Nat} {xs0 : List Value} {u : Int} (ho : OwnRows w B T_impl_Pos 3 (some ⟨b, 0, none⟩) n c (sumsRows s) f) (hord : Ordered s) (hB : B ≤ w.heap.size) (hn : n ≤ 1000000) (hr : Reps w xs0 (enc u)) (hu : u.natAbs ≤ 1000000000000000000000000000000000000) (hsz : ∀ x ∈ s, x.2.natAbs ≤ 50 * 1000000000000000000000000000000000000) (who : ByteArray) :
    Ret P n_spec_l16Add [.slice (some ⟨b, 0, none⟩) n c, .string who, .agg ⟨xs0⟩] w fun v w' => ∃ b' n' c' f', v = .slice (some ⟨b', 0, none⟩) n' c' ∧ OwnRows w' B T_impl_Pos 3 (some ⟨b', 0, none⟩) n' c' (sumsRows (sumAdd s who u)) f' ∧ Chg [b] w w' := by
  have hsl := ho.1
  rw [sumsRows_len] at hsl
  have hrr := hr
  obtain ⟨s2, sp, sn, sc, sz, rfl, hd, hsi⟩ := open_Signed hr (enc_code _)
  refine spec_l16Add_ret ?_
  unfold spec_l16Add
  intro r w1 hn1
  have e1 := hn1.r_eq; have z1 := hn1.size
  have b1 := hn1.blk
  refine ⟨fun k wk => ∃ kk : Nat, k = kk ∧ kk ≤ n ∧ (∀ a x, s[a]? = some x → a < kk → bLess x.1 who = true) ∧ Ext w1 wk, fun k _ => n - k.toNat, ⟨0, rfl, Nat.zero_le _, fun a x _ ha => absurd ha (by omega), Ext.refl _⟩, ?_⟩
  intro junk wk k ⟨kk, hkk, hkn, hless, hxk⟩
  subst hkk
  have X1 := hn1.ext.trans hxk
  have lX := X1.le
  have found : kk = posOf s who → hasAt s who = true → spec_l16Add_j0 (some ⟨b, 0, none⟩) n c who r ((kk : Nat) : Int) true wk (fun v w' => ∃ b' n' c' f', v = .slice (some ⟨b', 0, none⟩) n' c' ∧ OwnRows w' B T_impl_Pos 3 (some ⟨b', 0, none⟩) n' c' (sumsRows (sumAdd s who u)) f' ∧ Chg [b] w w') := by
    intro hpos hhas
    obtain ⟨v0, hv1, hv2⟩ := sumAdd_has (u := 0) hhas
    have hs0 : sumAdd s who 0 = s := by
      rw [hv2, Int.add_zero]
      obtain ⟨h1, h2⟩ := List.getElem?_eq_some_iff.1 hv1
      rw [← h2, List.set_getElem_self]
    have hkl : kk < n := by have := (List.getElem?_eq_some_iff.1 hv1).1; omega
    have how := ho.ext X1
    rw [← hs0] at how
    obtain ⟨v, kp, kn, kc, hbB, hblt, hat, hld1, hrv, hbump⟩ := bump how (by kernel_rfl)
    rw [← hpos] at hld1
    have hvb := hsz _ (List.mem_of_getElem? (by rw [hs0] at hat; exact hat))
    have dk := Ext.drew wk
    unfold spec_l16Add_j0
    refine ⟨fun _ => ?_, fun hh => absurd hh (by simp)⟩
    rw [Int.toNat_natCast]
    refine ⟨⟨by omega, by omega⟩, _, _, _, _, fun W hW => by rw [addr_add, Nat.zero_add]; exact hld1 W (dk.trans hW), _, _, _, _, fun W hW => (b1.ext ((hxk.trans dk).trans hW)).loadA0 (by kernel_rfl), ?_⟩
    refine Ret.at (spec_IntAdd_c (hrv.ext dk) (hrr.ext (X1.trans dk)) (enc_code _) (enc_code _)) ?_
    rintro v8 w8 ⟨vs8, f8, hv8, ho8, nd8, y8⟩
    subst hv8
    rw [iadd_small (by omega) (by omega)] at ho8
    obtain ⟨m0, mp, mn, mc, mz, rfl, _, _⟩ := open_Signed ho8.reps (enc_code _)
    have ldk := dk.le
    obtain ⟨w9, f9, st9, ho9, ch9, sz9, _⟩ := hbump u w8 m0 mp mn mc f8 (dk.trans y8) (ho8.mono (by omega)) nd8 (fun q hq => by have := (ho8.lt q hq).1; omega)
    rw [← hpos] at st9
    refine ⟨_, _, _, _, rfl, ⟨by omega, by omega⟩, w9, by rw [addr_add, Nat.zero_add]; exact st9, b, n, c, f9, rfl, ho9, (X1.trans (dk.trans y8)).toChg.trans ch9⟩
  have new : kk = posOf s who → hasAt s who = false → spec_l16Add_j1 (some ⟨b, 0, none⟩) n c who r ((kk : Nat) : Int) wk (fun v w' => ∃ b' n' c' f', v = .slice (some ⟨b', 0, none⟩) n' c' ∧ OwnRows w' B T_impl_Pos 3 (some ⟨b', 0, none⟩) n' c' (sumsRows (sumAdd s who u)) f' ∧ Chg [b] w w') := by
    intro hpos hhas
    unfold spec_l16Add_j1
    intro r2 wa hna
    have hra := hna.r_eq; have hza := hna.size
    have how := ho.ext X1
    obtain ⟨xs, hown, h1, hins⟩ := how.ins (i := kk) hkn
    have hxl : xs.length = n * 3 := hown.len
    obtain ⟨cur, hBb, hcb, hcl, hnc, hcm, htk⟩ : ∃ ys, B ≤ b ∧ Blk wk b T_impl_Pos ys ∧ ys.length = c * 3 ∧ n ≤ c ∧ c ≤ maxLen ∧ ys.take (n * 3) = xs := by
      rcases hown.2 with ⟨e1, e2⟩ | ⟨g, cap, cu, e1, hB, hg, h3, h4, h5, h6⟩
      · simp at e1
      · simp only [Value.slice.injEq, Option.some.injEq, Addr.mk.injEq, and_true, true_and] at e1
        obtain ⟨rfl, rfl⟩ := e1
        exact ⟨cu.toList, hB, by cases cu; exact hg, by simpa using h5, h3, h4, h6⟩
    have hbl := hcb.lt
    have seg : ∀ W2, Ext wk W2 → Seg W2 b 0 xs := fun W2 hW2 => by
      have := ((hcb.ext hW2).seg).take (n * 3)
      rwa [htk] at this
    rw [Int.toNat_natCast, Nat.sub_zero, Nat.sub_zero, sub0g]
    have hT := ins_sliceT_Pos
    obtain ⟨g1, c1, w14, hA1, hO1, ch1, hg1⟩ := (Sx.Own.of_blk0 (base := B) (size := 3) (n := 0) hna.blk (by omega) (by simp) (by decide) : Sx.Own wa B T_impl_Pos 3 (some ⟨r2, 0, none⟩) 0 0 []).pushM (m := kk) (mc := c) (a := ⟨b, 0, none⟩) (news := xs.take (kk * 3)) hT (by omega) (fun j u hj => by
      have := ((seg wa hna.ext).take (kk * 3)) j u hj
      rw [addr_add]; exact this) (by simp; omega) (fun u hu => h1 u (List.mem_of_mem_take hu)) (by omega) (by decide)
    rw [Nat.zero_add, List.nil_append] at hO1
    rw [Nat.zero_add] at hA1
    have X14 : Ext wk w14 := hna.ext.chg ch1 (by simp; omega)
    have b14 := b1.ext (hxk.trans X14)
    refine ⟨⟨by omega, by omega⟩, _, _, _, w14, hA1, _, b14.loadAt 0 rfl (by kernel_rfl) rfl, _, _, _, b14.loadAt 1 rfl (by kernel_rfl) rfl, ?_⟩
    have hd' : s2 = decide (u < 0) ∧ sz = digs u.natAbs := by
      simp only [enc, List.cons.injEq, D0.bool.injEq, D0.ints.injEq, and_true] at hd
      exact ⟨hd.1.symm, hd.2.symm⟩
    obtain ⟨rfl, rfl⟩ := hd'
    refine Ret.at (spec_l04Make_c (neg := decide (u < 0)) (hsi.ext (X1.trans X14)) (digs_limbs _)) ?_
    rintro v w15 ⟨bq, mp, mn, mc, hv, hbq, own5, y15⟩
    subst hv
    have hcap : capL (digs (val (digs u.natAbs)).toNat) = digs u.natAbs := by
      rw [val_digs, Int.toNat_natCast]
      unfold capL
      rw [if_pos (by have := digs_len_le (n := u.natAbs) (by omega); omega)]
    rw [hcap] at own5 hbq
    have hbq' : bq = decide (u < 0) := by
      rw [hbq]
      by_cases hneg : u < 0
      · have hne : (digs u.natAbs).isEmpty = false := by
          cases hE : (digs u.natAbs).isEmpty with
          | false => rfl
          | true =>
            have h0 : digs u.natAbs = [] := List.isEmpty_iff.1 hE
            have h2 := val_digs u.natAbs
            rw [h0] at h2
            simp [val] at h2
            omega
        rw [hne]; simp
      · simp [hneg]
    subst hbq'
    have hox : Owns w15 w14.heap.size [.string who, .bool (decide (u < 0)), .slice mp mn mc] (.str who :: enc u) (mp.map (·.block)).toList := Owns.append (Owns.str _ _ who) (Owns.int2 own5)
    have ndx := nodup_opt mp
    refine ⟨_, _, _, _, rfl, ?_⟩
    intro r3 w16 hn16
    have e16 := hn16.r_eq; have z16 := hn16.size
    have l14 := X14.le; have l15 := y15.le
    have y16 := y15.trans hn16.ext
    have hg1l : g1 < w14.heap.size := by
      rcases hO1.2 with ⟨e1, e2⟩ | ⟨g, cap, cu, e1, hB, hg, h3, h4, h5, h6⟩
      · simp at e1
      · simp only [Value.slice.injEq, Option.some.injEq, Addr.mk.injEq, and_true, true_and] at e1
        obtain ⟨rfl, rfl⟩ := e1
        exact (Array.getElem?_eq_some_iff.1 hg).1
    obtain ⟨g2, c2, w17, hA2, hO2, ch2, hg2⟩ := (hO1.ext y16).pushM (m := 1) (mc := 1) (a := ⟨r3, 0, none⟩) (news := [.string who, .bool (decide (u < 0)), .slice mp mn mc]) hT (by omega) (fun j u hj => by rw [addr_add, Nat.zero_add, hn16.blk.cell, hj]) rfl (by simp [Value.oneCell']) (by omega) (by decide)
    have hg1B : wk.heap.size ≤ g1 := by rcases hg1 with h | h <;> omega
    have X17 : Ext wk w17 := (X14.trans y16).chg ch2 (by simp; omega)
    refine ⟨_, _, _, w17, hA2, ⟨by omega, by omega⟩, ?_⟩
    obtain ⟨g3, c3, w18, hA3, hO3, ch3, hg3⟩ := hO2.pushM (m := n - kk) (mc := c - kk) (a := if kk < c then ⟨b, kk * 3, none⟩ else ⟨b, 0, none⟩) (news := xs.drop (kk * 3)) hT (by have := X17.le; omega) (fun j u hj => by
      have hkc : kk < c := by
        have := (List.getElem?_eq_some_iff.1 hj).1
        simp at this; omega
      rw [if_pos hkc, addr_add]
      have := ((seg w17 X17).drop (kk * 3)) j u hj
      rwa [Nat.zero_add] at this) (by simp; omega) (fun u hu => h1 u (List.mem_of_mem_drop hu)) (by omega) (by decide)
    have hsub : Sx.sub (some ⟨b, 0, none⟩) kk c 3 = some (if kk < c then ⟨b, kk * 3, none⟩ else ⟨b, 0, none⟩) := by
      by_cases hk : kk < c
      · rw [if_pos hk, subS hk]
      · rw [if_neg hk]
        have : kk = c := by omega
        subst this
        simp [Sx.sub]
    have l16 := y16.le; have l17 := X17.le; have lc2 := ch2.size
    have hg2B : wk.heap.size ≤ g2 := by rcases hg2 with h | h <;> omega
    have X18 : Ext wk w18 := X17.chg ch3 (by simp; omega)
    have hfxl : ∀ q ∈ (mp.map (·.block)).toList, w14.heap.size ≤ q ∧ q < w15.heap.size := hox.lt
    have hg2n : ∀ q ∈ (mp.map (·.block)).toList, q ≠ g2 := fun q hq e => by
      have := hfxl q hq
      have := hn16.size
      rcases hg2 with h | h
      · omega
      · omega
    have hg3n : ∀ q ∈ (mp.map (·.block)).toList, q ≠ g3 := fun q hq e => by
      have h1 := hfxl q hq
      rcases hg3 with h | h
      · exact hg2n q hq (by omega)
      · omega
    have hox18 : Owns w18 B [.string who, .bool (decide (u < 0)), .slice mp mn mc] (.str who :: enc u) (mp.map (·.block)).toList := (((hox.ext hn16.ext).chg ch2 (fun k hk hm => by
      have := hfxl k hk
      simp at hm; omega)).chg ch3 (fun k hk hm => hg2n k hk (by simp at hm; exact hm))).mono (by omega)
    rw [show kk + 1 + (n - kk) = n + 1 by omega] at hA3 hO3
    obtain ⟨f', hor, _⟩ := hins w18 (some ⟨g3, 0, none⟩) c3 _ _ _ hO3 X18.toChg (.inr (fun q hq => by simp at hq; rcases hg3 with h | h <;> omega)) rfl hox18 ndx (fun q hq hm => by have h1 := hfxl q hq; have h2 := (how.lt q hm).2; omega) (fun q hq e => hg3n q hq (by simp at e; omega))
    refine ⟨_, _, _, w18, by rw [hsub]; exact hA3, g3, n + 1, c3, f', rfl, ?_, (X1.trans X18).toChg⟩
    rw [sumAdd_new hhas]
    have : sumsRows (s.take (posOf s who) ++ (who, u) :: s.drop (posOf s who)) = (sumsRows s).take kk ++ (.str who :: enc u) :: (sumsRows s).drop kk := by
      rw [hpos]
      simp [sumsRows, List.map_take, List.map_drop]
    rw [this]
    exact hor
  refine ifD (fun hlt2 => ?_) (fun hge2 => ⟨fun hh => absurd hh (by simp), fun _ => ⟨fun hh => absurd (of_decide_eq_true hh) hge2, fun _ => ?_⟩⟩)
  · have hkon : kk < n := by omega
    have hks : kk < s.length := by omega
    have how := ho.ext X1
    have hrow : (sumsRows s)[kk]? = some (.str s[kk].1 :: enc s[kk].2) := by
      rw [List.getElem?_eq_getElem (by rw [sumsRows_len]; exact hks), row_at hks]
    obtain ⟨b', xs, cs, zs, hpb, _, _, hxl, hcl, hblk, hrep, _⟩ := how.put hrow
    simp only [Option.some.injEq, Addr.mk.injEq, and_true] at hpb
    subst hpb
    obtain ⟨k0, k1, kp, kn, kc, kz, rfl, hkd, _⟩ := open_Pos hrep rfl
    have hk0 : s[kk].1 = k0 := by
      have := congrArg strOf hkd
      exact this
    have hld2 : Loads P T_string (((⟨b, 0, none⟩ : Addr).add (kk * 3)).add 0) (.string k0) wk := hblk.loadAt (kk * 3) (by rw [addr_add, addr_add, Nat.zero_add, Nat.add_zero]) (by kernel_rfl) (by rw [List.append_assoc, ← hxl, List.getElem?_append_right (Nat.le_refl _), Nat.sub_self]; rfl)
    rw [Int.toNat_natCast]
    refine ⟨⟨by omega, by omega⟩, _, hld2, fun hl => exW ⟨by omega, by omega⟩ ⟨⟨kk + 1, rfl, by omega, fun a y hy ha => ?_, hxk⟩, by show n - ((kk : Int) + 1).toNat < n - (kk : Int).toNat; omega⟩, fun hnl => ?_⟩
    · by_cases hak : a < kk
      · exact hless a y hy hak
      · have : a = kk := by omega
        subst this
        rw [List.getElem?_eq_getElem hks] at hy
        simp only [Option.some.injEq] at hy
        rw [← hy, hk0]
        exact hl
    · have hpos : kk = posOf s who := posOf_unique (by omega) hless (fun y hy => by
        rw [List.getElem?_eq_getElem hks] at hy
        simp only [Option.some.injEq] at hy
        rw [← hy, hk0]
        exact hnl)
      refine ⟨fun _ => ⟨⟨by omega, by omega⟩, _, hld2, ?_⟩, fun hh => absurd hkon (by have := of_decide_eq_false hh; omega)⟩
      have hhas : hasAt s who = decide (k0 = who) := by
        unfold hasAt
        rw [← hpos, List.getElem?_eq_getElem hks]
        show decide (s[kk].1 = who) = _
        rw [hk0]
      cases hh : decide (k0 = who) with
      | true => exact found hpos (hhas.trans hh)
      | false =>
        unfold spec_l16Add_j0
        exact ⟨fun h => absurd h (by simp), fun _ => new hpos (hhas.trans hh)⟩
  · have hkon : kk = n := by omega
    have hpos : kk = posOf s who := posOf_unique (by omega) hless (fun y hy => by
      rw [List.getElem?_eq_none (by omega)] at hy; cases hy)
    have hhas : hasAt s who = false := by
      unfold hasAt
      rw [← hpos, List.getElem?_eq_none (by omega)]
    unfold spec_l16Add_j2
    exact ⟨fun h => absurd h (by simp), fun _ => new hpos hhas⟩
theorem spec_Positions_o {w : World} (cur : ByteArray) {p : Option Addr} {n c : Nat} {l : List (List D0)} (h : RowsR w 5 p n c l) (hc : ∀ x ∈ l, x.map D0.code = [.str, .str, .str, .bool, .ints]) (hn : n ≤ 1048576) (hb : ∀ x ∈ l, bulks x ≤ 1048576) :
    Ret P n_spec_Positions [.string cur, .slice p n c] w fun v w' => ∃ p' n' c' f, v = .tuple #[.slice p' n' c', .bool (debtsOk cur l)] ∧ OwnRows w' w.heap.size T_impl_Pos 3 p' n' c' (posT cur l) f ∧ Ext w w' := by
  have hln := h.1
  refine spec_Positions_ret ?_
  unfold spec_Positions
  refine Ret.at (spec_DebtsOk_c cur h hc hn hb) ?_
  rintro v w0 ⟨hv, y0⟩
  subst hv
  refine ⟨_, rfl, ifN (fun hno => ⟨none, 0, 0, [], by rw [hno], ?_, y0⟩) (fun hok => ?_)⟩
  · have : posT cur l = [] := by unfold posT; rw [hno]; rfl
    rw [this]; exact ⟨rfl, [], [], trivial, Own.nil _ _ _ _, by simp, by simp⟩
  obtain ⟨hl20, hall⟩ := debts_facts hok
  intro r w1 hn1
  have e1 := hn1.r_eq; have z1 := hn1.size
  have ly0 := y0.le
  refine ⟨fun op on oc i wr => ∃ (j b : Nat) (f : List Nat), op = some ⟨b, 0, none⟩ ∧ i = j ∧ j ≤ n ∧ OwnRows wr w.heap.size T_impl_Pos 3 op on oc (sumsRows (posTo l j)) f ∧ Ext w wr, fun _ _ _ i _ => n - i.toNat, ⟨0, r, [r], rfl, rfl, Nat.zero_le _, OwnRows.fresh hn1 (by omega), y0.trans hn1.ext⟩, ?_⟩
  intro junk wr op on oc i ⟨j, b, f, hop, hij, hj, ho, hx⟩
  subst hij
  subst hop
  refine ifD (fun hlt => ?_) (fun hge => ?_)
  rotate_left
  · have hjn : j = n := by omega
    subst hjn
    refine ⟨_, _, _, f, by rw [hok], ?_, hx⟩
    have : posT cur l = sumsRows (posTo l j) := by unfold posT; rw [hok, if_pos rfl, hln]
    rw [this]
    exact ho
  have hjn : j < n := by omega
  have hjl : j < l.length := by omega
  have hm : l[j] ∈ l := List.getElem_mem hjl
  obtain ⟨from_, to_, dc, u, he, hu, hkv, hab, hiu⟩ := debt_facts (hc _ hm) (hall _ hm)
  obtain ⟨bl, offl, hpl, hsl0⟩ := h.2.2.2 (by omega)
  subst hpl
  obtain ⟨cs, hk, hr0, hsg⟩ := hsl0 j _ (List.getElem?_eq_getElem hjl)
  rw [he] at hr0
  obtain ⟨s0, s1, s2, s3, sp, sn, sc, sz, rfl, hd, hsi⟩ := open_Debt hr0 rfl
  simp only [enc, List.cons.injEq, D0.str.injEq, D0.bool.injEq, D0.ints.injEq, and_true] at hd
  obtain ⟨rfl, rfl, rfl, rfl, rfl⟩ := hd
  have hru : ∀ W, Ext w W → Reps W [.bool (decide (u < 0)), .slice sp sn sc] (enc u) := fun W hW => ⟨rfl, ⟨_, _, _, rfl, hsi.ext hW⟩, trivial⟩
  have hld : Loads P T_impl_Debt ((⟨bl, offl, none⟩ : Addr).add (j * 5)) (.agg ⟨[.string from_, .string to_, .string dc, .bool (decide (u < 0)), .slice sp sn sc]⟩) wr := (hsg.ext hx).loadAAt 0 _ (by rw [addr_add]; rfl) (by kernel_rfl) rfl
  refine ⟨⟨by omega, by omega⟩, _, _, _, _, _, _, _, by rw [Int.toNat_natCast]; exact hld, ?_⟩
  intro r1 w3 hn3
  have e3 := hn3.r_eq
  obtain ⟨w4, st4, b4, y4⟩ := hn3.fill (P := P) (t := T_impl_Debt) (xs := [.string from_, .string to_, .string dc, .bool (decide (u < 0)), .slice sp sn sc]) (by simp [Value.oneCell']) (by kernel_rfl) rfl
  have lx := hx.le; have l4 := y4.le
  have hsl := ho.1
  rw [sumsRows_len] at hsl
  have hslen := posTo_len l j (by omega)
  have hsz := pos40 hc hok (j := j) (by omega)
  have d4 := Ext.drew w4
  have X4 := (hx.trans y4).trans d4
  refine ⟨w4, st4, _, fun W hW => (b4.ext (d4.trans hW)).loadAt 0 rfl (by kernel_rfl) rfl, _, _, _, _, fun W hW => (b4.ext (d4.trans hW)).loadAAt 3 [.bool (decide (u < 0)), .slice sp sn sc] rfl (by kernel_rfl) rfl, ?_⟩
  refine Ret.at (spec_IntNeg_c (hru _ X4) hiu) ?_
  rintro v w5 ⟨vs5, f5, hv, ho5, nd5, y5⟩
  subst hv
  obtain ⟨g0, gp, gn, gc', gz, rfl, _, _⟩ := open_Signed ho5.reps (enc_code _)
  have X5 := X4.trans y5
  have Y5 := (y4.trans d4).trans y5
  have lY5 := Y5.le
  refine ⟨_, _, _, _, rfl, y5, ?_⟩
  have hBb : w.heap.size ≤ b ∧ b < wr.heap.size := ho.lt b (by obtain ⟨_, _, _, _, _, hf, _⟩ := ho; rw [hf]; simp)
  refine Ret.at (spec_l16Add_c (ho.ext Y5) (posTo_ordered l j (by omega)) (by omega) (by omega) ho5.reps (by rw [Int.natAbs_neg]; exact hu) (fun x hx => Nat.le_trans (hsz x hx) (by decide)) from_) ?_
  rintro v w6 ⟨b2, n2, c2, f2, hv, ho6, hch6⟩
  subst hv
  have X6 : Ext w w6 := X5.chg hch6 (by simp; omega)
  have lc6 := hch6.size
  have lb4 := b4.lt
  have b46 := (b4.ext (d4.trans y5)).chg hch6 (by simp; omega)
  have hs1 := sumAdd_ordered (c := from_) (u := -u) (posTo_ordered l j (by omega))
  have hn2 := ho6.1
  rw [sumsRows_len] at hn2
  have hlen1 := (sumAdd_len (posTo l j) from_ (-u)).1
  have hsz1 := sumAdd_bound (c := from_) (u := -u) (N := 1000000000000000000000000000000000000) hsz (by rw [Int.natAbs_neg]; exact hu)
  refine ⟨_, _, _, rfl, _, b46.loadAt 1 rfl (by kernel_rfl) rfl, _, _, _, _, b46.loadAAt 3 [.bool (decide (u < 0)), .slice sp sn sc] rfl (by kernel_rfl) rfl, ?_⟩
  refine Ret.at (spec_l16Add_c ho6 hs1 (by omega) (by omega) (hru _ X6) hu (fun x hx => Nat.le_trans (hsz1 x hx) (by decide)) to_) ?_
  rintro v w7 ⟨b3, n3, c3, f3, hv, ho7, hch7⟩
  subst hv
  have hB2 : w.heap.size ≤ b2 := (ho6.lt b2 (by obtain ⟨_, _, _, _, _, hf, _⟩ := ho6; rw [hf]; simp)).1
  refine ⟨_, _, _, rfl, exW ⟨by omega, by omega⟩ ⟨⟨j + 1, b3, f3, rfl, rfl, by omega, ?_, X6.chg hch7 (by simp; omega)⟩, by show n - ((j : Int) + 1).toNat < n - (j : Int).toNat; omega⟩⟩
  rw [posTo_succ hjl]
  unfold posStep
  rw [hkv]
  show OwnRows w7 _ _ _ _ _ _ (sumsRows (sumAdd (sumAdd (posTo l j) to_ u) from_ (-u))) f3
  rw [sumAdd_comm (fun e => hab e.symm) u (-u) (posTo_ordered l j (by omega))]
  exact ho7
end Go.Proofs.YtdidocmbcfbjdaaDoor

namespace Go.Proofs.YtdidocmbcfbjdaaDoor
open Go Go.Proofs.YtdidocmbcfbjdaaDoor.Sx
set_option linter.unusedVariables false
set_option linter.unusedSimpArgs false
theorem sgn_neg0 {z : Int} : sgn z < 0 ↔ z < 0 := by unfold sgn; split <;> (try split) <;> omega
theorem sgn_pos0 {z : Int} : 0 < sgn z ↔ 0 < z := by unfold sgn; split <;> (try split) <;> omega
theorem sgn_nn0 {z : Int} : 0 ≤ sgn z ↔ 0 ≤ z := by unfold sgn; split <;> (try split) <;> omega
theorem sgn_range (z : Int) : -1 ≤ sgn z ∧ sgn z ≤ 1 := by unfold sgn; split <;> (try split) <;> omega
def valAt (s : List (ByteArray × Int)) (i : Nat) : Int := (s.getD i (ByteArray.empty, 0)).2
def keyAt (s : List (ByteArray × Int)) (i : Nat) : ByteArray := (s.getD i (ByteArray.empty, 0)).1
theorem at_get {s : List (ByteArray × Int)} {i : Nat} (h : i < s.length) : s[i] = (keyAt s i, valAt s i) := by
  unfold keyAt valAt
  rw [List.getD_eq_getElem?_getD, List.getElem?_eq_getElem h]
  rfl
theorem val_mem {s : List (ByteArray × Int)} {i : Nat} (h : i < s.length) : (keyAt s i, valAt s i) ∈ s := by
  rw [← at_get h]; exact List.getElem_mem h
def better (up : Bool) (x y : Int) : Bool := if up then decide (y < x) else decide (x < y)
def bestTo (up : Bool) (s : List (ByteArray × Int)) : Nat → Nat
  | 0 => 0
  | i + 1 => if better up (valAt s i) (valAt s (bestTo up s i)) then i else bestTo up s i
theorem bestTo_lt (up : Bool) (s : List (ByteArray × Int)) : ∀ i, bestTo up s i ≤ i - 1
  | 0 => Nat.le_refl _
  | i + 1 => by
    have := bestTo_lt up s i
    unfold bestTo
    split <;> omega
theorem bestTo_in (up : Bool) {s : List (ByteArray × Int)} {i : Nat} (h : i ≤ s.length) (h0 : 0 < s.length) : bestTo up s i < s.length := by
  have := bestTo_lt up s i
  omega
theorem bestTo_best (up : Bool) (s : List (ByteArray × Int)) : ∀ i j, j < i → better up (valAt s j) (valAt s (bestTo up s i)) = false
  | 0, j, h => by omega
  | i + 1, j, h => by
    have ih := bestTo_best up s i
    unfold bestTo
    by_cases hb : better up (valAt s i) (valAt s (bestTo up s i)) = true
    · rw [if_pos hb]
      by_cases hj : j = i
      · subst hj; cases up <;> simp [better]
      · have := ih j (by omega)
        cases up <;> simp [better] at this hb ⊢ <;> omega
    · rw [if_neg hb]
      by_cases hj : j = i
      · subst hj; simpa using hb
      · exact ih j (by omega)
def loOf (s : List (ByteArray × Int)) : Nat := bestTo false s s.length
def hiOf (s : List (ByteArray × Int)) : Nat := bestTo true s s.length
def total : List (ByteArray × Int) → Int
  | [] => 0
  | x :: r => x.2 + total r
def nzc : List (ByteArray × Int) → Nat
  | [] => 0
  | x :: r => (if x.2 = 0 then 0 else 1) + nzc r
def setVal (s : List (ByteArray × Int)) (i : Nat) (v : Int) : List (ByteArray × Int) := s.set i (keyAt s i, v)
theorem setVal_len (s : List (ByteArray × Int)) (i : Nat) (v : Int) : (setVal s i v).length = s.length := by simp [setVal]
theorem total_set : ∀ {s : List (ByteArray × Int)} {i : Nat} {v : Int}, i < s.length → total (setVal s i v) = total s - valAt s i + v
  | [], i, v, h => by simp at h
  | x :: r, 0, v, h => by simp [setVal, total, valAt]; omega
  | x :: r, i + 1, v, h => by
    have ih := total_set (s := r) (i := i) (v := v) (by simpa using h)
    have e : setVal (x :: r) (i + 1) v = x :: setVal r i v := by simp [setVal, keyAt]
    have e2 : valAt (x :: r) (i + 1) = valAt r i := by simp [valAt]
    rw [e, e2]
    simp only [total]
    omega
theorem nzc_set : ∀ {s : List (ByteArray × Int)} {i : Nat} {v : Int}, i < s.length → nzc (setVal s i v) + (if valAt s i = 0 then 0 else 1) = nzc s + (if v = 0 then 0 else 1)
  | [], i, v, h => by simp at h
  | x :: r, 0, v, h => by
    have e2 : valAt (x :: r) 0 = x.2 := by simp [valAt]
    rw [e2]
    simp [setVal, nzc]
    omega
  | x :: r, i + 1, v, h => by
    have ih := nzc_set (s := r) (i := i) (v := v) (by simpa using h)
    have e : setVal (x :: r) (i + 1) v = x :: setVal r i v := by simp [setVal, keyAt]
    have e2 : valAt (x :: r) (i + 1) = valAt r i := by simp [valAt]
    rw [e, e2]
    simp only [nzc]
    omega
theorem nzc_len : ∀ (s : List (ByteArray × Int)), nzc s ≤ s.length
  | [] => Nat.le_refl _
  | x :: r => by
    have := nzc_len r
    simp only [nzc, List.length_cons]
    split <;> omega
theorem total_le : ∀ {s : List (ByteArray × Int)}, (∀ i, i < s.length → valAt s i ≤ 0) → total s ≤ 0 ∧ ∀ i, i < s.length → total s ≤ valAt s i
  | [], _ => ⟨by simp [total], fun i h => by simp at h⟩
  | x :: r, h => by
    have h0 := h 0 (by simp)
    have e0 : valAt (x :: r) 0 = x.2 := by simp [valAt]
    have e2 : ∀ i, valAt (x :: r) (i + 1) = valAt r i := fun i => by simp [valAt]
    obtain ⟨h1, h2⟩ := total_le (s := r) (fun i hi => by have := h (i + 1) (by simpa using hi); rwa [e2] at this)
    rw [e0] at h0
    refine ⟨by simp only [total]; omega, fun i hi => ?_⟩
    match i, hi with
    | 0, _ => rw [e0]; simp only [total]; omega
    | i + 1, hi =>
      rw [e2]
      have := h2 i (by simpa using hi)
      simp only [total]; omega
theorem hi_pos {s : List (ByteArray × Int)} (h0 : 0 < s.length) (ht : total s = 0) (hl : valAt s (loOf s) < 0) : 0 < valAt s (hiOf s) := by
  apply Decidable.byContradiction
  intro hno
  have hall : ∀ i, i < s.length → valAt s i ≤ 0 := fun i hi => by
    have := bestTo_best true s s.length i hi
    simp [better] at this
    unfold hiOf at hno
    omega
  have := (total_le hall).2 (loOf s) (bestTo_in _ (Nat.le_refl _) h0)
  omega
theorem total_add : ∀ {s : List (ByteArray × Int)} {k : ByteArray} {u : Int}, total (sumAdd s k u) = total s + u
  | [], k, u => by simp [sumAdd, total]
  | x :: r, k, u => by
    have ih := total_add (s := r) (k := k) (u := u)
    unfold sumAdd
    split
    · simp only [total]; omega
    · split
      · simp only [total]; omega
      · simp only [total]; omega
theorem posTo_total (l : List (List D0)) : ∀ j, j ≤ l.length → total (posTo l j) = 0
  | 0, _ => rfl
  | j + 1, h => by
    rw [posTo_succ (by omega)]
    unfold posStep
    rw [total_add, total_add, posTo_total l j (by omega)]
    omega
def amt (s : List (ByteArray × Int)) : Int := if valAt s (hiOf s) < -valAt s (loOf s) then valAt s (hiOf s) else -valAt s (loOf s)
def stepS (s : List (ByteArray × Int)) : List (ByteArray × Int) :=
  let s1 := setVal s (loOf s) (valAt s (loOf s) + amt s)
  setVal s1 (hiOf s) (valAt s1 (hiOf s) - amt s)
def debtRow (cur : ByteArray) (s : List (ByteArray × Int)) : List D0 := .str (keyAt s (loOf s)) :: .str (keyAt s (hiOf s)) :: .str cur :: enc (amt s)
def settleF (cur : ByteArray) : Nat → List (ByteArray × Int) → List (List D0) → List (List D0) × Bool
  | 0, _, out => (out, true)
  | k + 1, s, out =>
    if 0 < s.length ∧ valAt s (loOf s) < 0 then
      if moneyOk (.str cur :: enc (amt s)) then settleF cur k (stepS s) (out ++ [debtRow cur s]) else ([], false)
    else (out, true)
theorem settle_stop {cur : ByteArray} {s : List (ByteArray × Int)} {out : List (List D0)} {k : Nat} (h : ¬ (0 < s.length ∧ valAt s (loOf s) < 0)) : settleF cur k s out = (out, true) := by
  cases k with
  | zero => rfl
  | succ k => unfold settleF; rw [if_neg h]
theorem valAt_set {s : List (ByteArray × Int)} {i j : Nat} {v : Int} (hi : i < s.length) : valAt (setVal s i v) j = if i = j then v else valAt s j := by
  unfold valAt setVal
  rw [List.getD_eq_getElem?_getD, List.getD_eq_getElem?_getD, List.getElem?_set]
  split
  · rfl
  · rfl
structure SInv (M : Nat) (s : List (ByteArray × Int)) : Prop where
  tot : total s = 0
  bnd : ∀ i, (valAt s i).natAbs ≤ M
theorem amt_facts {s : List (ByteArray × Int)} (h0 : 0 < s.length) (ht : total s = 0) (hl : valAt s (loOf s) < 0) :
    0 < amt s ∧ amt s ≤ valAt s (hiOf s) ∧ amt s ≤ -valAt s (loOf s) ∧ (amt s = valAt s (hiOf s) ∨ amt s = -valAt s (loOf s)) ∧ loOf s ≠ hiOf s := by
  have hp := hi_pos h0 ht hl
  refine ⟨?_, ?_, ?_, ?_, fun e => by rw [e] at hl; omega⟩ <;> unfold amt <;> split <;> omega
theorem step_facts {M : Nat} {s : List (ByteArray × Int)} (h0 : 0 < s.length) (h : SInv M s) (hl : valAt s (loOf s) < 0) :
    SInv M (stepS s) ∧ (stepS s).length = s.length ∧ nzc (stepS s) + 1 ≤ nzc s ∧ valAt (setVal s (loOf s) (valAt s (loOf s) + amt s)) (hiOf s) = valAt s (hiOf s) := by
  obtain ⟨ha, hb, hc, hd, hne⟩ := amt_facts h0 h.tot hl
  have l1 : loOf s < s.length := bestTo_in _ (Nat.le_refl _) h0
  have l2 : hiOf s < s.length := bestTo_in _ (Nat.le_refl _) h0
  have hv : valAt (setVal s (loOf s) (valAt s (loOf s) + amt s)) (hiOf s) = valAt s (hiOf s) := by rw [valAt_set l1, if_neg hne]
  have l3 : hiOf s < (setVal s (loOf s) (valAt s (loOf s) + amt s)).length := by rw [setVal_len]; exact l2
  have t1 := total_set (v := valAt s (loOf s) + amt s) l1
  have t2 := total_set (v := valAt s (hiOf s) - amt s) l3
  have n1 := nzc_set (v := valAt s (loOf s) + amt s) l1
  have n2 := nzc_set (v := valAt s (hiOf s) - amt s) l3
  have b1 := h.bnd (loOf s)
  have b2 := h.bnd (hiOf s)
  have htt := h.tot
  have e : stepS s = setVal (setVal s (loOf s) (valAt s (loOf s) + amt s)) (hiOf s) (valAt s (hiOf s) - amt s) := by
    show setVal (setVal s (loOf s) (valAt s (loOf s) + amt s)) (hiOf s) (valAt (setVal s (loOf s) (valAt s (loOf s) + amt s)) (hiOf s) - amt s) = _
    rw [hv]
  rw [hv] at t2 n2
  rw [e]
  refine ⟨⟨by omega, fun i => ?_⟩, by rw [setVal_len, setVal_len], ?_, hv⟩
  · rw [valAt_set l3]
    split
    · omega
    · rw [valAt_set l1]
      split
      · omega
      · exact h.bnd i
  · rw [if_neg (by omega)] at n1 n2
    rcases hd with hd | hd
    · rw [if_pos (show valAt s (hiOf s) - amt s = 0 by omega)] at n2
      split at n1 <;> omega
    · rw [if_pos (show valAt s (loOf s) + amt s = 0 by omega)] at n1
      split at n2 <;> omega
def settleR (cur : ByteArray) (l : List (List D0)) : List (List D0) × Bool :=
  if debtsOk cur l then settleF cur (posTo l l.length).length (posTo l l.length) [] else ([], false)
theorem settleF_code (cur : ByteArray) : ∀ (k : Nat) (s : List (ByteArray × Int)) (out : List (List D0)), (∀ x ∈ out, x.map D0.code = [.str, .str, .str, .bool, .ints]) → ∀ x ∈ (settleF cur k s out).1, x.map D0.code = [.str, .str, .str, .bool, .ints]
  | 0, _, out, h => h
  | k + 1, s, out, h => by
    unfold settleF
    split
    · split
      · refine settleF_code cur k _ _ (fun x hx => ?_)
        rcases List.mem_append.1 hx with hx | hx
        · exact h x hx
        · simp only [List.mem_singleton] at hx; subst hx; rfl
      · intro x hx; simp at hx
    · exact h
theorem settleR_code (cur : ByteArray) (l : List (List D0)) : ∀ x ∈ (settleR cur l).1, x.map D0.code = [.str, .str, .str, .bool, .ints] := by
  unfold settleR
  split
  · exact settleF_code _ _ _ _ (fun x hx => by simp at hx)
  · intro x hx; simp at hx
theorem cntL_snoc : ∀ (l : List (List D0)) (x : List D0), cntL (l ++ [x]) = cntL l + cnts x
  | [], x => by simp [cntL]
  | y :: l, x => by
    have := cntL_snoc l x
    have e1 : cntL (y :: l ++ [x]) = cnts y + cntL (l ++ [x]) := rfl
    have e2 : cntL (y :: l) = cnts y + cntL l := rfl
    omega
theorem settleF_cnt (cur : ByteArray) : ∀ (k : Nat) (s : List (ByteArray × Int)) (out : List (List D0)), 0 ≤ cntL out → SInv 40000000000000000000000000000000000000 s → cntL (settleF cur k s out).1 ≤ cntL out + (k : Nat) * 10
  | 0, _, out, h0, h => by show cntL out ≤ _; omega
  | k + 1, s, out, h0, h => by
    unfold settleF
    split
    · rename_i hc
      obtain ⟨ha, hb, _, _, _⟩ := amt_facts hc.1 h.tot hc.2
      have hbn := h.bnd (hiOf s)
      have hl : (digs (amt s).natAbs).length ≤ 6 := digs_len_le (by omega)
      have he : cnts (debtRow cur s) = 1 + (1 + (1 + (1 + (((digs (amt s).natAbs).length : Nat) + 0)))) := rfl
      have hsn := cntL_snoc out (debtRow cur s)
      split
      · have := settleF_cnt cur k (stepS s) (out ++ [debtRow cur s]) (by omega) (step_facts hc.1 h hc.2).1
        omega
      · show cntL [] ≤ _
        simp [cntL]; omega
    · show cntL out ≤ _; omega
theorem pos_inv {cur : ByteArray} {l : List (List D0)} (hc : ∀ x ∈ l, x.map D0.code = [.str, .str, .str, .bool, .ints]) (hok : debtsOk cur l = true) : SInv 40000000000000000000000000000000000000 (posTo l l.length) := by
  refine ⟨posTo_total l _ (Nat.le_refl _), fun i => ?_⟩
  by_cases hi : i < (posTo l l.length).length
  · exact pos40 hc hok (Nat.le_refl _) _ (val_mem hi)
  · unfold valAt
    rw [List.getD_eq_getElem?_getD, List.getElem?_eq_none (by omega)]
    simp
theorem settleR_cnt {cur : ByteArray} {l : List (List D0)} (hc : ∀ x ∈ l, x.map D0.code = [.str, .str, .str, .bool, .ints]) : cntL (settleR cur l).1 ≤ 1000000000 := by
  unfold settleR
  split
  · rename_i h
    have h1 := settleF_cnt cur (posTo l l.length).length (posTo l l.length) [] (by simp [cntL]) (pos_inv hc h)
    have h3 := posTo_len l l.length (Nat.le_refl _)
    have h4 := (debts_facts h).1
    have h5 : cntL ([] : List (List D0)) = 0 := rfl
    omega
  · decide
/-- what lies at a place, and what is put there -/
theorem at_row {w : World} {B b n c i : Nat} {s : List (ByteArray × Int)} {f : List Nat} {e : TypeId} (ho : OwnRows w B e 3 (some ⟨b, 0, none⟩) n c (sumsRows s) f) (hi : i < s.length) (ht : aggT P T_impl_Signed 2 = true) (htp : aggT P T_impl_Pos 3 = true) :
    ∃ (kp : Option Addr) (kn kc : Nat), B ≤ b ∧ b < w.heap.size ∧ b ∈ f ∧
      (∀ W, Ext w W → ∀ t, cellT P t = true → Loads P t (((⟨b, 0, none⟩ : Addr).add (i * 3)).add 0) (.string (keyAt s i)) W) ∧
      (∀ W, Ext w W → Loads P T_impl_Signed (((⟨b, 0, none⟩ : Addr).add (i * 3)).add 1) (.agg #[.bool (decide (valAt s i < 0)), .slice kp kn kc]) W) ∧
      (∀ W, Ext w W → ∀ t, cellT P t = true → Loads P t ((((⟨b, 0, none⟩ : Addr).add (i * 3)).add 1).add 1) (.slice kp kn kc) W) ∧
      (∀ W, Ext w W → Loads P T_impl_Pos ((⟨b, 0, none⟩ : Addr).add (i * 3)) (.agg #[.string (keyAt s i), .bool (decide (valAt s i < 0)), .slice kp kn kc]) W) ∧
      (∃ fi, Owns w B [.bool (decide (valAt s i < 0)), .slice kp kn kc] (enc (valAt s i)) fi ∧ b ∉ fi ∧ ∀ y ∈ fi, y ∈ f) ∧
      ∀ (v : Int) (W8 : World) (b8 : Bool) (p8 : Option Addr) (n8 c8 : Nat) (f8 : List Nat), Ext w W8 → Owns W8 B [.bool b8, .slice p8 n8 c8] (enc v) f8 → f8.Nodup → (∀ q ∈ f8, w.heap.size ≤ q) →
        ∃ w9 f9, Stores P T_impl_Signed (((⟨b, 0, none⟩ : Addr).add (i * 3)).add 1) (.agg #[.bool b8, .slice p8 n8 c8]) W8 w9 ∧ OwnRows w9 B e 3 (some ⟨b, 0, none⟩) n c (sumsRows (setVal s i v)) f9 ∧ Chg [b] W8 w9 ∧ w9.heap.size = W8.heap.size ∧ (∀ q ∈ f9, q ∈ f ∨ q ∈ f8) := by
  have hrow : (sumsRows s)[i]? = some (.str (keyAt s i) :: enc (valAt s i)) := by
    unfold sumsRows
    rw [List.getElem?_map, List.getElem?_eq_getElem hi, at_get hi]
    rfl
  obtain ⟨b', xs, cs5, zs, hpb, hbB, hbf, hxl, hcl, hblk, hrep, hput⟩ := ho.put hrow
  simp only [Option.some.injEq, Addr.mk.injEq, and_true] at hpb
  obtain rfl := hpb
  obtain ⟨k0, k1, kp, kn, kc, kz, rfl, hkd, hki⟩ := open_Pos hrep rfl
  simp only [enc, List.cons.injEq, D0.str.injEq, D0.bool.injEq, D0.ints.injEq, and_true] at hkd
  obtain ⟨rfl, rfl, rfl⟩ := hkd
  obtain ⟨b2, xs2, cs2, zs2, fi, hpb2, _, hxl2, hcl2, hblk2, how2, _, hbfi, _, hfif, _⟩ := ho.focus hrow
  simp only [Option.some.injEq, Addr.mk.injEq, and_true] at hpb2
  obtain rfl := hpb2
  have hsame : xs ++ [Value.string (keyAt s i), .bool (decide (valAt s i < 0)), .slice kp kn kc] ++ zs = xs2 ++ cs2 ++ zs2 := by
    have := hblk.symm.trans hblk2
    simpa using this
  have hcs2 : cs2 = [Value.string (keyAt s i), .bool (decide (valAt s i < 0)), .slice kp kn kc] := by
    have h1 := (List.append_inj (by simpa only [List.append_assoc] using hsame) (by omega)).2
    exact ((List.append_inj h1 (by rw [hcl2]; rfl)).1).symm
  subst hcs2
  have hown : Owns w B [.bool (decide (valAt s i < 0)), .slice kp kn kc] (enc (valAt s i)) fi := by
    obtain ⟨f1, f2, hf, h1, h2⟩ := how2
    rw [h1.2] at hf
    rw [hf]; exact h2
  have hget : ∀ (j : Nat) (v : Value), [Value.string (keyAt s i), .bool (decide (valAt s i < 0)), .slice kp kn kc][j]? = some v → (xs ++ [Value.string (keyAt s i), .bool (decide (valAt s i < 0)), .slice kp kn kc] ++ zs)[i * 3 + j]? = some v := fun j v hj => by
    have hj3 := (List.getElem?_eq_some_iff.1 hj).1
    rw [List.append_assoc, List.getElem?_append_right (by omega), hxl, Nat.add_sub_cancel_left, List.getElem?_append_left hj3]
    exact hj
  refine ⟨kp, kn, kc, hbB, hblk.lt, hbf, fun W hW t ht => (hblk.ext hW).loadAt (i * 3 + 0) (by rw [addr_add, addr_add, Nat.zero_add]) ht (hget 0 _ rfl),
    fun W hW => (hblk.ext hW).loadAAt (i * 3 + 1) [.bool (decide (valAt s i < 0)), .slice kp kn kc] (by rw [addr_add, addr_add, Nat.zero_add]) ht (by rw [← hxl, List.append_assoc, List.drop_length_add_append]; rfl),
    fun W hW t ht => (hblk.ext hW).loadAt (i * 3 + 2) (by rw [addr_add, addr_add, addr_add, Nat.zero_add]) ht (hget 2 _ rfl),
    fun W hW => (hblk.ext hW).loadAAt (i * 3) [.string (keyAt s i), .bool (decide (valAt s i < 0)), .slice kp kn kc] (by rw [addr_add, Nat.zero_add]) htp (by rw [← hxl, List.append_assoc, List.drop_left]; rfl),
    ⟨fi, hown, hbfi, hfif⟩, ?_⟩
  intro v W8 b8 p8 n8 c8 f8 hx h8 hn8 hf8
  have hblk8 := hblk.ext hx
  obtain ⟨w9, st9, hb9, ch9, sz9⟩ := hblk8.storeA (P := P) (t := T_impl_Signed) (k := i * 3 + 1) (xs := [.bool b8, .slice p8 n8 c8]) ht (by simp only [List.length_append, List.length_cons, List.length_nil]; omega) (by simp [Value.oneCell'])
  have hnew : (xs ++ [Value.string (keyAt s i), Value.bool (decide (valAt s i < 0)), Value.slice kp kn kc] ++ zs).take (i * 3 + 1) ++ [Value.bool b8, .slice p8 n8 c8] ++ (xs ++ [Value.string (keyAt s i), Value.bool (decide (valAt s i < 0)), Value.slice kp kn kc] ++ zs).drop (i * 3 + 1 + [Value.bool b8, .slice p8 n8 c8].length) = xs ++ [Value.string (keyAt s i), Value.bool b8, .slice p8 n8 c8] ++ zs := by
    rw [← hxl, List.append_assoc xs, List.take_length_add_append, Nat.add_assoc, List.drop_length_add_append]
    simp
  rw [hnew] at hb9
  have hbl := hblk.lt
  have ho9 : Owns w9 B [.string (keyAt s i), .bool b8, .slice p8 n8 c8] (.str (keyAt s i) :: enc v) f8 := Owns.append (Owns.str _ _ (keyAt s i)) (h8.chg ch9 (fun k hk hm => by
    have := hf8 k hk
    simp at hm; omega))
  obtain ⟨f9, hor9, hf9⟩ := hput w9 _ _ f8 (hx.toChg.trans ch9) rfl hb9 ho9 hn8 (fun y hy hm => by have := hf8 y hy; have := (ho.lt y hm).2; omega)
  refine ⟨w9, f9, ?_, ?_, ch9, sz9, hf9⟩
  · rw [addr_add] at st9
    rw [addr_add, addr_add, Nat.zero_add]
    rw [Nat.zero_add] at st9
    exact st9
  · have : sumsRows (setVal s i v) = (sumsRows s).set i (.str (keyAt s i) :: enc v) := by
      unfold sumsRows setVal
      rw [List.map_set]
    rw [this]
    exact hor9
theorem OwnRows_pushF {P : Program} {w : World} {B : Nat} {t e : TypeId} {z : Value} {k bytes : Nat} {p : Option Addr} {n c r : Nat} {l : List (List D0)} {f fx : List Nat} {cs : List Value} {x : List D0} (h : OwnRows w B e k p n c l f)
    (hT : sliceT P t e z k bytes) (hb : B ≤ w.heap.size) (hr : Blk w r e cs) (hl : cs.length = k) (ho : Owns w B cs x fx) (hfx : fx.Nodup) (hdis : ∀ q ∈ fx, q ∉ f)
    (hbytes : (n + 1) * bytes ≤ 140737488355328) (hby : 1 ≤ bytes) :
    ∃ p' c' w' f', Appends P [t, t] [.slice p n c, .slice (some ⟨r, 0, none⟩) 1 1] (.slice p' (n + 1) c') w w' ∧ OwnRows w' B e k p' (n + 1) c' (l ++ [x]) f' ∧ Chg (p.map (·.block)).toList w w' ∧
      (∀ q ∈ f', q ∈ f ∨ q ∈ fx ∨ w.heap.size ≤ q) := by
  obtain ⟨hln, css, fs, ha, hown, rfl, hnd⟩ := h
  obtain ⟨p', c', w', hrun, hown', hch, hp⟩ := hown.push1 hT hb hr hl ho.reps.cells1 hbytes hby
  have hpl : ∀ q ∈ (p.map (·.block)).toList, B ≤ q := fun q hq => (World.ownsRow.lt hown q (by cases p <;> simp_all [Value.ownBlock])).1
  have hnd1 := (List.nodup_append.1 hnd)
  have hpin : ∀ q ∈ fs.flatten, q ∉ (p.map (·.block)).toList := fun q hq hm => hnd1.2.2 q hm q hq rfl
  have hpx : ∀ q ∈ fx, q ∉ (p.map (·.block)).toList := fun q hq hm => hdis q hq (List.mem_append_left _ hm)
  have hlt : ∀ q ∈ fs.flatten ++ fx, q < w.heap.size := fun q hq => by
    rcases List.mem_append.1 hq with hq | hq
    · exact (ha.lt q hq).2
    · exact (ho.lt q hq).2
  have e : (fs ++ [fx]).flatten = fs.flatten ++ fx := by simp
  refine ⟨p', c', w', (p'.map (·.block)).toList ++ (fs ++ [fx]).flatten, hrun, ⟨by simp [hln], css ++ [cs], fs ++ [fx], (ha.chg hch hpin).snoc hl (ho.chg hch hpx), by simpa using hown', rfl, ?_⟩, hch, fun q hq => by
    rw [e] at hq
    rcases List.mem_append.1 hq with hq | hq
    · have hpa := opt_mem hq
      rcases hp with hp | hp
      · rw [hp] at hpa
        exact .inl (List.mem_append_left _ (mem_opt hpa))
      · exact .inr (.inr (hp q hpa))
    · rcases List.mem_append.1 hq with hq | hq
      · exact .inl (List.mem_append_right _ hq)
      · exact .inr (.inl hq)⟩
  rw [e, List.nodup_append]
  refine ⟨by cases p' <;> simp, ?_, ?_⟩
  · rw [List.nodup_append]
    exact ⟨hnd1.2.1, hfx, fun a ha b hb e => hdis b hb (by rw [← e]; exact List.mem_append_right _ ha)⟩
  · intro a ha b hb hab
    subst hab
    have hpa := opt_mem ha
    rcases hp with hp | hp
    · rw [hp] at hpa
      have ham : a ∈ (p.map (·.block)).toList := mem_opt hpa
      rcases List.mem_append.1 hb with hb | hb
      · exact hpin a hb ham
      · exact hpx a hb ham
    · have := hp a hpa
      have := hlt a hb
      omega
end Go.Proofs.YtdidocmbcfbjdaaDoor

namespace Go.Proofs.YtdidocmbcfbjdaaDoor
open Go Go.Proofs.YtdidocmbcfbjdaaDoor.Sx
set_option linter.unusedVariables false
set_option linter.unusedSimpArgs false
theorem hlim {x : Int} (h : x.natAbs ≤ 400000000000000000000000000000000000000) : (digs x.natAbs).length ≤ 10000000 := by
  have := digs_len_le (n := x.natAbs) (by omega)
  omega
theorem by_better (up : Bool) (x y : Int) : (cond up (-1) 1) * sgn (x - y) < 0 ↔ better up x y = true := by
  have h1 := @sgn_neg0 (x - y)
  have h2 := @sgn_pos0 (x - y)
  cases up with
  | true =>
    simp only [cond_true, better, if_true, decide_eq_true_eq]
    omega
  | false =>
    simp only [cond_false, better, Bool.false_eq_true, if_false, decide_eq_true_eq]
    omega
theorem impl_extreme_c {w : World} {B b n c : Nat} {s : List (ByteArray × Int)} {f : List Nat} {e : TypeId} (up : Bool) (ho : OwnRows w B e 3 (some ⟨b, 0, none⟩) n c (sumsRows s) f) (hn : 0 < n) (hN : n ≤ 1000) (hS : SInv 40000000000000000000000000000000000000 s) :
    Ret P n_impl_extreme [.slice (some ⟨b, 0, none⟩) n c, .int .i64 (cond up (-1) 1)] w fun v w' => v = .int .i64 ((bestTo up s s.length : Nat) : Int) ∧ Ext w w' := by
  have hsl := ho.1
  rw [sumsRows_len] at hsl
  refine impl_extreme_ret ?_
  unfold impl_extreme
  refine ⟨fun bi i wr => ∃ j : Nat, i = j ∧ bi = ((bestTo up s j : Nat) : Int) ∧ j ≤ n ∧ Ext w wr, fun _ i _ => n - i.toNat, ⟨0, rfl, rfl, Nat.zero_le _, Ext.refl w⟩, ?_⟩
  intro junk wr bi i ⟨j, hi, hbi, hjn, hx⟩
  subst hi
  subst hbi
  refine ifD (fun hlt => ?_) (fun hge => ⟨by have : j = s.length := by omega
                                             rw [this], hx⟩)
  have hj : j < s.length := by omega
  have hbl : bestTo up s j < s.length := bestTo_in up (by omega) (by omega)
  obtain ⟨kp, kn, kc, _, _, _, _, ld1, _, _, ⟨f1, rep1, _⟩, _⟩ := at_row (ho.ext hx) hj (by kernel_rfl) (by kernel_rfl)
  obtain ⟨kp2, kn2, kc2, _, _, _, _, ld2, _, _, ⟨f2, rep2, _⟩, _⟩ := at_row (ho.ext hx) hbl (by kernel_rfl) (by kernel_rfl)
  have d := Ext.drew wr
  have b1 := hS.bnd j
  have b2 := hS.bnd (bestTo up s j)
  refine ⟨⟨by omega, by omega⟩, _, _, _, _, fun W hW => ld1 W (d.trans hW), ⟨by omega, by omega⟩, _, _, _, _, fun W hW => ld2 W (d.trans hW), ?_⟩
  refine Ret.at (impl_intCmp_c (rep1.reps.ext d) (rep2.reps.ext d) (hlim (by omega)) (hlim (by omega))) ?_
  rintro v w3 ⟨hv, y⟩
  subst hv
  have hsr := sgn_range (valAt s j - valAt s (bestTo up s j))
  have hbb := by_better up (valAt s j) (valAt s (bestTo up s j))
  refine ⟨_, rfl, exW ?_ (ifD (fun hb => ?_) (fun hb => ?_))⟩
  · cases up with
    | true => simp only [cond_true]; omega
    | false => simp only [cond_false]; omega
  · unfold impl_extreme_j0
    refine exW ⟨by omega, by omega⟩ ⟨⟨j + 1, rfl, ?_, by omega, (hx.trans d).trans y⟩, by show n - ((j : Int) + 1).toNat < n - (j : Int).toNat; omega⟩
    have : bestTo up s (j + 1) = j := by rw [bestTo, if_pos (hbb.1 hb)]
    rw [this]
  · unfold impl_extreme_j0
    refine exW ⟨by omega, by omega⟩ ⟨⟨j + 1, rfl, ?_, by omega, (hx.trans d).trans y⟩, by show n - ((j : Int) + 1).toNat < n - (j : Int).toNat; omega⟩
    have : bestTo up s (j + 1) = bestTo up s j := by rw [bestTo, if_neg (mt hbb.2 hb)]
    rw [this]
def SetI (w : World) (cur : ByteArray) (s0 : List (ByteArray × Int)) (ps : Option Addr) (n c : Nat) (op : Option Addr) (on oc : Nat) (wr : World) : Prop :=
  ∃ s out fs fo, OwnRows wr w.heap.size T_impl_Pos 3 ps n c (sumsRows s) fs ∧ OwnRows wr w.heap.size T_impl_Debt 5 op on oc out fo ∧ (∀ q ∈ fo, q ∉ fs) ∧ Ext w wr ∧ SInv 40000000000000000000000000000000000000 s ∧ s.length = n ∧ on + nzc s ≤ n ∧ settleF cur (n - on) s out = settleF cur n s0 []
def SetQ (w : World) (cur : ByteArray) (n : Nat) (s0 : List (ByteArray × Int)) (v : Value) (w' : World) : Prop :=
  ∃ p' n' c' f, v = .tuple #[.slice p' n' c', .bool (settleF cur n s0 []).2] ∧ OwnRows w' w.heap.size T_impl_Debt 5 p' n' c' (settleF cur n s0 []).1 f ∧ Ext w w'
theorem no_rows (w : World) (B : Nat) (e : TypeId) (k : Nat) : OwnRows w B e k none 0 0 [] [] := ⟨rfl, [], [], trivial, Own.nil _ _ _ _, by simp, by simp⟩
theorem sliceT_debt : sliceT P T_s_impl_Debt T_impl_Debt (.agg ⟨[.string ByteArray.empty, .string ByteArray.empty, .string ByteArray.empty, .bool false, .slice none 0 0]⟩) 5 80 := ⟨by kernel_rfl, by kernel_rfl, rfl, by decide⟩
set_option maxHeartbeats 1000000 in
theorem impl_Settle_j1_c {w wr W : World} {cur : ByteArray} {s s0 : List (ByteArray × Int)} {out : List (List D0)} {b n c r1 : Nat} {fs fo fa : List Nat} {op : Option Addr} {on oc : Nat} {ap : Option Addr} {an ac : Nat}
    (ht : Tab w) (ho : OwnRows W w.heap.size T_impl_Pos 3 (some ⟨b, 0, none⟩) n c (sumsRows s) fs) (hoo : OwnRows W w.heap.size T_impl_Debt 5 op on oc out fo) (hdis : ∀ q ∈ fo, q ∉ fs) (hx : Ext w W)
    (hS : SInv 40000000000000000000000000000000000000 s) (hsl : s.length = n) (hn : n ≤ 1000) (hnz : on + nzc s ≤ n) (hF : settleF cur (n - on) s out = settleF cur n s0 []) (h0 : 0 < n) (hlo : valAt s (loOf s) < 0)
    (hr1 : Blk W r1 T_impl_Signed [.bool (decide (amt s < 0)), .slice ap an ac]) (hr1o : r1 ∉ fo) (hr1b : r1 ≠ b) (hoa : Owns W w.heap.size [.bool (decide (amt s < 0)), .slice ap an ac] (enc (amt s)) fa) (hfa : ∀ q ∈ fa, q ∉ fo ∧ q ≠ b) :
    impl_Settle_j1 cur (some ⟨b, 0, none⟩) n wr (SetI w cur s0 (some ⟨b, 0, none⟩) n c) (fun _ on _ _ => n - on) op on oc ((bestTo false s s.length : Nat) : Int) ((bestTo true s s.length : Nat) : Int) r1 W (SetQ w cur n s0) := by
  obtain ⟨ha0, ha1, ha2, ha3, hne⟩ := amt_facts (by omega) hS.tot hlo
  obtain ⟨hS', hl', hnz', hv'⟩ := step_facts (by omega) hS hlo
  have l1 : loOf s < s.length := bestTo_in _ (Nat.le_refl _) (by omega)
  have l2 : hiOf s < s.length := bestTo_in _ (Nat.le_refl _) (by omega)
  have b1 := hS.bnd (loOf s)
  have b2 := hS.bnd (hiOf s)
  have hk : n - on = (n - on - 1) + 1 := by omega
  have lw := hx.le
  unfold impl_Settle_j1
  refine ⟨_, _, _, _, hr1.loadA0 (by kernel_rfl), ?_⟩
  refine Ret.at (impl_intCopy_c hoa.reps (enc_code _) (by simp only [bulks, enc, D0.bulk, List.map_cons, List.map_nil, List.sum_cons, List.sum_nil]; have := hlim (x := amt s) (by omega); omega)) ?_
  rintro v w1 ⟨vs1, f1, hv, ho1, nd1, y1⟩
  subst hv
  obtain ⟨c0, cp, cn, cc, cz, rfl, _, _⟩ := open_Signed ho1.reps (enc_code _)
  refine ⟨_, _, _, _, rfl, ?_⟩
  refine Ret.at (impl_moneyOf_c (ht.ext (hx.trans y1)) cur ho1 nd1 y1.le) ?_
  rintro v w2 ⟨vs2, f2, hv, ho2, nd2, y2⟩
  subst hv
  obtain ⟨m0, m1, mp, mn, mc, mz, rfl, _, _⟩ := open_Money ho2.reps (moneyMk_code _ _)
  refine ⟨_, _, _, _, _, _, rfl, ?_⟩
  intro r2 w3 hn3
  obtain ⟨w4, st4, b4, y4⟩ := hn3.fill (P := P) (t := T_impl_Money) (xs := [.string m0, .bool m1, .slice mp mn mc]) (by simp [Value.oneCell']) (by kernel_rfl) rfl
  have Y4 := (y1.trans y2).trans y4
  refine ⟨w4, st4, ifN (fun hno => ?_) (fun hyes => ?_)⟩
  · have hres : settleF cur n s0 [] = ([], false) := by
      rw [← hF, hk]
      unfold settleF
      rw [if_pos ⟨by omega, hlo⟩, if_neg (by rw [hno]; simp)]
    unfold SetQ
    rw [hres]
    exact ⟨none, 0, 0, [], rfl, no_rows _ _ _ _, hx.trans Y4⟩
  have hF' : settleF cur (n - (on + 1)) (stepS s) (out ++ [debtRow cur s]) = settleF cur n s0 [] := by
    rw [← hF, hk]
    conv => rhs; unfold settleF
    rw [if_pos ⟨by omega, hlo⟩, if_pos hyes, show n - on - 1 = n - (on + 1) by omega]
  have hmk : moneyMk cur (amt s) = .str cur :: enc (amt s) := by unfold moneyMk; rw [if_pos hyes]
  rw [hmk] at ho2
  obtain ⟨_, _, _, hbB, hbl, hbf, lkey, _, _, _, _, _⟩ := at_row ho l1 (by kernel_rfl) (by kernel_rfl)
  obtain ⟨_, _, _, _, _, _, hkey, _, _, _, _, _⟩ := at_row ho l2 (by kernel_rfl) (by kernel_rfl)
  have d4 := Ext.drew w4
  have D := Y4.trans d4
  refine ⟨⟨by omega, by unfold loOf at l1; omega⟩, _, fun V hV => lkey V (D.trans hV) _ (by kernel_rfl), ⟨by omega, by unfold hiOf at l2; omega⟩, _, fun V hV => hkey V (D.trans hV) _ (by kernel_rfl), _, _, _, _, _, fun V hV => (b4.ext (d4.trans hV)).loadA0 (by kernel_rfl), ?_⟩
  intro r3 w5 hn5
  have e3 := hn3.r_eq; have z3 := hn3.size; have e5 := hn5.r_eq; have z5 := hn5.size
  have D5 := D.trans hn5.ext
  have ly1 := y1.le; have ly2 := y2.le; have ly4 := y4.le; have ld4 := d4.le
  have hop : ∀ q ∈ (op.map (·.block)).toList, q ∈ fo := by
    obtain ⟨_, _, _, _, _, hf, _⟩ := hoo
    intro q hq
    rw [hf]; exact List.mem_append_left _ hq
  have hf2l := ho2.lt
  have how2 : Owns w5 w.heap.size [.string (keyAt s (loOf s)), .string (keyAt s (hiOf s)), .string m0, .bool m1, .slice mp mn mc] (debtRow cur s) f2 :=
    Owns.append (Owns.str _ _ _) (Owns.append (Owns.str _ _ _) (((ho2.ext (y4.trans (d4.trans hn5.ext))).mono (by omega))))
  obtain ⟨p6, c6, w6, fn, hap, hoo6, hch6, hf6⟩ := OwnRows_pushF (P := P) (hoo.ext D5) sliceT_debt (by have := D5.le; omega) hn5.blk rfl how2 nd2 (fun q hq hm => by
    have h1 := hf2l q hq
    have h2 := (hoo.lt q hm).2
    omega) (by omega) (by decide)
  refine ⟨p6, _, c6, w6, hap, ?_⟩
  have ho6 := (ho.ext D5).chg hch6 (fun x hx hm => hdis x (hop x hm) hx)
  have hr6 := (hr1.ext D5).chg hch6 (fun hm => hr1o (hop _ hm))
  have hoa6 := (hoa.ext D5).chg hch6 (fun k hk hm => (hfa k hk).1 (hop k hm))
  have X6 : Ext w w6 := (hx.trans D5).chg hch6 (fun q hq => (hoo.lt q (hop q hq)).1)
  obtain ⟨lp, ln, lc, _, hb6, _, _, lsig, _, _, ⟨fl, lown, _⟩, lput⟩ := at_row ho6 l1 (by kernel_rfl) (by kernel_rfl)
  have d6 := Ext.drew w6
  refine ⟨⟨by omega, by unfold loOf at l1; omega⟩, _, _, _, _, fun V hV => lsig V (d6.trans hV), _, _, _, _, fun V hV => (hr6.ext (d6.trans hV)).loadA0 (by kernel_rfl), ?_⟩
  refine Ret.at (impl_intAdd_c (lown.reps.ext d6) (hoa6.reps.ext d6) (hlim (by omega)) (hlim (by omega))) ?_
  rintro v w7 ⟨p7, n7, c7, hv, ho7', y7⟩
  subst hv
  have ho7 : Owns w7 w6.drew.heap.size [.bool (decide (valAt s (loOf s) + amt s < 0)), .slice p7 n7 c7] (enc (valAt s (loOf s) + amt s)) (p7.map (·.block)).toList := Owns.int2 ho7'
  have nd7 := nodup_opt p7
  refine ⟨_, _, _, _, rfl, ⟨by omega, by unfold loOf at l1; omega⟩, ?_⟩
  have lc6 := hch6.size; have ld6 := d6.le; have ly7 := y7.le
  have hf7 : ∀ q ∈ (p7.map (·.block)).toList, w6.heap.size ≤ q := fun q hq => by have := (ho7.lt q hq).1; omega
  obtain ⟨w8, fs8, st8, ho8, ch8, sz8, hfs8⟩ := lput (valAt s (loOf s) + amt s) w7 _ p7 n7 c7 _ (d6.trans y7) (ho7.mono (by omega)) nd7 hf7
  refine ⟨w8, st8, ⟨by omega, by unfold hiOf at l2; omega⟩, ?_⟩
  have D7 := d6.trans y7
  have hbn : b ∉ fn := fun hm => by
    rcases hf6 b hm with h | h | h
    · exact hdis b h hbf
    · have := hf2l b h; omega
    · have := hn5.size; omega
  have hr8 := (hr6.ext D7).chg ch8 (by simp; exact hr1b)
  have hoa8 := (hoa6.ext D7).chg ch8 (fun k hk hm => by simp at hm; exact (hfa k hk).2 hm)
  have hoo8 := (hoo6.ext D7).chg ch8 (fun k hk hm => by simp at hm; subst hm; exact hbn hk)
  have X8 : Ext w w8 := (X6.trans D7).chg ch8 (by simp; omega)
  have l2' : hiOf s < (setVal s (loOf s) (valAt s (loOf s) + amt s)).length := by rw [setVal_len]; exact l2
  obtain ⟨hp8, hn8, hc8, _, hb8, hbf8, _, hsig8, _, _, ⟨f8, hown8, _⟩, hput8⟩ := at_row ho8 l2' (by kernel_rfl) (by kernel_rfl)
  rw [hv'] at hsig8 hown8
  have d8 := Ext.drew w8
  refine ⟨_, _, _, _, fun V hV => hsig8 V (d8.trans hV), _, _, _, _, fun V hV => (hr8.ext (d8.trans hV)).loadA0 (by kernel_rfl), ?_⟩
  refine Ret.at (impl_intNeg_c (hoa8.reps.ext d8) (hlim (by omega))) ?_
  rintro v w9 ⟨vs9, f9, hv, ho9, nd9, y9⟩
  subst hv
  obtain ⟨g0, gp, gn, gc, gz, rfl, _, _⟩ := open_Signed ho9.reps (enc_code _)
  refine ⟨_, _, _, _, rfl, y9, ?_⟩
  refine Ret.at (impl_intAdd_c (hown8.reps.ext (d8.trans y9)) ho9.reps (hlim (by omega)) (hlim (by omega))) ?_
  rintro v w10 ⟨p10, n10, c10, hv, ho10', y10⟩
  subst hv
  have ho10 : Owns w10 w9.heap.size [.bool (decide (valAt s (hiOf s) - amt s < 0)), .slice p10 n10 c10] (enc (valAt s (hiOf s) - amt s)) (p10.map (·.block)).toList := by
    have := Owns.int2 (b := decide (valAt s (hiOf s) + -amt s < 0)) ho10'
    rw [← Int.sub_eq_add_neg] at this
    exact this
  have nd10 := nodup_opt p10
  have Y10 := y9.trans y10
  have ly9 := y9.le
  rw [← Int.sub_eq_add_neg]
  refine ⟨_, _, _, _, rfl, ⟨by omega, by unfold hiOf at l2; omega⟩, ?_⟩
  have ly10 := Y10.le; have ld8 := d8.le
  have hf10 : ∀ q ∈ (p10.map (·.block)).toList, w8.heap.size ≤ q := fun q hq => by have := (ho10.lt q hq).1; omega
  obtain ⟨w11, fs11, st11, ho11, ch11, sz11, hfs11⟩ := hput8 (valAt s (hiOf s) - amt s) w10 _ p10 n10 c10 _ (d8.trans Y10) (ho10.mono (by omega)) nd10 hf10
  have D10 := d8.trans Y10
  refine ⟨w11, st11, ⟨stepS s, out ++ [debtRow cur s], fs11, fn, ?_, (hoo8.ext D10).chg ch11 (fun k hk hm => by simp at hm; subst hm; exact hbn hk), ?_, (X8.trans D10).chg ch11 (by simp; omega), hS', by rw [hl']; exact hsl, by omega, hF'⟩, by show n - (on + 1) < n - on; omega⟩
  · have : stepS s = setVal (setVal s (loOf s) (valAt s (loOf s) + amt s)) (hiOf s) (valAt s (hiOf s) - amt s) := by
      show setVal (setVal s (loOf s) (valAt s (loOf s) + amt s)) (hiOf s) (valAt (setVal s (loOf s) (valAt s (loOf s) + amt s)) (hiOf s) - amt s) = _
      rw [hv']
    rw [this]
    exact ho11
  · intro q hq hm
    have hq6 := (hoo6.lt q hq).2
    have ls6 := hch6.size
    rcases hfs11 q hm with hm | hm
    · rcases hfs8 q hm with hm | hm
      · have hqs := (ho.lt q hm).2
        rcases hf6 q hq with h | h | h
        · exact hdis q h hm
        · have := hf2l q h; omega
        · omega
      · have := hf7 q hm; omega
    · have := hf10 q hm
      have := ch8.size
      have := D7.le
      omega
set_option maxHeartbeats 1000000 in
theorem impl_Settle_o {w : World} (cur : ByteArray) {p : Option Addr} {n c : Nat} {l : List (List D0)} (h : RowsR w 5 p n c l) (hc : ∀ x ∈ l, x.map D0.code = [.str, .str, .str, .bool, .ints]) (hn : n ≤ 1048576) (hb : ∀ x ∈ l, bulks x ≤ 1048576) (ht : Tab w) :
    Ret P n_impl_Settle [.string cur, .slice p n c] w fun v w' => ∃ p' n' c' f, v = .tuple #[.slice p' n' c', .bool (settleR cur l).2] ∧ OwnRows w' w.heap.size T_impl_Debt 5 p' n' c' (settleR cur l).1 f ∧ Ext w w' := by
  refine impl_Settle_ret ?_
  unfold impl_Settle
  refine Ret.at (impl_Positions_o cur h hc hn hb ht) ?_
  rintro v w0 ⟨ps, ns, cs, fs0, hv, ho0, y0⟩
  subst hv
  refine ⟨_, _, _, _, rfl, ifN (fun hno => ?_) (fun hok => ?_)⟩
  · have hR : settleR cur l = ([], false) := by unfold settleR; rw [hno]; rfl
    rw [hR]
    exact ⟨none, 0, 0, [], rfl, no_rows _ _ _ _, y0⟩
  have hT : posT cur l = sumsRows (posTo l l.length) := by unfold posT; rw [if_pos hok]
  rw [hT] at ho0
  have hns := ho0.1
  rw [sumsRows_len] at hns
  have hR : settleR cur l = settleF cur ns (posTo l l.length) [] := by unfold settleR; rw [if_pos hok, hns]
  have hS0 := pos_inv hc hok
  have hle := posTo_len l l.length (Nat.le_refl _)
  have hl20 := (debts_facts hok).1
  rw [hR]
  generalize posTo l l.length = s0 at *
  show _
  intro r w1 hn1
  have e1 := hn1.r_eq; have z1 := hn1.size
  have ly0 := y0.le
  refine ⟨SetI w cur s0 ps ns cs, fun _ on _ _ => ns - on, ⟨s0, [], fs0, [r], ho0.ext hn1.ext, OwnRows.fresh hn1 (by omega), fun q hq hm => by
    simp at hq
    have := (ho0.lt q hm).2
    omega, y0.trans hn1.ext, hS0, hns, by have := nzc_len s0; omega, rfl⟩, ?_⟩
  intro junk wr op on oc ⟨s, out, fs, fo, ho, hoo, hdis, hx, hS, hsl, hnz, hF⟩
  have stop : ∀ W, Ext wr W → ¬ (0 < s.length ∧ valAt s (loOf s) < 0) → SetQ w cur ns s0 (.tuple #[.slice op on oc, .bool true]) W := fun W hW hh => by
    unfold SetQ
    rw [← hF, settle_stop hh]
    exact ⟨_, _, _, fo, rfl, hoo.ext hW, hx.trans hW⟩
  refine ifD (fun h0 => ?_) (fun h0 => by unfold impl_Settle_j0; exact stop wr (Ext.refl _) (fun h => by omega))
  have hrow : (sumsRows s)[0]? = some ((sumsRows s)[0]'(by rw [sumsRows_len]; omega)) := List.getElem?_eq_getElem _
  obtain ⟨b, _, _, _, hpb, _⟩ := ho.put hrow
  subst hpb
  refine Ret.at (impl_extreme_c false ho (by omega) (by omega) hS) ?_
  rintro v w2 ⟨hv, y2⟩
  subst hv
  refine ⟨_, rfl, ?_⟩
  refine Ret.at (impl_extreme_c true (ho.ext y2) (by omega) (by omega) hS) ?_
  rintro v w3 ⟨hv, y3⟩
  subst hv
  have X3 := y2.trans y3
  have l1 : loOf s < s.length := bestTo_in _ (Nat.le_refl _) (by omega)
  have l2 : hiOf s < s.length := bestTo_in _ (Nat.le_refl _) (by omega)
  have b1 := hS.bnd (loOf s)
  have b2 := hS.bnd (hiOf s)
  obtain ⟨lp, ln, lc, hbB, hbl, hbf, _, lsig, lsl, _, ⟨fl, lown, _⟩, _⟩ := at_row (ho.ext X3) l1 (by kernel_rfl) (by kernel_rfl)
  obtain ⟨hp, hn', hc', _, _, _, _, hsig, _, _, ⟨fh, hown, hbfh, hfhf⟩, _⟩ := at_row (ho.ext X3) l2 (by kernel_rfl) (by kernel_rfl)
  refine ⟨_, rfl, ⟨by omega, by unfold loOf at l1; omega⟩, _, _, _, _, lsig w3 (Ext.refl _), ?_⟩
  refine Ret.at (impl_intSign_c lown.reps) ?_
  rintro v w4 ⟨hv, y4⟩
  subst hv
  have X4 := X3.trans y4
  refine ⟨_, rfl, ifD (fun hst => by unfold impl_Settle_j0; exact stop w4 X4 (fun h => absurd (sgn_nn0.1 hst) (by have := h.2; omega))) (fun hgo => ?_)⟩
  have hlo : valAt s (loOf s) < 0 := by have := mt sgn_nn0.2 hgo; omega
  obtain ⟨ha0, ha1, ha2, ha3, hne⟩ := amt_facts (by omega) hS.tot hlo
  have hhi := hi_pos (by omega) hS.tot hlo
  refine ⟨⟨by omega, by unfold hiOf at l2; omega⟩, _, _, _, _, hsig w4 y4, ?_⟩
  intro r1 w6 hn6
  have e6 := hn6.r_eq; have z6 := hn6.size
  obtain ⟨w7, st7, b7, y7⟩ := hn6.fill (P := P) (t := T_impl_Signed) (xs := [.bool (decide (valAt s (hiOf s) < 0)), .slice hp hn' hc']) (by simp [Value.oneCell']) (by kernel_rfl) rfl
  have d7 := Ext.drew w7
  have Y7 := y4.trans (y7.trans d7)
  have lX4 := X4.le
  have hbw : b < wr.heap.size := (ho.lt b (by obtain ⟨_, _, _, _, _, hf, _⟩ := ho; rw [hf]; simp)).2
  refine ⟨w7, st7, ⟨by omega, by unfold loOf at l1; omega⟩, _, _, _, fun V hV => lsl V (Y7.trans hV) _ (by kernel_rfl), _, _, _, fun V hV => (b7.ext (d7.trans hV)).loadAt 1 rfl (by kernel_rfl) rfl, ?_⟩
  obtain ⟨_, ⟨_, _, _, hq1, lints⟩, _⟩ := lown.reps
  obtain ⟨_, ⟨_, _, _, hq2, hints⟩, _⟩ := hown.reps
  cases hq1
  cases hq2
  refine Ret.at (impl_natCmp_c (lints.ext Y7) (hints.ext Y7)) ?_
  rintro v w10 ⟨hv, y10⟩
  subst hv
  have hcv := cmpL_val (digs_canon (valAt s (loOf s)).natAbs) (digs_canon (valAt s (hiOf s)).natAbs)
  rw [val_digs, val_digs] at hcv
  have Z := Y7.trans y10
  have X10 := X3.trans Z
  have r1fo : r1 ∉ fo := fun hm => by have := (hoo.lt r1 hm).2; omega
  have r1b : r1 ≠ b := by omega
  refine ⟨_, rfl, ifD (fun hless => ?_) (fun hge => ?_)⟩
  · refine ⟨⟨by omega, by unfold loOf at l1; omega⟩, _, _, _, _, lsig w10 Z, ?_⟩
    refine Ret.at (impl_intNeg_c (lown.reps.ext Z) (hlim (by omega))) ?_
    rintro v w11 ⟨vs, f, hv, ho11, nd11, y11⟩
    subst hv
    obtain ⟨g0, gp, gn, gc, gz, rfl, hgd, _⟩ := open_Signed ho11.reps (enc_code _)
    have ham : amt s = -valAt s (loOf s) := by unfold amt; rw [if_neg (by omega)]
    rw [← ham] at ho11 hgd
    simp only [enc, List.cons.injEq, D0.bool.injEq, D0.ints.injEq, and_true] at hgd
    obtain ⟨rfl, rfl⟩ := hgd
    have b11 := (b7.ext (d7.trans y10)).ext y11
    obtain ⟨w12, st12, b12, ch12, sz12⟩ := b11.storeA0 (P := P) (t := T_impl_Signed) (xs := [.bool (decide (amt s < 0)), .slice gp gn gc]) (by kernel_rfl) rfl (by simp [Value.oneCell'])
    have X11 := X10.trans y11
    have X12 : Ext wr w12 := X11.chg ch12 (by simp; omega)
    have lZ := X10.le
    have lb7 := b7.lt
    have l10 := y10.le; have ld7 := d7.le; have lx := hx.le
    refine ⟨_, _, _, _, rfl, w12, st12, ?_⟩
    exact impl_Settle_j1_c ht (ho.ext X12) (hoo.ext X12) hdis (hx.trans X12) hS hsl (by omega) hnz hF (by omega) hlo b12 r1fo r1b ((ho11.mono (by omega)).chg ch12 (fun k hk hm => by have := (ho11.lt k hk).1; simp at hm; omega))
      (fun q hq => ⟨fun hm => by have h1 := (ho11.lt q hq).1; have h2 := (hoo.lt q hm).2; omega, fun e => by have h1 := (ho11.lt q hq).1; omega⟩)
  · have ham : amt s = valAt s (hiOf s) := by
      by_cases he : valAt s (hiOf s) < -valAt s (loOf s)
      · unfold amt; rw [if_pos he]
      · have : ¬ ((valAt s (loOf s)).natAbs : Int) < ((valAt s (hiOf s)).natAbs : Int) := by
          intro hh
          rcases hcv with ⟨h1, h2⟩ | ⟨h1, h2⟩ | ⟨h1, h2⟩ <;> omega
        unfold amt; rw [if_neg he]; omega
    have b10 := b7.ext (d7.trans y10)
    refine impl_Settle_j1_c (fa := fh) ht (ho.ext X10) (hoo.ext X10) hdis (hx.trans X10) hS hsl (by omega) hnz hF (by omega) hlo (by rw [ham]; exact b10) r1fo r1b (by rw [ham]; exact hown.ext Z)
      (fun q hq => ⟨fun hm => hdis q hm (hfhf q hq), fun e => hbfh (by rw [← e]; exact hq)⟩)
end Go.Proofs.YtdidocmbcfbjdaaDoor

namespace Go.Proofs.YtdidocmbcfbjdaaDoor
open Go Go.Proofs.YtdidocmbcfbjdaaDoor.Sx
set_option linter.unusedVariables false
set_option linter.unusedSimpArgs false
/-- few enough rounds -/
def room (on : Nat) (n : Int) : Prop := (on = 0 ∧ n < 1000000000000000000000000000) ∨ (on = 1 ∧ n < 1000000000000000000) ∨ (on = 2 ∧ n < 1000000000) ∨ (on = 3 ∧ n < 1)
end Go.Proofs.YtdidocmbcfbjdaaDoor

namespace Go.Proofs.YtdidocmbcfbjdaaDoor
open Go Go.Proofs.YtdidocmbcfbjdaaDoor.Sx
set_option linter.unusedVariables false
set_option linter.unusedSimpArgs false
theorem Limbs.set {l : List Int} {k : Nat} {x : Int} (h : Limbs l) (hx : 0 ≤ x ∧ x < 1000000000) : Limbs (l.set k x) := fun y hy => by
  rcases List.mem_or_eq_of_mem_set hy with h1 | h1
  · exact h y h1
  · rw [h1]; exact hx
end Go.Proofs.YtdidocmbcfbjdaaDoor

namespace Go.Proofs.YtdidocmbcfbjdaaDoor
open Go Go.Proofs.YtdidocmbcfbjdaaDoor.Sx
set_option linter.unusedVariables false
set_option linter.unusedSimpArgs false
/-- the comparison of valid integers is the sign of the difference -/
theorem icmp_enc {x y : Int} (hx : intOk (enc x) = true) (hy : intOk (enc y) = true) : icmp (enc x) (enc y) = sgn (x - y) := by
  have cv := cmpL_val (digs_canon x.natAbs) (digs_canon y.natAbs)
  have cv2 := cmpL_val (digs_canon y.natAbs) (digs_canon x.natAbs)
  rw [val_digs, val_digs] at cv cv2
  unfold enc at hx hy
  unfold enc
  simp only [icmp, hx, hy, Bool.not_true, Bool.or_self, Bool.false_eq_true, if_false, sgn]
  by_cases h1 : x < 0 <;> by_cases h2 : y < 0 <;> simp only [h1, h2, decide_true, decide_false, Bool.not_true, Bool.not_false, Bool.and_true, Bool.true_and, Bool.and_false, Bool.false_and, Bool.false_eq_true, if_true, if_false]
  · rcases cv2 with ⟨h, h'⟩ | ⟨h, h'⟩ | ⟨h, h'⟩ <;> rw [h] <;> (repeat' split) <;> omega
  · (repeat' split) <;> omega
  · (repeat' split) <;> omega
  · rcases cv with ⟨h, h'⟩ | ⟨h, h'⟩ | ⟨h, h'⟩ <;> rw [h] <;> (repeat' split) <;> omega
end Go.Proofs.YtdidocmbcfbjdaaDoor

namespace Go.Proofs.YtdidocmbcfbjdaaDoor
open Go Go.Proofs.YtdidocmbcfbjdaaDoor.Sx
set_option linter.unusedVariables false
set_option linter.unusedSimpArgs false
theorem agg_end_s {t : TypeId} {w W : World} {r : Nat} {e : TypeId} {old xs : List Value} {d : List D0} {f : List Nat} {B : Nat} (hb : Blk W r e old) (X : Ext w W) (hr : w.heap.size ≤ r)
    (ho : Owns W B xs d f) (ht : aggT P t xs.length = true) (hlen : xs.length = old.length) (hrB : r < B) (hwB : w.heap.size ≤ B) :
    ∃ W', Stores P t ⟨r, 0, none⟩ (.agg ⟨xs⟩) W W' ∧ Loads P t ⟨r, 0, none⟩ (.agg ⟨xs⟩) W' ∧ Owns W' w.heap.size xs d f ∧ Ext w W' ∧ Chg [r] W W' ∧ Blk W' r e xs := by
  obtain ⟨W', st, hb', ch, _⟩ := hb.storeA0 (P := P) (t := t) (xs := xs) ht hlen ho.reps.cells1
  exact ⟨W', st, hb'.loadA0 ht, (ho.chg1 ch hrB).mono hwB, X.chg ch (by simp; exact hr), ch, hb'⟩
theorem spec_IntSub_b {w : World} {xs ys : List Value} {x y : Int} (h : Reps w xs (enc x)) (k : Reps w ys (enc y)) (hx : x.natAbs ≤ 400000000000000000000000000000000000000) (hy : y.natAbs ≤ 400000000000000000000000000000000000000) :
    Ret P n_spec_IntSub [.agg ⟨xs⟩, .agg ⟨ys⟩] w fun v w' => ∃ vs f, v = .agg ⟨vs⟩ ∧ Owns w' w.heap.size vs (enc (x - y)) f ∧ f.Nodup ∧ Ext w w' := by
  have d1 : (digs x.natAbs).length ≤ 6 := digs_len_le (by omega)
  have d2 : (digs (-y).natAbs).length ≤ 6 := digs_len_le (by omega)
  have d3 : (digs (x + -y).natAbs).length ≤ 6 := digs_len_le (by omega)
  have hr := h; have kr := k
  obtain ⟨a0, ap, an, ac, az, rfl, hd, ha⟩ := open_Signed h (enc_code _)
  obtain ⟨b0, bp, bn, bc, bz, rfl, he, hb⟩ := open_Signed k (enc_code _)
  refine spec_IntSub_ret ?_
  unfold spec_IntSub
  intro r w1 hn1 r1 w2 hn2 r2 w3 hn3
  have e1 := hn1.r_eq; have e2 := hn2.r_eq; have e3 := hn3.r_eq; have z1 := hn1.size; have z2 := hn2.size; have z3 := hn3.size
  have X := (hn1.ext.trans hn2.ext).trans hn3.ext
  have q0 := (hn1.blk.ext hn2.ext).ext hn3.ext; have q1 := hn2.blk.ext hn3.ext; have q2 := hn3.blk
  refine ⟨_, _, _, _, q0.loadA0 (by kernel_rfl), ?_⟩
  refine Ret.at (spec_IntOk_c (hr.ext X) (enc_code _)) ?_
  rintro v w4 ⟨hv, y4⟩
  subst hv
  rw [enc_small (show x.natAbs < _ by omega)]
  refine ⟨_, rfl, ifN (fun hh => absurd hh (by simp)) (fun _ => ⟨_, _, _, _, (q1.ext y4).loadA0 (by kernel_rfl), ?_⟩)⟩
  refine Ret.at (spec_IntOk_c (kr.ext (X.trans y4)) (enc_code _)) ?_
  rintro v w5 ⟨hv, y5⟩
  subst hv
  rw [enc_small (show y.natAbs < _ by omega)]
  refine ⟨_, rfl, ifN (fun hh => absurd hh (by simp)) (fun _ => ?_)⟩
  have Y := (y4.trans y5).trans (Ext.drew w5)
  have X5 := X.trans Y
  have lY := Y.le
  refine ⟨_, _, _, _, fun W hW => ((q0.ext Y).ext hW).loadA0 (by kernel_rfl), _, _, _, _, fun W hW => ((q1.ext Y).ext hW).loadA0 (by kernel_rfl), ?_⟩
  refine Ret.at (spec_IntNeg_c (kr.ext X5) (enc_small (by omega))) ?_
  rintro v w6 ⟨vs6, f6, hv, ho6, _, y6⟩
  subst hv
  obtain ⟨g0, gp, gn, gc, gz, rfl, _, _⟩ := open_Signed ho6.reps (enc_code _)
  have l6 := y6.le
  refine ⟨_, _, _, _, rfl, y6, ?_⟩
  refine Ret.at (spec_l04Add_c (hr.ext (X5.trans y6)) ho6.reps (by omega) (by omega)) ?_
  rintro v w7 ⟨vs7, f7, hv, ho7, nd7, y7⟩
  subst hv
  rw [icap_fit (by omega), ← Int.sub_eq_add_neg] at ho7
  obtain ⟨m0, mp, mn, mc, mz, rfl, _, _⟩ := open_Signed ho7.reps (enc_code _)
  obtain ⟨W', st', ld', ow', xx', _, _⟩ := agg_end_s (t := T_impl_Signed) (((q2.ext Y).ext y6).ext y7) ((X5.trans y6).trans y7) (by omega) ho7 (by kernel_rfl) rfl (by omega) (by omega)
  exact ⟨_, _, _, _, rfl, W', st', _, _, _, _, ld', _, f7, rfl, ow', nd7, xx'⟩
theorem spec_IntAbs_s {w : World} {xs : List Value} {b : Bool} {z : List Int} (h : Reps w xs [.bool b, .ints z]) (hok : intOk [.bool b, .ints z] = true) (hz : Canon z) :
    Ret P n_spec_IntAbs [.agg ⟨xs⟩] w fun v w' => ∃ vs f, v = .agg ⟨vs⟩ ∧ Owns w' w.heap.size vs (enc (val z)) f ∧ f.Nodup ∧ Ext w w' := by
  have hr := h
  obtain ⟨a0, ap, an, ac, az, rfl, hd, ha⟩ := open_Signed h rfl
  cases hd
  refine spec_IntAbs_ret ?_
  unfold spec_IntAbs
  intro r w1 hn1 r1 w2 hn2
  have e1 := hn1.r_eq; have e2 := hn2.r_eq; have z1 := hn1.size; have z2 := hn2.size
  have X := hn1.ext.trans hn2.ext
  have q0 := hn1.blk.ext hn2.ext; have q1 := hn2.blk
  refine ⟨_, _, _, _, q0.loadA0 (by kernel_rfl), ?_⟩
  refine Ret.at (spec_IntOk_c (hr.ext X) rfl) ?_
  rintro v w3 ⟨hv, y3⟩
  subst hv
  rw [hok]
  refine ⟨_, rfl, ifN (fun hh => absurd hh (by simp)) (fun _ => ⟨_, _, _, (q0.ext y3).loadAt 1 rfl (by kernel_rfl) rfl, ?_⟩)⟩
  refine Ret.at (spec_l04Make_c (ha.ext (X.trans y3)) hz.1) ?_
  rintro v w4 ⟨bq, p5, n5, c5, hv, hbq, own5, y4⟩
  subst hv
  have hv0 := val_nonneg hz.1
  have hlen : z.length ≤ 50 := by
    obtain ⟨_, b', z', he, _, hl⟩ := intOk_enc hok
    simp only [List.cons.injEq, D0.bool.injEq, D0.ints.injEq, and_true] at he
    obtain ⟨_, rfl⟩ := he
    exact hl
  have hdz : digs (val z).toNat = z := digs_val hz
  have hcap : capL (digs (val z).toNat) = digs (val z).natAbs := by
    rw [show (val z).natAbs = (val z).toNat by omega, hdz]
    unfold capL
    rw [if_pos hlen]
  rw [hcap] at own5
  have hbq' : bq = decide (val z < 0) := by rw [hbq, Bool.false_and, decide_eq_false (by omega)]
  subst hbq'
  have l3 := y3.le
  have o5 : Owns w4 w3.heap.size [.bool (decide (val z < 0)), .slice p5 n5 c5] (enc (val z)) (p5.map (·.block)).toList := Owns.int2 (b := decide (val z < 0)) own5
  obtain ⟨W', st', hb', ch, _⟩ := ((q1.ext y3).ext y4).storeA0 (P := P) (t := T_impl_Signed) (xs := [.bool (decide (val z < 0)), .slice p5 n5 c5]) (by kernel_rfl) rfl (by simp [Value.oneCell'])
  exact ⟨_, _, _, _, rfl, W', st', _, _, _, _, hb'.loadA0 (by kernel_rfl), _, _, rfl, (o5.chg1 ch (by omega)).mono (by omega), nodup_opt p5, ((X.trans y3).trans y4).chg ch (by simp; omega)⟩
def SetJ (wr : World) (s : List (ByteArray × Int)) (n : Nat) (lo hi i : Int) (wv : World) : Prop :=
  ∃ j : Nat, i = j ∧ lo = ((bestTo false s j : Nat) : Int) ∧ hi = ((bestTo true s j : Nat) : Int) ∧ j ≤ n ∧ Ext wr wv
theorem cmp_small {x y : Int} (hx : x.natAbs ≤ 40000000000000000000000000000000000000) (hy : y.natAbs ≤ 40000000000000000000000000000000000000) : icmp (enc x) (enc y) = sgn (x - y) := icmp_enc (enc_small (by omega)) (enc_small (by omega))
theorem spec_Settle_j0_c {wr wv W : World} {s : List (ByteArray × Int)} {B b n c j r1 : Nat} {lo1 : Nat} {fs : List Nat} {e : TypeId} {kp : Option Addr} {kn kc : Nat} {R : Value → World → Prop}
    (ho : OwnRows W B e 3 (some ⟨b, 0, none⟩) n c (sumsRows s) fs) (hS : SInv 40000000000000000000000000000000000000 s) (hsl : s.length = n) (hn : n ≤ 1000) (hj : j < n) (hx : Ext wr W)
    (hb1 : Blk W r1 T_impl_Pos [.string (keyAt s j), .bool (decide (valAt s j < 0)), .slice kp kn kc]) (hrep : Reps W [.bool (decide (valAt s j < 0)), .slice kp kn kc] (enc (valAt s j))) (hlo1 : lo1 = bestTo false s (j + 1)) :
    spec_Settle_j0 (some ⟨b, 0, none⟩) n wv (SetJ wr s n) (fun _ _ i _ => n - i.toNat) ((bestTo false s j : Nat) : Int) ((bestTo true s j : Nat) : Int) (j : Int) r1 (lo1 : Int) W R := by
  have hbl : bestTo true s j < s.length := bestTo_in true (by omega) (by omega)
  obtain ⟨kp2, kn2, kc2, _, _, _, _, ld2, _, _, ⟨f2, rep2, _⟩, _⟩ := at_row ho hbl (by kernel_rfl) (by kernel_rfl)
  have b1 := hS.bnd j
  have b2 := hS.bnd (bestTo true s j)
  have d := Ext.drew W
  unfold spec_Settle_j0
  refine ⟨_, _, _, _, fun V hV => (hb1.ext (d.trans hV)).loadAAt 1 [.bool (decide (valAt s j < 0)), .slice kp kn kc] rfl (by kernel_rfl) rfl, ⟨by omega, by omega⟩, _, _, _, _, fun V hV => ld2 V (d.trans hV), ?_⟩
  refine Ret.at (spec_IntCmp_c (hrep.ext d) (rep2.reps.ext d) (enc_code _) (enc_code _)) ?_
  rintro v w2 ⟨hv, y⟩
  subst hv
  rw [cmp_small b1 b2]
  have X := (hx.trans d).trans y
  refine ⟨_, rfl, ifD (fun hb => ?_) (fun hb => ?_)⟩
  · unfold spec_Settle_j1
    refine exW ⟨by omega, by omega⟩ ⟨⟨j + 1, rfl, by rw [hlo1], ?_, by omega, X⟩, by show n - ((j : Int) + 1).toNat < n - (j : Int).toNat; omega⟩
    have : bestTo true s (j + 1) = j := by
      have := sgn_pos0.1 hb
      rw [bestTo, if_pos (by simp only [better, if_true, decide_eq_true_eq]; omega)]
    rw [this]
  · unfold spec_Settle_j1
    refine exW ⟨by omega, by omega⟩ ⟨⟨j + 1, rfl, by rw [hlo1], ?_, by omega, X⟩, by show n - ((j : Int) + 1).toNat < n - (j : Int).toNat; omega⟩
    have : bestTo true s (j + 1) = bestTo true s j := by
      have := mt sgn_pos0.2 hb
      rw [bestTo, if_neg (by simp only [better, if_true, decide_eq_true_eq]; omega)]
    rw [this]
set_option maxHeartbeats 1000000 in
theorem spec_Settle_j3_c {w wr W : World} {cur : ByteArray} {s s0 : List (ByteArray × Int)} {out : List (List D0)} {b n c r1 : Nat} {fs fo fa : List Nat} {op : Option Addr} {on oc : Nat} {ap : Option Addr} {an ac : Nat}
    (ho : OwnRows W w.heap.size T_impl_Pos 3 (some ⟨b, 0, none⟩) n c (sumsRows s) fs) (hoo : OwnRows W w.heap.size T_impl_Debt 5 op on oc out fo) (hdis : ∀ q ∈ fo, q ∉ fs) (hx : Ext w W)
    (hS : SInv 40000000000000000000000000000000000000 s) (hsl : s.length = n) (hn : n ≤ 1000) (hnz : on + nzc s ≤ n) (hF : settleF cur (n - on) s out = settleF cur n s0 []) (h0 : 0 < n) (hlo : valAt s (loOf s) < 0)
    (hr1 : Blk W r1 T_impl_Signed [.bool (decide (amt s < 0)), .slice ap an ac]) (hr1o : r1 ∉ fo) (hr1b : r1 ≠ b) (hoa : Owns W w.heap.size [.bool (decide (amt s < 0)), .slice ap an ac] (enc (amt s)) fa) (hfa : ∀ q ∈ fa, q ∉ fo ∧ q ≠ b) :
    spec_Settle_j3 cur (some ⟨b, 0, none⟩) n wr (SetI w cur s0 (some ⟨b, 0, none⟩) n c) (fun _ on _ _ => n - on) op on oc ((bestTo false s s.length : Nat) : Int) ((bestTo true s s.length : Nat) : Int) r1 W (SetQ w cur n s0) := by
  obtain ⟨ha0, ha1, ha2, ha3, hne⟩ := amt_facts (by omega) hS.tot hlo
  obtain ⟨hS', hl', hnz', hv'⟩ := step_facts (by omega) hS hlo
  have l1 : loOf s < s.length := bestTo_in _ (Nat.le_refl _) (by omega)
  have l2 : hiOf s < s.length := bestTo_in _ (Nat.le_refl _) (by omega)
  have b1 := hS.bnd (loOf s)
  have b2 := hS.bnd (hiOf s)
  have hk : n - on = (n - on - 1) + 1 := by omega
  have lw := hx.le
  unfold spec_Settle_j3
  obtain ⟨_, ⟨ap', an', ac', hq1, aints⟩, _⟩ := hoa.reps
  cases hq1
  refine ⟨_, _, _, hr1.loadAt 1 rfl (by kernel_rfl) rfl, ?_⟩
  refine Ret.at (spec_l04Make_c (neg := false) aints (digs_canon _).1) ?_
  rintro v w1 ⟨bq, cp, cn, cc, hv, hbq, own1, y1⟩
  subst hv
  have hcap : capL (digs (val (digs (amt s).natAbs)).toNat) = digs (amt s).natAbs := by
    rw [digs_val (digs_canon _)]
    unfold capL
    rw [if_pos (by have := digs_len_le (n := (amt s).natAbs) (by omega); omega)]
  rw [hcap] at own1
  have hbq' : bq = decide (amt s < 0) := by rw [hbq, Bool.false_and, decide_eq_false (by omega)]
  subst hbq'
  have ho1 : Owns w1 W.heap.size [.bool (decide (amt s < 0)), .slice cp cn cc] (enc (amt s)) (cp.map (·.block)).toList := Owns.int2 (b := decide (amt s < 0)) own1
  have nd1 := nodup_opt cp
  refine ⟨_, _, _, _, rfl, ?_⟩
  refine Ret.at (spec_l09Make_c cur ho1 nd1 y1.le) ?_
  rintro v w2 ⟨vs2, f2, hv, ho2, nd2, y2⟩
  subst hv
  obtain ⟨m0, m1, mp, mn, mc, mz, rfl, _, _⟩ := open_Money ho2.reps (moneyMk_code _ _)
  refine ⟨_, _, _, _, _, _, rfl, ?_⟩
  intro r2 w3 hn3
  obtain ⟨w4, st4, b4, y4⟩ := hn3.fill (P := P) (t := T_impl_Money) (xs := [.string m0, .bool m1, .slice mp mn mc]) (by simp [Value.oneCell']) (by kernel_rfl) rfl
  have Y4 := (y1.trans y2).trans y4
  refine ⟨w4, st4, ifN (fun hno => ?_) (fun hyes => ?_)⟩
  · have hres : settleF cur n s0 [] = ([], false) := by
      rw [← hF, hk]
      unfold settleF
      rw [if_pos ⟨by omega, hlo⟩, if_neg (by rw [hno]; simp)]
    unfold SetQ
    rw [hres]
    exact ⟨none, 0, 0, [], rfl, no_rows _ _ _ _, hx.trans Y4⟩
  have hF' : settleF cur (n - (on + 1)) (stepS s) (out ++ [debtRow cur s]) = settleF cur n s0 [] := by
    rw [← hF, hk]
    conv => rhs; unfold settleF
    rw [if_pos ⟨by omega, hlo⟩, if_pos hyes, show n - on - 1 = n - (on + 1) by omega]
  have hmk : moneyMk cur (amt s) = .str cur :: enc (amt s) := by unfold moneyMk; rw [if_pos hyes]
  rw [hmk] at ho2
  obtain ⟨_, _, _, hbB, hbl, hbf, lkey, _, _, _, _, _⟩ := at_row ho l1 (by kernel_rfl) (by kernel_rfl)
  obtain ⟨_, _, _, _, _, _, hkey, _, _, _, _, _⟩ := at_row ho l2 (by kernel_rfl) (by kernel_rfl)
  have d4 := Ext.drew w4
  have D := Y4.trans d4
  refine ⟨⟨by omega, by unfold loOf at l1; omega⟩, _, fun V hV => lkey V (D.trans hV) _ (by kernel_rfl), ⟨by omega, by unfold hiOf at l2; omega⟩, _, fun V hV => hkey V (D.trans hV) _ (by kernel_rfl), _, _, _, _, _, fun V hV => (b4.ext (d4.trans hV)).loadA0 (by kernel_rfl), ?_⟩
  intro r3 w5 hn5
  have e3 := hn3.r_eq; have z3 := hn3.size; have e5 := hn5.r_eq; have z5 := hn5.size
  have D5 := D.trans hn5.ext
  have ly1 := y1.le; have ly2 := y2.le; have ly4 := y4.le; have ld4 := d4.le
  have hop : ∀ q ∈ (op.map (·.block)).toList, q ∈ fo := by
    obtain ⟨_, _, _, _, _, hf, _⟩ := hoo
    intro q hq
    rw [hf]; exact List.mem_append_left _ hq
  have hf2l := ho2.lt
  have how2 : Owns w5 w.heap.size [.string (keyAt s (loOf s)), .string (keyAt s (hiOf s)), .string m0, .bool m1, .slice mp mn mc] (debtRow cur s) f2 :=
    Owns.append (Owns.str _ _ _) (Owns.append (Owns.str _ _ _) (((ho2.ext (y4.trans (d4.trans hn5.ext))).mono (by omega))))
  obtain ⟨p6, c6, w6, fn, hap, hoo6, hch6, hf6⟩ := OwnRows_pushF (P := P) (hoo.ext D5) sliceT_debt (by have := D5.le; omega) hn5.blk rfl how2 nd2 (fun q hq hm => by
    have h1 := hf2l q hq
    have h2 := (hoo.lt q hm).2
    omega) (by omega) (by decide)
  refine ⟨p6, _, c6, w6, hap, ?_⟩
  have ho6 := (ho.ext D5).chg hch6 (fun x hx hm => hdis x (hop x hm) hx)
  have hr6 := (hr1.ext D5).chg hch6 (fun hm => hr1o (hop _ hm))
  have hoa6 := (hoa.ext D5).chg hch6 (fun k hk hm => (hfa k hk).1 (hop k hm))
  have X6 : Ext w w6 := (hx.trans D5).chg hch6 (fun q hq => (hoo.lt q (hop q hq)).1)
  obtain ⟨lp, ln, lc, _, hb6, _, _, lsig, _, _, ⟨fl, lown, _⟩, lput⟩ := at_row ho6 l1 (by kernel_rfl) (by kernel_rfl)
  have d6 := Ext.drew w6
  refine ⟨⟨by omega, by unfold loOf at l1; omega⟩, _, _, _, _, fun V hV => lsig V (d6.trans hV), _, _, _, _, fun V hV => (hr6.ext (d6.trans hV)).loadA0 (by kernel_rfl), ?_⟩
  refine Ret.at (spec_IntAdd_c (lown.reps.ext d6) (hoa6.reps.ext d6) (enc_code _) (enc_code _)) ?_
  rintro v w7 ⟨vs7, f7, hv, ho7, nd7, y7⟩
  subst hv
  rw [iadd_small (by omega) (by omega)] at ho7
  obtain ⟨q0, p7, n7, c7, qz, rfl, _, _⟩ := open_Signed ho7.reps (enc_code _)
  refine ⟨_, _, _, _, rfl, ⟨by omega, by unfold loOf at l1; omega⟩, ?_⟩
  have lc6 := hch6.size; have ld6 := d6.le; have ly7 := y7.le
  have hf7 : ∀ q ∈ f7, w6.heap.size ≤ q := fun q hq => by have := (ho7.lt q hq).1; omega
  obtain ⟨w8, fs8, st8, ho8, ch8, sz8, hfs8⟩ := lput (valAt s (loOf s) + amt s) w7 _ p7 n7 c7 _ (d6.trans y7) (ho7.mono (by omega)) nd7 hf7
  refine ⟨w8, st8, ⟨by omega, by unfold hiOf at l2; omega⟩, ?_⟩
  have D7 := d6.trans y7
  have hbn : b ∉ fn := fun hm => by
    rcases hf6 b hm with h | h | h
    · exact hdis b h hbf
    · have := hf2l b h; omega
    · have := hn5.size; omega
  have hr8 := (hr6.ext D7).chg ch8 (by simp; exact hr1b)
  have hoa8 := (hoa6.ext D7).chg ch8 (fun k hk hm => by simp at hm; exact (hfa k hk).2 hm)
  have hoo8 := (hoo6.ext D7).chg ch8 (fun k hk hm => by simp at hm; subst hm; exact hbn hk)
  have X8 : Ext w w8 := (X6.trans D7).chg ch8 (by simp; omega)
  have l2' : hiOf s < (setVal s (loOf s) (valAt s (loOf s) + amt s)).length := by rw [setVal_len]; exact l2
  obtain ⟨hp8, hn8, hc8, _, hb8, hbf8, _, hsig8, _, _, ⟨f8, hown8, _⟩, hput8⟩ := at_row ho8 l2' (by kernel_rfl) (by kernel_rfl)
  rw [hv'] at hsig8 hown8
  have d8 := Ext.drew w8
  refine ⟨_, _, _, _, fun V hV => hsig8 V (d8.trans hV), _, _, _, _, fun V hV => (hr8.ext (d8.trans hV)).loadA0 (by kernel_rfl), ?_⟩
  refine Ret.at (spec_IntSub_b (hown8.reps.ext d8) (hoa8.reps.ext d8) (by omega) (by omega)) ?_
  rintro v w10 ⟨vs10, f10, hv, ho10, nd10, Y10⟩
  subst hv
  obtain ⟨g0, p10, n10, c10, gz, rfl, _, _⟩ := open_Signed ho10.reps (enc_code _)
  refine ⟨_, _, _, _, rfl, ⟨by omega, by unfold hiOf at l2; omega⟩, ?_⟩
  have ly10 := Y10.le; have ld8 := d8.le
  have hf10 : ∀ q ∈ f10, w8.heap.size ≤ q := fun q hq => by have := (ho10.lt q hq).1; omega
  obtain ⟨w11, fs11, st11, ho11, ch11, sz11, hfs11⟩ := hput8 (valAt s (hiOf s) - amt s) w10 _ p10 n10 c10 _ (d8.trans Y10) (ho10.mono (by omega)) nd10 hf10
  have D10 := d8.trans Y10
  refine ⟨w11, st11, ⟨stepS s, out ++ [debtRow cur s], fs11, fn, ?_, (hoo8.ext D10).chg ch11 (fun k hk hm => by simp at hm; subst hm; exact hbn hk), ?_, (X8.trans D10).chg ch11 (by simp; omega), hS', by rw [hl']; exact hsl, by omega, hF'⟩, by show n - (on + 1) < n - on; omega⟩
  · have : stepS s = setVal (setVal s (loOf s) (valAt s (loOf s) + amt s)) (hiOf s) (valAt s (hiOf s) - amt s) := by
      show setVal (setVal s (loOf s) (valAt s (loOf s) + amt s)) (hiOf s) (valAt (setVal s (loOf s) (valAt s (loOf s) + amt s)) (hiOf s) - amt s) = _
      rw [hv']
    rw [this]
    exact ho11
  · intro q hq hm
    have hq6 := (hoo6.lt q hq).2
    have ls6 := hch6.size
    rcases hfs11 q hm with hm | hm
    · rcases hfs8 q hm with hm | hm
      · have hqs := (ho.lt q hm).2
        rcases hf6 q hq with h | h | h
        · exact hdis q h hm
        · have := hf2l q h; omega
        · omega
      · have := hf7 q hm; omega
    · have := hf10 q hm
      have := ch8.size
      have := D7.le
      omega
set_option maxHeartbeats 1000000 in
theorem spec_Settle_o {w : World} (cur : ByteArray) {p : Option Addr} {n c : Nat} {l : List (List D0)} (h : RowsR w 5 p n c l) (hc : ∀ x ∈ l, x.map D0.code = [.str, .str, .str, .bool, .ints]) (hn : n ≤ 1048576) (hb : ∀ x ∈ l, bulks x ≤ 1048576) :
    Ret P n_spec_Settle [.string cur, .slice p n c] w fun v w' => ∃ p' n' c' f, v = .tuple #[.slice p' n' c', .bool (settleR cur l).2] ∧ OwnRows w' w.heap.size T_impl_Debt 5 p' n' c' (settleR cur l).1 f ∧ Ext w w' := by
  refine spec_Settle_ret ?_
  unfold spec_Settle
  refine Ret.at (spec_Positions_o cur h hc hn hb) ?_
  rintro v w0 ⟨ps, ns, cs, fs0, hv, ho0, y0⟩
  subst hv
  refine ⟨_, _, _, _, rfl, ?_⟩
  intro r w1 hn1
  refine ifN (fun hno => ?_) (fun hok => ?_)
  · have hR : settleR cur l = ([], false) := by unfold settleR; rw [hno]; rfl
    rw [hR]
    exact ⟨none, 0, 0, [], rfl, no_rows _ _ _ _, y0.trans hn1.ext⟩
  have hT : posT cur l = sumsRows (posTo l l.length) := by unfold posT; rw [if_pos hok]
  rw [hT] at ho0
  have hns := ho0.1
  rw [sumsRows_len] at hns
  have hR : settleR cur l = settleF cur ns (posTo l l.length) [] := by unfold settleR; rw [if_pos hok, hns]
  have hS0 := pos_inv hc hok
  have hle := posTo_len l l.length (Nat.le_refl _)
  have hl20 := (debts_facts hok).1
  rw [hR]
  generalize posTo l l.length = s0 at *
  have e1 := hn1.r_eq; have z1 := hn1.size
  have ly0 := y0.le
  refine ⟨SetI w cur s0 ps ns cs, fun _ on _ _ => ns - on, ⟨s0, [], fs0, [r], ho0.ext hn1.ext, OwnRows.fresh hn1 (by omega), fun q hq hm => by
    simp at hq
    have := (ho0.lt q hm).2
    omega, y0.trans hn1.ext, hS0, hns, by have := nzc_len s0; omega, rfl⟩, ?_⟩
  intro junk wr op on oc ⟨s, out, fs, fo, ho, hoo, hdis, hx, hS, hsl, hnz, hF⟩
  have stop : ∀ W, Ext wr W → ¬ (0 < s.length ∧ valAt s (loOf s) < 0) → SetQ w cur ns s0 (.tuple #[.slice op on oc, .bool true]) W := fun W hW hh => by
    unfold SetQ
    rw [← hF, settle_stop hh]
    exact ⟨_, _, _, fo, rfl, hoo.ext hW, hx.trans hW⟩
  refine ifD (fun h0 => ?_) (fun h0 => by unfold spec_Settle_j2; exact stop wr (Ext.refl _) (fun h => by omega))
  have hrow : (sumsRows s)[0]? = some ((sumsRows s)[0]'(by rw [sumsRows_len]; omega)) := List.getElem?_eq_getElem _
  obtain ⟨b, _, _, _, hpb, _⟩ := ho.put hrow
  subst hpb
  refine ⟨SetJ wr s ns, fun _ _ i _ => ns - i.toNat, ⟨0, rfl, rfl, rfl, Nat.zero_le _, Ext.refl _⟩, ?_⟩
  intro junk1 w3 lo hi i ⟨j, hi1, hlo1, hhi1, hjn, X3⟩
  subst hi1
  subst hlo1
  subst hhi1
  refine ifD (fun hlt => ?_) (fun hge => ?_)
  · have hj : j < s.length := by omega
    have hbl : bestTo false s j < s.length := bestTo_in false (by omega) (by omega)
    obtain ⟨kp, kn, kc, _, _, _, _, _, _, ld1, ⟨f1, rep1, _⟩, _⟩ := at_row (ho.ext X3) hj (by kernel_rfl) (by kernel_rfl)
    obtain ⟨kp2, kn2, kc2, _, _, _, _, ld2, _, _, ⟨f2, rep2, _⟩, _⟩ := at_row (ho.ext X3) hbl (by kernel_rfl) (by kernel_rfl)
    have b1 := hS.bnd j
    have b2 := hS.bnd (bestTo false s j)
    refine ⟨⟨by omega, by omega⟩, _, _, _, _, _, ld1 w3 (Ext.refl _), ?_⟩
    intro r1 w4 hn4
    have e4 := hn4.r_eq
    obtain ⟨w5, st5, b5, y5⟩ := hn4.fill (P := P) (t := T_impl_Pos) (xs := [.string (keyAt s j), .bool (decide (valAt s j < 0)), .slice kp kn kc]) (by simp [Value.oneCell']) (by kernel_rfl) rfl
    have d5 := Ext.drew w5
    have Y5 := y5.trans d5
    refine ⟨w5, st5, _, _, _, _, fun V hV => (b5.ext (d5.trans hV)).loadAAt 1 [.bool (decide (valAt s j < 0)), .slice kp kn kc] rfl (by kernel_rfl) rfl, ⟨by omega, by omega⟩, _, _, _, _, fun V hV => ld2 V (Y5.trans hV), ?_⟩
    refine Ret.at (spec_IntCmp_c (rep1.reps.ext Y5) (rep2.reps.ext Y5) (enc_code _) (enc_code _)) ?_
    rintro v w8 ⟨hv, y8⟩
    subst hv
    rw [cmp_small b1 b2]
    have Y8 := Y5.trans y8
    have X8 := X3.trans Y8
    refine ⟨_, rfl, ifD (fun hb => ?_) (fun hb => ?_)⟩
    · have hb' := sgn_neg0.1 hb
      refine spec_Settle_j0_c (lo1 := j) (ho.ext X8) hS hsl (by omega) (by omega) X8 (b5.ext (d5.trans y8)) (rep1.reps.ext Y8) ?_
      rw [bestTo, if_pos (by simp only [better, Bool.false_eq_true, if_false, decide_eq_true_eq]; omega)]
    · have hb' := mt sgn_neg0.2 hb
      refine spec_Settle_j0_c (lo1 := bestTo false s j) (ho.ext X8) hS hsl (by omega) (by omega) X8 (b5.ext (d5.trans y8)) (rep1.reps.ext Y8) ?_
      rw [bestTo, if_neg (by simp only [better, Bool.false_eq_true, if_false, decide_eq_true_eq]; omega)]
  have hjl : j = s.length := by omega
  subst hjl
  have l1 : loOf s < s.length := bestTo_in _ (Nat.le_refl _) (by omega)
  have l2 : hiOf s < s.length := bestTo_in _ (Nat.le_refl _) (by omega)
  have b1 := hS.bnd (loOf s)
  have b2 := hS.bnd (hiOf s)
  obtain ⟨lp, ln, lc, hbB, hbl, hbf, _, lsig, _, _, ⟨fl, lown, _⟩, _⟩ := at_row (ho.ext X3) l1 (by kernel_rfl) (by kernel_rfl)
  obtain ⟨hp, hn', hc', _, _, _, _, hsig, _, _, ⟨fh, hown, hbfh, hfhf⟩, _⟩ := at_row (ho.ext X3) l2 (by kernel_rfl) (by kernel_rfl)
  refine ⟨⟨by omega, by unfold loOf at l1; omega⟩, _, _, _, _, lsig w3 (Ext.refl _), ?_⟩
  refine Ret.at (spec_IntSign_c lown.reps (enc_code _)) ?_
  rintro v w4 ⟨hv, y4⟩
  subst hv
  rw [isign_sgn (enc_small (by omega))]
  have X4 := X3.trans y4
  refine ⟨_, rfl, ifD (fun hst => by unfold spec_Settle_j2; exact stop w4 X4 (fun h => absurd (sgn_nn0.1 hst) (by have := h.2; omega))) (fun hgo => ?_)⟩
  have hlo : valAt s (loOf s) < 0 := by have := mt sgn_nn0.2 hgo; omega
  obtain ⟨ha0, ha1, ha2, ha3, hne⟩ := amt_facts (by omega) hS.tot hlo
  have hhi := hi_pos (by omega) hS.tot hlo
  refine ⟨⟨by omega, by unfold loOf at l1; omega⟩, _, _, _, _, lsig w4 y4, ?_⟩
  refine Ret.at (spec_IntAbs_s (lown.reps.ext y4) (enc_small (by omega)) (digs_canon _)) ?_
  rintro v w5 ⟨vs5, f5, hv, ho5, nd5, y5⟩
  subst hv
  rw [val_digs] at ho5
  obtain ⟨g0, gp, gn, gc, gz, rfl, hgd, _⟩ := open_Signed ho5.reps (enc_code _)
  simp only [enc, List.cons.injEq, D0.bool.injEq, D0.ints.injEq, and_true] at hgd
  obtain ⟨rfl, rfl⟩ := hgd
  refine ⟨_, _, _, _, rfl, ?_⟩
  intro r1 w6 hn6
  have e6 := hn6.r_eq; have z6 := hn6.size
  obtain ⟨w7, st7, b7, y7⟩ := hn6.fill (P := P) (t := T_impl_Signed) (xs := [.bool (decide (((valAt s (loOf s)).natAbs : Int) < 0)), .slice gp gn gc]) (by simp [Value.oneCell']) (by kernel_rfl) rfl
  have d7 := Ext.drew w7
  have Y7 := (y4.trans y5).trans (y7.trans d7)
  have lX4 := X4.le
  have ly5 := y5.le
  have hbw : b < wr.heap.size := (ho.lt b (by obtain ⟨_, _, _, _, _, hf, _⟩ := ho; rw [hf]; simp)).2
  refine ⟨w7, st7, ⟨by omega, by unfold hiOf at l2; omega⟩, _, _, _, _, fun V hV => hsig V (Y7.trans hV), _, _, _, _, fun V hV => (b7.ext (d7.trans hV)).loadA0 (by kernel_rfl), ?_⟩
  refine Ret.at (spec_IntCmp_c (hown.reps.ext Y7) (ho5.reps.ext (y7.trans d7)) (enc_code _) (enc_code _)) ?_
  rintro v w10 ⟨hv, y10⟩
  subst hv
  rw [cmp_small b2 (by omega)]
  have Z := Y7.trans y10
  have X10 := X3.trans Z
  have r1fo : r1 ∉ fo := fun hm => by have := (hoo.lt r1 hm).2; omega
  have r1b : r1 ≠ b := by omega
  have b10 := b7.ext (d7.trans y10)
  refine ⟨_, rfl, ifD (fun hless => ?_) (fun hge => ?_)⟩
  · have hl' := sgn_neg0.1 hless
    have ham : amt s = valAt s (hiOf s) := by unfold amt; rw [if_pos (by omega)]
    refine ⟨⟨by omega, by unfold hiOf at l2; omega⟩, _, _, _, _, hsig w10 Z, ?_⟩
    obtain ⟨w12, st12, b12, ch12, sz12⟩ := b10.storeA0 (P := P) (t := T_impl_Signed) (xs := [.bool (decide (valAt s (hiOf s) < 0)), .slice hp hn' hc']) (by kernel_rfl) rfl (by simp [Value.oneCell'])
    have X12 : Ext wr w12 := X10.chg ch12 (by simp; omega)
    have hlt3 := hown.lt
    refine ⟨w12, st12, ?_⟩
    exact spec_Settle_j3_c (fa := fh) (ho.ext X12) (hoo.ext X12) hdis (hx.trans X12) hS hsl (by omega) hnz hF (by omega) hlo (by rw [ham]; exact b12) r1fo r1b (by rw [ham]; exact (hown.ext Z).chg ch12 (fun k hk hm => by have := (hlt3 k hk).2; have := y4.le; simp at hm; omega))
      (fun q hq => ⟨fun hm => hdis q hm (hfhf q hq), fun e => hbfh (by rw [← e]; exact hq)⟩)
  · have hl' := mt sgn_neg0.2 hge
    have ham : amt s = ((valAt s (loOf s)).natAbs : Int) := by unfold amt; split <;> omega
    have lx := hx.le
    exact spec_Settle_j3_c (fa := f5) (ho.ext X10) (hoo.ext X10) hdis (hx.trans X10) hS hsl (by omega) hnz hF (by omega) hlo (by rw [ham]; exact b10) r1fo r1b (by rw [ham]; exact ((ho5.ext ((y7.trans d7).trans y10)).mono (by omega)))
      (fun q hq => ⟨fun hm => by have h1 := (ho5.lt q hq).1; have h2 := (hoo.lt q hm).2; omega, fun e => by have h1 := (ho5.lt q hq).1; omega⟩)
end Go.Proofs.YtdidocmbcfbjdaaDoor

namespace Go.Proofs.YtdidocmbcfbjdaaDoor
open Go Go.Proofs.YtdidocmbcfbjdaaDoor.Sx
set_option linter.unusedVariables false
set_option linter.unusedSimpArgs false
theorem impl_Settle_c {w : World} (cur : ByteArray) {p : Option Addr} {n c : Nat} {l : List (List D0)} (h : RowsR w 5 p n c l) (hc : ∀ x ∈ l, x.map D0.code = [.str, .str, .str, .bool, .ints]) (hn : n ≤ 1048576) (hb : ∀ x ∈ l, bulks x ≤ 1048576) (ht : Tab w) :
    Ret P n_impl_Settle [.string cur, .slice p n c] w fun v w' => ∃ p' n' c' f, v = .tuple #[.slice p' n' c', .bool (settleR cur l).2] ∧ OwnRows w' w.heap.size T_impl_Debt 5 p' n' c' (settleR cur l).1 f ∧ (∀ x ∈ (settleR cur l).1, x.map D0.code = [.str, .str, .str, .bool, .ints]) ∧ cntL (settleR cur l).1 ≤ 1000000000 ∧ Ext w w' :=
  (impl_Settle_o cur h hc hn hb ht).mono fun v w' ⟨p', n', c', f, hv, ho, hx⟩ => ⟨p', n', c', f, hv, ho, settleR_code cur l, settleR_cnt hc, hx⟩
theorem spec_Settle_c {w : World} (cur : ByteArray) {p : Option Addr} {n c : Nat} {l : List (List D0)} (h : RowsR w 5 p n c l) (hc : ∀ x ∈ l, x.map D0.code = [.str, .str, .str, .bool, .ints]) (hn : n ≤ 1048576) (hb : ∀ x ∈ l, bulks x ≤ 1048576) :
    Ret P n_spec_Settle [.string cur, .slice p n c] w fun v w' => ∃ p' n' c', v = .tuple #[.slice p' n' c', .bool (settleR cur l).2] ∧ RowsR w' 5 p' n' c' (settleR cur l).1 ∧ (∀ x ∈ (settleR cur l).1, x.map D0.code = [.str, .str, .str, .bool, .ints]) ∧ Ext w w' :=
  (spec_Settle_o cur h hc hn hb).mono fun v w' ⟨p', n', c', f, hv, ho, hx⟩ => ⟨p', n', c', hv, ho.rows, settleR_code cur l, hx⟩
end Go.Proofs.YtdidocmbcfbjdaaDoor

namespace Go.Proofs.YtdidocmbcfbjdaaDoor.Sx
open Go Go.RowKit
set_option linter.unusedVariables false
set_option linter.unusedSimpArgs false
theorem Fl.trans {os : List Obj} {ss : List (Option Nat)} {w : World} {s1 : List (Option Nat)} {w1 : World} {s2 : List (Option Nat)} {w2 : World} (h : Fl os ss w s1 w1) (g : Fl os s1 w1 s2 w2) : Fl os ss w s2 w2 := by
  induction h with
  | refl => exact g
  | step h1 h2 _ ih => exact .step h1 h2 (ih g)
theorem Fl.old {os : List Obj} {ss : List (Option Nat)} {w : World} {s1 : List (Option Nat)} {w1 : World} (h : Fl os ss w s1 w1) {k r : Nat} (hk : s1[k]? = some (some r)) : ss[k]? = some (some r) ∨ w.heap.size ≤ r := by
  induction h with
  | refl => exact .inl hk
  | step h1 h2 h3 ih =>
    rename_i ss w k' o s' w'
    have hs : (w.alloc o).heap.size = w.heap.size + 1 := by simp
    rcases ih hk with h | h
    · by_cases e : k' = k
      · subst e
        have hl : k' < ss.length := by
          rcases Nat.lt_or_ge k' ss.length with h | h
          · exact h
          · rw [List.getElem?_eq_none h] at h1; cases h1
        rw [List.getElem?_set_self hl] at h
        simp at h
        exact .inr (by omega)
      · rw [List.getElem?_set_ne e] at h
        exact .inl h
    · exact .inr (by omega)
def FlS (os : List Obj) (w0 : World) (ss : List (Option Nat)) (w : World) : Prop :=
  Ext w0 w ∧ (∀ (k r : Nat), ss[k]? = some (some r) → w0.heap.size ≤ r ∧ r < w.heap.size ∧ w.heap[r]? = os[k]?) ∧ (∀ (k l r : Nat), ss[k]? = some (some r) → ss[l]? = some (some r) → k = l)
theorem FlS.ext {os : List Obj} {w0 w w' : World} {ss : List (Option Nat)} (h : FlS os w0 ss w) (y : Ext w w') : FlS os w0 ss w' :=
  ⟨h.1.trans y, fun k r hk => by
    obtain ⟨a, b, c⟩ := h.2.1 k r hk
    exact ⟨a, Nat.lt_of_lt_of_le b y.le, (y.block r b).trans c⟩, h.2.2⟩
theorem FlS.step {os : List Obj} {w0 w w' : World} {ss ss' : List (Option Nat)} (h : FlS os w0 ss w) (f : Fl os ss w ss' w') : FlS os w0 ss' w' := by
  induction f with
  | refl => exact h
  | step h1 h2 h3 ih =>
    rename_i ss w k' o s' w'
    refine ih ?_
    have y : Ext w (w.alloc o) := (Below.refl _ _).alloc (Nat.le_refl _) _
    have hs : (w.alloc o).heap.size = w.heap.size + 1 := by simp
    have hg : (w.alloc o).heap[w.heap.size]? = some o := heap_alloc_new w _
    have hl : k' < ss.length := by
      rcases Nat.lt_or_ge k' ss.length with h | h
      · exact h
      · rw [List.getElem?_eq_none h] at h1; cases h1
    have hx := h.ext y
    have hle := h.1.le
    refine ⟨hx.1, fun k r hk => ?_, fun k l r hk hl' => ?_⟩
    · by_cases e : k' = k
      · subst e
        rw [List.getElem?_set_self hl] at hk
        simp at hk
        subst hk
        exact ⟨hle, by omega, hg.trans h2.symm⟩
      · rw [List.getElem?_set_ne e] at hk
        exact hx.2.1 k r hk
    · by_cases e : k' = k
      · by_cases e2 : k' = l
        · omega
        · subst e
          rw [List.getElem?_set_self hl] at hk
          simp at hk
          subst hk
          rw [List.getElem?_set_ne e2] at hl'
          have := (h.2.1 l _ hl').2.1
          omega
      · rw [List.getElem?_set_ne e] at hk
        by_cases e2 : k' = l
        · subst e2
          rw [List.getElem?_set_self hl] at hl'
          simp at hl'
          subst hl'
          have := (h.2.1 k _ hk).2.1
          omega
        · rw [List.getElem?_set_ne e2] at hl'
          exact h.2.2 k l r hk hl'
theorem FlS.first {os : List Obj} {w0 w : World} {ss0 ss : List (Option Nat)} (f : Fl os ss0 w0 ss w) (h : ss0.all Option.isNone = true) : FlS os w0 ss w := by
  refine FlS.step ⟨Ext.refl _, fun k r hk => ?_, fun k l r hk _ => ?_⟩ f <;>
  · have hm := List.mem_of_getElem? hk
    have := List.all_eq_true.1 h _ hm
    simp at this
theorem FlS.blk {os : List Obj} {w0 w : World} {ss : List (Option Nat)} {k r : Nat} {cs : List Value} {e : TypeId} (h : FlS os w0 ss w) (hk : ss[k]? = some (some r)) (ho : os[k]? = some (.cells ⟨cs⟩ e (0, 0))) : w0.heap.size ≤ r ∧ r < w.heap.size ∧ Blk w r e cs := by
  obtain ⟨a, b, c⟩ := h.2.1 k r hk
  exact ⟨a, b, c.trans ho⟩
theorem FlS.ne {os : List Obj} {w0 w : World} {ss : List (Option Nat)} {k l r s : Nat} (h : FlS os w0 ss w) (hk : ss[k]? = some (some r)) (hl : ss[l]? = some (some s)) (e : k ≠ l) : r ≠ s := fun hh => e (h.2.2 k l r hk (hh ▸ hl))
theorem FlS.apart {os : List Obj} {w0 wc we w' : World} {ss ss' : List (Option Nat)} {k r : Nat} (h : FlS os w0 ss wc) (f : Fl os ss we ss' w') (hk : ss'[k]? = some (some r)) : r < wc.heap.size ∨ we.heap.size ≤ r := by
  rcases f.old hk with a | a
  · exact .inl (h.2.1 k r a).2.1
  · exact .inr a
end Go.Proofs.YtdidocmbcfbjdaaDoor.Sx

namespace Go.Proofs.YtdidocmbcfbjdaaDoor
open Go Go.Proofs.YtdidocmbcfbjdaaDoor.Sx
set_option linter.unusedVariables false
set_option linter.unusedSimpArgs false
theorem laws_markDebtS_c {w : World} {B : Nat} {e : TypeId} {p : Option Addr} {n c : Nat} {l : List (List D0)} {f : List Nat} {k : Int} (h : OwnRows w B e 5 p n c l f) (hc : ∀ x ∈ l, x.map D0.code = [.str, .str, .str, .bool, .ints]) (h0 : 0 ≤ k) (h1 : k + cntL l ≤ 1000000000000000000) :
    Ret P n_laws_markDebtS [.slice p n c, .int .i64 k] w fun v w' => v = .int .i64 (k + cntL l) ∧ OwnRows w' B e 5 p n c (markL l k) f ∧ Chg f w w' := by
  have hz := h.1; have hcap := h.rows.2.1; have hcm := h.rows.2.2.1
  refine laws_markDebtS_ret ?_
  unfold laws_markDebtS
  refine ⟨fun k1 i wr => ∃ j : Nat, i = j ∧ j ≤ n ∧ k1 = k + cntL (l.take j) ∧ OwnRows wr B e 5 p n c (markL (l.take j) k ++ l.drop j) f ∧ Chg f w wr, fun _ i _ => n - i.toNat, ⟨0, rfl, by omega, by simp [cntL], by simpa [markL] using h, Chg.refl _ _⟩, ?_⟩
  intro junk wr k1 i ⟨j, hij, hj, hk1, ho, hch⟩
  subst hij
  refine ifD (fun hlt => ?_) (fun hge => ?_)
  · have hjl : j < l.length := by omega
    obtain ⟨x, hxe⟩ : ∃ x, l[j]? = some x := ⟨_, List.getElem?_eq_getElem hjl⟩
    have hcode := hc x (List.mem_of_getElem? hxe)
    obtain ⟨hct, hcle⟩ := cntL_row hxe
    have hcn := cntL_nonneg (l.take j)
    obtain ⟨b, xs, cs, zs, fi, hp, hB, hA, hk, blk, ow, ndf, hbf, hbm, hfm, back⟩ := ho.focus (markL_at hxe)
    subst hp
    obtain ⟨a0, us, es, rfl, rfl, ow2, hcode2⟩ := ow.consStr hcode
    clear ow hcode; have ow := ow2; have hcode := hcode2; clear ow2 hcode2
    obtain ⟨a1, us, es, rfl, rfl, ow2, hcode2⟩ := ow.consStr hcode
    clear ow hcode; have ow := ow2; have hcode := hcode2; clear ow2 hcode2
    obtain ⟨a2, us, es, rfl, rfl, ow2, hcode2⟩ := ow.consStr hcode
    clear ow hcode; have ow := ow2; have hcode := hcode2; clear ow2 hcode2
    obtain ⟨a3, us, es, rfl, rfl, ow2, hcode2⟩ := ow.consBool hcode
    clear ow hcode; have ow := ow2; have hcode := hcode2; clear ow2 hcode2
    obtain ⟨a4p, a4n, a4c, a4z, us, es, f4, rfl, rfl, rfl, o4, ow2, hcode2⟩ := ow.consInts hcode
    clear ow hcode; have ow := ow2; have hcode := hcode2; clear ow2 hcode2
    obtain ⟨rfl, rfl, rfl⟩ := ow.done hcode
    simp only [cnts, D0.cnt] at hct hcle
    have z4 : a4z.length = a4n := by have := o4.len; simpa using this
    have m4 : ∀ q, a4p.map (·.block) = some q → q ∈ ((a4p.map (·.block)).toList ++ ([] : List Nat)) := fun q hq => List.mem_append_left _ (mem_opt hq)
    have u4 : ∀ {W : World} {W2 : World} {zs : List Value}, Own W B T_int 1 a4p a4n a4c zs → Chg [b] W W2 → Own W2 B T_int 1 a4p a4n a4c zs := fun o ch => o.chg ch (fun q hq hm => hbf (List.mem_singleton.1 hm ▸ m4 q hq))
    have chT : Chg (b :: ((a4p.map (·.block)).toList ++ ([] : List Nat))) wr wr := Chg.refl _ _
    have sub1 : ∀ q ∈ [b], q ∈ b :: ((a4p.map (·.block)).toList ++ ([] : List Nat)) := fun q hq => by rw [List.mem_singleton.1 hq]; exact List.mem_cons_self
    refine Ret.at (laws_markText_c (by omega) _) ?_
    rintro v w1 ⟨hv, y⟩
    subst hv
    have blk := blk.ext y; have chT := chT.trans y.toChg
    have o4 := o4.ext y
    obtain ⟨w2, st, blk2, ch, sz⟩ := blk.storeMid (P := P) (t := T_string) (v := .string (mtext (k1))) hA 0 (by simp) (by kernel_rfl) rfl rfl
    have blk : Blk w2 b e (xs ++ [.string (mtext (k1)), .string a1, .string a2, .bool a3, .slice a4p a4n a4c] ++ zs) := blk2; clear blk2
    have chT := chT.trans (ch.mono sub1)
    have o4 := u4 o4 ch
    refine ⟨_, rfl, ⟨by omega, by omega⟩, w2, (by simp only [addr_add, Int.toNat_natCast, Nat.zero_add, Nat.add_zero]; exact st), exW ⟨by omega, by omega⟩ ?_⟩
    refine Ret.at (laws_markText_c (by omega) _) ?_
    rintro v w3 ⟨hv, y⟩
    subst hv
    have blk := blk.ext y; have chT := chT.trans y.toChg
    have o4 := o4.ext y
    obtain ⟨w4, st, blk2, ch, sz⟩ := blk.storeMid (P := P) (t := T_string) (v := .string (mtext (k1 + 1))) hA 1 (by simp) (by kernel_rfl) rfl rfl
    have blk : Blk w4 b e (xs ++ [.string (mtext (k1)), .string (mtext (k1 + 1)), .string a2, .bool a3, .slice a4p a4n a4c] ++ zs) := blk2; clear blk2
    have chT := chT.trans (ch.mono sub1)
    have o4 := u4 o4 ch
    refine ⟨_, rfl, ⟨by omega, by omega⟩, w4, (by simp only [addr_add, Int.toNat_natCast, Nat.zero_add, Nat.add_zero]; exact st), exW ⟨by omega, by omega⟩ ?_⟩
    refine Ret.at (laws_markText_c (by omega) _) ?_
    rintro v w5 ⟨hv, y⟩
    subst hv
    have blk := blk.ext y; have chT := chT.trans y.toChg
    have o4 := o4.ext y
    obtain ⟨w6, st, blk2, ch, sz⟩ := blk.storeMid (P := P) (t := T_string) (v := .string (mtext (k1 + 1 + 1))) hA 2 (by simp) (by kernel_rfl) rfl rfl
    have blk : Blk w6 b e (xs ++ [.string (mtext (k1)), .string (mtext (k1 + 1)), .string (mtext (k1 + 1 + 1)), .bool a3, .slice a4p a4n a4c] ++ zs) := blk2; clear blk2
    have chT := chT.trans (ch.mono sub1)
    have o4 := u4 o4 ch
    refine ⟨_, rfl, ⟨by omega, by omega⟩, w6, (by simp only [addr_add, Int.toNat_natCast, Nat.zero_add, Nat.add_zero]; exact st), exW ⟨by omega, by omega⟩ ?_⟩
    refine ⟨by decide, _, rfl, ⟨by omega, by omega⟩, ?_⟩
    rw [Int.tmod_eq_emod_of_nonneg (show (0 : Int) ≤ k1 + 1 + 1 + 1 by omega)]
    obtain ⟨w7, st, blk2, ch, sz⟩ := blk.storeMid (P := P) (t := T_bool) (v := .bool (decide ((k1 + 1 + 1 + 1) % 3 = 0))) hA 3 (by simp) (by kernel_rfl) rfl rfl
    have blk : Blk w7 b e (xs ++ [.string (mtext (k1)), .string (mtext (k1 + 1)), .string (mtext (k1 + 1 + 1)), .bool (decide ((k1 + 1 + 1 + 1) % 3 = 0)), .slice a4p a4n a4c] ++ zs) := blk2; clear blk2
    have chT := chT.trans (ch.mono sub1)
    have o4 := u4 o4 ch
    refine ⟨w7, (by simp only [addr_add, Int.toNat_natCast, Nat.zero_add, Nat.add_zero]; exact st), exW ⟨by omega, by omega⟩ ?_⟩
    refine ⟨⟨by omega, by omega⟩, _, _, _, (by simp only [addr_add, Int.toNat_natCast, Nat.zero_add, Nat.add_zero]; exact (blk.segMid hA).loadAt 4 rfl (by kernel_rfl) rfl), ?_⟩
    refine Ret.at (laws_markIntS_c o4 (by omega) (by omega)) ?_
    rintro v w8 ⟨hv, on, ch⟩
    subst hv
    have blk := blk.chg ch (fun hm => hbf (m4 _ (opt_mem hm)))
    have chT := chT.trans (ch.mono (fun q hq => List.mem_cons_of_mem _ (m4 q (opt_mem hq))))
    have o4 := on; clear on
    refine ⟨_, rfl, ?_⟩
    refine exW ⟨by omega, by omega⟩ ⟨⟨j + 1, by omega, by omega, by omega, ?_, hch.trans (chT.mono (fun q hq => ?_))⟩, ?_⟩
    · rw [← markL_set hxe, ← hk1]
      have e : marks [.str a0, .str a1, .str a2, .bool a3, .ints a4z] k1 = [.str (mtext (k1)), .str (mtext (k1 + 1)), .str (mtext (k1 + 1 + 1)), .bool (decide ((k1 + 1 + 1 + 1) % 3 = 0)), .ints (mkI a4n (k1 + 1 + 1 + 1 + 1))] := by simp only [marks, D0.mark, D0.cnt, z4] <;> rfl
      rw [e]
      exact back _ [.string (mtext (k1)), .string (mtext (k1 + 1)), .string (mtext (k1 + 1 + 1)), .bool (decide ((k1 + 1 + 1 + 1) % 3 = 0)), .slice a4p a4n a4c] _ chT rfl blk (Owns.append (Owns.str _ _ _) (Owns.append (Owns.str _ _ _) (Owns.append (Owns.str _ _ _) (Owns.append (Owns.bool _ _ _) (Owns.append (Owns.ints o4) (Owns.nil _ _))))))
    · rcases List.mem_cons.1 hq with h | h
      · rw [h]; exact hbm
      · exact hfm q h
    · show n - ((j : Int) + 1).toNat < n - (j : Int).toNat
      omega
  · have hjn : j = n := by omega
    subst hjn
    rw [List.take_of_length_le (by omega), List.drop_of_length_le (by omega), List.append_nil] at ho
    rw [List.take_of_length_le (by omega)] at hk1
    exact ⟨by rw [hk1], ho, hch⟩
theorem laws_heldDebtS_c {w : World} {p : Option Addr} {n c : Nat} {l : List (List D0)} {k : Int} (h : RowsR w 5 p n c (markL l k)) (hc : ∀ x ∈ l, x.map D0.code = [.str, .str, .str, .bool, .ints]) (h0 : 0 ≤ k) (h1 : k + cntL l ≤ 1000000000000000000) :
    Ret P n_laws_heldDebtS [.slice p n c, .int .i64 k] w fun v w' => v = .int .i64 (k + cntL l) ∧ Ext w w' := by
  have hz : l.length = n := by have := h.1; rwa [markL_len] at this
  have hcap := h.2.1; have hcm := h.2.2.1
  refine laws_heldDebtS_ret ?_
  unfold laws_heldDebtS
  refine ⟨fun k1 i wr => ∃ j : Nat, i = j ∧ j ≤ n ∧ k1 = k + cntL (l.take j) ∧ Ext w wr, fun _ i _ => n - i.toNat, ⟨0, rfl, by omega, by simp [cntL], Ext.refl _⟩, ?_⟩
  intro junk wr k1 i ⟨j, hij, hj, hk1, hx⟩
  subst hij
  refine ifD (fun hlt => ?_) (fun hge => ?_)
  · have hjl : j < l.length := by omega
    obtain ⟨x, hxe⟩ : ∃ x, l[j]? = some x := ⟨_, List.getElem?_eq_getElem hjl⟩
    have hcode := hc x (List.mem_of_getElem? hxe)
    obtain ⟨hct, hcle⟩ := cntL_row hxe
    have hcn := cntL_nonneg (l.take j)
    obtain ⟨b, off, hp, hs⟩ := (h.ext hx).2.2.2 (by omega)
    subst hp
    obtain ⟨cs, hk, hr, hsg⟩ := hs j _ (markL_get l k j x hxe)
    rw [← hk1] at hr
    obtain ⟨s0, es, rfl, hcode2⟩ := code_str hcode
    clear hcode; have hcode := hcode2; clear hcode2
    obtain ⟨s1, es, rfl, hcode2⟩ := code_str hcode
    clear hcode; have hcode := hcode2; clear hcode2
    obtain ⟨s2, es, rfl, hcode2⟩ := code_str hcode
    clear hcode; have hcode := hcode2; clear hcode2
    obtain ⟨s3, es, rfl, hcode2⟩ := code_bool hcode
    clear hcode; have hcode := hcode2; clear hcode2
    obtain ⟨z4, es, rfl, hcode2⟩ := code_ints hcode
    clear hcode; have hcode := hcode2; clear hcode2
    have hn := code_nil hcode; subst hn
    simp only [marks, D0.mark, D0.cnt] at hr
    simp only [cnts, D0.cnt] at hct hcle
    obtain ⟨a0, us, es, rfl, hd, hr2, hc2⟩ := hr.str rfl
    cases hd
    clear hr hc2; have hr := hr2; clear hr2
    obtain ⟨a1, us, es, rfl, hd, hr2, hc2⟩ := hr.str rfl
    cases hd
    clear hr hc2; have hr := hr2; clear hr2
    obtain ⟨a2, us, es, rfl, hd, hr2, hc2⟩ := hr.str rfl
    cases hd
    clear hr hc2; have hr := hr2; clear hr2
    obtain ⟨a3, us, es, rfl, hd, hr2, hc2⟩ := hr.bool rfl
    cases hd
    clear hr hc2; have hr := hr2; clear hr2
    obtain ⟨a4p, a4n, a4c, a4z, us, es, rfl, hd, g4, hr2, hc2⟩ := hr.ints rfl
    cases hd
    clear hr hc2; have hr := hr2; clear hr2
    obtain ⟨hv, _⟩ := hr.done rfl
    subst hv
    have y4 : z4.length = a4n := by have := g4.1; rwa [mkI_len] at this
    rw [y4] at g4
    have X : Ext wr wr := Ext.refl _
    have D := Ext.drew wr; have X := X.trans D
    refine ⟨⟨by omega, by omega⟩, _, fun W' hW => (by simp only [addr_add, Int.toNat_natCast, Nat.zero_add, Nat.add_zero]; exact (hsg.ext (X.trans hW)).loadAt 0 rfl (by kernel_rfl) rfl), ?_⟩
    refine Ret.at (laws_markText_c (by omega) _) ?_
    rintro v w1 ⟨hv, y⟩
    subst hv
    have X := X.trans y
    refine ⟨_, rfl, y, ifD (fun hne => absurd rfl hne) (fun _ => exW ⟨by omega, by omega⟩ ?_)⟩
    have D := Ext.drew w1; have X := X.trans D
    refine ⟨⟨by omega, by omega⟩, _, fun W' hW => (by simp only [addr_add, Int.toNat_natCast, Nat.zero_add, Nat.add_zero]; exact (hsg.ext (X.trans hW)).loadAt 1 rfl (by kernel_rfl) rfl), ?_⟩
    refine Ret.at (laws_markText_c (by omega) _) ?_
    rintro v w2 ⟨hv, y⟩
    subst hv
    have X := X.trans y
    refine ⟨_, rfl, y, ifD (fun hne => absurd rfl hne) (fun _ => exW ⟨by omega, by omega⟩ ?_)⟩
    have D := Ext.drew w2; have X := X.trans D
    refine ⟨⟨by omega, by omega⟩, _, fun W' hW => (by simp only [addr_add, Int.toNat_natCast, Nat.zero_add, Nat.add_zero]; exact (hsg.ext (X.trans hW)).loadAt 2 rfl (by kernel_rfl) rfl), ?_⟩
    refine Ret.at (laws_markText_c (by omega) _) ?_
    rintro v w3 ⟨hv, y⟩
    subst hv
    have X := X.trans y
    refine ⟨_, rfl, y, ifD (fun hne => absurd rfl hne) (fun _ => exW ⟨by omega, by omega⟩ ?_)⟩
    refine ⟨⟨by omega, by omega⟩, _, (by simp only [addr_add, Int.toNat_natCast, Nat.zero_add, Nat.add_zero]; exact (hsg.ext X).loadAt 3 rfl (by kernel_rfl) rfl), by decide, _, rfl, ?_⟩
    rw [Int.tmod_eq_emod_of_nonneg (show (0 : Int) ≤ k1 + 1 + 1 + 1 by omega)]
    refine ⟨fun h => absurd h (bne_no rfl), fun _ => exW ⟨by omega, by omega⟩ ?_⟩
    refine ⟨⟨by omega, by omega⟩, _, _, _, (by simp only [addr_add, Int.toNat_natCast, Nat.zero_add, Nat.add_zero]; exact (hsg.ext X).loadAt 4 rfl (by kernel_rfl) rfl), ?_⟩
    refine Ret.at (laws_heldIntS_c (n := a4n) (k := k1 + 1 + 1 + 1 + 1) (by have := g4.ext X;  exact this) (by omega) (by omega)) ?_
    rintro v w4 ⟨hv, y⟩
    subst hv
    have X := X.trans y
    refine ⟨_, rfl, ifD (fun h => absurd h (by omega)) (fun _ => ?_)⟩
    refine exW ⟨by omega, by omega⟩ ⟨⟨j + 1, by omega, by omega, by omega, hx.trans X⟩, ?_⟩
    show n - ((j : Int) + 1).toNat < n - (j : Int).toNat
    omega
  · have hjn : j = n := by omega
    subst hjn
    rw [List.take_of_length_le (by omega)] at hk1
    exact ⟨by rw [hk1], hx⟩
end Go.Proofs.YtdidocmbcfbjdaaDoor

namespace Go.Proofs.YtdidocmbcfbjdaaDoor
open Go Go.Proofs.YtdidocmbcfbjdaaDoor.Sx
set_option linter.unusedVariables false
set_option linter.unusedSimpArgs false
set_option maxHeartbeats 4000000
theorem laws_FnExactSettle_c {w : World} (a0 : ByteArray) {p1 : Option Addr} {n1 c1 : Nat} {l1 : List (List D0)} (h1 : RowsR w 5 p1 n1 c1 l1) (hc1 : ∀ x ∈ l1, x.map D0.code = [.str, .str, .str, .bool, .ints]) (hk1 : ∀ x ∈ l1, ∀ d ∈ x, d.ok) (ht : Tab w) :
    Ret P n_laws_FnExactSettle [.string a0, .slice p1 n1 c1] w fun v w' => v = .bool true ∧ Ext w w' := by
  refine laws_FnExactSettle_ret ?_
  unfold laws_FnExactSettle
  have x : Ext w w := Ext.refl w
  refine ifD (fun _ => ⟨rfl, x⟩) (fun hs0 => ?_)
  refine Ret.at (laws_szDebtS_c (h1.ext x) hc1 hk1 (by omega) (by omega)) ?_
  rintro v W1 ⟨k1, hv, hs1, hm1, y⟩
  subst hv
  replace x := x.trans y
  have ll1 := y.le
  refine ⟨_, rfl, ifD (fun _ => ⟨rfl, x⟩) (fun hp1 => ?_)⟩
  have hs1 := hs1 (by omega)
  have hb1 : ∀ y ∈ l1, bulks y ≤ 1048576 := fun y hy => by have := bulks_le hy; omega
  have hz1 : n1 ≤ 1048576 := by omega
  have hsum1 : (l1.map bulks).sum ≤ 1048576 := by omega
  refine Ret.at (laws_toDebtS_c (h1.ext x) hc1 hz1 hb1) ?_
  rintro v W2 ⟨p_s1, c_s1, f_s1, hv, o_s1, y⟩
  subst hv
  have lt_o_s1 : ∀ k ∈ f_s1, W1.heap.size ≤ k ∧ k < W2.heap.size := o_s1.lt
  have yy := y
  replace x := x.trans y
  have ll2 := y.le
  refine ⟨_, _, _, rfl, ?_⟩
  refine Ret.at (spec_Settle_c a0 o_s1.rows hc1 hz1 hb1) ?_
  rintro v W3 ⟨p_w0, m_w0, c_w0, hv, o_w0, co_w0, y⟩
  subst hv
  replace x := x.trans y
  have ll3 := y.le
  have xS := Ext.refl W3
  refine ⟨_, _, _, _, rfl, ?_⟩
  refine Ret.at (laws_toDebtS_c (h1.ext x) hc1 hz1 hb1) ?_
  rintro v W4 ⟨p_x1, c_x1, f_x1, hv, o_x1, y⟩
  subst hv
  have lt_o_x1 : ∀ k ∈ f_x1, W3.heap.size ≤ k ∧ k < W4.heap.size := o_x1.lt
  replace x := x.trans y
  replace xS := xS.trans y
  have ll4 := y.le
  refine ⟨_, _, _, rfl, ?_⟩
  refine Ret.at (impl_Settle_c a0 o_x1.rows hc1 hz1 hb1 (ht.ext x)) ?_
  rintro v W5 ⟨p_g0, m_g0, c_g0, f_g0, hv, o_g0, co_g0, ct_g0, y⟩
  subst hv
  have tn_g0 := cntL_nn ct_g0
  have lt_o_g0 : ∀ k ∈ f_g0, W4.heap.size ≤ k ∧ k < W5.heap.size := o_g0.lt
  replace x := x.trans y
  replace xS := xS.trans y
  replace o_x1 := o_x1.ext y
  have ll5 := y.le
  refine ⟨_, _, _, _, rfl, ?_⟩
  refine Ret.at (laws_eqDebtS_c o_g0.rows (o_w0.ext xS) co_g0 co_w0) ?_
  rintro v W6 ⟨hv, y⟩
  subst hv
  replace x := x.trans y
  replace xS := xS.trans y
  replace o_x1 := o_x1.ext y
  replace o_g0 := o_g0.ext y
  have ll6 := y.le
  refine ⟨_, rfl, ifN (fun h => absurd h (by simp)) (fun _ => ?_)⟩
  refine ⟨fun h => absurd h (bne_no rfl), fun _ => ?_⟩
  unfold laws_FnExactSettle_j0
  refine Ret.at (laws_toDebtS_c (h1.ext x) hc1 hz1 hb1) ?_
  rintro v W7 ⟨p_y1, c_y1, f_y1, hv, o_y1, y⟩
  subst hv
  have lt_o_y1 : ∀ k ∈ f_y1, W6.heap.size ≤ k ∧ k < W7.heap.size := o_y1.lt
  have y2 := y
  replace x := x.trans y
  replace xS := xS.trans y
  replace o_x1 := o_x1.ext y
  replace o_g0 := o_g0.ext y
  have ll7 := y.le
  refine ⟨_, _, _, rfl, ?_⟩
  refine Ret.at (laws_eqDebtS_c o_x1.rows o_y1.rows hc1 hc1) ?_
  rintro v W8 ⟨hv, y⟩
  subst hv
  replace x := x.trans y
  replace xS := xS.trans y
  replace o_x1 := o_x1.ext y
  replace o_g0 := o_g0.ext y
  have ll8 := y.le
  refine ⟨_, rfl, ifN (fun h => absurd h (by simp)) (fun _ => ?_)⟩
  have cn1 := cntL_nonneg l1; have cb1 := cntL_le l1 (m := 5) (fun y hy => by rw [code_len (hc1 y hy)]; decide)
  have cl1 : cntL l1 ≤ 100000000 := by have := h1.1; omega
  refine Ret.at (laws_markDebtS_c o_x1 hc1 (by omega) (by omega)) ?_
  rintro v W9 ⟨hv, on, ch⟩
  subst hv
  replace x := x.chg ch (fun k hk => by have := lt_o_x1 k hk; omega)
  replace xS := xS.chg ch (fun k hk => by have := lt_o_x1 k hk; omega)
  replace o_g0 := o_g0.chg ch (fun k hk hm => by have h1 := lt_o_g0 k hk; have h2 := lt_o_x1 k hm; omega)
  have ll9 := ch.size
  replace o_x1 := on; clear on
  refine ⟨_, rfl, ?_⟩
  refine ifD (fun h => absurd h (by omega)) (fun _ => ?_)
  refine Ret.at (laws_eqDebtS_c o_g0.rows (o_w0.ext xS) co_g0 co_w0) ?_
  rintro v W10 ⟨hv, y⟩
  subst hv
  replace x := x.trans y
  replace xS := xS.trans y
  replace o_x1 := o_x1.ext y
  replace o_g0 := o_g0.ext y
  have ll10 := y.le
  refine ⟨_, rfl, ifN (fun h => absurd h (by simp)) (fun _ => ?_)⟩
  refine ⟨fun h => absurd h (bne_no rfl), fun _ => ?_⟩
  unfold laws_FnExactSettle_j1
  refine Ret.at (laws_markDebtS_c o_g0 co_g0 (by omega) (by omega)) ?_
  rintro v W11 ⟨hv, on, ch⟩
  subst hv
  replace x := x.chg ch (fun k hk => by have := lt_o_g0 k hk; omega)
  replace xS := xS.chg ch (fun k hk => by have := lt_o_g0 k hk; omega)
  replace o_x1 := o_x1.chg ch (fun k hk hm => by have h1 := lt_o_x1 k hk; have h2 := lt_o_g0 k hm; omega)
  have ll11 := ch.size
  replace o_g0 := on; clear on
  refine ⟨_, rfl, ?_⟩
  refine Ret.at (laws_heldDebtS_c o_g0.rows co_g0 (by omega) (by omega)) ?_
  rintro v W12 ⟨hv, y⟩
  subst hv
  replace x := x.trans y
  replace xS := xS.trans y
  replace o_x1 := o_x1.ext y
  replace o_g0 := o_g0.ext y
  have ll12 := y.le
  refine ⟨_, rfl, ifD (fun h => absurd h (by omega)) (fun _ => ?_)⟩
  refine ifD (fun h => absurd rfl h) (fun _ => ?_)
  refine Ret.at (laws_toDebtS_c (h1.ext x) hc1 hz1 hb1) ?_
  rintro v W13 ⟨p_h1, c_h1, f_h1, hv, o_h1, y⟩
  subst hv
  have lt_o_h1 : ∀ k ∈ f_h1, W12.heap.size ≤ k ∧ k < W13.heap.size := o_h1.lt
  have yy := y
  replace x := x.trans y
  replace xS := xS.trans y
  replace o_x1 := o_x1.ext y
  replace o_g0 := o_g0.ext y
  have ll13 := y.le
  refine ⟨_, _, _, rfl, ?_⟩
  refine Ret.at (impl_Settle_c a0 o_h1.rows hc1 hz1 hb1 (ht.ext x)) ?_
  rintro v W14 ⟨p_h0, m_h0, c_h0, f_h0, hv, o_h0, co_h0, ct_h0, y⟩
  subst hv
  have tn_h0 := cntL_nn ct_h0
  have lt_o_h0 : ∀ k ∈ f_h0, W13.heap.size ≤ k ∧ k < W14.heap.size := o_h0.lt
  replace x := x.trans y
  replace xS := xS.trans y
  replace o_x1 := o_x1.ext y
  replace o_g0 := o_g0.ext y
  have ll14 := y.le
  refine ⟨_, _, _, _, rfl, ?_⟩
  refine Ret.at (laws_eqDebtS_c o_h0.rows (o_w0.ext xS) co_h0 co_w0) ?_
  rintro v W15 ⟨hv, y⟩
  subst hv
  replace x := x.trans y
  replace xS := xS.trans y
  replace o_x1 := o_x1.ext y
  replace o_g0 := o_g0.ext y
  replace o_h0 := o_h0.ext y
  have ll15 := y.le
  refine ⟨_, rfl, ifN (fun h => absurd h (by simp)) (fun _ => ?_)⟩
  refine ⟨fun h => absurd h (bne_no rfl), fun _ => ?_⟩
  unfold laws_FnExactSettle_j2
  refine Ret.at (laws_heldDebtS_c o_g0.rows co_g0 (by omega) (by omega)) ?_
  rintro v W16 ⟨hv, y⟩
  subst hv
  replace x := x.trans y
  replace xS := xS.trans y
  replace o_x1 := o_x1.ext y
  replace o_g0 := o_g0.ext y
  replace o_h0 := o_h0.ext y
  have ll16 := y.le
  refine ⟨_, rfl, ifD (fun h => absurd h (by omega)) (fun _ => ?_)⟩
  refine ifD (fun h => absurd rfl h) (fun _ => ?_)
  exact ⟨rfl, x⟩
end Go.Proofs.YtdidocmbcfbjdaaDoor

namespace Go.Proofs.YtdidocmbcfbjdaaDoor.Sx
open Go Go.RowKit Go.ChangeShapes Go.WideShapes
set_option linter.unusedVariables false
set_option linter.unusedSimpArgs false
/-- each named variable's type can be read and is a row of the table -/
def rowedV (P : Program) (ns : List String) : Bool := ns.all fun n => ((P.globalNamed n).bind (P.globals[·]?)).all fun gl => P.readableRec gl.type && decide (gl.type < P.types.size)
section
variable {H : Type} {enc : TypeId × Value → H} {P : Program}
theorem trodAll_ext (hl : laidOutB P = true) {W W' : World} (hb : Ext W W') (sp' : Nat → Bool) : ∀ {ts : List TypeId} {vs : List Value} {ds : List (DataW H)} {ps : List MemPlace},
    (∀ t ∈ ts, P.readableRec t = true ∧ t < P.types.size) → (∀ p ∈ ps, p.block < W.heap.size) → (∀ p ∈ ps, sp' p.block = true) →
    DataW.TrodAll enc P W 0 (fun _ => true) true ts vs ds ps → DataW.TrodAll enc P W' 0 sp' true ts vs ds ps
  | [], _, _, _, _, _, _, h => by
    obtain ⟨rfl, rfl, rfl⟩ := trodAll_nil h
    exact rfl
  | t :: ts, _, _, _, hr, hlt, hsp, h => by
    obtain ⟨v, vs1, d, ds1, a, b, rfl, rfl, rfl, h1, h2⟩ := trodAll_cons h
    have hrt := hr t (by simp)
    exact ⟨a, b, WideElems.Trod_stays hl hrt.1 hrt.2 h1 (fun x hx => Below.same hb (hlt x (by simp [hx]))) (fun x hx => hsp x (by simp [hx])),
      trodAll_ext hl hb sp' (fun u hu => hr u (by simp [hu])) (fun x hx => hlt x (by simp [hx])) (fun x hx => hsp x (by simp [hx])) h2, rfl⟩
theorem trodVars_sp (hl : laidOutB P = true) {W W' : World} (hb : Ext W W') (sp' : Nat → Bool) :
    ∀ {ns : List String} {gs : List (DataW H)} {ps : List MemPlace}, rowedV P ns = true → (∀ p ∈ ps, sp' p.block = true) → DataW.TrodVars enc P W (fun _ => true) ns gs ps → DataW.TrodVars enc P W' sp' ns gs ps
  | [], [], _, _, _, h => h
  | [], _ :: _, _, _, _, h => h.elim
  | _ :: _, [], _, _, _, h => h.elim
  | n :: ns, d :: ds, ps, hv, hsp, h => by
    have hlt := h.lt
    obtain ⟨g, t, cs, fuel, p, q, h1, h2, h3, h4, hs, e⟩ := h
    simp only [rowedV, List.all_cons, Bool.and_eq_true] at hv
    have ht : P.readableRec t = true ∧ t < P.types.size := by
      have := hv.1
      rw [h1] at this
      cases hg : P.globals[g]? with
      | none => rw [hg] at h2; cases h2
      | some gl =>
        rw [hg] at h2
        obtain rfl : gl.type = t := Option.some.inj h2
        simpa [hg] using this
    have hp : ∀ x ∈ p, x.block < W.heap.size := fun x hx => hlt x (by rw [e]; simp [hx])
    have h3' : W'.var? P n = some cs := by
      unfold World.var? at h3 ⊢
      rw [h1] at h3 ⊢
      simp only [Option.bind_some] at h3 ⊢
      have hg : g < W.heap.size := by
        cases hh : W.heap[g]? with
        | none => rw [hh] at h3; cases h3
        | some o => exact (Array.getElem?_eq_some_iff.1 hh).1
      rw [hb.block g hg]; exact h3
    exact ⟨g, t, cs, fuel, p, q, h1, h2, h3', DataW.trod_stays (kids_book hl ht.1) (book_sized ht.1) (fun h => by cases h) ⟨ht.2, book_self t⟩ h4 (fun x hx => Below.same hb (hp x hx)) (fun x hx => hsp x (by rw [e]; simp [hx])),
      trodVars_sp hl hb sp' (by simpa [rowedV] using hv.2) (fun x hx => hsp x (by rw [e]; simp [hx])) hs, e⟩
/-- what the row asks of a law that answered true in a world with more behind it -/
theorem post_of_ext {f : Func} {s : ChangeSpec} {apart fresh handsOn again : Bool} {W W' : World} {args : Array Value} {ds gs : List (DataW H)} {before : List MemPlace} {tb : TypeId}
    (hl : laidOutB P = true) (hpar : ∀ t ∈ f.params.toList, P.readableRec t = true ∧ t < P.types.size) (hvr : rowedV P s.vars = true)
    (hrt : f.resultTypes = #[tb]) (htb : P.underlying tb = some .bool)
    (hW : DataW.Whole enc P f.params.toList s.vars apart W args.toList ds gs before) (hx : Ext W W')
    (hfn : s.fn H (ds ++ gs) = { results := [.lit (.bool true)], args := ds, vars := gs }) :
    s.post enc P f apart fresh handsOn again W args (.bool true) W' := by
  have hW0 := hW
  have hlt : ∀ p ∈ before, p.block < W.heap.size := hW.lt
  obtain ⟨pa, pv, hA, hV, rfl, hz, hn⟩ := hW
  have hlta : ∀ p ∈ pa, p.block < W.heap.size := fun p hp => hlt p (by simp [hp])
  have hltv : ∀ p ∈ pv, p.block < W.heap.size := fun p hp => hlt p (by simp [hp])
  have hr : (Value.bool true).resultList f.resultTypes.size = [Value.bool true] := by rw [hrt]; rfl
  refine ⟨ds, gs, pa ++ pv, [], pa, pv, hW0, ?_, ?_, ?_, Below.frame hx _, fun _ => ?_⟩
  · rw [hfn, hr, hrt]
    exact trodAll_mk1 (shut_bool htb _)
  · rw [hfn]
    exact trodAll_ext hl hx _ hpar hlta (fun p hp => by simpa using hlta p hp) hA
  · rw [hfn]
    exact trodVars_sp hl hx _ hvr (fun p hp => by simpa using hltv p hp) hV
  · refine ⟨?_, (.lit (.bool true)) :: ds, gs, pa ++ pv, ⟨[] ++ pa, pv, ?_, ?_, by simp, ?_, ?_⟩, fun p hp _ => hp⟩
    · rw [hr, hrt]
      exact ok_one (f := { f with resultTypes := #[tb] }) rfl rfl (okWide_bool_mk htb _)
    · rw [hr, hrt]
      exact trodAll_append (trodAll_ext hl hx _ hpar hlta (fun _ _ => rfl) hA) (trodAll_mk1 (shut_bool htb _))
    · exact trodVars_sp hl hx _ hvr (fun _ _ => rfl) hV
    · intro b off hp
      have := hlt _ hp
      rw [Below.frozen hx (p := ⟨b, off, none⟩) this]
      exact hz b off hp
    · exact hn
end
end Go.Proofs.YtdidocmbcfbjdaaDoor.Sx

namespace Go.Proofs.YtdidocmbcfbjdaaDoor.Sx
open Go Go.RowKit Go.ChangeShapes Go.WideShapes
set_option linter.unusedVariables false
set_option linter.unusedSimpArgs false
/-- the cells of a struct's fields, one behind the other -/
def flatF (P : Program) (g : TypeId → Option (List C0)) : Nat → List Field → Option (List C0)
  | _, [] => some []
  | o, f :: r => match Nat.beq f.offset o, g f.type with
    | true, some a => match Nat.beq (P.cellsOf f.type) a.length, flatF P g (o + a.length) r with
      | true, some b => some (a ++ b)
      | _, _ => none
    | _, _ => none
/-- the cells of a type -/
def flatC (P : Program) : Nat → TypeId → Option (List C0)
  | 0, _ => none
  | n + 1, t => match P.underlying t with
    | some .bool => some [.bool]
    | some (.int .i64) => some [.int]
    | some .string => some [.str]
    | some (.slice e) => match P.underlying e, P.cellsOf e with
      | some (.int .i64), 1 => some [.ints]
      | _, _ => none
    | some (.struct fs) => match flatF P (flatC P n) 0 fs.toList with
      | some a => if Nat.beq (P.cellsOf t) a.length then some a else none
      | none => none
    | _ => none
section
variable {H : Type} {enc : TypeId × Value → H} {P : Program} {w : World}
theorem seg_of_cells {b off n : Nat} {sp : Option Nat} {cs : List Value} (h : w.cells? 0 ⟨b, off, none⟩ n = some cs) : cs.length = n ∧ Seg w b off cs := by
  obtain ⟨_, hl, hc⟩ := World.cells?_some h
  refine ⟨hl, fun j v hj => ?_⟩
  have hjl : j < n := by rw [← hl]; exact (List.getElem?_eq_some_iff.1 hj).1
  rw [← addr_add, hc j hjl, hj]
theorem spot_none {a : Addr} {v : Value} (h : w.cell? a = some v) : a = ⟨a.block, a.off, none⟩ := by
  obtain ⟨b, o, spot⟩ := a
  have : spot = none := by simpa using World.cell?_spot h
  subst this; rfl
theorem ints_of_trod {t e : TypeId} {fuel : Nat} {sp : Nat → Bool} {hd : Bool} {cs : List Value} {x : DataW H × List MemPlace} (ht : P.underlying t = some (.slice e)) (he : P.underlying e = some (.int .i64)) (hc : P.cellsOf e = 1)
    (h : DataW.trod enc P w 0 sp hd fuel t cs = some x) : ∃ p n c zs, cs = [.slice p n c] ∧ IntsR w p n c zs ∧ zs.length ≤ 9223372036854775807 := by
  rcases Go.ChangeShapes.open_ints ht he hc h with ⟨rfl, _⟩ | ⟨a, len, cap, zs, rfl, _, hl, hm, hz, _, hcell, _⟩
  · exact ⟨none, 0, 0, [], rfl, ⟨rfl, Nat.le_refl _, by omega, fun h => absurd h (by omega)⟩, by simp⟩
  · have hlz : len ≤ zs.length := by rw [hz]; split <;> omega
    refine ⟨some a, len, cap, zs.take len, rfl, ⟨by simp; omega, hl, by simpa [maxLen] using hm, fun hpos => ?_⟩, by simp only [maxLen] at hm; simp; omega⟩
    have h0 := hcell 0 (by omega)
    have hs := spot_none h0
    have ha : a = ⟨a.block, a.off, none⟩ := by
      obtain ⟨b, o, s⟩ := a
      simp [Addr.add] at hs
      simp [hs]
    refine ⟨a.block, a.off, by rw [← ha], fun j v hj => ?_⟩
    simp only [List.getElem?_map, List.getElem?_take] at hj
    split at hj
    · rename_i hjl
      have hjz : j < zs.length := by omega
      have := hcell j hjz
      rw [ha, addr_add] at this
      rw [this]
      rw [List.getElem?_eq_getElem hjz] at hj
      simp at hj
      rw [← hj]
      simp [hjz]
    · simp at hj
theorem flatF_open {g : TypeId → Option (List C0)} {n : Nat} {sp : Nat → Bool} {hd : Bool}
    (ih : ∀ {t : TypeId} {ks : List C0} {cs : List Value} {x : DataW H × List MemPlace}, g t = some ks → DataW.trod enc P w 0 sp hd n t cs = some x → ∃ ds, Reps w cs ds ∧ ds.map D0.code = ks ∧ ∀ d ∈ ds, d.ok) :
    ∀ (fs : List Field) (o : Nat) (ks : List C0) (cs : List Value), flatF P g o fs = some ks → cs.length = o + ks.length →
      (∀ f ∈ fs, ∃ x, DataW.trod enc P w 0 sp hd n f.type ((cs.drop f.offset).take (P.cellsOf f.type)) = some x) → ∃ ds, Reps w (cs.drop o) ds ∧ ds.map D0.code = ks ∧ ∀ d ∈ ds, d.ok
  | [], o, ks, cs, hf, hl, _ => by
    simp only [flatF, Option.some.injEq] at hf
    subst hf
    rw [List.drop_of_length_le (by simp at hl; omega)]
    exact ⟨[], trivial, rfl, by simp⟩
  | f :: r, o, ks, cs, hf, hl, hx => by
    simp only [flatF] at hf
    split at hf
    · rename_i a h1 h2
      split at hf
      · rename_i b h3 h4
        have h1' := Nat.eq_of_beq_eq_true h1
        have h3' := Nat.eq_of_beq_eq_true h3
        cases hf
        rw [List.length_append] at hl
        obtain ⟨x, hx0⟩ := hx f (by simp)
        obtain ⟨ds, r1, c1, k1⟩ := ih h2 hx0
        obtain ⟨es, r2, c2, k2⟩ := flatF_open ih r (o + a.length) b cs h4 (by omega) (fun f' hf' => hx f' (by simp [hf']))
        refine ⟨ds ++ es, ?_, by simp [c1, c2], fun d hd => ?_⟩
        · rw [h1', h3'] at r1
          have : cs.drop o = (cs.drop o).take a.length ++ cs.drop (o + a.length) := by
            rw [← List.drop_drop, List.take_append_drop]
          rw [this]
          exact r1.append r2
        · rcases List.mem_append.1 hd with h | h
          · exact k1 d h
          · exact k2 d h
      · cases hf
    · cases hf
theorem flat_open {sp : Nat → Bool} {hd : Bool} : ∀ (m : Nat) {fuel : Nat} {t : TypeId} {ks : List C0} {cs : List Value} {x : DataW H × List MemPlace}, flatC P m t = some ks → DataW.trod enc P w 0 sp hd fuel t cs = some x →
    ∃ ds, Reps w cs ds ∧ ds.map D0.code = ks ∧ ∀ d ∈ ds, d.ok
  | 0, _, _, _, _, _, h, _ => by cases h
  | m + 1, fuel, t, ks, cs, x, h, ht => by
    simp only [flatC] at h
    split at h
    · rename_i hu
      obtain ⟨b, rfl, _⟩ := DataW.trod_bool hu ht
      cases h
      exact ⟨[.bool b], ⟨rfl, trivial⟩, rfl, by simp [D0.ok]⟩
    · rename_i hu
      obtain ⟨b, rfl, _, hw⟩ := DataW.trod_int hu ht
      cases h
      refine ⟨[.int b], ⟨rfl, trivial⟩, rfl, ?_⟩
      simp only [List.mem_singleton, forall_eq, D0.ok]
      simp [Lit.wf, IntKind.min, IntKind.max, IntKind.bits, IntKind.signed] at hw
      omega
    · rename_i hu
      obtain ⟨s, rfl, _, hw⟩ := DataW.trod_string hu ht
      cases h
      exact ⟨[.str s], ⟨rfl, trivial⟩, rfl, by simpa [D0.ok, maxLen] using hw⟩
    · rename_i e hu
      split at h
      · rename_i he hc
        cases h
        obtain ⟨p, n, c, zs, rfl, hr, hz⟩ := ints_of_trod hu he hc ht
        exact ⟨[.ints zs], ⟨⟨p, n, c, rfl, hr⟩, trivial⟩, rfl, by simpa [D0.ok] using hz⟩
      · cases h
    · rename_i fs hu
      split at h
      · rename_i a hf
        split at h
        · rename_i hsz
          cases h
          obtain ⟨xs, n, rfl, _, hlen, hxl, hfs⟩ := DataW.trod_struct hu ht
          have hsz' := Nat.eq_of_beq_eq_true hsz
          have := flatF_open (fun h1 h2 => flat_open m h1 h2) fs.toList 0 ks cs hf (by omega) (fun f hf => by
            obtain ⟨i, hi⟩ := List.getElem?_of_mem hf
            have hil : i < fs.size := by simpa using (List.getElem?_eq_some_iff.1 hi).1
            have := hfs i f (by simpa using hi)
            rw [List.getElem?_eq_getElem (by omega)] at this
            exact ⟨_, this⟩)
          simpa using this
        · cases h
      · cases h
    · cases h
theorem rows_open {sp : Nat → Bool} {hd : Bool} {m fuel : Nat} {t e : TypeId} {ks : List C0} {cs : List Value} {x : DataW H × List MemPlace} (hu : P.underlying t = some (.slice e)) (hk : flatC P m e = some ks) (hc : P.cellsOf e = ks.length) (hpos : 0 < ks.length)
    (ht : DataW.trod enc P w 0 sp hd fuel t cs = some x) : ∃ p n c l, cs = [.slice p n c] ∧ RowsR w ks.length p n c l ∧ (∀ y ∈ l, y.map D0.code = ks) ∧ ∀ y ∈ l, ∀ d ∈ y, d.ok := by
  rcases Go.Deep.open_slice hu ht with ⟨rfl, _⟩ | ⟨a, len, cap, mm, n, D, Pl, rfl, _, hl, hm, hmm, _, hx⟩
  · exact ⟨none, 0, 0, [], rfl, RowsR.nil _ _ _ (by omega), by simp, by simp⟩
  · have hlm : len ≤ mm := by rw [hmm]; split <;> omega
    have hex : ∀ i, i < len → ∃ ds : List D0, (∃ cs', cs'.length = ks.length ∧ Reps w cs' ds ∧ w.cells? 0 (a.add (i * ks.length)) ks.length = some cs') ∧ ds.map D0.code = ks ∧ ∀ d ∈ ds, d.ok := fun i hi => by
      obtain ⟨cs', h1, h2⟩ := hx i (by omega)
      obtain ⟨ds, r, c, k⟩ := flat_open m hk h2
      rw [hc] at h1
      exact ⟨ds, ⟨cs', (World.cells?_some h1).2.1, r, h1⟩, c, k⟩
    obtain ⟨F, hF⟩ := Go.Deep.choose_lt hex
    refine ⟨some a, len, cap, (List.range len).map F, rfl, ⟨by simp, hl, by simpa [maxLen] using hm, fun hn => ?_⟩, ?_, ?_⟩
    · obtain ⟨⟨cs', _, _, h1⟩, _⟩ := hF 0 hn
      have h0 := (World.cells?_some h1).2.2 0 hpos
      have hlen := (World.cells?_some h1).2.1
      rw [List.getElem?_eq_getElem (by omega)] at h0
      have hs := spot_none h0
      have ha : a = ⟨a.block, a.off, none⟩ := by
        obtain ⟨b, o, s⟩ := a
        simp [Addr.add] at hs
        simp [hs]
      refine ⟨a.block, a.off, by rw [← ha], fun i y hy => ?_⟩
      have hil : i < len := by
        have := (List.getElem?_eq_some_iff.1 hy).1
        simpa using this
      obtain ⟨⟨cs', q1, q2, q3⟩, _⟩ := hF i hil
      have : y = F i := by simpa [hil] using hy.symm
      subst this
      rw [ha, addr_add] at q3
      exact ⟨cs', q1, q2, (seg_of_cells (sp := none) q3).2⟩
    · intro y hy
      obtain ⟨i, hi, rfl⟩ := List.mem_map.1 hy
      exact (hF i (by simpa using hi)).2.1
    · intro y hy
      obtain ⟨i, hi, rfl⟩ := List.mem_map.1 hy
      exact (hF i (by simpa using hi)).2.2
end
end Go.Proofs.YtdidocmbcfbjdaaDoor.Sx

namespace Go.Proofs.YtdidocmbcfbjdaaDoor
open Go Go.Proofs.YtdidocmbcfbjdaaDoor.Sx
set_option linter.unusedVariables false
set_option linter.unusedSimpArgs false
def curData {H : Type} (r : CurRow) : DataW H := .agg [.lit (.string r.1.data.toList), .lit (.string r.2.1.data.toList), .lit (.int .i64 r.2.2.1), .lit (.int .i64 r.2.2.2)]
theorem bytes_eq {a b : ByteArray} (h : a.data.toList = b.data.toList) : a = b := by
  obtain ⟨⟨x⟩⟩ := a; obtain ⟨⟨y⟩⟩ := b
  simp at h; subst h; rfl
set_option maxRecDepth 100000 in
theorem cur_cells {H : Type} {enc : TypeId × Value → H} {w : World} {sp : Nat → Bool} {hd : Bool} {fuel : Nat} {cs : List Value} {r : CurRow} {p : List MemPlace}
    (h : DataW.trod enc P w 0 sp hd fuel T_impl_currency cs = some (curData r, p)) : cs = curCells r := by
  obtain ⟨fs, hu, hsz, ⟨f0, e0, t0, o0⟩, ⟨f1, e1, t1, o1⟩, ⟨f2, e2, t2, o2⟩, ⟨f3, e3, t3, o3⟩⟩ := cur_fields
  have hu : P.underlying T_impl_currency = some (.struct fs) := hu
  have hs : P.underlying T_string = some .string := by kernel_rfl
  have hi : P.underlying T_int = some (.int .i64) := by kernel_rfl
  have cS : P.cellsOf T_string = 1 := by kernel_rfl
  have cI : P.cellsOf T_int = 1 := by kernel_rfl
  have cC : P.cellsOf T_impl_currency = 4 := by kernel_rfl
  obtain ⟨xs, n, rfl, hx, hlen, hxl, hf⟩ := DataW.trod_struct hu h
  rw [cC] at hlen
  rw [hsz] at hxl
  have h0 := hf 0 f0 e0; have h1 := hf 1 f1 e1; have h2 := hf 2 f2 e2; have h3 := hf 3 f3 e3
  rw [t0, o0, cS] at h0; rw [t1, o1, cS] at h1; rw [t2, o2, cI] at h2; rw [t3, o3, cI] at h3
  match cs, hlen, xs, hxl, hx, h0, h1, h2, h3 with
  | [c0, c1, c2, c3], _, [x0, x1, x2, x3], _, hx, h0, h1, h2, h3 =>
    simp only [List.drop_succ_cons, List.drop_zero, List.take_succ_cons, List.take_zero, List.getElem?_cons_zero, List.getElem?_cons_succ] at h0 h1 h2 h3
    obtain ⟨s0, a0, b0, _⟩ := DataW.trod_string hs h0
    obtain ⟨s1, a1, b1, _⟩ := DataW.trod_string hs h1
    obtain ⟨z2, a2, b2, _⟩ := DataW.trod_int hi h2
    obtain ⟨z3, a3, b3, _⟩ := DataW.trod_int hi h3
    simp only [Prod.mk.injEq, curData, DataW.agg.injEq, List.map_cons, List.map_nil, List.cons.injEq, b0, b1, b2, b3, DataW.lit.injEq, Lit.string.injEq, Lit.int.injEq, true_and, and_true] at hx
    simp only [List.cons.injEq, and_true] at a0 a1 a2 a3
    obtain ⟨⟨q0, q1, q2, q3⟩, _⟩ := hx
    rw [a0, a1, a2, a3, ← bytes_eq q0, ← bytes_eq q1, ← q2, ← q3]
    rfl
theorem flat_of_rows : ∀ (l : List CurRow) (cs : List Value), cs.length = l.length * 4 → (∀ i (hi : i < l.length), (cs.drop (i * 4)).take 4 = curCells (l[i]'hi)) → cs = l.flatMap curCells
  | [], cs, h, _ => by simpa using h
  | r :: l, cs, h, hr => by
    have h0 := hr 0 (by simp)
    simp only [Nat.zero_mul, List.drop_zero, List.getElem_cons_zero] at h0
    rw [List.flatMap_cons, ← h0, ← flat_of_rows l (cs.drop 4) (by simp at h ⊢; omega) (fun i hi => by
      have := hr (i + 1) (by simpa using hi)
      rw [List.drop_drop, show 4 + i * 4 = (i + 1) * 4 by omega]
      simpa using this), List.take_append_drop]
def curVar : String := "loop.example/g00793/impl.currencies"
set_option maxRecDepth 100000 in
theorem tab_of_head {W : World} {rest : List (String × DataW Unit)} (h : laidMet P ((curVar, Rows.laid_loop_example_g00793_impl_currencies) :: rest) W) : Tab W := by
  obtain ⟨ps, ⟨g, t, cs, fuel, p, q, hg, ht, hvar, hd, _, _⟩, _⟩ := h
  have hg0 : P.globalNamed curVar = some 0 := by kernel_rfl
  have ht0 : (P.globals[0]?).map (·.type) = some T_20_impl_currency := by kernel_rfl
  obtain rfl := Option.some.inj (hg0.symm.trans hg)
  obtain rfl := Option.some.inj (ht0.symm.trans ht)
  have hu : P.underlying T_20_impl_currency = some (.array 20 T_impl_currency) := und_T_20_impl_currency
  have cC : P.cellsOf T_impl_currency = 4 := by kernel_rfl
  have cA : P.cellsOf T_20_impl_currency = 80 := by kernel_rfl
  obtain ⟨xs, m, rfl, hx, hlen, hxl, hf⟩ := DataW.trod_array hu hd
  rw [cA] at hlen
  have hdat : (Rows.laid_loop_example_g00793_impl_currencies : DataW Unit) = .agg (implTab.map curData) := by rfl
  rw [hdat] at hx
  simp only [Prod.mk.injEq, DataW.agg.injEq] at hx
  have hl := impl_length
  have hcs : cs.toList = implTab.flatMap curCells := by
    refine flat_of_rows implTab _ (by omega) fun i hi => ?_
    have h1 := hf i (by omega)
    rw [cC] at h1
    have h2 : (xs.map (·.1))[i]? = some (curData (implTab[i]'hi)) := by rw [← hx.1]; simp [hi]
    rw [List.getElem?_map] at h2
    cases h3 : xs[i]? with
    | none => rw [h3] at h2; cases h2
    | some x =>
      rw [h3] at h1 h2
      simp only [Option.map_some, Option.some.injEq] at h2
      obtain ⟨d, pp⟩ := x
      simp only at h2
      subst h2
      exact cur_cells h1
  intro i v hv
  have := World.var?_cell hg0 hvar i
  rw [Nat.zero_add, this, ← hv, ← hcs]
  simp
theorem tab_of_laid {W : World} (h : laidMetH P [(curVar, Rows.laid_loop_example_g00793_impl_currencies)] W) : Tab W := tab_of_head (rest := []) h
/-- a world for the witness: the settled one, the table laid in its variable -/
noncomputable def laidWorld (os : Os) (args : Array Value) : World :=
  { World.holding P os ⟨#[], args, []⟩ with heap := (World.holding P os ⟨#[], args, []⟩).heap.modify 0 fun
      | .cells _ t frozen => .cells ⟨implTab.flatMap curCells⟩ t frozen
      | o => o }
theorem trodVars_one {H : Type} {enc : TypeId × Value → H} {w : World} {sp : Nat → Bool} {n : String} {gs : List (DataW H)} {ps : List MemPlace} (h : DataW.TrodVars enc P w sp [n] gs ps) : ∃ g, gs = [g] := by
  match gs, h with
  | [g], _ => exact ⟨g, rfl⟩
  | g :: g2 :: r, h =>
    obtain ⟨_, _, _, _, _, _, _, _, _, _, h2, _⟩ := h
    exact h2.elim
end Go.Proofs.YtdidocmbcfbjdaaDoor
