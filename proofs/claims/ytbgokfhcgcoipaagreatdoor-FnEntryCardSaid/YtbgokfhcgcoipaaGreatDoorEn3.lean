/-
  Parts of the proof of fnEntry_holds: CCurr, CInt, CWord, CLegsOk, CBookOk, CBookW, SxMark, SxPush, CPushF, CNum, CNat, CAdd, CSigned, CCopy, CAcctAt, CBalanceOf, CBookCopy, SxIns, CInsert, CPushA, CBookOpL, CIntAdd, CCmp, CDebtsOk, CSpecInt.
  Conditions: none.
-/
import Derived.Laws.CopyRow
import Derived.Laws.BytesArg
import Derived.Laws.OwnMore
import Derived.Laws.Externs
import Derived.Lib.AppendZerosOnto
import Derived.Lib.Overlaps
import Derived.Test.YtbgokfhcgcoipaaGreatDoorEn2
set_option linter.unusedVariables false
set_option linter.unusedSimpArgs false
namespace Go.RowKit
end Go.RowKit

namespace Go.Proofs.YtbgokfhcgcoipaaGreatDoor
open Go Go.Proofs.YtbgokfhcgcoipaaGreatDoor.Sx
def curCells (r : CurRow) : List Value := [.string r.1, .string r.2.1, .int .i64 r.2.2.1, .int .i64 r.2.2.2]
def curZero : CurRow := (ByteArray.empty, ByteArray.empty, 0, 0)
def curFind : List CurRow -> ByteArray -> CurRow
  | [], _ => curZero
  | r :: l, c => if r.1 = c then r else curFind l c
def curIn (l : List CurRow) (c : ByteArray) : Bool := l.any fun r => decide (r.1 = c)
def curKnown (c : ByteArray) : Bool := curIn implTab c
def Tab (w : World) : Prop := Seg w 0 0 (implTab.flatMap curCells)
theorem Tab.ext {w w' : World} (h : Tab w) (he : Ext w w') : Tab w' := Seg.ext h he
theorem curIn_drop {l : List CurRow} {c : ByteArray} {j : Nat} (hj : j < l.length) : curIn (l.drop j) c = (decide ((l[j]'hj).1 = c) || curIn (l.drop (j + 1)) c) := by
  rw [List.drop_eq_getElem_cons hj, curIn, List.any_cons]; rfl
theorem curFind_drop {l : List CurRow} {c : ByteArray} {j : Nat} (hj : j < l.length) : curFind (l.drop j) c = if (l[j]'hj).1 = c then l[j]'hj else curFind (l.drop (j + 1)) c := by
  rw [List.drop_eq_getElem_cons hj, curFind]
theorem curFind_fst {c : ByteArray} : ∀ {l : List CurRow}, (∀ r ∈ l, r.1 ≠ ByteArray.empty) -> decide ((curFind l c).1 ≠ ByteArray.empty) = curIn l c
  | [], _ => by simp [curFind, curIn, curZero]
  | r :: l, h => by
    unfold curFind
    have hr := h r (.head _)
    have ih := curFind_fst (c := c) fun r hr => h r (.tail _ hr)
    rw [curIn, List.any_cons]
    by_cases he : r.1 = c
    · rw [if_pos he, decide_eq_true hr]; simp [he]
    · rw [if_neg he, ih]; simp [he, curIn]
theorem flat_row : ∀ (l : List CurRow) (j : Nat) (hj : j < l.length), ((l.flatMap curCells).drop (j * 4)).take 4 = curCells (l[j]'hj)
  | r :: l, 0, _ => by simp [List.flatMap_cons, curCells]
  | r :: l, j + 1, hj => by
    have := flat_row l j (by simpa using hj)
    rw [List.flatMap_cons, show (j + 1) * 4 = 4 + j * 4 by omega, <- List.drop_drop, List.drop_left' (show (curCells r).length = 4 from rfl), this]
    rfl
theorem flat_length : ∀ (l : List CurRow), (l.flatMap curCells).length = l.length * 4
  | [] => rfl
  | r :: l => by rw [List.flatMap_cons, List.length_append, flat_length l, List.length_cons]; simp [curCells]; omega
theorem impl_length : implTab.length = 20 := rfl
set_option maxRecDepth 100000 in
theorem index_cur {j : Nat} (hj : j < implTab.length) {K : Value -> Prop} (h : K (.agg ⟨curCells (implTab[j]'hj)⟩)) : indexS P T_20_impl_currency (.agg ⟨implTab.flatMap curCells⟩) (.int .i64 (j : Nat)) K := by
  have hu : P.underlying T_20_impl_currency = some (.array 20 T_impl_currency) := und_T_20_impl_currency
  have hc : P.cellsOf T_impl_currency = 4 := by kernel_rfl
  obtain ⟨fs, hs⟩ := und_T_impl_currency
  have hs : P.underlying T_impl_currency = some (.struct fs) := hs
  have hl := impl_length
  unfold indexS
  rw [hu]
  refine ⟨⟨by omega, by omega⟩, _, ?_, h⟩
  unfold partS
  rw [hs, hc]
  show Value.agg ⟨((implTab.flatMap curCells).drop (((j : Nat) : Int).toNat * 4)).take 4⟩ = _
  rw [Int.toNat_natCast, flat_row]
set_option maxRecDepth 100000 in
theorem impl_currencyOf_c {w : World} (ht : Tab w) (c : ByteArray) :
    Ret P n_impl_currencyOf [.string c] w fun v w' => v = .tuple #[.agg ⟨curCells (curFind implTab c)⟩, .bool (curKnown c)] /\ Ext w w' := by
  have hlen := impl_length
  refine impl_currencyOf_ret ?_
  unfold impl_currencyOf
  intro r w1 hn1
  have e1 := hn1.r_eq; have s1 := hn1.size
  refine ⟨_, loadsA (by rw [flat_length]; kernel_rfl) (ht.ext hn1.ext), ?_⟩
  refine ⟨fun i wr => ∃ j : Nat, i = j /\ j <= 20 /\ Ext w1 wr /\ curFind implTab c = curFind (implTab.drop j) c /\ curKnown c = curIn (implTab.drop j) c, fun i _ => 20 - i.toNat, ⟨0, rfl, by omega, Ext.refl _, rfl, rfl⟩, ?_⟩
  intro junk wr i ⟨j, hij, hj, hx, hf, hk⟩
  subst hij
  have lx := hx.le
  refine ifD (fun hlt => ?_) (fun hge => ?_)
  · have hjl : j < implTab.length := by omega
    rw [curFind_drop hjl] at hf
    rw [curIn_drop hjl] at hk
    apply index_cur hjl
    intro r1 w2 hn2
    obtain ⟨w3, st, hb3, y3⟩ := hn2.fill (P := P) (t := T_impl_currency) (xs := curCells (implTab[j]'hjl)) (by simp [curCells, Value.oneCell']) (by kernel_rfl) rfl
    refine ⟨w3, st, _, hb3.loadAt 0 rfl (by kernel_rfl) rfl, ifD (fun heq => ?_) (fun hne => ?_)⟩
    · have hf := hf.trans (if_pos heq)
      rw [decide_eq_true heq, Bool.true_or] at hk
      obtain ⟨w4, st4, hb4, ch, sz⟩ := (hn1.blk.ext (hx.trans y3)).storeA0 (P := P) (t := T_impl_currency) (xs := curCells (implTab[j]'hjl)) (by kernel_rfl) rfl (by simp [curCells, Value.oneCell'])
      refine ⟨_, _, _, _, hb3.loadA0 (by kernel_rfl), w4, st4, _, _, _, _, hb4.loadA0 (by kernel_rfl), ?_, ((hn1.ext.trans hx).trans y3).chg ch (by simp; omega)⟩
      rw [hf, hk]; rfl
    · have hf := hf.trans (if_neg hne)
      rw [decide_eq_false hne, Bool.false_or] at hk
      refine exW ⟨by omega, by omega⟩ ⟨⟨j + 1, by omega, by omega, hx.trans y3, hf, hk⟩, ?_⟩
      show 20 - ((j : Int) + 1).toNat < 20 - (j : Int).toNat
      omega
  · rw [List.drop_of_length_le (by omega)] at hf hk
    obtain ⟨w4, st4, hb4, ch, sz⟩ := (hn1.blk.ext hx).storeA0 (P := P) (t := T_impl_currency) (xs := curCells curZero) (by kernel_rfl) rfl (by simp [curCells, Value.oneCell'])
    refine ⟨w4, st4, _, _, _, _, hb4.loadA0 (by kernel_rfl), ?_, (hn1.ext.trans hx).chg ch (by simp; omega)⟩
    rw [hf, hk]; rfl
theorem impl_CurKnown_c {w : World} (ht : Tab w) (c : ByteArray) :
    Ret P n_impl_CurKnown [.string c] w fun v w' => v = .bool (curKnown c) /\ Ext w w' := by
  refine impl_CurKnown_ret ?_
  unfold impl_CurKnown
  refine Ret.at (impl_currencyOf_c ht c) ?_
  rintro v w1 ⟨hv, y1⟩
  subst hv
  refine ⟨_, _, _, _, _, rfl, ?_⟩
  intro r w2 hn2
  obtain ⟨w3, st, hb3, y3⟩ := hn2.fill (P := P) (t := T_impl_currency) (xs := curCells (curFind implTab c)) (by simp [curCells, Value.oneCell']) (by kernel_rfl) rfl
  exact ⟨w3, st, rfl, y1.trans y3⟩
theorem spec_nonempty : ∀ r ∈ specTab, r.1 ≠ ByteArray.empty := by
  have : (specTab.all fun r => decide (r.1 ≠ ByteArray.empty)) = true := by decide +kernel
  intro r hr
  rw [List.all_eq_true] at this
  exact of_decide_eq_true (this r hr)
theorem spec_known (c : ByteArray) : curIn specTab c = curKnown c := by
  have h1 : (specTab.all fun r => curIn implTab r.1) = true := by decide +kernel
  have h2 : (implTab.all fun r => curIn specTab r.1) = true := by decide +kernel
  rw [List.all_eq_true] at h1 h2
  have key : ∀ {a b : List CurRow}, (∀ r ∈ a, curIn b r.1 = true) -> curIn a c = true -> curIn b c = true := by
    intro a b h hc
    unfold curIn at hc
    rw [List.any_eq_true] at hc
    obtain ⟨r, hr, he⟩ := hc
    have he := of_decide_eq_true he
    have := h r hr
    rwa [he] at this
  unfold curKnown
  cases h3 : curIn specTab c with
  | true => exact (key h1 h3).symm
  | false =>
    cases h4 : curIn implTab c with
    | false => rfl
    | true => rw [key h2 h4] at h3; cases h3
theorem spec_length : specTab.length = 20 := rfl
theorem spec_l08Find_c {w : World} (c : ByteArray) :
    Ret P n_spec_l08Find [.string c] w fun v w' => v = .agg ⟨curCells (curFind specTab c)⟩ /\ Ext w w' := by
  have hlen := spec_length
  refine spec_l08Find_ret ?_
  unfold spec_l08Find
  intro r w1 hn1
  have e1 := hn1.r_eq; have s1 := hn1.size
  refine Ret.at (R := fun v w' => ∃ r, v = .slice (some ⟨r, 0, none⟩) 20 20 /\ Seg w' r 0 (specTab.flatMap curCells) /\ Ext w1 w') ?_ ?_
  · refine spec_l08Table_ret ?_
    unfold spec_l08Table
    intro r2 w2 hn2
    exact ⟨r2, rfl, hn2.blk.seg, hn2.ext⟩
  rintro v w2 ⟨r2, hv, hseg, y2⟩
  subst hv
  refine ⟨_, _, _, rfl, ?_⟩
  refine ⟨fun i wr => ∃ j : Nat, i = j /\ j <= 20 /\ Ext w2 wr /\ curFind specTab c = curFind (specTab.drop j) c, fun i _ => 20 - i.toNat, ⟨0, rfl, by omega, Ext.refl _, rfl⟩, ?_⟩
  intro junk wr i ⟨j, hij, hj, hx, hf⟩
  subst hij
  have lx := hx.le; have ly := y2.le
  refine ifD (fun hlt => ?_) (fun hge => ?_)
  · have hjl : j < specTab.length := by omega
    rw [curFind_drop hjl] at hf
    have hrow : Seg wr r2 (0 + j * 4) (curCells (specTab[j]'hjl)) := by
      rw [<- flat_row specTab j hjl]
      exact ((hseg.ext hx).drop (j * 4)).take 4
    refine ⟨⟨by omega, by omega⟩, _, _, _, _, (by simp only [addr_add, Int.toNat_natCast]; exact loadsA (cs := curCells (specTab[j]'hjl)) (by kernel_rfl) hrow), ?_⟩
    intro r1 w3 hn3
    obtain ⟨w4, st, hb4, y4⟩ := hn3.fill (P := P) (t := T_spec_l08Row) (xs := curCells (specTab[j]'hjl)) (by simp [curCells, Value.oneCell']) (by kernel_rfl) rfl
    refine ⟨w4, st, _, hb4.loadAt 0 rfl (by kernel_rfl) rfl, ifD (fun heq => ?_) (fun hne => ?_)⟩
    · have hf := hf.trans (if_pos heq)
      obtain ⟨w5, st5, hb5, ch, sz⟩ := (hn1.blk.ext ((y2.trans hx).trans y4)).storeA0 (P := P) (t := T_spec_l08Row) (xs := curCells (specTab[j]'hjl)) (by kernel_rfl) rfl (by simp [curCells, Value.oneCell'])
      refine ⟨_, _, _, _, hb4.loadA0 (by kernel_rfl), w5, st5, _, _, _, _, hb5.loadA0 (by kernel_rfl), ?_, (((hn1.ext.trans y2).trans hx).trans y4).chg ch (by simp; omega)⟩
      rw [hf]; rfl
    · have hf := hf.trans (if_neg hne)
      refine exW ⟨by omega, by omega⟩ ⟨⟨j + 1, by omega, by omega, hx.trans y4, hf⟩, ?_⟩
      show 20 - ((j : Int) + 1).toNat < 20 - (j : Int).toNat
      omega
  · rw [List.drop_of_length_le (by omega)] at hf
    obtain ⟨w4, st4, hb4, ch, sz⟩ := (hn1.blk.ext (y2.trans hx)).storeA0 (P := P) (t := T_spec_l08Row) (xs := curCells curZero) (by kernel_rfl) rfl (by simp [curCells, Value.oneCell'])
    refine ⟨w4, st4, _, _, _, _, hb4.loadA0 (by kernel_rfl), ?_, ((hn1.ext.trans y2).trans hx).chg ch (by simp; omega)⟩
    rw [hf]; rfl
theorem spec_CurKnown_c {w : World} (c : ByteArray) :
    Ret P n_spec_CurKnown [.string c] w fun v w' => v = .bool (curKnown c) /\ Ext w w' := by
  refine spec_CurKnown_ret ?_
  unfold spec_CurKnown
  refine Ret.at (spec_l08Find_c c) ?_
  rintro v w1 ⟨hv, y1⟩
  subst hv
  refine ⟨_, _, _, _, rfl, ?_, y1⟩
  rw [<- spec_known, <- curFind_fst spec_nonempty]
  rfl
end Go.Proofs.YtbgokfhcgcoipaaGreatDoor
namespace Go.Proofs.YtbgokfhcgcoipaaGreatDoor
open Go Go.Proofs.YtbgokfhcgcoipaaGreatDoor.Sx
def intOk : List D0 -> Bool
  | [.bool b, .ints z] => natOk z && (!b || !z.isEmpty)
  | _ => false
theorem intOk_len {b : Bool} {z : List Int} {n : Nat} (h : z.length = n) : (decide ((0 : Int) < (n : Nat))) = !z.isEmpty := by
  cases z with
  | nil => simp at h; simp [<- h]
  | cons a r => simp at h; simp [<- h]
theorem spec_IntOk_c {w : World} {xs : List Value} {dx : List D0} (h : Reps w xs dx) (hc : dx.map D0.code = [.bool, .ints]) :
    Ret P n_spec_IntOk [.agg ⟨xs⟩] w fun v w' => v = .bool (intOk dx) /\ Ext w w' := by
  obtain ⟨a0, a1p, a1n, a1c, a1z, rfl, rfl, ha⟩ := open_Signed h hc
  refine spec_IntOk_ret ?_
  unfold spec_IntOk
  intro r w1 hn
  have x := hn.ext
  refine ⟨_, _, _, hn.blk.load (by kernel_rfl) rfl, ?_⟩
  refine Ret.at (spec_NatOk_c (ha.ext x)) ?_
  rintro v w2 ⟨hv, y⟩
  subst hv
  have b := hn.blk.ext y; have x := x.trans y
  refine ⟨_, rfl, fun e => ⟨_, b.load (by kernel_rfl) rfl, ifN (fun hb => ⟨?_, x⟩) (fun hb => ?_)⟩, fun e => ⟨by simp [intOk, e], x⟩⟩
  · simp [intOk, e, hb]
  · exact ⟨_, _, _, b.load (by kernel_rfl) rfl, by rw [intOk_len (b := a0) ha.1]; simp [intOk, e, hb], x⟩
theorem impl_IntOk_c {w : World} {xs : List Value} {dx : List D0} (h : Reps w xs dx) (hc : dx.map D0.code = [.bool, .ints]) :
    Ret P n_impl_IntOk [.agg ⟨xs⟩] w fun v w' => v = .bool (intOk dx) /\ Ext w w' := by
  obtain ⟨a0, a1p, a1n, a1c, a1z, rfl, rfl, ha⟩ := open_Signed h hc
  refine impl_IntOk_ret ?_
  unfold impl_IntOk
  intro r w1 hn
  have x := hn.ext
  refine ⟨_, _, _, hn.blk.load (by kernel_rfl) rfl, ?_⟩
  refine Ret.at (impl_NatOk_c (ha.ext x)) ?_
  rintro v w2 ⟨hv, y⟩
  subst hv
  have b := hn.blk.ext y; have x := x.trans y
  refine ⟨_, rfl, fun e => ⟨_, b.load (by kernel_rfl) rfl, ifN (fun hb => ⟨?_, x⟩) (fun hb => ?_)⟩, fun e => ⟨by simp [intOk, e], x⟩⟩
  · simp [intOk, e, hb]
  · exact ⟨_, _, _, b.load (by kernel_rfl) rfl, by rw [intOk_len (b := a0) ha.1]; simp [intOk, e, hb], x⟩
def isign : List D0 -> Int
  | [.bool a, .ints x] => if !(intOk [.bool a, .ints x]) then 0 else if x.isEmpty then 0 else if a then -1 else 1
  | _ => 0
end Go.Proofs.YtbgokfhcgcoipaaGreatDoor
namespace Go.Proofs.YtbgokfhcgcoipaaGreatDoor
open Go Go.Proofs.YtbgokfhcgcoipaaGreatDoor.Sx
def bAt (s : ByteArray) (i : Nat) : Int := (((s[i]?).getD 0).toNat : Nat)
def okB (lo hi low high b : Int) : Bool := !((decide (b < lo) || decide (hi < b)) && (decide (b < low) || decide (high < b)))
def isAll (s : ByteArray) (lo hi low high : Int) : Bool := decide (0 < s.size) && (List.range s.size).all fun i => okB lo hi low high (bAt s i)
def isWord (s : ByteArray) : Bool := isAll s 97 122 48 57 && decide (s.size <= 12) && decide (97 <= bAt s 0)
theorem byte_at {s : ByteArray} {i : Nat} (h : i < s.size) : ∃ b : UInt8, s[((i : Nat) : Int).toNat]? = some b /\ bAt s i = (b.toNat : Nat) := by
  have e : s[i]? = some (s[i]'h) := getElem?_pos s i h
  exact ⟨s[i]'h, by rw [Int.toNat_natCast]; exact e, by unfold bAt; rw [e]; rfl⟩
theorem isAll_no {s : ByteArray} {lo hi low high : Int} {i : Nat} (hi' : i < s.size) (h : okB lo hi low high (bAt s i) = false) : isAll s lo hi low high = false := by
  unfold isAll
  have : ((List.range s.size).all fun i => okB lo hi low high (bAt s i)) = false := by
    rw [Bool.eq_false_iff]
    intro ha
    rw [List.all_eq_true] at ha
    have := ha i (List.mem_range.2 hi')
    rw [h] at this; cases this
  rw [this, Bool.and_false]
theorem isAll_yes {s : ByteArray} {lo hi low high : Int} (h : ∀ i < s.size, okB lo hi low high (bAt s i) = true) : isAll s lo hi low high = decide (0 < s.size) := by
  unfold isAll
  have : ((List.range s.size).all fun i => okB lo hi low high (bAt s i)) = true := by
    rw [List.all_eq_true]
    exact fun i hi => h i (List.mem_range.1 hi)
  rw [this, Bool.and_true]
theorem spec_l01All_c (s : ByteArray) (lo hi low high : Int) (hs : s.size <= 9000000000000000000) (w : World) :
    Ret P n_spec_l01All [.string s, .int .u8 lo, .int .u8 hi, .int .u8 low, .int .u8 high] w fun v w' => v = .bool (isAll s lo hi low high) /\ w' = w := by
  refine spec_l01All_ret ?_
  unfold spec_l01All
  refine ⟨fun i wr => ∃ j : Nat, i = j /\ j <= s.size /\ wr = w /\ ∀ k < j, okB lo hi low high (bAt s k) = true, fun i _ => s.size - i.toNat, ⟨0, rfl, by omega, rfl, by simp⟩, ?_⟩
  intro junk wr i ⟨j, hij, hj, hw, hall⟩
  subst hij; subst hw
  refine ifD (fun hlt => ?_) (fun hge => ⟨?_, rfl⟩)
  · have hjs : j < s.size := by omega
    obtain ⟨b, hb, e⟩ := byte_at hjs
    have bad : okB lo hi low high (b.toNat : Nat) = false -> (fun (v : Value) (w' : World) => v = .bool (isAll s lo hi low high) /\ w' = wr) (.bool false) wr := fun h => ⟨by rw [isAll_no hjs (by rw [e]; exact h)], rfl⟩
    have next : okB lo hi low high (b.toNat : Nat) = true -> ∃ t17 : Int, t17 = IntKind.wrap .i64 ((j : Int) + 1) /\ (fun (i : Int) (wr' : World) => ∃ j : Nat, i = j /\ j <= s.size /\ wr' = wr /\ ∀ k < j, okB lo hi low high (bAt s k) = true) t17 wr /\ (fun (i : Int) (_ : World) => s.size - i.toNat) t17 wr < (fun (i : Int) (_ : World) => s.size - i.toNat) (j : Int) wr := by
      intro h
      refine exW ⟨by omega, by omega⟩ ⟨⟨j + 1, by omega, by omega, rfl, fun k hk => ?_⟩, ?_⟩
      · rcases Nat.lt_or_ge k j with h1 | h1
        · exact hall k h1
        · have : k = j := by omega
          subst this; rw [e]; exact h
      · show s.size - ((j : Int) + 1).toNat < s.size - (j : Int).toNat
        omega
    refine ⟨by omega, b, hb, ifD (fun h1 => ifT ⟨by omega, b, hb, ifD (fun h2 => ifT (bad ?_)) (fun h2 => ⟨by omega, b, hb, ifD (fun h3 => bad ?_) (fun h3 => next ?_)⟩)⟩) (fun h1 => ⟨by omega, b, hb, ifD (fun h2 => ⟨by omega, b, hb, ifD (fun h3 => ifT (bad ?_)) (fun h3 => ⟨by omega, b, hb, ifD (fun h4 => bad ?_) (fun h4 => next ?_)⟩)⟩) (fun h2 => ifF (next ?_))⟩)⟩
    all_goals (simp [okB]; omega)
  · rw [isAll_yes (fun i hi => hall i (by omega))]
    congr 1
    simp
theorem spec_IsWord_c (s : ByteArray) (hs : s.size <= 9000000000000000000) (w : World) : Ret P n_spec_IsWord [.string s] w fun v w' => v = .bool (isWord s) /\ w' = w := by
  refine spec_IsWord_ret ?_
  unfold spec_IsWord
  refine Ret.at (spec_l01All_c s 97 122 48 57 hs w) ?_
  rintro v w1 ⟨hv, hw⟩
  subst hv; subst hw
  refine ⟨_, rfl, fun h1 => ifD (fun h2 => ?_) (fun h2 => ⟨?_, rfl⟩), fun h1 => ifF ⟨?_, rfl⟩⟩
  · have h0 : 0 < s.size := by
      unfold isAll at h1
      simp only [Bool.and_eq_true, decide_eq_true_eq] at h1
      exact h1.1
    obtain ⟨b, hb, e⟩ := byte_at h0
    refine ⟨by omega, b, hb, ?_, rfl⟩
    unfold isWord
    rw [h1, e, decide_eq_true (show s.size <= 12 by omega)]
    simp
  · unfold isWord
    rw [decide_eq_false (show ¬ s.size <= 12 by omega)]
    simp
  · unfold isWord
    rw [h1]
    simp
theorem impl_isLower_c (c : Int) (w : World) : Ret P n_impl_isLower [.int .u8 c] w fun v w' => v = .bool (decide (97 <= c /\ c <= 122)) /\ w' = w := by
  refine impl_isLower_ret ?_
  unfold impl_isLower
  refine ifD (fun h => ⟨?_, rfl⟩) (fun h => ⟨?_, rfl⟩) <;> simp [h]
theorem impl_isDigit_c (c : Int) (w : World) : Ret P n_impl_isDigit [.int .u8 c] w fun v w' => v = .bool (decide (48 <= c /\ c <= 57)) /\ w' = w := by
  refine impl_isDigit_ret ?_
  unfold impl_isDigit
  refine ifD (fun h => ⟨?_, rfl⟩) (fun h => ⟨?_, rfl⟩) <;> simp [h]
theorem impl_IsWord_c (s : ByteArray) (hs : s.size <= 9000000000000000000) (w : World) : Ret P n_impl_IsWord [.string s] w fun v w' => v = .bool (isWord s) /\ w' = w := by
  refine impl_IsWord_ret ?_
  unfold impl_IsWord
  refine ifD (fun h => ifT (ifT ⟨?_, rfl⟩)) (fun h0 => ifD (fun h => ifT ⟨?_, rfl⟩) (fun h1 => ?_))
  · unfold isWord isAll
    rw [decide_eq_false (show ¬ 0 < s.size by omega)]
    simp
  · unfold isWord
    rw [decide_eq_false (show ¬ s.size <= 12 by omega)]
    simp
  have hp : 0 < s.size := by omega
  obtain ⟨b, hb, e⟩ := byte_at hp
  refine ⟨by omega, b, hb, ?_⟩
  refine Ret.at (impl_isLower_c _ w) ?_
  rintro v w1 ⟨hv, hw⟩
  subst hv; subst hw
  refine ⟨_, rfl, ifN (fun hno => ⟨?_, rfl⟩) (fun hlow => ?_)⟩
  · have hno := of_decide_eq_false hno
    by_cases h97 : 97 <= bAt s 0
    · unfold isWord
      rw [isAll_no hp (by rw [e] at h97 ⊢; simp [okB]; omega)]
      simp
    · unfold isWord
      rw [decide_eq_false h97]
      simp
  have hlow := of_decide_eq_true hlow
  unfold impl_IsWord_j0
  refine ⟨fun i wr => ∃ j : Nat, i = j /\ 1 <= j /\ j <= s.size /\ wr = w1 /\ ∀ k < j, okB 97 122 48 57 (bAt s k) = true, fun i _ => s.size - i.toNat, ⟨1, rfl, by omega, by omega, rfl, fun k hk => ?_⟩, ?_⟩
  · have : k = 0 := by omega
    subst this
    rw [e]; simp [okB]; omega
  intro junk wr i ⟨j, hij, hj1, hj, hw, hall⟩
  subst hij; subst hw
  refine ifD (fun hlt => ?_) (fun hge => ⟨?_, rfl⟩)
  · have hjs : j < s.size := by omega
    obtain ⟨b, hb, e⟩ := byte_at hjs
    have next : okB 97 122 48 57 (b.toNat : Nat) = true -> ∃ t17 : Int, t17 = IntKind.wrap .i64 ((j : Int) + 1) /\ (fun (i : Int) (wr' : World) => ∃ j : Nat, i = j /\ 1 <= j /\ j <= s.size /\ wr' = wr /\ ∀ k < j, okB 97 122 48 57 (bAt s k) = true) t17 wr /\ (fun (i : Int) (_ : World) => s.size - i.toNat) t17 wr < (fun (i : Int) (_ : World) => s.size - i.toNat) (j : Int) wr := by
      intro h
      refine exW ⟨by omega, by omega⟩ ⟨⟨j + 1, by omega, by omega, by omega, rfl, fun k hk => ?_⟩, ?_⟩
      · rcases Nat.lt_or_ge k j with h1 | h1
        · exact hall k h1
        · have : k = j := by omega
          subst this; rw [e]; exact h
      · show s.size - ((j : Int) + 1).toNat < s.size - (j : Int).toNat
        omega
    refine ⟨by omega, b, hb, ?_⟩
    refine Ret.at (impl_isLower_c _ wr) ?_
    rintro v w1 ⟨hv, hw⟩
    subst hv; subst hw
    refine ⟨_, rfl, ifN (fun hno => ⟨by omega, b, hb, ?_⟩) (fun hyes => ifF (next ?_))⟩
    · have hno := of_decide_eq_false hno
      refine Ret.at (impl_isDigit_c _ _) ?_
      rintro v w2 ⟨hv, hw⟩
      subst hv; subst hw
      refine ⟨_, rfl, ifN (fun hno2 => ⟨?_, rfl⟩) (fun hyes2 => next ?_)⟩
      · have hno2 := of_decide_eq_false hno2
        unfold isWord
        rw [isAll_no hjs (by rw [e]; simp [okB]; omega)]
        simp
      · have hyes2 := of_decide_eq_true hyes2
        simp [okB]; omega
    · have hyes := of_decide_eq_true hyes
      simp [okB]; omega
  · unfold isWord
    rw [isAll_yes (fun i hi => hall i (by omega)), decide_eq_true (show s.size <= 12 by omega), decide_eq_true hp, e, decide_eq_true (show (97 : Int) <= (b.toNat : Nat) by omega)]
    rfl
def moneyOk : List D0 -> Bool
  | [.str c, .bool b, .ints z] => curKnown c && intOk [.bool b, .ints z] && decide (z.length <= 4)
  | _ => false
theorem spec_MoneyOk_c {w : World} {xs : List Value} {dx : List D0} (h : Reps w xs dx) (hc : dx.map D0.code = [.str, .bool, .ints]) :
    Ret P n_spec_MoneyOk [.agg ⟨xs⟩] w fun v w' => v = .bool (moneyOk dx) /\ Ext w w' := by
  obtain ⟨t0, a0, a1p, a1n, a1c, a1z, rfl, rfl, ha⟩ := open_Money h hc
  have hl := ha.1
  refine spec_MoneyOk_ret ?_
  unfold spec_MoneyOk
  intro r w1 hn1
  refine ⟨_, hn1.blk.loadAt 0 rfl (by kernel_rfl) rfl, ?_⟩
  refine Ret.at (spec_CurKnown_c t0) ?_
  rintro v w2 ⟨hv, y2⟩
  subst hv
  have X := hn1.ext.trans y2
  have b := hn1.blk.ext y2
  refine ⟨_, rfl, fun e1 => ?_, fun e1 => ifF ⟨by simp only [moneyOk, e1, Bool.false_and], X⟩⟩
  refine ⟨_, _, _, _, b.loadAAt 1 [.bool a0, .slice a1p a1n a1c] rfl (by kernel_rfl) rfl, ?_⟩
  have hs : Reps w2 [.bool a0, .slice a1p a1n a1c] [.bool a0, .ints a1z] := ⟨rfl, ⟨_, _, _, rfl, ha.ext X⟩, trivial⟩
  refine Ret.at (spec_IntOk_c hs rfl) ?_
  rintro v w3 ⟨hv, y3⟩
  subst hv
  refine ⟨_, rfl, fun e2 => ⟨_, _, _, (b.ext y3).loadAt 2 rfl (by kernel_rfl) rfl, ?_, X.trans y3⟩, fun e2 => ⟨by simp only [moneyOk, e2, Bool.and_false, Bool.false_and], X.trans y3⟩⟩
  simp only [moneyOk, e1, e2, Bool.true_and]
  congr 1
  simp; omega
theorem impl_MoneyOk_c {w : World} (ht : Tab w) {xs : List Value} {dx : List D0} (h : Reps w xs dx) (hc : dx.map D0.code = [.str, .bool, .ints]) :
    Ret P n_impl_MoneyOk [.agg ⟨xs⟩] w fun v w' => v = .bool (moneyOk dx) /\ Ext w w' := by
  obtain ⟨t0, a0, a1p, a1n, a1c, a1z, rfl, rfl, ha⟩ := open_Money h hc
  have hl := ha.1
  refine impl_MoneyOk_ret ?_
  unfold impl_MoneyOk
  intro r w1 hn1
  refine ⟨_, hn1.blk.loadAt 0 rfl (by kernel_rfl) rfl, ?_⟩
  refine Ret.at (impl_CurKnown_c (ht.ext hn1.ext) t0) ?_
  rintro v w2 ⟨hv, y2⟩
  subst hv
  have X := hn1.ext.trans y2
  have b := hn1.blk.ext y2
  refine ⟨_, rfl, fun e1 => ?_, fun e1 => ifF ⟨by simp only [moneyOk, e1, Bool.false_and], X⟩⟩
  refine ⟨_, _, _, _, b.loadAAt 1 [.bool a0, .slice a1p a1n a1c] rfl (by kernel_rfl) rfl, ?_⟩
  have hs : Reps w2 [.bool a0, .slice a1p a1n a1c] [.bool a0, .ints a1z] := ⟨rfl, ⟨_, _, _, rfl, ha.ext X⟩, trivial⟩
  refine Ret.at (impl_IntOk_c hs rfl) ?_
  rintro v w3 ⟨hv, y3⟩
  subst hv
  refine ⟨_, rfl, fun e2 => ⟨_, _, _, (b.ext y3).loadAt 2 rfl (by kernel_rfl) rfl, ?_, X.trans y3⟩, fun e2 => ⟨by simp only [moneyOk, e2, Bool.and_false, Bool.false_and], X.trans y3⟩⟩
  simp only [moneyOk, e1, e2, Bool.true_and]
  congr 1
  simp; omega
end Go.Proofs.YtbgokfhcgcoipaaGreatDoor
namespace Go.Proofs.YtbgokfhcgcoipaaGreatDoor
open Go Go.Proofs.YtbgokfhcgcoipaaGreatDoor.Sx
def legOk : List D0 -> Bool
  | .str s :: m => isWord s && moneyOk m
  | _ => false
def legsOk (l : List (List D0)) : Bool := decide (1 <= l.length /\ l.length <= 8) && l.all legOk
theorem all_no {f : List D0 -> Bool} {l : List (List D0)} {i : Nat} (hi : i < l.length) (h : f (l[i]'hi) = false) : l.all f = false := by
  rw [Bool.eq_false_iff]
  intro ha
  rw [List.all_eq_true] at ha
  rw [ha _ (List.getElem_mem hi)] at h; cases h
theorem all_yes {f : List D0 -> Bool} {l : List (List D0)} (h : ∀ i (hi : i < l.length), f (l[i]'hi) = true) : l.all f = true := by
  rw [List.all_eq_true]
  intro x hx
  obtain ⟨i, hi, rfl⟩ := List.getElem_of_mem hx
  exact h i hi
theorem impl_LegsOk_c {w : World} {p : Option Addr} {n c : Nat} {l : List (List D0)} (h : RowsR w 4 p n c l) (hc : ∀ x ∈ l, x.map D0.code = [.str, .str, .bool, .ints]) (hn : n <= 1048576) (hb : ∀ x ∈ l, bulks x <= 1048576) (ht : Tab w) :
    Ret P n_impl_LegsOk [.slice p n c] w fun v w' => v = .bool (legsOk l) /\ Ext w w' := by
  have hz := h.1; have hcap := h.2.1; have hcm := h.2.2.1
  refine impl_LegsOk_ret ?_
  unfold impl_LegsOk
  have short : ¬ (1 <= l.length /\ l.length <= 8) -> legsOk l = false := fun h => by
    unfold legsOk
    rw [decide_eq_false h, Bool.false_and]
  refine ifD (fun h1 => ifT ⟨by rw [short (by omega)], Ext.refl _⟩) (fun h1 => ifD (fun h2 => ⟨by rw [short (by omega)], Ext.refl _⟩) (fun h2 => ?_))
  unfold impl_LegsOk_j0
  refine ⟨fun i wr => ∃ j : Nat, i = j /\ j <= n /\ Ext w wr /\ ∀ i (hi : i < l.length), i < j -> legOk (l[i]'hi) = true, fun i _ => n - i.toNat, ⟨0, rfl, by omega, Ext.refl _, fun i _ h => absurd h (by omega)⟩, ?_⟩
  intro junk wr i ⟨j, hij, hj, hx, hall⟩
  subst hij
  refine ifD (fun hlt => ?_) (fun hge => ?_)
  · have hjn : j < n := by omega
    have hjl : j < l.length := by omega
    obtain ⟨a, cs, hp, hk, hr, hl⟩ := (h.ext hx).at (P := P) (t := T_impl_Leg) (by kernel_rfl) hjn
    subst hp
    have hrr := hr; have hcode := hc _ (List.getElem_mem hjl); have hbj := hb _ (List.getElem_mem hjl)
    obtain ⟨a0, a1, a2, a3p, a3n, a3c, a3z, rfl, hd, ha⟩ := open_Leg hr hcode
    rw [hd] at hbj
    simp only [bulks, D0.bulk, List.map_cons, List.map_nil, List.sum_cons, List.sum_nil] at hbj
    have bad : legOk [.str a0, .str a1, .bool a2, .ints a3z] = false -> legsOk l = false := fun h => by
      unfold legsOk
      rw [all_no hjl (by rw [hd]; exact h), Bool.and_false]
    refine ⟨⟨by omega, by omega⟩, _, _, _, _, _, _, by simpa using hl, ?_⟩
    intro r w2 hn2
    obtain ⟨w3, st, hb3, y3⟩ := hn2.fill (P := P) (t := T_impl_Leg) hrr.cells1 (by kernel_rfl) rfl
    refine ⟨w3, st, _, hb3.loadAt 0 rfl (by kernel_rfl) rfl, ?_⟩
    refine Ret.at (impl_IsWord_c a0 (by omega) _) ?_
    rintro v w4 ⟨hv, hw⟩
    subst hv; subst hw
    refine ⟨_, rfl, ifN (fun hno => ifT ⟨by rw [bad (by simp only [legOk, hno, Bool.false_and])], hx.trans y3⟩) (fun h1 => ?_)⟩
    refine ⟨_, _, _, _, _, hb3.loadAAt 1 [.string a1, .bool a2, .slice a3p a3n a3c] rfl (by kernel_rfl) rfl, ?_⟩
    have hm : Reps w4 [.string a1, .bool a2, .slice a3p a3n a3c] [.str a1, .bool a2, .ints a3z] := ⟨rfl, rfl, ⟨_, _, _, rfl, ha.ext y3⟩, trivial⟩
    refine Ret.at (impl_MoneyOk_c (ht.ext (hx.trans y3)) hm rfl) ?_
    rintro v w5 ⟨hv, y5⟩
    subst hv
    refine ⟨_, rfl, ifN (fun hno => ⟨by rw [bad (by simp only [legOk, hno, Bool.and_false])], (hx.trans y3).trans y5⟩) (fun h2 => ?_)⟩
    refine exW ⟨by omega, by omega⟩ ⟨⟨j + 1, by omega, by omega, (hx.trans y3).trans y5, fun i hi hij => ?_⟩, ?_⟩
    · rcases Nat.lt_or_ge i j with h3 | h3
      · exact hall i hi h3
      · have : i = j := by omega
        subst this
        rw [hd]
        simp only [legOk, h1, h2, Bool.and_self]
    · show n - ((j : Int) + 1).toNat < n - (j : Int).toNat
      omega
  · refine ⟨?_, hx⟩
    unfold legsOk
    rw [all_yes fun i hi => hall i hi (by omega), decide_eq_true (show 1 <= l.length /\ l.length <= 8 by omega)]
    rfl
end Go.Proofs.YtbgokfhcgcoipaaGreatDoor
namespace Go.Proofs.YtbgokfhcgcoipaaGreatDoor
open Go Go.Proofs.YtbgokfhcgcoipaaGreatDoor.Sx
def bName : List D0 -> ByteArray
  | .str s :: _ => s
  | _ => ByteArray.empty
def bookRowOk (l : List (List D0)) (i : Nat) : Bool := legOk (l.getD i []) && !(decide (0 < i) && !(Op.bytesLess (bName (l.getD (i - 1) [])).toList (bName (l.getD i [])).toList))
def bookOk (l : List (List D0)) : Bool := decide (l.length <= 12) && (List.range l.length).all (bookRowOk l)
theorem range_no {f : Nat -> Bool} {n i : Nat} (hi : i < n) (h : f i = false) : (List.range n).all f = false := by
  rw [Bool.eq_false_iff]
  intro ha
  rw [List.all_eq_true] at ha
  have := ha i (List.mem_range.2 hi)
  rw [h] at this; cases this
theorem range_yes {f : Nat -> Bool} {n : Nat} (h : ∀ i < n, f i = true) : (List.range n).all f = true := by
  rw [List.all_eq_true]
  exact fun i hi => h i (List.mem_range.1 hi)
theorem getD_row {l : List (List D0)} {i : Nat} (h : i < l.length) : l.getD i [] = l[i]'h := by
  rw [List.getD_eq_getElem?_getD, List.getElem?_eq_getElem h]; rfl
theorem spec_BookOk_c {w : World} {p : Option Addr} {n c : Nat} {l : List (List D0)} (h : RowsR w 4 p n c l) (hc : ∀ x ∈ l, x.map D0.code = [.str, .str, .bool, .ints]) (hn : n <= 1048576) (hb : ∀ x ∈ l, bulks x <= 1048576) :
    Ret P n_spec_BookOk [.agg ⟨[.slice p n c]⟩] w fun v w' => v = .bool (bookOk l) /\ Ext w w' := by
  have hz := h.1; have hcap := h.2.1; have hcm := h.2.2.1
  refine spec_BookOk_ret ?_
  unfold spec_BookOk
  intro r w1 hn1
  have hrow := h.ext hn1.ext
  refine ⟨_, _, _, hn1.blk.loadAt 0 rfl (by kernel_rfl) rfl, ?_⟩
  refine ⟨fun i wr => ∃ j : Nat, i = j /\ j <= n /\ Ext w1 wr /\ ∀ i < j, bookRowOk l i = true, fun i _ => n - i.toNat, ⟨0, rfl, by omega, Ext.refl _, fun i h => absurd h (by omega)⟩, ?_⟩
  intro junk wr i ⟨j, hij, hj, hx, hall⟩
  subst hij
  refine ifD (fun hlt => ?_) (fun hge => ?_)
  · have hjn : j < n := by omega
    have hjl : j < l.length := by omega
    obtain ⟨b, off, hpp, hs⟩ := (hrow.ext hx).2.2.2 (by omega)
    subst hpp
    obtain ⟨cs, hk, hr, hsg⟩ := hs j _ (List.getElem?_eq_getElem hjl)
    have hrr := hr; have hcode := hc _ (List.getElem_mem hjl); have hbj := hb _ (List.getElem_mem hjl)
    obtain ⟨a0, a1, a2, a3p, a3n, a3c, a3z, rfl, hd, ha⟩ := open_Acct hr hcode
    have hgd : l.getD j [] = [.str a0, .str a1, .bool a2, .ints a3z] := by rw [getD_row hjl, hd]
    rw [hd] at hbj
    simp only [bulks, D0.bulk, List.map_cons, List.map_nil, List.sum_cons, List.sum_nil] at hbj
    have first : ∀ i (hi : i < l.length), ∀ W, Ext wr W -> Loads P T_string (((⟨b, off, none⟩ : Addr).add (i * 4)).add 0) (.string (bName (l.getD i []))) W := by
      intro i hi W hW
      obtain ⟨cs, hk, hr, hsg⟩ := hs i _ (List.getElem?_eq_getElem hi)
      obtain ⟨a0, a1, a2, a3p, a3n, a3c, a3z, rfl, hd, _⟩ := open_Acct hr (hc _ (List.getElem_mem hi))
      rw [getD_row hi, hd]
      exact (hsg.ext hW).loadAt 0 (by simp [Addr.add]) (by kernel_rfl) rfl
    have bad : bookRowOk l j = false -> bookOk l = false := fun h => by
      unfold bookOk
      rw [range_no hjl h, Bool.and_false]
    have hl : Loads P T_impl_Acct ((⟨b, off, none⟩ : Addr).add (j * 4)) (.agg ⟨[.string a0, .string a1, .bool a2, .slice a3p a3n a3c]⟩) wr := by
      rw [addr_add]; exact loadsA (by kernel_rfl) hsg
    refine ⟨⟨by omega, by omega⟩, _, _, _, _, _, _, by simpa using hl, ?_⟩
    intro r1 w2 hn2
    obtain ⟨w3, st, hb3, y3⟩ := hn2.fill (P := P) (t := T_impl_Acct) hrr.cells1 (by kernel_rfl) rfl
    have D := Ext.drew w3
    have y4 := y3.trans D
    have hb4 := hb3.ext D
    have bk := ((hn1.blk.ext hx).ext y4)
    refine ⟨w3, st, _, fun W hW => (hb4.ext hW).loadAt 0 rfl (by kernel_rfl) rfl, ?_⟩
    refine Ret.at (spec_IsWord_c a0 (by omega) _) ?_
    rintro v w4 ⟨hv, hw⟩
    subst hv; subst hw
    refine ⟨_, rfl, ifN (fun hno => ifT (ifT ⟨by rw [bad (by simp only [bookRowOk, hgd, legOk, hno, Bool.false_and])], (hn1.ext.trans hx).trans y4⟩)) (fun h1 => ?_)⟩
    refine ⟨_, _, _, _, _, fun W hW => (hb4.ext hW).loadAAt 1 [.string a1, .bool a2, .slice a3p a3n a3c] rfl (by kernel_rfl) rfl, ?_⟩
    have hm : Reps w3.drew [.string a1, .bool a2, .slice a3p a3n a3c] [.str a1, .bool a2, .ints a3z] := ⟨rfl, rfl, ⟨_, _, _, rfl, ha.ext y4⟩, trivial⟩
    refine Ret.at (spec_MoneyOk_c  hm rfl) ?_
    rintro v w5 ⟨hv, y5⟩
    subst hv
    have X5 := (hx.trans y4).trans y5
    have bk := bk.ext y5
    have hb5 := hb4.ext y5
    refine ⟨_, rfl, ifN (fun hno => ifT ⟨by rw [bad (by simp only [bookRowOk, hgd, legOk, hno, Bool.and_false, Bool.false_and])], hn1.ext.trans X5⟩) (fun h2 => ?_)⟩
    have next : bookRowOk l j = true -> ∃ t48 : Int, t48 = IntKind.wrap .i64 ((j : Int) + 1) /\ (fun (i : Int) (wr : World) => ∃ j : Nat, i = j /\ j <= n /\ Ext w1 wr /\ ∀ i < j, bookRowOk l i = true) t48 w5 /\ (fun (i : Int) (_ : World) => n - i.toNat) t48 w5 < (fun (i : Int) (_ : World) => n - i.toNat) (j : Int) wr := by
      intro hs
      refine exW ⟨by omega, by omega⟩ ⟨⟨j + 1, by omega, by omega, X5, fun i hi => ?_⟩, ?_⟩
      · rcases Nat.lt_or_ge i j with h | h
        · exact hall i h
        · have : i = j := by omega
          subst this; exact hs
      · show n - ((j : Int) + 1).toNat < n - (j : Int).toNat
        omega
    have hleg : legOk (l.getD j []) = true := by rw [hgd]; simp only [legOk, h1, h2, Bool.and_self]
    refine ifD (fun hpos => ?_) (fun hzero => ifF (next ?_))
    · refine ⟨_, _, _, fun W hW => (bk.ext hW).loadAt 0 rfl (by kernel_rfl) rfl, exW ⟨by omega, by omega⟩ ⟨⟨by omega, by omega⟩, bName (l.getD (j - 1) []), fun W hW => ?_, a0, fun W hW => (hb5.ext hW).loadAt 0 rfl (by kernel_rfl) rfl, fun hle => ⟨?_, hn1.ext.trans X5⟩, fun hgt => next ?_⟩⟩
      · have := first (j - 1) (by omega) W ((y4.trans y5).trans hW)
        rw [show ((j : Int) - 1).toNat = j - 1 by omega]
        exact this
      · rw [bad]
        unfold bookRowOk
        rw [hleg, hgd, decide_eq_true (show 0 < j by omega)]
        rw [show (!(Op.bytesLess (bName (l.getD (j - 1) [])).toList (bName [.str a0, .str a1, .bool a2, .ints a3z]).toList)) = true from hle]
        rfl
      · unfold bookRowOk
        rw [hleg, hgd, decide_eq_true (show 0 < j by omega)]
        rw [show (!(Op.bytesLess (bName (l.getD (j - 1) [])).toList (bName [.str a0, .str a1, .bool a2, .ints a3z]).toList)) = false from hgt]
        rfl
    · unfold bookRowOk
      rw [hleg, decide_eq_false (show ¬ 0 < j by omega)]
      rfl
  · refine ⟨_, _, _, (hn1.blk.ext hx).loadAt 0 rfl (by kernel_rfl) rfl, ?_, hn1.ext.trans hx⟩
    unfold bookOk
    rw [range_yes fun i hi => hall i (by omega), Bool.and_true]
    exact congrArg Value.bool (decide_eq_decide.2 (by omega))
theorem impl_BookOk_c {w : World} {p : Option Addr} {n c : Nat} {l : List (List D0)} (h : RowsR w 4 p n c l) (hc : ∀ x ∈ l, x.map D0.code = [.str, .str, .bool, .ints]) (hn : n <= 1048576) (hb : ∀ x ∈ l, bulks x <= 1048576) (ht : Tab w) :
    Ret P n_impl_BookOk [.agg ⟨[.slice p n c]⟩] w fun v w' => v = .bool (bookOk l) /\ Ext w w' := by
  have hz := h.1; have hcap := h.2.1; have hcm := h.2.2.1
  refine impl_BookOk_ret ?_
  unfold impl_BookOk
  intro r w1 hn1
  have hrow := h.ext hn1.ext
  refine ⟨_, _, _, hn1.blk.loadAt 0 rfl (by kernel_rfl) rfl, ifD (fun h12 => ⟨?_, hn1.ext⟩) (fun h12 => ?_)⟩
  · unfold bookOk
    rw [decide_eq_false (show ¬ l.length <= 12 by omega), Bool.false_and]
  refine ⟨_, _, _, hn1.blk.loadAt 0 rfl (by kernel_rfl) rfl, ?_⟩
  refine ⟨fun i wr => ∃ j : Nat, i = j /\ j <= n /\ Ext w1 wr /\ ∀ i < j, bookRowOk l i = true, fun i _ => n - i.toNat, ⟨0, rfl, by omega, Ext.refl _, fun i h => absurd h (by omega)⟩, ?_⟩
  intro junk wr i ⟨j, hij, hj, hx, hall⟩
  subst hij
  refine ifD (fun hlt => ?_) (fun hge => ?_)
  · have hjn : j < n := by omega
    have hjl : j < l.length := by omega
    obtain ⟨b, off, hpp, hs⟩ := (hrow.ext hx).2.2.2 (by omega)
    subst hpp
    obtain ⟨cs, hk, hr, hsg⟩ := hs j _ (List.getElem?_eq_getElem hjl)
    have hrr := hr; have hcode := hc _ (List.getElem_mem hjl); have hbj := hb _ (List.getElem_mem hjl)
    obtain ⟨a0, a1, a2, a3p, a3n, a3c, a3z, rfl, hd, ha⟩ := open_Acct hr hcode
    have hgd : l.getD j [] = [.str a0, .str a1, .bool a2, .ints a3z] := by rw [getD_row hjl, hd]
    rw [hd] at hbj
    simp only [bulks, D0.bulk, List.map_cons, List.map_nil, List.sum_cons, List.sum_nil] at hbj
    have first : ∀ i (hi : i < l.length), ∀ W, Ext wr W -> Loads P T_string (((⟨b, off, none⟩ : Addr).add (i * 4)).add 0) (.string (bName (l.getD i []))) W := by
      intro i hi W hW
      obtain ⟨cs, hk, hr, hsg⟩ := hs i _ (List.getElem?_eq_getElem hi)
      obtain ⟨a0, a1, a2, a3p, a3n, a3c, a3z, rfl, hd, _⟩ := open_Acct hr (hc _ (List.getElem_mem hi))
      rw [getD_row hi, hd]
      exact (hsg.ext hW).loadAt 0 (by simp [Addr.add]) (by kernel_rfl) rfl
    have bad : bookRowOk l j = false -> bookOk l = false := fun h => by
      unfold bookOk
      rw [range_no hjl h, Bool.and_false]
    have hl : Loads P T_impl_Acct ((⟨b, off, none⟩ : Addr).add (j * 4)) (.agg ⟨[.string a0, .string a1, .bool a2, .slice a3p a3n a3c]⟩) wr := by
      rw [addr_add]; exact loadsA (by kernel_rfl) hsg
    refine ⟨⟨by omega, by omega⟩, _, _, _, _, _, _, by simpa using hl, ?_⟩
    intro r1 w2 hn2
    obtain ⟨w3, st, hb3, y3⟩ := hn2.fill (P := P) (t := T_impl_Acct) hrr.cells1 (by kernel_rfl) rfl
    have D := Ext.drew w3
    have y4 := y3.trans D
    have hb4 := hb3.ext D
    have bk := ((hn1.blk.ext hx).ext y4)
    refine ⟨w3, st, _, fun W hW => (hb4.ext hW).loadAt 0 rfl (by kernel_rfl) rfl, ?_⟩
    refine Ret.at (impl_IsWord_c a0 (by omega) _) ?_
    rintro v w4 ⟨hv, hw⟩
    subst hv; subst hw
    refine ⟨_, rfl, ifN (fun hno => ifT (ifT ⟨by rw [bad (by simp only [bookRowOk, hgd, legOk, hno, Bool.false_and])], (hn1.ext.trans hx).trans y4⟩)) (fun h1 => ?_)⟩
    refine ⟨_, _, _, _, _, fun W hW => (hb4.ext hW).loadAAt 1 [.string a1, .bool a2, .slice a3p a3n a3c] rfl (by kernel_rfl) rfl, ?_⟩
    have hm : Reps w3.drew [.string a1, .bool a2, .slice a3p a3n a3c] [.str a1, .bool a2, .ints a3z] := ⟨rfl, rfl, ⟨_, _, _, rfl, ha.ext y4⟩, trivial⟩
    refine Ret.at (impl_MoneyOk_c (ht.ext ((hn1.ext.trans hx).trans y4)) hm rfl) ?_
    rintro v w5 ⟨hv, y5⟩
    subst hv
    have X5 := (hx.trans y4).trans y5
    have bk := bk.ext y5
    have hb5 := hb4.ext y5
    refine ⟨_, rfl, ifN (fun hno => ifT ⟨by rw [bad (by simp only [bookRowOk, hgd, legOk, hno, Bool.and_false, Bool.false_and])], hn1.ext.trans X5⟩) (fun h2 => ?_)⟩
    have next : bookRowOk l j = true -> ∃ t48 : Int, t48 = IntKind.wrap .i64 ((j : Int) + 1) /\ (fun (i : Int) (wr : World) => ∃ j : Nat, i = j /\ j <= n /\ Ext w1 wr /\ ∀ i < j, bookRowOk l i = true) t48 w5 /\ (fun (i : Int) (_ : World) => n - i.toNat) t48 w5 < (fun (i : Int) (_ : World) => n - i.toNat) (j : Int) wr := by
      intro hs
      refine exW ⟨by omega, by omega⟩ ⟨⟨j + 1, by omega, by omega, X5, fun i hi => ?_⟩, ?_⟩
      · rcases Nat.lt_or_ge i j with h | h
        · exact hall i h
        · have : i = j := by omega
          subst this; exact hs
      · show n - ((j : Int) + 1).toNat < n - (j : Int).toNat
        omega
    have hleg : legOk (l.getD j []) = true := by rw [hgd]; simp only [legOk, h1, h2, Bool.and_self]
    refine ifD (fun hpos => ?_) (fun hzero => ifF (next ?_))
    · refine ⟨_, _, _, fun W hW => (bk.ext hW).loadAt 0 rfl (by kernel_rfl) rfl, exW ⟨by omega, by omega⟩ ⟨⟨by omega, by omega⟩, bName (l.getD (j - 1) []), fun W hW => ?_, a0, fun W hW => (hb5.ext hW).loadAt 0 rfl (by kernel_rfl) rfl, fun hle => ⟨?_, hn1.ext.trans X5⟩, fun hgt => next ?_⟩⟩
      · have := first (j - 1) (by omega) W ((y4.trans y5).trans hW)
        rw [show ((j : Int) - 1).toNat = j - 1 by omega]
        exact this
      · rw [bad]
        unfold bookRowOk
        rw [hleg, hgd, decide_eq_true (show 0 < j by omega)]
        rw [show (!(Op.bytesLess (bName (l.getD (j - 1) [])).toList (bName [.str a0, .str a1, .bool a2, .ints a3z]).toList)) = true from hle]
        rfl
      · unfold bookRowOk
        rw [hleg, hgd, decide_eq_true (show 0 < j by omega)]
        rw [show (!(Op.bytesLess (bName (l.getD (j - 1) [])).toList (bName [.str a0, .str a1, .bool a2, .ints a3z]).toList)) = false from hgt]
        rfl
    · unfold bookRowOk
      rw [hleg, decide_eq_false (show ¬ 0 < j by omega)]
      rfl
  · refine ⟨?_, hn1.ext.trans hx⟩
    unfold bookOk
    rw [range_yes fun i hi => hall i (by omega), decide_eq_true (show l.length <= 12 by omega)]
    rfl
end Go.Proofs.YtbgokfhcgcoipaaGreatDoor
namespace Go.Proofs.YtbgokfhcgcoipaaGreatDoor
open Go Go.Proofs.YtbgokfhcgcoipaaGreatDoor.Sx
theorem spec_BookOk_w {w : World} {p : Option Addr} {n c : Nat} {l : List (List D0)} (h : RowsR w 4 p n c l) (hc : ∀ x ∈ l, x.map D0.code = [.str, .str, .bool, .ints]) (hn : n <= 1048576) (hb : ∀ x ∈ l, bulks x <= 4194304) :
    Ret P n_spec_BookOk [.agg ⟨[.slice p n c]⟩] w fun v w' => v = .bool (bookOk l) /\ Ext w w' := by
  have hz := h.1; have hcap := h.2.1; have hcm := h.2.2.1
  refine spec_BookOk_ret ?_
  unfold spec_BookOk
  intro r w1 hn1
  have hrow := h.ext hn1.ext
  refine ⟨_, _, _, hn1.blk.loadAt 0 rfl (by kernel_rfl) rfl, ?_⟩
  refine ⟨fun i wr => ∃ j : Nat, i = j /\ j <= n /\ Ext w1 wr /\ ∀ i < j, bookRowOk l i = true, fun i _ => n - i.toNat, ⟨0, rfl, by omega, Ext.refl _, fun i h => absurd h (by omega)⟩, ?_⟩
  intro junk wr i ⟨j, hij, hj, hx, hall⟩
  subst hij
  refine ifD (fun hlt => ?_) (fun hge => ?_)
  · have hjn : j < n := by omega
    have hjl : j < l.length := by omega
    obtain ⟨b, off, hpp, hs⟩ := (hrow.ext hx).2.2.2 (by omega)
    subst hpp
    obtain ⟨cs, hk, hr, hsg⟩ := hs j _ (List.getElem?_eq_getElem hjl)
    have hrr := hr; have hcode := hc _ (List.getElem_mem hjl); have hbj := hb _ (List.getElem_mem hjl)
    obtain ⟨a0, a1, a2, a3p, a3n, a3c, a3z, rfl, hd, ha⟩ := open_Acct hr hcode
    have hgd : l.getD j [] = [.str a0, .str a1, .bool a2, .ints a3z] := by rw [getD_row hjl, hd]
    rw [hd] at hbj
    simp only [bulks, D0.bulk, List.map_cons, List.map_nil, List.sum_cons, List.sum_nil] at hbj
    have first : ∀ i (hi : i < l.length), ∀ W, Ext wr W -> Loads P T_string (((⟨b, off, none⟩ : Addr).add (i * 4)).add 0) (.string (bName (l.getD i []))) W := by
      intro i hi W hW
      obtain ⟨cs, hk, hr, hsg⟩ := hs i _ (List.getElem?_eq_getElem hi)
      obtain ⟨a0, a1, a2, a3p, a3n, a3c, a3z, rfl, hd, _⟩ := open_Acct hr (hc _ (List.getElem_mem hi))
      rw [getD_row hi, hd]
      exact (hsg.ext hW).loadAt 0 (by simp [Addr.add]) (by kernel_rfl) rfl
    have bad : bookRowOk l j = false -> bookOk l = false := fun h => by
      unfold bookOk
      rw [range_no hjl h, Bool.and_false]
    have hl : Loads P T_impl_Acct ((⟨b, off, none⟩ : Addr).add (j * 4)) (.agg ⟨[.string a0, .string a1, .bool a2, .slice a3p a3n a3c]⟩) wr := by
      rw [addr_add]; exact loadsA (by kernel_rfl) hsg
    refine ⟨⟨by omega, by omega⟩, _, _, _, _, _, _, by simpa using hl, ?_⟩
    intro r1 w2 hn2
    obtain ⟨w3, st, hb3, y3⟩ := hn2.fill (P := P) (t := T_impl_Acct) hrr.cells1 (by kernel_rfl) rfl
    have D := Ext.drew w3
    have y4 := y3.trans D
    have hb4 := hb3.ext D
    have bk := ((hn1.blk.ext hx).ext y4)
    refine ⟨w3, st, _, fun W hW => (hb4.ext hW).loadAt 0 rfl (by kernel_rfl) rfl, ?_⟩
    refine Ret.at (spec_IsWord_c a0 (by omega) _) ?_
    rintro v w4 ⟨hv, hw⟩
    subst hv; subst hw
    refine ⟨_, rfl, ifN (fun hno => ifT (ifT ⟨by rw [bad (by simp only [bookRowOk, hgd, legOk, hno, Bool.false_and])], (hn1.ext.trans hx).trans y4⟩)) (fun h1 => ?_)⟩
    refine ⟨_, _, _, _, _, fun W hW => (hb4.ext hW).loadAAt 1 [.string a1, .bool a2, .slice a3p a3n a3c] rfl (by kernel_rfl) rfl, ?_⟩
    have hm : Reps w3.drew [.string a1, .bool a2, .slice a3p a3n a3c] [.str a1, .bool a2, .ints a3z] := ⟨rfl, rfl, ⟨_, _, _, rfl, ha.ext y4⟩, trivial⟩
    refine Ret.at (spec_MoneyOk_c  hm rfl) ?_
    rintro v w5 ⟨hv, y5⟩
    subst hv
    have X5 := (hx.trans y4).trans y5
    have bk := bk.ext y5
    have hb5 := hb4.ext y5
    refine ⟨_, rfl, ifN (fun hno => ifT ⟨by rw [bad (by simp only [bookRowOk, hgd, legOk, hno, Bool.and_false, Bool.false_and])], hn1.ext.trans X5⟩) (fun h2 => ?_)⟩
    have next : bookRowOk l j = true -> ∃ t48 : Int, t48 = IntKind.wrap .i64 ((j : Int) + 1) /\ (fun (i : Int) (wr : World) => ∃ j : Nat, i = j /\ j <= n /\ Ext w1 wr /\ ∀ i < j, bookRowOk l i = true) t48 w5 /\ (fun (i : Int) (_ : World) => n - i.toNat) t48 w5 < (fun (i : Int) (_ : World) => n - i.toNat) (j : Int) wr := by
      intro hs
      refine exW ⟨by omega, by omega⟩ ⟨⟨j + 1, by omega, by omega, X5, fun i hi => ?_⟩, ?_⟩
      · rcases Nat.lt_or_ge i j with h | h
        · exact hall i h
        · have : i = j := by omega
          subst this; exact hs
      · show n - ((j : Int) + 1).toNat < n - (j : Int).toNat
        omega
    have hleg : legOk (l.getD j []) = true := by rw [hgd]; simp only [legOk, h1, h2, Bool.and_self]
    refine ifD (fun hpos => ?_) (fun hzero => ifF (next ?_))
    · refine ⟨_, _, _, fun W hW => (bk.ext hW).loadAt 0 rfl (by kernel_rfl) rfl, exW ⟨by omega, by omega⟩ ⟨⟨by omega, by omega⟩, bName (l.getD (j - 1) []), fun W hW => ?_, a0, fun W hW => (hb5.ext hW).loadAt 0 rfl (by kernel_rfl) rfl, fun hle => ⟨?_, hn1.ext.trans X5⟩, fun hgt => next ?_⟩⟩
      · have := first (j - 1) (by omega) W ((y4.trans y5).trans hW)
        rw [show ((j : Int) - 1).toNat = j - 1 by omega]
        exact this
      · rw [bad]
        unfold bookRowOk
        rw [hleg, hgd, decide_eq_true (show 0 < j by omega)]
        rw [show (!(Op.bytesLess (bName (l.getD (j - 1) [])).toList (bName [.str a0, .str a1, .bool a2, .ints a3z]).toList)) = true from hle]
        rfl
      · unfold bookRowOk
        rw [hleg, hgd, decide_eq_true (show 0 < j by omega)]
        rw [show (!(Op.bytesLess (bName (l.getD (j - 1) [])).toList (bName [.str a0, .str a1, .bool a2, .ints a3z]).toList)) = false from hgt]
        rfl
    · unfold bookRowOk
      rw [hleg, decide_eq_false (show ¬ 0 < j by omega)]
      rfl
  · refine ⟨_, _, _, (hn1.blk.ext hx).loadAt 0 rfl (by kernel_rfl) rfl, ?_, hn1.ext.trans hx⟩
    unfold bookOk
    rw [range_yes fun i hi => hall i (by omega), Bool.and_true]
    exact congrArg Value.bool (decide_eq_decide.2 (by omega))
theorem impl_BookOk_w {w : World} {p : Option Addr} {n c : Nat} {l : List (List D0)} (h : RowsR w 4 p n c l) (hc : ∀ x ∈ l, x.map D0.code = [.str, .str, .bool, .ints]) (hn : n <= 1048576) (hb : ∀ x ∈ l, bulks x <= 4194304) (ht : Tab w) :
    Ret P n_impl_BookOk [.agg ⟨[.slice p n c]⟩] w fun v w' => v = .bool (bookOk l) /\ Ext w w' := by
  have hz := h.1; have hcap := h.2.1; have hcm := h.2.2.1
  refine impl_BookOk_ret ?_
  unfold impl_BookOk
  intro r w1 hn1
  have hrow := h.ext hn1.ext
  refine ⟨_, _, _, hn1.blk.loadAt 0 rfl (by kernel_rfl) rfl, ifD (fun h12 => ⟨?_, hn1.ext⟩) (fun h12 => ?_)⟩
  · unfold bookOk
    rw [decide_eq_false (show ¬ l.length <= 12 by omega), Bool.false_and]
  refine ⟨_, _, _, hn1.blk.loadAt 0 rfl (by kernel_rfl) rfl, ?_⟩
  refine ⟨fun i wr => ∃ j : Nat, i = j /\ j <= n /\ Ext w1 wr /\ ∀ i < j, bookRowOk l i = true, fun i _ => n - i.toNat, ⟨0, rfl, by omega, Ext.refl _, fun i h => absurd h (by omega)⟩, ?_⟩
  intro junk wr i ⟨j, hij, hj, hx, hall⟩
  subst hij
  refine ifD (fun hlt => ?_) (fun hge => ?_)
  · have hjn : j < n := by omega
    have hjl : j < l.length := by omega
    obtain ⟨b, off, hpp, hs⟩ := (hrow.ext hx).2.2.2 (by omega)
    subst hpp
    obtain ⟨cs, hk, hr, hsg⟩ := hs j _ (List.getElem?_eq_getElem hjl)
    have hrr := hr; have hcode := hc _ (List.getElem_mem hjl); have hbj := hb _ (List.getElem_mem hjl)
    obtain ⟨a0, a1, a2, a3p, a3n, a3c, a3z, rfl, hd, ha⟩ := open_Acct hr hcode
    have hgd : l.getD j [] = [.str a0, .str a1, .bool a2, .ints a3z] := by rw [getD_row hjl, hd]
    rw [hd] at hbj
    simp only [bulks, D0.bulk, List.map_cons, List.map_nil, List.sum_cons, List.sum_nil] at hbj
    have first : ∀ i (hi : i < l.length), ∀ W, Ext wr W -> Loads P T_string (((⟨b, off, none⟩ : Addr).add (i * 4)).add 0) (.string (bName (l.getD i []))) W := by
      intro i hi W hW
      obtain ⟨cs, hk, hr, hsg⟩ := hs i _ (List.getElem?_eq_getElem hi)
      obtain ⟨a0, a1, a2, a3p, a3n, a3c, a3z, rfl, hd, _⟩ := open_Acct hr (hc _ (List.getElem_mem hi))
      rw [getD_row hi, hd]
      exact (hsg.ext hW).loadAt 0 (by simp [Addr.add]) (by kernel_rfl) rfl
    have bad : bookRowOk l j = false -> bookOk l = false := fun h => by
      unfold bookOk
      rw [range_no hjl h, Bool.and_false]
    have hl : Loads P T_impl_Acct ((⟨b, off, none⟩ : Addr).add (j * 4)) (.agg ⟨[.string a0, .string a1, .bool a2, .slice a3p a3n a3c]⟩) wr := by
      rw [addr_add]; exact loadsA (by kernel_rfl) hsg
    refine ⟨⟨by omega, by omega⟩, _, _, _, _, _, _, by simpa using hl, ?_⟩
    intro r1 w2 hn2
    obtain ⟨w3, st, hb3, y3⟩ := hn2.fill (P := P) (t := T_impl_Acct) hrr.cells1 (by kernel_rfl) rfl
    have D := Ext.drew w3
    have y4 := y3.trans D
    have hb4 := hb3.ext D
    have bk := ((hn1.blk.ext hx).ext y4)
    refine ⟨w3, st, _, fun W hW => (hb4.ext hW).loadAt 0 rfl (by kernel_rfl) rfl, ?_⟩
    refine Ret.at (impl_IsWord_c a0 (by omega) _) ?_
    rintro v w4 ⟨hv, hw⟩
    subst hv; subst hw
    refine ⟨_, rfl, ifN (fun hno => ifT (ifT ⟨by rw [bad (by simp only [bookRowOk, hgd, legOk, hno, Bool.false_and])], (hn1.ext.trans hx).trans y4⟩)) (fun h1 => ?_)⟩
    refine ⟨_, _, _, _, _, fun W hW => (hb4.ext hW).loadAAt 1 [.string a1, .bool a2, .slice a3p a3n a3c] rfl (by kernel_rfl) rfl, ?_⟩
    have hm : Reps w3.drew [.string a1, .bool a2, .slice a3p a3n a3c] [.str a1, .bool a2, .ints a3z] := ⟨rfl, rfl, ⟨_, _, _, rfl, ha.ext y4⟩, trivial⟩
    refine Ret.at (impl_MoneyOk_c (ht.ext ((hn1.ext.trans hx).trans y4)) hm rfl) ?_
    rintro v w5 ⟨hv, y5⟩
    subst hv
    have X5 := (hx.trans y4).trans y5
    have bk := bk.ext y5
    have hb5 := hb4.ext y5
    refine ⟨_, rfl, ifN (fun hno => ifT ⟨by rw [bad (by simp only [bookRowOk, hgd, legOk, hno, Bool.and_false, Bool.false_and])], hn1.ext.trans X5⟩) (fun h2 => ?_)⟩
    have next : bookRowOk l j = true -> ∃ t48 : Int, t48 = IntKind.wrap .i64 ((j : Int) + 1) /\ (fun (i : Int) (wr : World) => ∃ j : Nat, i = j /\ j <= n /\ Ext w1 wr /\ ∀ i < j, bookRowOk l i = true) t48 w5 /\ (fun (i : Int) (_ : World) => n - i.toNat) t48 w5 < (fun (i : Int) (_ : World) => n - i.toNat) (j : Int) wr := by
      intro hs
      refine exW ⟨by omega, by omega⟩ ⟨⟨j + 1, by omega, by omega, X5, fun i hi => ?_⟩, ?_⟩
      · rcases Nat.lt_or_ge i j with h | h
        · exact hall i h
        · have : i = j := by omega
          subst this; exact hs
      · show n - ((j : Int) + 1).toNat < n - (j : Int).toNat
        omega
    have hleg : legOk (l.getD j []) = true := by rw [hgd]; simp only [legOk, h1, h2, Bool.and_self]
    refine ifD (fun hpos => ?_) (fun hzero => ifF (next ?_))
    · refine ⟨_, _, _, fun W hW => (bk.ext hW).loadAt 0 rfl (by kernel_rfl) rfl, exW ⟨by omega, by omega⟩ ⟨⟨by omega, by omega⟩, bName (l.getD (j - 1) []), fun W hW => ?_, a0, fun W hW => (hb5.ext hW).loadAt 0 rfl (by kernel_rfl) rfl, fun hle => ⟨?_, hn1.ext.trans X5⟩, fun hgt => next ?_⟩⟩
      · have := first (j - 1) (by omega) W ((y4.trans y5).trans hW)
        rw [show ((j : Int) - 1).toNat = j - 1 by omega]
        exact this
      · rw [bad]
        unfold bookRowOk
        rw [hleg, hgd, decide_eq_true (show 0 < j by omega)]
        rw [show (!(Op.bytesLess (bName (l.getD (j - 1) [])).toList (bName [.str a0, .str a1, .bool a2, .ints a3z]).toList)) = true from hle]
        rfl
      · unfold bookRowOk
        rw [hleg, hgd, decide_eq_true (show 0 < j by omega)]
        rw [show (!(Op.bytesLess (bName (l.getD (j - 1) [])).toList (bName [.str a0, .str a1, .bool a2, .ints a3z]).toList)) = false from hgt]
        rfl
    · unfold bookRowOk
      rw [hleg, decide_eq_false (show ¬ 0 < j by omega)]
      rfl
  · refine ⟨?_, hn1.ext.trans hx⟩
    unfold bookOk
    rw [range_yes fun i hi => hall i (by omega), decide_eq_true (show l.length <= 12 by omega)]
    rfl
end Go.Proofs.YtbgokfhcgcoipaaGreatDoor
namespace Go.Proofs.YtbgokfhcgcoipaaGreatDoor.Sx
open Go
def D0.cnt : D0 -> Int
  | .ints z => (z.length : Nat)
  | _ => 1
def cnts : List D0 -> Int
  | [] => 0
  | d :: r => d.cnt + cnts r
def tcnts : List D0 -> Int
  | [] => 0
  | .ints z :: r => (z.length : Nat) + tcnts r
  | _ :: r => tcnts r
def cntL : List (List D0) -> Int
  | [] => 0
  | x :: l => cnts x + cntL l
theorem take_snoc {α : Type} {l : List α} {i : Nat} {x : α} (h : l[i]? = some x) : l.take (i + 1) = l.take i ++ [x] := by
  rw [List.take_add_one, h]; rfl
theorem tcnts_le : ∀ (l : List D0), tcnts l <= ((bulks l : Nat) : Int)
  | [] => by simp [tcnts]
  | d :: r => by
    have h2 := tcnts_le r
    simp only [bulks] at h2
    cases d <;> simp only [tcnts, bulks, D0.bulk, List.map_cons, List.sum_cons] <;> omega
theorem mem_opt {o : Option Nat} {q : Nat} (h : o = some q) : q ∈ o.toList := by subst h; simp
theorem opt_mem {o : Option Nat} {q : Nat} (h : q ∈ o.toList) : o = some q := by cases o <;> simp_all
theorem code_ints {ds : List D0} {cs : List C0} (h : ds.map D0.code = .ints :: cs) : ∃ z es, ds = .ints z :: es /\ es.map D0.code = cs := by
  match ds, h with
  | .ints z :: es, h => exact ⟨z, es, rfl, (List.cons.inj h).2⟩
theorem code_str {ds : List D0} {cs : List C0} (h : ds.map D0.code = .str :: cs) : ∃ z es, ds = .str z :: es /\ es.map D0.code = cs := by
  match ds, h with
  | .str z :: es, h => exact ⟨z, es, rfl, (List.cons.inj h).2⟩
theorem code_bool {ds : List D0} {cs : List C0} (h : ds.map D0.code = .bool :: cs) : ∃ z es, ds = .bool z :: es /\ es.map D0.code = cs := by
  match ds, h with
  | .bool z :: es, h => exact ⟨z, es, rfl, (List.cons.inj h).2⟩
theorem code_nil {ds : List D0} (h : ds.map D0.code = []) : ds = [] := by simpa using h
theorem Owns.done {w : World} {B : Nat} {vs : List Value} {ds : List D0} {f : List Nat} (h : Owns w B vs ds f) (hc : ds.map D0.code = []) : vs = [] /\ ds = [] /\ f = [] := by
  match vs, ds, h, hc with
  | [], [], h, _ => exact ⟨rfl, rfl, h⟩
  | v :: us, [], h, _ => exact h.elim
theorem Own.blk {w : World} {B : Nat} {e : TypeId} {size : Nat} {p : Option Addr} {n c : Nat} {xs : List Value} (h : Own w B e size p n c xs) (hn : 0 < n) :
    ∃ b ys, p = some ⟨b, 0, none⟩ /\ B <= b /\ Blk w b e ys /\ ys.length = c * size /\ n <= c /\ c <= maxLen /\ ys.take (n * size) = xs := by
  rcases h.2 with ⟨h1, h2⟩ | ⟨g, cap, cur, h1, hb, hg, h3, h4, h5, h6⟩
  · omega
  · simp only [Value.slice.injEq] at h1
    obtain ⟨e1, _, e3⟩ := h1
    have e3 : c = cap := by omega
    subst e3
    exact ⟨g, cur.toList, e1, hb, hg, by simpa using h5, h3, h4, h6⟩
theorem Own.of_blk' {w : World} {B : Nat} {e : TypeId} {size : Nat} {b n c : Nat} {ys : List Value} (h : Blk w b e ys) (hb : B <= b) (hl : ys.length = c * size) (hn : n <= c) (hc : c <= maxLen) : Own w B e size (some ⟨b, 0, none⟩) n c (ys.take (n * size)) :=
  ⟨by
    have : n * size <= c * size := Nat.mul_le_mul_right _ hn
    simp; omega, .inr ⟨b, c, ⟨ys⟩, rfl, hb, h, hn, hc, by simpa using hl, rfl⟩⟩
theorem Own.set {P : Program} {w : World} {B : Nat} {e : TypeId} {size : Nat} {p : Option Addr} {n c : Nat} {xs : List Value} (h : Own w B e size p n c xs) {t : TypeId} {i : Nat} {v : Value} (hi : i < xs.length) (ht : cellT P t = true) (hv : v.oneCell' = true) :
    ∃ b w', p = some ⟨b, 0, none⟩ /\ Stores P t ((⟨b, 0, none⟩ : Addr).add i) v w w' /\ Own w' B e size p n c (xs.set i v) /\ Chg (p.map (·.block)).toList w w' /\ w'.heap.size = w.heap.size := by
  have hl := h.len
  have hn : 0 < n := by
    rcases Nat.eq_zero_or_pos n with h0 | h0
    · subst h0; simp at hl; rw [hl] at hi; simp at hi
    · exact h0
  obtain ⟨b, ys, rfl, hb, hblk, hyl, hnc, hc, hx⟩ := h.blk hn
  have hle : n * size <= c * size := Nat.mul_le_mul_right _ hnc
  obtain ⟨w', st, hb', ch, sz⟩ := hblk.store (P := P) (t := t) (k := i) (v := v) ht (by omega) hv
  refine ⟨b, w', rfl, st, ?_, by simpa using ch, sz⟩
  have := Own.of_blk' (n := n) hb' hb (by simpa using hyl) hnc hc
  rw [List.take_set, hx] at this
  exact this
theorem AllO.focus {w : World} {B k : Nat} : ∀ {css : List (List Value)} {l : List (List D0)} {fs : List (List Nat)}, AllO w B k css l fs -> ∀ (i : Nat) (x : List D0), l[i]? = some x ->
    ∃ cs fi, css[i]? = some cs /\ fs[i]? = some fi /\ cs.length = k /\ Owns w B cs x fi
  | [], [], [], _, i, x, hx => by simp at hx
  | cs :: css, y :: l, f :: fs, h, 0, x, hx => by
    simp only [List.getElem?_cons_zero, Option.some.injEq] at hx
    subst hx
    exact ⟨cs, f, rfl, rfl, h.1, h.2.1⟩
  | cs :: css, y :: l, f :: fs, h, i + 1, x, hx => by
    simp only [List.getElem?_cons_succ] at hx ⊢
    exact AllO.focus h.2.2 i x hx
  | [], [], _ :: _, h, _, _, _ => h.elim
  | [], _ :: _, _, h, _, _, _ => h.elim
  | _ :: _, [], _, h, _, _, _ => h.elim
  | _ :: _, _ :: _, [], h, _, _, _ => h.elim
theorem AllO.set {S : List Nat} {w w' : World} {B k : Nat} {cs' : List Value} {x' : List D0} (hc : Chg S w w') (hk : cs'.length = k) : ∀ {css : List (List Value)} {l : List (List D0)} {fs : List (List Nat)}, AllO w B k css l fs -> ∀ (i : Nat) (fi : List Nat), fs[i]? = some fi ->
    Owns w' B cs' x' fi -> (∀ (j : Nat) (f : List Nat), j ≠ i -> fs[j]? = some f -> ∀ y ∈ f, y ∉ S) -> AllO w' B k (css.set i cs') (l.set i x') fs
  | [], [], [], _, i, fi, hx, _, _ => by simp at hx
  | cs :: css, y :: l, f :: fs, h, 0, fi, hx, ho, hS => by
    simp only [List.getElem?_cons_zero, Option.some.injEq] at hx
    subst hx
    refine ⟨hk, ho, h.2.2.chg hc fun y hy => ?_⟩
    obtain ⟨f', hf, hyf⟩ := List.mem_flatten.1 hy
    obtain ⟨j, hj, e⟩ := List.getElem_of_mem hf
    exact hS (j + 1) f' (by omega) (by simp [List.getElem?_eq_getElem hj, e]) y hyf
  | cs :: css, y :: l, f :: fs, h, i + 1, fi, hx, ho, hS => by
    simp only [List.getElem?_cons_succ] at hx
    refine ⟨h.1, h.2.1.chg hc fun y hy => hS 0 f (by omega) rfl y hy, AllO.set hc hk h.2.2 i fi hx ho fun j f' hj hf => hS (j + 1) f' (by omega) (by simpa using hf)⟩
  | [], [], _ :: _, h, _, _, _, _, _ => h.elim
  | [], _ :: _, _, h, _, _, _, _, _ => h.elim
  | _ :: _, [], _, h, _, _, _, _, _ => h.elim
  | _ :: _, _ :: _, [], h, _, _, _, _, _ => h.elim
theorem flat_len {α : Type} {k : Nat} : ∀ {css : List (List α)}, (∀ c ∈ css, c.length = k) -> css.flatten.length = css.length * k
  | [], _ => by simp
  | c :: css, h => by
    rw [List.flatten_cons, List.length_append, flat_len fun c hc => h c (.tail _ hc), h c (.head _), List.length_cons, Nat.succ_mul, Nat.add_comm]
theorem cons_at {α : Type} {l : List α} {i : Nat} {x : α} (h : l[i]? = some x) : l = l.take i ++ x :: l.drop (i + 1) := by
  obtain ⟨h1, h2⟩ := List.getElem?_eq_some_iff.1 h
  conv => lhs; rw [<- List.take_append_drop i l]
  rw [List.drop_eq_getElem_cons h1, h2]
theorem set_split {α : Type} {l : List α} {i : Nat} {x y : α} (h : l[i]? = some x) : l.set i y = l.take i ++ y :: l.drop (i + 1) := by
  obtain ⟨h1, h2⟩ := List.getElem?_eq_some_iff.1 h
  rw [List.set_eq_take_append_cons_drop, if_pos h1]
theorem AllO.lens {w : World} {B k : Nat} : ∀ {css : List (List Value)} {l : List (List D0)} {fs : List (List Nat)}, AllO w B k css l fs -> (∀ c ∈ css, c.length = k) /\ css.length = l.length /\ fs.length = l.length
  | [], [], [], _ => ⟨fun _ h => by simp at h, rfl, rfl⟩
  | cs :: css, y :: l, f :: fs, h => by
    obtain ⟨h1, h2, h3⟩ := AllO.lens h.2.2
    refine ⟨fun c hc => ?_, by simp [h2], by simp [h3]⟩
    rcases List.mem_cons.1 hc with h4 | h4
    · rw [h4]; exact h.1
    · exact h1 c h4
  | [], [], _ :: _, h => h.elim
  | [], _ :: _, _, h => h.elim
  | _ :: _, [], _, h => h.elim
  | _ :: _, _ :: _, [], h => h.elim
theorem OwnRows.focus {w : World} {B : Nat} {e : TypeId} {k : Nat} {p : Option Addr} {n c : Nat} {l : List (List D0)} {f : List Nat} (h : OwnRows w B e k p n c l f) {i : Nat} {x : List D0} (hx : l[i]? = some x) :
    ∃ b xs cs zs fi, p = some ⟨b, 0, none⟩ /\ B <= b /\ xs.length = i * k /\ cs.length = k /\ Blk w b e (xs ++ cs ++ zs) /\ Owns w B cs x fi /\ fi.Nodup /\ b ∉ fi /\ b ∈ f /\ (∀ y ∈ fi, y ∈ f) /\
      ∀ w' cs' x', Chg (b :: fi) w w' -> cs'.length = k -> Blk w' b e (xs ++ cs' ++ zs) -> Owns w' B cs' x' fi -> OwnRows w' B e k p n c (l.set i x') f := by
  obtain ⟨hl, css, fs, ha, ho, hf, hnd⟩ := h
  have hi : i < l.length := (List.getElem?_eq_some_iff.1 hx).1
  obtain ⟨cs, fi, hcs, hfi, hk, how⟩ := ha.focus i x hx
  obtain ⟨hlen, hcl, hfl⟩ := ha.lens
  obtain ⟨b, ys, rfl, hb, hblk, hyl, hnc, hc, hy⟩ := ho.blk (by omega)
  have hsp := congrArg List.flatten (cons_at hcs)
  rw [List.flatten_append, List.flatten_cons] at hsp
  have hA : (css.take i).flatten.length = i * k := by
    rw [flat_len fun c hc => hlen c (List.mem_of_mem_take hc), List.length_take, Nat.min_eq_left (by omega)]
  have hys : ys = (css.take i).flatten ++ cs ++ ((css.drop (i + 1)).flatten ++ ys.drop (n * k)) := by
    conv => lhs; rw [<- List.take_append_drop (n * k) ys, hy, hsp]
    simp
  have hnd' := hnd
  rw [hf] at hnd'
  simp only [Option.map_some, Option.toList_some, List.singleton_append, List.nodup_cons] at hnd'
  obtain ⟨hbn, hfn⟩ := hnd'
  obtain ⟨hf1, hf2⟩ := List.pairwise_flatten.1 hfn
  have hmem : ∀ y ∈ fi, y ∈ fs.flatten := fun y hy => List.mem_flatten.2 ⟨fi, List.mem_of_getElem? hfi, hy⟩
  rw [hys] at hblk
  refine ⟨b, _, cs, _, fi, rfl, hb, hA, hk, hblk, how, hf1 _ (List.mem_of_getElem? hfi), fun hm => hbn (hmem _ hm), by rw [hf]; simp, fun y hy => by rw [hf]; simp only [List.mem_append]; exact .inr (hmem y hy), ?_⟩
  intro w' cs' x' hch hk' hblk' how'
  refine ⟨by simpa using hl, css.set i cs', fs, ha.set hch hk' i fi hfi how' ?_, ?_, hf, hnd⟩
  · intro j g hj hg y hy hm
    have hyf : y ∈ fs.flatten := List.mem_flatten.2 ⟨g, List.mem_of_getElem? hg, hy⟩
    rcases List.mem_cons.1 hm with rfl | hm
    · exact hbn hyf
    · obtain ⟨j1, e1⟩ := List.getElem?_eq_some_iff.1 hg
      obtain ⟨i1, e2⟩ := List.getElem?_eq_some_iff.1 hfi
      rw [List.pairwise_iff_getElem] at hf2
      rcases Nat.lt_or_ge j i with hlt | hge
      · have := hf2 j i j1 i1 hlt
        rw [e1, e2] at this
        exact this y hy y hm rfl
      · have := hf2 i j i1 j1 (by omega)
        rw [e1, e2] at this
        exact this y hm y hy rfl
  · have hlen2 : ((css.take i).flatten ++ cs' ++ ((css.drop (i + 1)).flatten ++ ys.drop (n * k))).length = c * k := by
      have := congrArg List.length hys
      simp only [List.length_append] at this ⊢
      omega
    have := Own.of_blk' (n := n) hblk' hb hlen2 hnc hc
    have e : ((css.take i).flatten ++ cs' ++ ((css.drop (i + 1)).flatten ++ ys.drop (n * k))).take (n * k) = (css.set i cs').flatten := by
      rw [set_split hcs, List.flatten_append, List.flatten_cons, <- List.append_assoc, <- List.append_assoc, List.take_left']
      have h1 := congrArg List.length hsp
      have h2 := flat_len hlen
      simp only [List.length_append] at h1 ⊢
      rw [hcl, hl] at h2
      omega
    rwa [e] at this
end Go.Proofs.YtbgokfhcgcoipaaGreatDoor.Sx
namespace Go.Proofs.YtbgokfhcgcoipaaGreatDoor.Sx
open Go Go.RowKit
theorem Own.push1 {P : Program} {w : World} {B : Nat} {t e : TypeId} {z : Value} {size bytes : Nat} {p : Option Addr} {n c r : Nat} {xs news : List Value} (h : Own w B e size p n c xs)
    (hT : sliceT P t e z size bytes) (hb : B <= w.heap.size) (hr : Blk w r e news) (hl : news.length = size) (h1 : ∀ u ∈ news, u.oneCell' = true)
    (hbytes : (n + 1) * bytes <= 140737488355328) (hby : 1 <= bytes) :
    ∃ p' c' w', Appends P [t, t] [.slice p n c, .slice (some ⟨r, 0, none⟩) 1 1] (.slice p' (n + 1) c') w w' /\ Own w' B e size p' (n + 1) c' (xs ++ news) /\ Chg (p.map (·.block)).toList w w' /\
      (p'.map (·.block) = p.map (·.block) ∨ ∀ q, p'.map (·.block) = some q -> w.heap.size <= q) := by
  obtain ⟨hu, hi, hz, hs⟩ := hT
  cases hinf : P.info? e with
  | none => rw [hinf] at hi; cases hi
  | some i =>
    rw [hinf] at hi
    simp only [Option.map_some, Option.some.injEq, Prod.mk.injEq] at hi
    have hnm : n + 1 <= maxLen := by
      have : n + 1 <= (n + 1) * bytes := Nat.le_mul_of_pos_right _ hby
      simp only [maxLen]; omega
    have hcells : ∀ j u, news[j]? = some u -> w.cell? ((⟨r, 0, none⟩ : Addr).add j) = some u := fun j u hj => by rw [addr_add, Nat.zero_add, hr.cell, hj]
    obtain ⟨v', w', hrun, hown, hgr, _⟩ := run_append_own (P := P) w B t 0 e i z size bytes hu hinf hi.1 hi.2.1 hi.2.2 hz hs (.slice p n c) n xs h ⟨r, 0, none⟩ 1 1 news (by rw [hl, Nat.one_mul]) hcells h1 hnm hbytes hb
    have hv : ∃ p' c', v' = .slice p' (n + 1) c' := by
      rcases hown.2 with ⟨e1, e2⟩ | ⟨g, cap, cur, e1, _⟩
      · omega
      · exact ⟨_, _, e1⟩
    obtain ⟨p', c', rfl⟩ := hv
    have hob : (Value.slice p n c).ownBlock = p.map (·.block) := by cases p <;> rfl
    refine ⟨p', c', w', hrun, hown, ⟨hgr.os, hgr.tape, hgr.output, hgr.size, fun k hk hn => hgr.block k hk ?_⟩, ?_⟩
    · rw [hob]; intro e; rw [<- e] at hn; simp at hn
    have hrun : (Builtin.append_ #[t, t] 0 #[.slice p n c, .slice (some ⟨r, 0, none⟩) 1 1]).run P w = .ok (.slice p' (n + 1) c') w' := hrun
    rcases h.2 with ⟨e1, e2⟩ | ⟨g, cap, cur, e1, hB, hg, h3, h4, h5, h6⟩
    · simp only [Value.slice.injEq] at e1
      obtain ⟨rfl, rfl, rfl⟩ := e1
      have h0 := run_append_nil (P := P) w t 0 e i z hu hinf hi.1 ⟨r, 0, none⟩ 1 1 news (by rw [hl, hi.2.1, Nat.one_mul]) hcells (by omega) (by omega) (by rw [hi.2.2]; omega)
      rw [h0] at hrun
      injection hrun with hv _
      simp only [Value.slice.injEq] at hv
      exact .inr fun q hq => by rw [<- hv.1] at hq; simp at hq; omega
    · simp only [Value.slice.injEq] at e1
      obtain ⟨rfl, _, rfl⟩ := e1
      by_cases hroom : n + 1 <= c
      · have hsz : n * i.size + news.length <= cur.size := by
          have : (n + 1) * size <= c * size := Nat.mul_le_mul_right _ hroom
          rw [hi.2.1, hl, h5, Nat.succ_mul] at *
          omega
        have h0 := run_append_room (P := P) w t 0 e i hu hinf g n c cur hg ⟨r, 0, none⟩ 1 1 news (by rw [hl, hi.2.1, Nat.one_mul]) hcells h1 hroom hsz
        rw [h0] at hrun
        injection hrun with hv _
        simp only [Value.slice.injEq] at hv
        exact .inl (by rw [<- hv.1])
      · have holds : ∀ j v, xs[j]? = some v -> w.cell? ((⟨g, 0, none⟩ : Addr).add j) = some v := World.ownsRow.cells h rfl
        have hfit : Builtin.nextslicecap (n + 1) c * i.bytes <= 281474976710656 := by
          rw [hi.2.2]; exact growslice_fits (by omega) hbytes
        have h0 := run_append_grow (P := P) w t 0 e i z hu hinf hi.1 ⟨g, 0, none⟩ n c xs (by rw [h.len, hi.2.1]) holds ⟨r, 0, none⟩ 1 1 news (by rw [hl, hi.2.1, Nat.one_mul]) hcells (by omega) (by simp only [maxLen] at hnm; omega) hfit
        rw [h0] at hrun
        injection hrun with hv _
        simp only [Value.slice.injEq] at hv
        exact .inr fun q hq => by rw [<- hv.1] at hq; simp at hq; omega
theorem OwnRows.fresh {w w' : World} {B : Nat} {e : TypeId} {k r : Nat} (hn : New w (.cells ⟨[]⟩ e (0, 0)) r w') (hb : B <= w.heap.size) : OwnRows w' B e k (some ⟨r, 0, none⟩) 0 0 [] [r] :=
  ⟨rfl, [], [], trivial, Own.of_blk0 hn.blk (by have := hn.r_eq; omega) (by simp) (by decide), by simp, by simp⟩
theorem OwnRows.push {P : Program} {w : World} {B : Nat} {t e : TypeId} {z : Value} {k bytes : Nat} {p : Option Addr} {n c r : Nat} {l : List (List D0)} {f fx : List Nat} {cs : List Value} {x : List D0} (h : OwnRows w B e k p n c l f)
    (hT : sliceT P t e z k bytes) (hb : B <= w.heap.size) (hr : Blk w r e cs) (hl : cs.length = k) (ho : Owns w B cs x fx) (hfx : fx.Nodup) (hdis : ∀ q ∈ fx, q ∉ f)
    (hbytes : (n + 1) * bytes <= 140737488355328) (hby : 1 <= bytes) :
    ∃ p' c' w' f', Appends P [t, t] [.slice p n c, .slice (some ⟨r, 0, none⟩) 1 1] (.slice p' (n + 1) c') w w' /\ OwnRows w' B e k p' (n + 1) c' (l ++ [x]) f' /\ Chg (p.map (·.block)).toList w w' /\
      (∀ w0, Ext w0 w -> w0.heap.size <= B -> Ext w0 w') := by
  obtain ⟨hln, css, fs, ha, hown, rfl, hnd⟩ := h
  obtain ⟨p', c', w', hrun, hown', hch, hp⟩ := hown.push1 hT hb hr hl ho.reps.cells1 hbytes hby
  have hpl : ∀ q ∈ (p.map (·.block)).toList, B <= q := fun q hq => (World.ownsRow.lt hown q (by cases p <;> simp_all [Value.ownBlock])).1
  have hnd1 := (List.nodup_append.1 hnd)
  have hpin : ∀ q ∈ fs.flatten, q ∉ (p.map (·.block)).toList := fun q hq hm => hnd1.2.2 q hm q hq rfl
  have hpx : ∀ q ∈ fx, q ∉ (p.map (·.block)).toList := fun q hq hm => hdis q hq (List.mem_append_left _ hm)
  have hlt : ∀ q ∈ fs.flatten ++ fx, q < w.heap.size := fun q hq => by
    rcases List.mem_append.1 hq with hq | hq
    · exact (ha.lt q hq).2
    · exact (ho.lt q hq).2
  refine ⟨p', c', w', (p'.map (·.block)).toList ++ (fs ++ [fx]).flatten, hrun, ⟨by simp [hln], css ++ [cs], fs ++ [fx], (ha.chg hch hpin).snoc hl (ho.chg hch hpx), by simpa using hown', rfl, ?_⟩, hch, fun w0 hx hb0 => hx.chg hch fun q hq => Nat.le_trans hb0 (hpl q hq)⟩
  have e : (fs ++ [fx]).flatten = fs.flatten ++ fx := by simp
  rw [e, List.nodup_append]
  refine ⟨by cases p' <;> simp, ?_, ?_⟩
  · rw [List.nodup_append]
    exact ⟨hnd1.2.1, hfx, fun a ha b hb e => hdis b hb (by rw [<- e]; exact List.mem_append_right _ ha)⟩
  · intro a ha b hb hab
    subst hab
    have hpa := opt_mem ha
    rcases hp with hp | hp
    · rw [hp] at hpa
      have ham : a ∈ (p.map (·.block)).toList := mem_opt hpa
      rcases List.mem_append.1 hb with hb | hb
      · exact hpin a hb ham
      · exact hpx a hb ham
    · have := hp a hpa
      have := hlt a hb
      omega
end Go.Proofs.YtbgokfhcgcoipaaGreatDoor.Sx
namespace Go.Proofs.YtbgokfhcgcoipaaGreatDoor
open Go Go.Proofs.YtbgokfhcgcoipaaGreatDoor.Sx
theorem OwnRows_pushG {P : Program} {w : World} {B : Nat} {t e : TypeId} {z : Value} {k bytes : Nat} {p : Option Addr} {n c r : Nat} {l : List (List D0)} {f fx : List Nat} {cs : List Value} {x : List D0} (h : OwnRows w B e k p n c l f)
    (hT : sliceT P t e z k bytes) (hb : B <= w.heap.size) (hr : Blk w r e cs) (hl : cs.length = k) (ho : Owns w B cs x fx) (hfx : fx.Nodup) (hdis : ∀ q ∈ fx, q ∉ f)
    (hbytes : (n + 1) * bytes <= 140737488355328) (hby : 1 <= bytes) :
    ∃ p' c' w' f', Appends P [t, t] [.slice p n c, .slice (some ⟨r, 0, none⟩) 1 1] (.slice p' (n + 1) c') w w' /\ OwnRows w' B e k p' (n + 1) c' (l ++ [x]) f' /\ Chg (p.map (·.block)).toList w w' /\
      (∀ q ∈ f', q ∈ f ∨ q ∈ fx ∨ w.heap.size <= q) /\ (p'.map (·.block) = p.map (·.block) ∨ ∀ q, p'.map (·.block) = some q -> w.heap.size <= q) := by
  obtain ⟨hln, css, fs, ha, hown, rfl, hnd⟩ := h
  obtain ⟨p', c', w', hrun, hown', hch, hp⟩ := hown.push1 hT hb hr hl ho.reps.cells1 hbytes hby
  have hpl : ∀ q ∈ (p.map (·.block)).toList, B <= q := fun q hq => (World.ownsRow.lt hown q (by cases p <;> simp_all [Value.ownBlock])).1
  have hnd1 := (List.nodup_append.1 hnd)
  have hpin : ∀ q ∈ fs.flatten, q ∉ (p.map (·.block)).toList := fun q hq hm => hnd1.2.2 q hm q hq rfl
  have hpx : ∀ q ∈ fx, q ∉ (p.map (·.block)).toList := fun q hq hm => hdis q hq (List.mem_append_left _ hm)
  have hlt : ∀ q ∈ fs.flatten ++ fx, q < w.heap.size := fun q hq => by
    rcases List.mem_append.1 hq with hq | hq
    · exact (ha.lt q hq).2
    · exact (ho.lt q hq).2
  have e : (fs ++ [fx]).flatten = fs.flatten ++ fx := by simp
  refine ⟨p', c', w', (p'.map (·.block)).toList ++ (fs ++ [fx]).flatten, hrun, ⟨by simp [hln], css ++ [cs], fs ++ [fx], (ha.chg hch hpin).snoc hl (ho.chg hch hpx), by simpa using hown', rfl, ?_⟩, hch, fun q hq => ?_, hp⟩
  rotate_left
  · rw [e] at hq
    rcases List.mem_append.1 hq with hq | hq
    · have hpa := opt_mem hq
      rcases hp with hp | hp
      · rw [hp] at hpa
        exact .inl (List.mem_append_left _ (mem_opt hpa))
      · exact .inr (.inr (hp q hpa))
    · rcases List.mem_append.1 hq with hq | hq
      · exact .inl (List.mem_append_right _ hq)
      · exact .inr (.inl hq)
  rw [e, List.nodup_append]
  refine ⟨by cases p' <;> simp, ?_, ?_⟩
  · rw [List.nodup_append]
    exact ⟨hnd1.2.1, hfx, fun a ha b hb e => hdis b hb (by rw [<- e]; exact List.mem_append_right _ ha)⟩
  · intro a ha b hb hab
    subst hab
    have hpa := opt_mem ha
    rcases hp with hp | hp
    · rw [hp] at hpa
      have ham : a ∈ (p.map (·.block)).toList := mem_opt hpa
      rcases List.mem_append.1 hb with hb | hb
      · exact hpin a hb ham
      · exact hpx a hb ham
    · have := hp a hpa
      have := hlt a hb
      omega
theorem OwnRows_pushF {P : Program} {w : World} {B : Nat} {t e : TypeId} {z : Value} {k bytes : Nat} {p : Option Addr} {n c r : Nat} {l : List (List D0)} {f fx : List Nat} {cs : List Value} {x : List D0} (h : OwnRows w B e k p n c l f)
    (hT : sliceT P t e z k bytes) (hb : B <= w.heap.size) (hr : Blk w r e cs) (hl : cs.length = k) (ho : Owns w B cs x fx) (hfx : fx.Nodup) (hdis : ∀ q ∈ fx, q ∉ f)
    (hbytes : (n + 1) * bytes <= 140737488355328) (hby : 1 <= bytes) :
    ∃ p' c' w' f', Appends P [t, t] [.slice p n c, .slice (some ⟨r, 0, none⟩) 1 1] (.slice p' (n + 1) c') w w' /\ OwnRows w' B e k p' (n + 1) c' (l ++ [x]) f' /\ Chg (p.map (·.block)).toList w w' /\
      (∀ q ∈ f', q ∈ f ∨ q ∈ fx ∨ w.heap.size <= q) := by
  obtain ⟨p', c', w', f', h1, h2, h3, h4, _⟩ := OwnRows_pushG h hT hb hr hl ho hfx hdis hbytes hby
  exact ⟨p', c', w', f', h1, h2, h3, h4⟩
end Go.Proofs.YtbgokfhcgcoipaaGreatDoor
namespace Go.Proofs.YtbgokfhcgcoipaaGreatDoor
open Go Go.Proofs.YtbgokfhcgcoipaaGreatDoor.Sx
def val : List Int -> Int
  | [] => 0
  | x :: r => x + 1000000000 * val r
def Limbs (l : List Int) : Prop := ∀ x ∈ l, 0 <= x /\ x < 1000000000
def Canon (l : List Int) : Prop := Limbs l /\ l.getLast? ≠ some 0
def digs (n : Nat) : List Int := if h : n = 0 then [] else ((n % 1000000000 : Nat) : Int) :: digs (n / 1000000000)
termination_by n
decreasing_by omega
theorem natOk_spec {l : List Int} : natOk l = true ↔ Canon l /\ l.length <= 50 := by
  unfold natOk Canon Limbs
  simp only [Bool.and_eq_true, List.all_eq_true, isLimb, decide_eq_true_eq, Bool.not_eq_true', decide_eq_false_iff_not]
  constructor
  · rintro ⟨⟨h1, h2⟩, h3⟩
    exact ⟨⟨fun x hx => by have := h1 x hx; omega, h3⟩, h2⟩
  · rintro ⟨⟨h1, h3⟩, h2⟩
    exact ⟨⟨fun x hx => by have := h1 x hx; omega, h2⟩, h3⟩
theorem Limbs.nil : Limbs [] := fun x hx => by simp at hx
theorem Limbs.cons {x : Int} {r : List Int} : Limbs (x :: r) ↔ (0 <= x /\ x < 1000000000) /\ Limbs r := by simp [Limbs]
theorem Limbs.append {a b : List Int} : Limbs (a ++ b) ↔ Limbs a /\ Limbs b := by
  simp only [Limbs, List.mem_append]
  exact ⟨fun h => ⟨fun x hx => h x (.inl hx), fun x hx => h x (.inr hx)⟩, fun h x hx => hx.elim (h.1 x) (h.2 x)⟩
theorem Limbs.take {a : List Int} (h : Limbs a) (k : Nat) : Limbs (a.take k) := fun x hx => h x (List.mem_of_mem_take hx)
theorem Limbs.getD {a : List Int} (h : Limbs a) (k : Nat) : 0 <= a.getD k 0 /\ a.getD k 0 < 1000000000 := by
  by_cases hk : k < a.length
  · rw [List.getD_eq_getElem?_getD, List.getElem?_eq_getElem hk]
    exact h _ (List.getElem_mem hk)
  · rw [getD_beyond (by omega)]; omega
theorem val_nonneg : ∀ {l : List Int}, Limbs l -> 0 <= val l
  | [], _ => Int.le_refl _
  | x :: r, h => by
    have h := Limbs.cons.1 h
    have := val_nonneg h.2
    simp only [val]; omega
theorem val_append : ∀ (a b : List Int), val (a ++ b) = val a + 1000000000 ^ a.length * val b
  | [], b => by simp [val]
  | x :: r, b => by
    simp only [List.cons_append, val, val_append r b, List.length_cons, Int.pow_succ]
    rw [Int.mul_add, <- Int.add_assoc, <- Int.mul_assoc, Int.mul_comm 1000000000 (1000000000 ^ r.length)]
theorem val_lt : ∀ {l : List Int}, Limbs l -> val l < 1000000000 ^ l.length
  | [], _ => by simp [val]
  | x :: r, h => by
    have h := Limbs.cons.1 h
    have := val_lt h.2
    simp only [val, List.length_cons, Int.pow_succ]
    omega
theorem val_take_succ (l : List Int) (k : Nat) : val (l.take (k + 1)) = val (l.take k) + 1000000000 ^ k * l.getD k 0 := by
  by_cases hk : k < l.length
  · rw [List.take_add_one, List.getElem?_eq_getElem hk, Option.toList_some, val_append, List.getD_eq_getElem?_getD, List.getElem?_eq_getElem hk]
    have : (l.take k).length = k := by simp; omega
    rw [this]; simp [val]
  · rw [List.take_of_length_le (by omega), List.take_of_length_le (by omega), getD_beyond (by omega)]; simp
theorem val_snoc (a : List Int) (x : Int) : val (a ++ [x]) = val a + 1000000000 ^ a.length * x := by
  rw [val_append]; simp [val]
theorem digs_zero : digs 0 = [] := by rw [digs]; simp
theorem digs_pos {n : Nat} (h : n ≠ 0) : digs n = ((n % 1000000000 : Nat) : Int) :: digs (n / 1000000000) := by rw [digs]; simp [h]
theorem digs_limbs : ∀ (n : Nat), Limbs (digs n) := by
  intro n
  induction n using Nat.strongRecOn with
  | ind n ih =>
    by_cases h : n = 0
    · subst h; rw [digs_zero]; exact Limbs.nil
    · rw [digs_pos h, Limbs.cons]
      exact ⟨by omega, ih _ (by omega)⟩
theorem val_digs : ∀ (n : Nat), val (digs n) = n := by
  intro n
  induction n using Nat.strongRecOn with
  | ind n ih =>
    by_cases h : n = 0
    · subst h; rw [digs_zero]; rfl
    · rw [digs_pos h, val, ih _ (by omega)]
      omega
theorem digs_last : ∀ (n : Nat), (digs n).getLast? ≠ some 0 := by
  intro n
  induction n using Nat.strongRecOn with
  | ind n ih =>
    by_cases h : n = 0
    · subst h; rw [digs_zero]; simp
    · rw [digs_pos h]
      by_cases h2 : n / 1000000000 = 0
      · rw [h2, digs_zero]
        simp; omega
      · have := ih (n / 1000000000) (by omega)
        rw [digs_pos h2, List.getLast?_cons_cons, <- digs_pos h2]
        exact this
theorem digs_canon (n : Nat) : Canon (digs n) := ⟨digs_limbs n, digs_last n⟩
theorem digs_nil {n : Nat} : digs n = [] ↔ n = 0 := by
  constructor
  · intro h
    by_cases h0 : n = 0
    · exact h0
    · rw [digs_pos h0] at h; cases h
  · rintro rfl; exact digs_zero
theorem Canon.cons {x : Int} {r : List Int} (h : Canon (x :: r)) : (0 <= x /\ x < 1000000000) /\ Canon r /\ (r = [] -> x ≠ 0) := by
  obtain ⟨h1, h2⟩ := h
  have h1 := Limbs.cons.1 h1
  refine ⟨h1.1, ⟨h1.2, ?_⟩, fun e => ?_⟩
  · intro e
    rw [List.getLast?_cons, e] at h2
    simp at h2
  · subst e; simpa using h2
theorem canon_pos : ∀ {l : List Int}, Canon l -> l ≠ [] -> 0 < val l
  | [], _, h => absurd rfl h
  | x :: r, h, _ => by
    obtain ⟨h1, h2, h3⟩ := h.cons
    simp only [val]
    have := val_nonneg h2.1
    by_cases hr : r = []
    · have := h3 hr; subst hr; simp [val]; omega
    · have := canon_pos h2 hr; omega
theorem digs_val : ∀ {l : List Int}, Canon l -> digs (val l).toNat = l
  | [], _ => by simp [val, digs_zero]
  | x :: r, h => by
    obtain ⟨h1, h2, h3⟩ := h.cons
    have hp := canon_pos h (by simp)
    have hv := val_nonneg h2.1
    have e := digs_val h2
    rw [digs_pos (by omega)]
    simp only [val] at hp ⊢
    have e1 : (x + 1000000000 * val r).toNat % 1000000000 = x.toNat := by omega
    have e2 : (x + 1000000000 * val r).toNat / 1000000000 = (val r).toNat := by omega
    rw [e1, e2, e]
    congr 1; omega
def trimL (l : List Int) : List Int := (l.reverse.dropWhile (fun x => decide (x = 0))).reverse
theorem trimL_snoc (l : List Int) (x : Int) : trimL (l ++ [x]) = if x = 0 then trimL l else l ++ [x] := by
  unfold trimL
  by_cases h : x = 0 <;> simp [h]
theorem trimL_take {l : List Int} {k : Nat} (hk : k < l.length) : trimL (l.take (k + 1)) = if l.getD k 0 = 0 then trimL (l.take k) else l.take (k + 1) := by
  have e : l.take (k + 1) = l.take k ++ [l.getD k 0] := by
    rw [List.take_add_one, List.getD_eq_getElem?_getD, List.getElem?_eq_getElem hk]; rfl
  rw [e, trimL_snoc]
theorem trimL_digs : ∀ (n : Nat) {l : List Int}, l.length = n -> Limbs l -> trimL l = digs (val l).toNat
  | 0, l, hn, h => by
    have : l = [] := List.eq_nil_of_length_eq_zero hn
    subst this; simp [val, digs_zero, trimL]
  | n + 1, l, hn, h => by
    have e : l = l.take n ++ [l.getD n 0] := by
      have : l.take (n + 1) = l := List.take_of_length_le (by omega)
      conv => lhs; rw [<- this]
      rw [List.take_add_one, List.getD_eq_getElem?_getD, List.getElem?_eq_getElem (by omega)]; rfl
    rw [e, trimL_snoc]
    have ht := h.take n
    by_cases hx : l.getD n 0 = 0
    · rw [if_pos hx, trimL_digs n (by simp; omega) ht, val_snoc, hx]
      simp
    · rw [if_neg hx, <- e]
      refine (digs_val ⟨h, ?_⟩).symm
      rw [e]; simpa using hx
theorem trimL_eq {l : List Int} (h : Limbs l) : trimL l = digs (val l).toNat := trimL_digs _ rfl h
theorem trimL_len (l : List Int) : (trimL l).length <= l.length := by
  unfold trimL
  rw [List.length_reverse]
  calc (l.reverse.dropWhile _).length <= l.reverse.length := (List.dropWhile_sublist _).length_le
    _ = l.length := by simp
theorem trimL_prefix (l : List Int) : trimL l = l.take (trimL l).length := by
  unfold trimL
  obtain ⟨t, ht⟩ := List.dropWhile_suffix (fun x : Int => decide (x = 0)) (l := l.reverse)
  generalize l.reverse.dropWhile (fun x => decide (x = 0)) = d at ht ⊢
  have : l = d.reverse ++ t.reverse := by
    have := congrArg List.reverse ht
    simpa using this.symm
  rw [this, List.take_left']
  rfl
theorem lex_val : ∀ (a b : List Int), a.length = b.length -> Limbs a -> Limbs b ->
    (lexR a.reverse b.reverse = -1 /\ val a < val b) ∨ (lexR a.reverse b.reverse = 0 /\ val a = val b) ∨ (lexR a.reverse b.reverse = 1 /\ val b < val a) := by
  have key : ∀ (n : Nat) (a b : List Int), a.length = n -> b.length = n -> Limbs a -> Limbs b ->
    (lexR a.reverse b.reverse = -1 /\ val a < val b) ∨ (lexR a.reverse b.reverse = 0 /\ val a = val b) ∨ (lexR a.reverse b.reverse = 1 /\ val b < val a) := by
    intro n
    induction n with
    | zero =>
      intro a b ha hb _ _
      rw [List.eq_nil_of_length_eq_zero ha, List.eq_nil_of_length_eq_zero hb]
      exact .inr (.inl ⟨rfl, rfl⟩)
    | succ n ih =>
      intro a b ha hb la lb
      have split : ∀ {l : List Int}, l.length = n + 1 -> l = l.take n ++ [l.getD n 0] := by
        intro l hl
        have : l.take (n + 1) = l := List.take_of_length_le (by omega)
        conv => lhs; rw [<- this]
        rw [List.take_add_one, List.getD_eq_getElem?_getD, List.getElem?_eq_getElem (by omega)]; rfl
      have ea := split ha; have eb := split hb
      have lta : (a.take n).length = n := by simp; omega
      have ltb : (b.take n).length = n := by simp; omega
      have i := ih (a.take n) (b.take n) lta ltb (la.take n) (lb.take n)
      have va := val_nonneg (la.take n); have vb := val_nonneg (lb.take n)
      have wa := val_lt (la.take n); have wb := val_lt (lb.take n)
      rw [lta] at wa; rw [ltb] at wb
      have e1 : val a = val (a.take n) + 1000000000 ^ n * a.getD n 0 := by conv => lhs; rw [ea, val_snoc, lta]
      have e2 : val b = val (b.take n) + 1000000000 ^ n * b.getD n 0 := by conv => lhs; rw [eb, val_snoc, ltb]
      have r1 : a.reverse = a.getD n 0 :: (a.take n).reverse := (congrArg List.reverse ea).trans (by simp)
      have r2 : b.reverse = b.getD n 0 :: (b.take n).reverse := (congrArg List.reverse eb).trans (by simp)
      rw [r1, r2, lexR]
      have pow : (0 : Int) < 1000000000 ^ n := Int.pow_pos (by decide)
      by_cases h1 : a.getD n 0 < b.getD n 0
      · rw [if_pos h1]
        refine .inl ⟨rfl, ?_⟩
        have : (1000000000 : Int) ^ n * (a.getD n 0 + 1) <= 1000000000 ^ n * b.getD n 0 := Int.mul_le_mul_of_nonneg_left (by omega) (by omega)
        rw [Int.mul_add, Int.mul_one] at this
        omega
      · rw [if_neg h1]
        by_cases h2 : b.getD n 0 < a.getD n 0
        · rw [if_pos h2]
          refine .inr (.inr ⟨rfl, ?_⟩)
          have : (1000000000 : Int) ^ n * (b.getD n 0 + 1) <= 1000000000 ^ n * a.getD n 0 := Int.mul_le_mul_of_nonneg_left (by omega) (by omega)
          rw [Int.mul_add, Int.mul_one] at this
          omega
        · rw [if_neg h2]
          have he : a.getD n 0 = b.getD n 0 := by omega
          rw [e1, e2, he]
          rcases i with ⟨h, h'⟩ | ⟨h, h'⟩ | ⟨h, h'⟩
          · exact .inl ⟨h, by omega⟩
          · exact .inr (.inl ⟨h, by omega⟩)
          · exact .inr (.inr ⟨h, by omega⟩)
  intro a b hl la lb
  exact key _ a b rfl hl.symm la lb
theorem canon_len {a b : List Int} (ha : Canon a) (hb : Canon b) (h : a.length < b.length) : val a < val b := by
  have h1 := val_lt ha.1
  have hb0 : b ≠ [] := by intro e; subst e; simp at h
  obtain ⟨n, hn⟩ : ∃ n, b.length = n + 1 := ⟨b.length - 1, by omega⟩
  have eb : b = b.take n ++ [b.getD n 0] := by
    have : b.take (n + 1) = b := List.take_of_length_le (by omega)
    conv => lhs; rw [<- this]
    rw [List.take_add_one, List.getD_eq_getElem?_getD, List.getElem?_eq_getElem (by omega)]; rfl
  have hlast : b.getD n 0 ≠ 0 := by
    have := hb.2
    rw [eb] at this
    simpa using this
  have hp := hb.1.getD n
  have ltb : (b.take n).length = n := by simp; omega
  have e2 : val b = val (b.take n) + 1000000000 ^ n * b.getD n 0 := by conv => lhs; rw [eb, val_snoc, ltb]
  have v0 := val_nonneg (hb.1.take n)
  have p1 : (1000000000 : Int) ^ n * 1 <= 1000000000 ^ n * b.getD n 0 := Int.mul_le_mul_of_nonneg_left (by omega) (Int.le_of_lt (Int.pow_pos (by decide)))
  have p2 : (1000000000 : Int) ^ a.length <= 1000000000 ^ n := by
    have : (1000000000 : Nat) ^ a.length <= 1000000000 ^ n := Nat.pow_le_pow_right (by decide) (by omega)
    have := Int.ofNat_le.2 this
    simpa using this
  omega
theorem cmpL_val {a b : List Int} (ha : Canon a) (hb : Canon b) : (cmpL a b = -1 /\ val a < val b) ∨ (cmpL a b = 0 /\ val a = val b) ∨ (cmpL a b = 1 /\ val b < val a) := by
  unfold cmpL
  by_cases h1 : a.length < b.length
  · rw [if_pos h1]; exact .inl ⟨rfl, canon_len ha hb h1⟩
  · rw [if_neg h1]
    by_cases h2 : b.length < a.length
    · rw [if_pos h2]; exact .inr (.inr ⟨rfl, canon_len hb ha h2⟩)
    · rw [if_neg h2]
      exact lex_val a b (by omega) ha.1 hb.1
end Go.Proofs.YtbgokfhcgcoipaaGreatDoor
namespace Go.Proofs.YtbgokfhcgcoipaaGreatDoor
open Go Go.Proofs.YtbgokfhcgcoipaaGreatDoor.Sx
theorem sliceT_int : sliceT P T_s_int T_int (.int .i64 0) 1 8 := ⟨by kernel_rfl, by kernel_rfl, rfl, by decide⟩
theorem run_append_none {P : Program} (w : World) (base : Nat) (t ty e : TypeId) (i : TypeInfo) (size : Nat) (ht : P.underlying t = some (.slice e)) (hi : P.info? e = some i)
    (v : Value) (n c : Nat) (xs : List Value) (hown : w.ownsRow base e size v n xs) :
    (Builtin.append_ #[t, t] ty #[v, .slice none 0 c]).run P w = .ok v w := by
  rcases hown.2 with ⟨rfl, rfl⟩ | ⟨g, cap, cur, rfl, _, _, hnc, _⟩
  · simp [Builtin.append_, run_underlying ht, sizeOf, typeInfo, hi, Builtin.lenOf, Builtin.firstCells]
  · simp [Builtin.append_, run_underlying ht, sizeOf, typeInfo, hi, Builtin.lenOf, Builtin.firstCells, hnc, storeCells]
theorem Sx.Own.appendI {w : World} {base : Nat} {p q : Option Addr} {n c m d : Nat} {zs ys : List Int} (h : Own w base T_int 1 p n c (zs.map (Value.int .i64))) (hb : base <= w.heap.size) (k : IntsR w q m d ys) (hn : n + m <= 100000000) :
    ∃ p' c' w', Appends P [T_s_int, T_s_int] [.slice p n c, .slice q m d] (.slice p' (n + m) c') w w' /\ Own w' base T_int 1 p' (n + m) c' ((zs ++ ys).map (Value.int .i64)) /\
      (∀ w0, Ext w0 w -> w0.heap.size <= base -> Ext w0 w') := by
  obtain ⟨hu, hi, hz, hs⟩ := sliceT_int
  cases hinf : P.info? T_int with
  | none => rw [hinf] at hi; cases hi
  | some i =>
    rw [hinf] at hi
    simp only [Option.map_some, Option.some.injEq, Prod.mk.injEq] at hi
    cases q with
    | none =>
      have hm : m = 0 := by
        rcases Nat.eq_zero_or_pos m with h0 | h0
        · exact h0
        · obtain ⟨b, off, hp, _⟩ := k.2.2.2 h0; cases hp
      subst hm
      have : ys = [] := List.eq_nil_of_length_eq_zero k.1
      subst this
      exact ⟨p, c, w, run_append_none w base T_s_int 0 T_int i 1 hu hinf _ n d _ h, by simpa using h, fun w0 h _ => h⟩
    | some a =>
      have hcells : ∀ j u, (ys.map (Value.int .i64))[j]? = some u -> w.cell? (a.add j) = some u := by
        intro j u hj
        have hl : j < m := by
          have := (List.getElem?_eq_some_iff.1 hj).1
          rw [List.length_map, k.1] at this; exact this
        obtain ⟨b, off, hp, hseg⟩ := k.2.2.2 (by omega)
        cases hp
        rw [addr_add]
        exact hseg j u hj
      have hmax : n + m <= maxLen := by simp only [maxLen]; omega
      obtain ⟨v', w', hrun, hown, hgr, _⟩ := run_append_own (P := P) w base T_s_int 0 T_int i (.int .i64 0) 1 8 hu hinf hi.1 hi.2.1 hi.2.2 hz hs (.slice p n c) n (zs.map (Value.int .i64)) h a m d (ys.map (Value.int .i64)) (by simp [k.1])
        hcells (by simp [Value.oneCell']) hmax (by omega) hb
      have hlt := World.ownsRow.lt h
      have hv : ∃ p' c', v' = .slice p' (n + m) c' := by
        rcases hown.2 with ⟨e1, e2⟩ | ⟨g, cap, cur, e1, _⟩
        · exact ⟨none, 0, by rw [e1, e2]⟩
        · exact ⟨_, _, e1⟩
      obtain ⟨p', c', rfl⟩ := hv
      have hob : (Value.slice p n c).ownBlock = p.map (·.block) := by cases p <;> rfl
      refine ⟨p', c', w', hrun, by rw [List.map_append]; exact hown, fun w0 hx hb0 => ?_⟩
      refine hx.chg (S := (p.map (·.block)).toList) ⟨hgr.os, hgr.tape, hgr.output, hgr.size, fun k hk hn => hgr.block k hk ?_⟩ ?_
      · rw [hob]; intro e; rw [<- e] at hn; simp at hn
      · intro x hx'
        have := (hlt x (by rw [hob]; cases p <;> simp_all)).1
        omega
theorem Sx.Own.push {w w1 : World} {base : Nat} {p : Option Addr} {n c r : Nat} {zs : List Int} {x : Int} (h : Own w base T_int 1 p n c (zs.map (Value.int .i64))) (hb : base <= w.heap.size) (hn : New w (.cells ⟨[.int .i64 x]⟩ T_int (0, 0)) r w1) (hlen : n <= 99999999) :
    ∃ p' c' w', Appends P [T_s_int, T_s_int] [.slice p n c, .slice (some ⟨r, 0, none⟩) 1 1] (.slice p' (n + 1) c') w1 w' /\ Own w' base T_int 1 p' (n + 1) c' ((zs ++ [x]).map (Value.int .i64)) /\
      (∀ w0, Ext w0 w -> w0.heap.size <= base -> Ext w0 w') := by
  obtain ⟨p', c', w', h1, h2, h3⟩ := Own.appendI (h.ext hn.ext) (by have := hn.ext.le; omega) (q := some ⟨r, 0, none⟩) (m := 1) (d := 1) (ys := [x]) ⟨rfl, Nat.le_refl _, by omega, fun _ => ⟨r, 0, rfl, hn.blk.seg⟩⟩ (by omega)
  exact ⟨p', c', w', h1, h2, fun w0 hx hb0 => h3 w0 (hx.trans hn.ext) hb0⟩
theorem Sx.Own.fresh {w w1 : World} {r : Nat} (hn : New w (.cells ⟨[]⟩ T_int (0, 0)) r w1) : Own w1 w.heap.size T_int 1 (some ⟨r, 0, none⟩) 0 0 (([] : List Int).map (Value.int .i64)) :=
  Own.of_blk (n := 0) hn.blk (by rw [hn.r_eq]; exact Nat.le_refl _) rfl (by simp [maxLen])
theorem Sx.Own.sub {w : World} {base : Nat} {p : Option Addr} {n c m : Nat} {zs : List Int} (h : Own w base T_int 1 p n c (zs.map (Value.int .i64))) (hm : m <= n) : Own w base T_int 1 p m c ((zs.take m).map (Value.int .i64)) := by
  have hl := h.1
  simp only [List.length_map, Nat.mul_one] at hl
  refine ⟨by simp; omega, ?_⟩
  rcases h.2 with ⟨h1, h2⟩ | ⟨g, cap, cur, h1, h2, h3, h4, h5, h6, h7⟩
  · simp only [Value.slice.injEq] at h1
    left
    exact ⟨by rw [h1.1, h1.2.2, show m = 0 by omega], by omega⟩
  · simp only [Value.slice.injEq] at h1
    right
    refine ⟨g, cap, cur, by rw [h1.1, h1.2.2], h2, h3, by omega, h5, h6, ?_⟩
    rw [List.map_take, <- h7, List.take_take]
    congr 1
    omega
theorem Sx.IntsR.sub {w : World} {p : Option Addr} {n c m : Nat} {zs : List Int} (h : IntsR w p n c zs) (hm : m <= n) : IntsR w p m c (zs.take m) :=
  ⟨by simp [h.1]; omega, by have := h.2.1; omega, h.2.2.1, fun h0 => let ⟨b, off, hp, hs⟩ := h.2.2.2 (by omega); ⟨b, off, hp, by rw [List.map_take]; exact hs.take m⟩⟩
theorem sub0 (p : Option Addr) (c : Nat) : Sx.sub p 0 c 1 = p := by
  unfold Sx.sub
  split
  · rfl
  · cases p <;> simp [Addr.add]
theorem spec_l02Trim_c {w : World} {p : Option Addr} {n c : Nat} {zs : List Int} (h : IntsR w p n c zs) : Ret P n_spec_l02Trim [.slice p n c] w fun v w' => v = .slice p (trimL zs).length c /\ w' = w /\ IntsR w p (trimL zs).length c (trimL zs) := by
  refine spec_l02Trim_ret ?_
  unfold spec_l02Trim
  have hlen := h.1; have hcap := h.2.1; have hcm := h.2.2.1
  have fin : ∀ k : Nat, k <= n -> trimL zs = zs.take k -> (trimL zs).length = k /\ IntsR w p (trimL zs).length c (trimL zs) := fun k hk e => by
    have : (trimL zs).length = k := by rw [e]; simp; omega
    exact ⟨this, by rw [this, e]; exact h.sub hk⟩
  refine ⟨fun i wr => ∃ k : Nat, i = k /\ k <= n /\ wr = w /\ trimL zs = trimL (zs.take k), fun i _ => i.toNat, ⟨n, rfl, Nat.le_refl _, rfl, by rw [List.take_of_length_le (by omega)]⟩, ?_⟩
  intro junk wr i ⟨k, hik, hk, hw, ht⟩
  subst hik; subst hw
  refine ifD (fun hpos => ?_) (fun h0 => ifF ?_)
  · obtain ⟨a, rfl, hl⟩ := ints_at h (i := (k : Int) - 1) (by omega) (by omega)
    have e : ((k : Int) - 1).toNat = k - 1 := by omega
    have ek : k = (k - 1) + 1 := by omega
    have htk := trimL_take (l := zs) (k := k - 1) (by omega)
    rw [<- ek] at htk
    refine exW ⟨by omega, by omega⟩ ⟨⟨by omega, by omega⟩, _, hl, ifD (fun hz => ?_) (fun hz => ?_)⟩
    · rw [e] at hz
      rw [if_pos hz] at htk
      exact exW ⟨by omega, by omega⟩ ⟨⟨k - 1, by omega, by omega, rfl, ht.trans htk⟩, by show ((k : Int) - 1).toNat < (k : Int).toNat; omega⟩
    · rw [e] at hz
      rw [if_neg hz] at htk
      obtain ⟨f1, f2⟩ := fin k hk (ht.trans htk)
      refine ⟨⟨by omega, by omega⟩, ?_, rfl, f2⟩
      rw [sub0, f1]; rfl
  · obtain ⟨f1, f2⟩ := fin 0 (by omega) (by rw [ht, show k = 0 by omega]; rfl)
    refine ⟨⟨by omega, by omega⟩, ?_, rfl, f2⟩
    rw [sub0, f1, show k = 0 by omega]; rfl
theorem impl_trim_c {w : World} {p : Option Addr} {n c : Nat} {zs : List Int} (h : IntsR w p n c zs) : Ret P n_impl_trim [.slice p n c] w fun v w' => v = .slice p (trimL zs).length c /\ w' = w /\ IntsR w p (trimL zs).length c (trimL zs) := by
  refine impl_trim_ret ?_
  unfold impl_trim
  have hlen := h.1; have hcap := h.2.1; have hcm := h.2.2.1
  have fin : ∀ k : Nat, k <= n -> trimL zs = zs.take k -> (trimL zs).length = k /\ IntsR w p (trimL zs).length c (trimL zs) := fun k hk e => by
    have : (trimL zs).length = k := by rw [e]; simp; omega
    exact ⟨this, by rw [this, e]; exact h.sub hk⟩
  refine ⟨fun q k d wr => q = p /\ d = c /\ k <= n /\ wr = w /\ trimL zs = trimL (zs.take k), fun _ k _ _ => k, ⟨rfl, rfl, Nat.le_refl _, rfl, by rw [List.take_of_length_le (by omega)]⟩, ?_⟩
  intro junk wr q k d ⟨hq, hd, hk, hw, ht⟩
  subst hq; subst hd; subst hw
  refine ifD (fun hpos => ?_) (fun h0 => ifF ?_)
  · obtain ⟨a, rfl, hl⟩ := ints_at h (i := (k : Int) - 1) (by omega) (by omega)
    have e : ((k : Int) - 1).toNat = k - 1 := by omega
    have ek : k = (k - 1) + 1 := by omega
    have htk := trimL_take (l := zs) (k := k - 1) (by omega)
    rw [<- ek] at htk
    refine exW ⟨by omega, by omega⟩ ⟨⟨by omega, by omega⟩, _, hl, ifD (fun hz => ?_) (fun hz => ?_)⟩
    · rw [e] at hz
      rw [if_pos hz] at htk
      refine exW ⟨by omega, by omega⟩ ⟨⟨by omega, by omega⟩, ⟨sub0 _ _, rfl, by omega, rfl, ?_⟩, by show ((k : Int) - 1).toNat - 0 < k; omega⟩
      rw [e]; exact ht.trans htk
    · rw [e] at hz
      rw [if_neg hz] at htk
      obtain ⟨f1, f2⟩ := fin k hk (ht.trans htk)
      exact ⟨by rw [f1], rfl, f2⟩
  · obtain ⟨f1, f2⟩ := fin 0 (by omega) (by rw [ht, show k = 0 by omega]; rfl)
    exact ⟨by rw [f1, show k = 0 by omega], rfl, f2⟩
def capL (l : List Int) : List Int := if l.length <= 50 then l else []
theorem spec_l02Cap_c {w : World} {p : Option Addr} {n c : Nat} {zs : List Int} (h : IntsR w p n c zs) : Ret P n_spec_l02Cap [.slice p n c] w fun v w' => ∃ p' n' c', v = .slice p' n' c' /\ w' = w /\ IntsR w p' n' c' (capL (trimL zs)) := by
  refine spec_l02Cap_ret ?_
  unfold spec_l02Cap
  refine Ret.at (spec_l02Trim_c h) ?_
  rintro v w1 ⟨hv, hw, hr⟩
  subst hv; subst hw
  refine ⟨_, _, _, rfl, ifD (fun hgt => ?_) (fun hle => ?_)⟩
  · exact ⟨none, 0, 0, rfl, rfl, by rw [capL, if_neg (by omega)]; exact IntsR.nil _ _ (by omega)⟩
  · exact ⟨_, _, _, rfl, rfl, by rw [capL, if_pos (by omega)]; exact hr⟩
theorem impl_natCopy_c {w : World} {p : Option Addr} {n c : Nat} {zs : List Int} (h : IntsR w p n c zs) (hn : n <= 100000000) : Ret P n_impl_natCopy [.slice p n c] w fun v w' => ∃ p' c', v = .slice p' n c' /\ Own w' w.heap.size T_int 1 p' n c' (zs.map (Value.int .i64)) /\ Ext w w' := by
  refine impl_natCopy_ret ?_
  unfold impl_natCopy
  intro r w1 hn1
  obtain ⟨p', c', w', h1, h2, h3⟩ := Own.appendI (Own.fresh hn1) hn1.ext.le (h.ext hn1.ext) (by omega)
  rw [Nat.zero_add] at h1 h2
  exact ⟨_, _, _, _, h1, _, _, rfl, by simpa using h2, h3 w hn1.ext (Nat.le_refl _)⟩
end Go.Proofs.YtbgokfhcgcoipaaGreatDoor
namespace Go.Proofs.YtbgokfhcgcoipaaGreatDoor
open Go Go.Proofs.YtbgokfhcgcoipaaGreatDoor.Sx
theorem tmod_limb {t : Int} (h : 0 <= t) : Int.tmod t 1000000000 = t % 1000000000 := Int.tmod_eq_emod_of_nonneg h
theorem tdiv_limb {t : Int} (h : 0 <= t) : Int.tdiv t 1000000000 = t / 1000000000 := Int.tdiv_eq_ediv_of_nonneg h
theorem add_step {a b o : List Int} {k : Nat} {carry t : Int} (hl : o.length = k) (hv : val o + 1000000000 ^ k * carry = val (a.take k) + val (b.take k)) (ht : t = carry + a.getD k 0 + b.getD k 0) :
    val (o ++ [t % 1000000000]) + 1000000000 ^ (k + 1) * (t / 1000000000) = val (a.take (k + 1)) + val (b.take (k + 1)) := by
  rw [val_snoc, hl, val_take_succ, val_take_succ, Int.pow_succ, Int.mul_assoc]
  have e : (1000000000 : Int) ^ k * (t % 1000000000) + 1000000000 ^ k * (1000000000 * (t / 1000000000)) = 1000000000 ^ k * t := by
    rw [<- Int.mul_add]; congr 1; omega
  have e2 : (1000000000 : Int) ^ k * t = 1000000000 ^ k * carry + 1000000000 ^ k * a.getD k 0 + 1000000000 ^ k * b.getD k 0 := by
    rw [ht, Int.mul_add, Int.mul_add]
  omega
theorem limb_mod (t : Int) : 0 <= t % 1000000000 /\ t % 1000000000 < 1000000000 := by omega
theorem Limbs.snoc {o : List Int} {x : Int} (h : Limbs o) (hx : 0 <= x /\ x < 1000000000) : Limbs (o ++ [x]) := Limbs.append.2 ⟨h, Limbs.cons.2 ⟨hx, Limbs.nil⟩⟩
def AddInv (w : World) (a b : List Int) (p : Option Addr) (n c : Nat) (carry i : Int) (wr : World) : Prop :=
 ∃ (k : Nat) (o : List Int), i = k /\ n = k /\ k <= a.length + b.length /\ Own wr w.heap.size T_int 1 p n c (o.map (Value.int .i64)) /\ Ext w wr /\ Limbs o /\ o.length = k /\ 0 <= carry /\ carry <= 1 /\ val o + 1000000000 ^ k * carry = val (a.take k) + val (b.take k)
theorem impl_natAdd_c {w : World} {p q : Option Addr} {n c m d : Nat} {a b : List Int} (h : IntsR w p n c a) (k : IntsR w q m d b) (ha : Limbs a) (hb : Limbs b) (hn : n <= 10000000) (hm : m <= 10000000) :
    Ret P n_impl_natAdd [.slice p n c, .slice q m d] w fun v w' => ∃ p' n' c', v = .slice p' n' c' /\ Own w' w.heap.size T_int 1 p' n' c' ((digs (val a + val b).toNat).map (Value.int .i64)) /\ Ext w w' := by
  refine impl_natAdd_ret ?_
  unfold impl_natAdd
  have hla := h.1; have hlb := k.1
  obtain ⟨M, hM⟩ : ∃ M : Nat, M = max n m := ⟨_, rfl⟩
  have e12 : (if ((m : Nat) : Int) > ((n : Nat) : Int) then ((m : Nat) : Int) else ((n : Nat) : Int)) = M := by split <;> omega
  refine ⟨_, rfl, ?_⟩
  rw [e12]
  refine exW ⟨by omega, by omega⟩ ⟨⟨by omega, by omega, by omega⟩, fun r w1 hn1 => ?_⟩
  refine ⟨AddInv w a b, fun _ _ _ _ i _ => M + 1 - i.toNat, ⟨0, [], rfl, rfl, by omega, ?_, hn1.ext, Limbs.nil, rfl, by omega, by omega, by simp [val]⟩, ?_⟩
  · exact Own.of_blk0 (n := ((M : Int) + 1).toNat) hn1.blk (by rw [hn1.r_eq]; exact Nat.le_refl _) (by simp [zeroRow]) (by simp only [maxLen]; omega)
  intro junk wr op on oc carry i ⟨j, o, hi, hon, hkl, hown, hx, hlo, hol, hc0, hc1, hv⟩
  subst hi; subst hon
  have A := ha.getD on; have B := hb.getD on
  have ab : (on : Int) < n ∨ a.getD on 0 = 0 := by
    by_cases e : on < n
    · left; omega
    · right; exact getD_beyond (by omega)
  have bb : (on : Int) < m ∨ b.getD on 0 = 0 := by
    by_cases e : on < m
    · left; omega
    · right; exact getD_beyond (by omega)
  have J1 : ∀ t, t = carry + a.getD on 0 + b.getD on 0 -> (on : Int) < M -> impl_natAdd_j1 wr (AddInv w a b) (fun _ _ _ _ i _ => M + 1 - i.toNat) op on oc carry on t wr fun v w' => ∃ p' n' c', v = .slice p' n' c' /\ Own w' w.heap.size T_int 1 p' n' c' ((digs (val a + val b).toNat).map (Value.int .i64)) /\ Ext w w' := by
    intro t ht hlt
    unfold impl_natAdd_j1
    refine ⟨by decide, _, rfl, fun r1 w2 hn2 => ?_⟩
    rw [tmod_limb (by omega)] at hn2
    obtain ⟨p', c', w3, h1, h2, h3⟩ := Own.push hown hx.le hn2 (by omega)
    refine ⟨_, _, _, _, h1, by decide, ?_⟩
    rw [tdiv_limb (by omega)]
    refine exW ⟨by omega, by omega⟩ (exW ⟨by omega, by omega⟩ ⟨⟨on + 1, o ++ [t % 1000000000], by omega, rfl, by omega, h2, h3 w hx (Nat.le_refl _), hlo.snoc (limb_mod t), by simp [hol], by omega, by omega, add_step hol hv ht⟩, ?_⟩)
    show M + 1 - ((on : Int) + 1).toNat < M + 1 - (on : Int).toNat
    omega
  have J0 : ∀ t, t = carry + a.getD on 0 -> (on : Int) < M -> impl_natAdd_j0 q m wr (AddInv w a b) (fun _ _ _ _ i _ => M + 1 - i.toNat) op on oc carry on t wr fun v w' => ∃ p' n' c', v = .slice p' n' c' /\ Own w' w.heap.size T_int 1 p' n' c' ((digs (val a + val b).toNat).map (Value.int .i64)) /\ Ext w w' := by
    intro t ht hlt
    unfold impl_natAdd_j0
    refine ifD (fun hlm => ?_) (fun hge => J1 _ (by rw [bb.resolve_left hge]; omega) hlt)
    obtain ⟨ad, rfl, hl⟩ := ints_at (k.ext hx) (i := (on : Int)) (by omega) hlm
    exact ⟨⟨by omega, by omega⟩, _, hl, exW ⟨by simp only [Int.toNat_natCast]; omega, by simp only [Int.toNat_natCast]; omega⟩ (J1 _ (by simp only [Int.toNat_natCast]; omega) hlt)⟩
  refine ⟨_, rfl, ?_⟩
  refine ifD (fun hlt => ifD (fun hln => ?_) (fun hge => J0 _ (by rw [ab.resolve_left hge]; omega) hlt)) (fun hge => ?_)
  · obtain ⟨ad, rfl, hl⟩ := ints_at (h.ext hx) (i := (on : Int)) (by omega) hln
    exact ⟨⟨by omega, by omega⟩, _, hl, exW ⟨by simp only [Int.toNat_natCast]; omega, by simp only [Int.toNat_natCast]; omega⟩ (J0 _ (by simp only [Int.toNat_natCast]) hlt)⟩
  · intro r2 w2 hn2
    have hk : on <= 20000000 := by omega
    obtain ⟨p', c', w3, h1, h2, h3⟩ := Own.push hown hx.le hn2 (by omega)
    refine ⟨_, _, _, _, h1, ?_⟩
    have hlim : Limbs (o ++ [carry]) := hlo.snoc (by omega)
    have hval : val (o ++ [carry]) = val a + val b := by
      rw [val_snoc, hol, hv, List.take_of_length_le (by omega), List.take_of_length_le (by omega)]
    refine Ret.at (impl_trim_c h2.ints) ?_
    rintro v w4 ⟨hv4, hw4, hr4⟩
    subst hv4; subst hw4
    refine ⟨_, _, _, rfl, _, _, _, rfl, ?_, h3 w hx (Nat.le_refl _)⟩
    have e := trimL_eq hlim
    rw [hval] at e
    rw [<- e]
    have hle := trimL_len (o ++ [carry])
    have := h2.sub (m := (trimL (o ++ [carry])).length) (by simp [hol] at hle ⊢; omega)
    rwa [<- trimL_prefix] at this
theorem sub_step {a b o : List Int} {k : Nat} {less t u less' : Int} (hl : o.length = k) (hv : val o - 1000000000 ^ k * less = val (a.take k) - val (b.take k)) (ht : t = a.getD k 0 - less - b.getD k 0) (hu : u = t + 1000000000 * less') :
    val (o ++ [u]) - 1000000000 ^ (k + 1) * less' = val (a.take (k + 1)) - val (b.take (k + 1)) := by
  rw [val_snoc, hl, val_take_succ, val_take_succ, Int.pow_succ, Int.mul_assoc]
  have e2 : (1000000000 : Int) ^ k * u = 1000000000 ^ k * a.getD k 0 - 1000000000 ^ k * less - 1000000000 ^ k * b.getD k 0 + 1000000000 ^ k * (1000000000 * less') := by
    rw [hu, ht, Int.mul_add, Int.mul_sub, Int.mul_sub]
  omega
theorem sub_end {a b o : List Int} {less : Int} (hlo : Limbs o) (ho : o.length = a.length) (hbl : b.length <= a.length) (hab : val b <= val a) (h0 : 0 <= less) (h1 : less <= 1)
    (hv : val o - 1000000000 ^ a.length * less = val (a.take a.length) - val (b.take a.length)) : val o = val a - val b := by
  rw [List.take_of_length_le (Nat.le_refl _), List.take_of_length_le hbl] at hv
  have h := val_lt hlo
  rw [ho] at h
  have : less = 0 ∨ less = 1 := by omega
  rcases this with e | e
  · subst e; omega
  · subst e; omega
theorem impl_natSub_c {w : World} {p q : Option Addr} {n c m d : Nat} {a b : List Int} (h : IntsR w p n c a) (k : IntsR w q m d b) (ha : Limbs a) (hb : Limbs b) (hn : n <= 10000000) (hbl : m <= n) (hab : val b <= val a) :
    Ret P n_impl_natSub [.slice p n c, .slice q m d] w fun v w' => ∃ p' n' c', v = .slice p' n' c' /\ Own w' w.heap.size T_int 1 p' n' c' ((digs (val a - val b).toNat).map (Value.int .i64)) /\ Ext w w' := by
  refine impl_natSub_ret ?_
  unfold impl_natSub
  have hla := h.1; have hlb := k.1
  refine ⟨⟨by omega, by omega, by omega⟩, fun r w1 hn1 => ?_⟩
  have hre := hn1.r_eq
  let Inv : Int -> Int -> World -> Prop := fun less i wr => ∃ (j : Nat) (o : List Int), i = j /\ j <= n /\ Blk wr r T_int (o.map (Value.int .i64) ++ List.replicate (n - j) (Value.int .i64 0)) /\ Ext w wr /\ Limbs o /\ o.length = j /\ 0 <= less /\ less <= 1 /\ val o - 1000000000 ^ j * less = val (a.take j) - val (b.take j)
  refine ⟨Inv, fun _ i _ => n - i.toNat, ⟨0, [], rfl, by omega, ?_, hn1.ext, Limbs.nil, rfl, by omega, by omega, by simp [val]⟩, ?_⟩
  · have := hn1.blk
    rw [zeroRow_int, Nat.mul_one] at this
    simpa using this
  intro junk wr less i ⟨j, o, hi, hjn, hblk, hx, hlo, hol, hc0, hc1, hv⟩
  subst hi
  have A := ha.getD j; have B := hb.getD j
  have bb : (j : Int) < m ∨ b.getD j 0 = 0 := by
    by_cases e : j < m
    · left; omega
    · right; exact getD_beyond (by omega)
  have J1 : ∀ l' u, (j : Int) < n -> u = a.getD j 0 - less - b.getD j 0 + 1000000000 * l' -> 0 <= u -> u < 1000000000 -> 0 <= l' -> l' <= 1 ->
      impl_natSub_j1 n r wr Inv (fun _ i _ => n - i.toNat) less j l' u wr fun v w' => ∃ p' n' c', v = .slice p' n' c' /\ Own w' w.heap.size T_int 1 p' n' c' ((digs (val a - val b).toNat).map (Value.int .i64)) /\ Ext w w' := by
    intro l' u hlt hu h0 h1 h2 h3
    unfold impl_natSub_j1
    have hlen : (o.map (Value.int .i64) ++ List.replicate (n - j) (Value.int .i64 0)).length = n := by simp [hol]; omega
    obtain ⟨w2, hst, hb2, hc, hs⟩ := hblk.store (P := P) (t := T_int) (k := j) (v := .int .i64 u) (by kernel_rfl) (by omega) rfl
    refine ⟨⟨by omega, by omega⟩, w2, by simpa using hst, exW ⟨by omega, by omega⟩ ⟨⟨j + 1, o ++ [u], by omega, by omega, ?_, hx.chg hc (by simp; omega), hlo.snoc ⟨h0, h1⟩, by simp [hol], h2, h3, sub_step hol hv rfl hu⟩, ?_⟩⟩
    · rw [List.set_append_right _ _ (by simp [hol]), List.length_map, hol, Nat.sub_self] at hb2
      obtain ⟨z, hz⟩ : ∃ z, n - j = z + 1 := ⟨n - j - 1, by omega⟩
      rw [hz, List.replicate_succ, List.set_cons_zero] at hb2
      rw [show n - (j + 1) = z by omega]
      simpa using hb2
    · show n - ((j : Int) + 1).toNat < n - (j : Int).toNat
      omega
  have J0 : ∀ t, (j : Int) < n -> t = a.getD j 0 - less - b.getD j 0 ->
      impl_natSub_j0 n r wr Inv (fun _ i _ => n - i.toNat) less j t wr fun v w' => ∃ p' n' c', v = .slice p' n' c' /\ Own w' w.heap.size T_int 1 p' n' c' ((digs (val a - val b).toNat).map (Value.int .i64)) /\ Ext w w' := by
    intro t hlt ht
    unfold impl_natSub_j0
    exact ifD (fun hneg => exW ⟨by omega, by omega⟩ (J1 1 _ hlt (by omega) (by omega) (by omega) (by omega) (by omega))) (fun hpos => J1 0 _ hlt (by omega) (by omega) (by omega) (by omega) (by omega))
  refine ifD (fun hlt => ?_) (fun hge => ?_)
  · obtain ⟨ad, rfl, hl⟩ := ints_at (h.ext hx) (i := (j : Int)) (by omega) hlt
    refine ⟨⟨by omega, by omega⟩, _, hl, exW ⟨by simp only [Int.toNat_natCast]; omega, by simp only [Int.toNat_natCast]; omega⟩ (ifD (fun hlm => ?_) (fun hge => J0 _ hlt (by simp only [Int.toNat_natCast]; rw [bb.resolve_left hge]; omega)))⟩
    obtain ⟨ad2, rfl, hl2⟩ := ints_at (k.ext hx) (i := (j : Int)) (by omega) hlm
    exact ⟨⟨by omega, by omega⟩, _, hl2, exW ⟨by simp only [Int.toNat_natCast]; omega, by simp only [Int.toNat_natCast]; omega⟩ (J0 _ hlt (by simp only [Int.toNat_natCast]))⟩
  · have hjn' : j = n := by omega
    subst hjn'
    rw [Nat.sub_self, List.replicate_zero, List.append_nil] at hblk
    have hown : Own wr w.heap.size T_int 1 (some ⟨r, 0, none⟩) j j (o.map (Value.int .i64)) := Own.of_blk hblk (by omega) (by simp [hol]) (by simp only [maxLen]; omega)
    rw [<- hla] at hv
    have hval := sub_end hlo (by omega) (by omega) hab hc0 hc1 hv
    refine Ret.at (impl_trim_c hown.ints) ?_
    rintro v w4 ⟨hv4, hw4, hr4⟩
    subst hv4; subst hw4
    refine ⟨_, _, _, rfl, _, _, _, rfl, ?_, hx⟩
    have e := trimL_eq hlo
    rw [hval] at e
    rw [<- e]
    have hle := trimL_len o
    have := hown.sub (m := (trimL o).length) (by omega)
    rwa [<- trimL_prefix] at this
theorem spec_l02Sub_c {w : World} {p q : Option Addr} {n c m d : Nat} {a b : List Int} (h : IntsR w p n c a) (k : IntsR w q m d b) (ha : Limbs a) (hb : Limbs b) (hn : n <= 10000000) (hbl : m <= n) (hab : val b <= val a) :
    Ret P n_spec_l02Sub [.slice p n c, .slice q m d] w fun v w' => ∃ p' n' c', v = .slice p' n' c' /\ IntsR w' p' n' c' (digs (val a - val b).toNat) /\ Ext w w' := by
  refine spec_l02Sub_ret ?_
  unfold spec_l02Sub
  have hla := h.1; have hlb := k.1
  intro r w1 hn1
  let Inv : Option Addr -> Nat -> Nat -> Int -> Int -> World -> Prop := fun p on c less i wr => ∃ (o : List Int), i = on /\ on <= n /\ Own wr w.heap.size T_int 1 p on c (o.map (Value.int .i64)) /\ Ext w wr /\ Limbs o /\ o.length = on /\ 0 <= less /\ less <= 1 /\ val o - 1000000000 ^ on * less = val (a.take on) - val (b.take on)
  refine ⟨Inv, fun _ _ _ _ i _ => n - i.toNat, ⟨[], rfl, by omega, Own.fresh hn1, hn1.ext, Limbs.nil, rfl, by omega, by omega, by simp [val]⟩, ?_⟩
  intro junk wr op j oc less i ⟨o, hi, hjn, hown, hx, hlo, hol, hc0, hc1, hv⟩
  subst hi
  have A := ha.getD j; have B := hb.getD j
  have bb : (j : Int) < m ∨ b.getD j 0 = 0 := by
    by_cases e : j < m
    · left; omega
    · right; exact getD_beyond (by omega)
  have J1 : ∀ l' u, (j : Int) < n -> u = a.getD j 0 - less - b.getD j 0 + 1000000000 * l' -> 0 <= u -> u < 1000000000 -> 0 <= l' -> l' <= 1 ->
      spec_l02Sub_j1 wr Inv (fun _ _ _ _ i _ => n - i.toNat) op j oc less j l' u wr fun v w' => ∃ p' n' c', v = .slice p' n' c' /\ IntsR w' p' n' c' (digs (val a - val b).toNat) /\ Ext w w' := by
    intro l' u hlt hu h0 h1 h2 h3
    unfold spec_l02Sub_j1
    intro r1 w2 hn2
    obtain ⟨p', c', w3, g1, g2, g3⟩ := Own.push hown hx.le hn2 (by omega)
    refine ⟨_, _, _, _, g1, exW ⟨by omega, by omega⟩ ⟨⟨o ++ [u], by omega, by omega, g2, g3 w hx (Nat.le_refl _), hlo.snoc ⟨h0, h1⟩, by simp [hol], h2, h3, sub_step hol hv rfl hu⟩, ?_⟩⟩
    show n - ((j : Int) + 1).toNat < n - (j : Int).toNat
    omega
  have J0 : ∀ t, (j : Int) < n -> t = a.getD j 0 - less - b.getD j 0 ->
      spec_l02Sub_j0 wr Inv (fun _ _ _ _ i _ => n - i.toNat) op j oc less j t wr fun v w' => ∃ p' n' c', v = .slice p' n' c' /\ IntsR w' p' n' c' (digs (val a - val b).toNat) /\ Ext w w' := by
    intro t hlt ht
    unfold spec_l02Sub_j0
    exact ifD (fun hneg => exW ⟨by omega, by omega⟩ (J1 1 _ hlt (by omega) (by omega) (by omega) (by omega) (by omega))) (fun hpos => J1 0 _ hlt (by omega) (by omega) (by omega) (by omega) (by omega))
  refine ifD (fun hlt => ?_) (fun hge => ?_)
  · obtain ⟨ad, rfl, hl⟩ := ints_at (h.ext hx) (i := (j : Int)) (by omega) hlt
    refine ⟨⟨by omega, by omega⟩, _, hl, exW ⟨by simp only [Int.toNat_natCast]; omega, by simp only [Int.toNat_natCast]; omega⟩ (ifD (fun hlm => ?_) (fun hge => J0 _ hlt (by simp only [Int.toNat_natCast]; rw [bb.resolve_left hge]; omega)))⟩
    obtain ⟨ad2, rfl, hl2⟩ := ints_at (k.ext hx) (i := (j : Int)) (by omega) hlm
    exact ⟨⟨by omega, by omega⟩, _, hl2, exW ⟨by simp only [Int.toNat_natCast]; omega, by simp only [Int.toNat_natCast]; omega⟩ (J0 _ hlt (by simp only [Int.toNat_natCast]))⟩
  · have hjn' : j = n := by omega
    subst hjn'
    rw [<- hla] at hv
    have hval := sub_end hlo (by omega) (by omega) hab hc0 hc1 hv
    refine Ret.at (spec_l02Trim_c hown.ints) ?_
    rintro v w4 ⟨hv4, hw4, hr4⟩
    subst hv4; subst hw4
    refine ⟨_, _, _, rfl, _, _, _, rfl, ?_, hx⟩
    have e := trimL_eq hlo
    rw [hval] at e
    rw [<- e]
    exact hr4
theorem spec_l02Add_c {w : World} {p q : Option Addr} {n c m d : Nat} {a b : List Int} (h : IntsR w p n c a) (k : IntsR w q m d b) (ha : Limbs a) (hb : Limbs b) (hn : n <= 10000000) (hm : m <= 10000000) :
    Ret P n_spec_l02Add [.slice p n c, .slice q m d] w fun v w' => ∃ p' n' c' o, v = .slice p' n' c' /\ IntsR w' p' n' c' o /\ Limbs o /\ n' <= n + m + 1 /\ val o = val a + val b /\ Ext w w' := by
  refine spec_l02Add_ret ?_
  unfold spec_l02Add
  have hla := h.1; have hlb := k.1
  intro r w1 hn1
  let Inv : Option Addr -> Nat -> Nat -> Int -> Int -> World -> Prop := fun p on c carry i wr => ∃ (o : List Int), i = on /\ on <= n + m + 1 /\ (0 < carry -> on <= n + m) /\ Own wr w.heap.size T_int 1 p on c (o.map (Value.int .i64)) /\ Ext w wr /\ Limbs o /\ o.length = on /\ 0 <= carry /\ carry <= 1 /\ val o + 1000000000 ^ on * carry = val (a.take on) + val (b.take on)
  refine ⟨Inv, fun _ _ _ _ i _ => n + m + 2 - i.toNat, ⟨[], rfl, by omega, by omega, Own.fresh hn1, hn1.ext, Limbs.nil, rfl, by omega, by omega, by simp [val]⟩, ?_⟩
  intro junk wr op j oc carry i ⟨o, hi, hjn, hcj, hown, hx, hlo, hol, hc0, hc1, hv⟩
  subst hi
  have A := ha.getD j; have B := hb.getD j
  have ab : (j : Int) < n ∨ a.getD j 0 = 0 := by
    by_cases e : j < n
    · left; omega
    · right; exact getD_beyond (by omega)
  have bb : (j : Int) < m ∨ b.getD j 0 = 0 := by
    by_cases e : j < m
    · left; omega
    · right; exact getD_beyond (by omega)
  have J2 : ∀ t, t = carry + a.getD j 0 + b.getD j 0 -> (j < n ∨ j < m ∨ 0 < carry) -> spec_l02Add_j2 wr Inv (fun _ _ _ _ i _ => n + m + 2 - i.toNat) op j oc carry j t wr fun v w' => ∃ p' n' c' o, v = .slice p' n' c' /\ IntsR w' p' n' c' o /\ Limbs o /\ n' <= n + m + 1 /\ val o = val a + val b /\ Ext w w' := by
    intro t ht hlt
    unfold spec_l02Add_j2
    refine ⟨by decide, _, rfl, fun r1 w2 hn2 => ?_⟩
    rw [tmod_limb (by omega)] at hn2
    obtain ⟨p', c', w3, g1, g2, g3⟩ := Own.push hown hx.le hn2 (by omega)
    refine ⟨_, _, _, _, g1, by decide, ?_⟩
    rw [tdiv_limb (by omega)]
    have hcar : 0 < t / 1000000000 -> j < n ∨ j < m := by
      intro h0
      by_cases e : j < n
      · exact .inl e
      · by_cases e2 : j < m
        · exact .inr e2
        · have e3 := ab.resolve_left (by omega); have e4 := bb.resolve_left (by omega)
          rw [e3, e4] at ht; omega
    refine exW ⟨by omega, by omega⟩ (exW ⟨by omega, by omega⟩ ⟨⟨o ++ [t % 1000000000], by omega, by rcases hlt with h | h | h <;> omega, fun h0 => by rcases hcar h0 with h | h <;> omega, g2, g3 w hx (Nat.le_refl _), hlo.snoc (limb_mod t), by simp [hol], by omega, by omega, add_step hol hv ht⟩, ?_⟩)
    show n + m + 2 - ((j : Int) + 1).toNat < n + m + 2 - (j : Int).toNat
    rcases hlt with h | h | h <;> omega
  have J1 : ∀ t, t = carry + a.getD j 0 -> (j < n ∨ j < m ∨ 0 < carry) -> spec_l02Add_j1 q m wr Inv (fun _ _ _ _ i _ => n + m + 2 - i.toNat) op j oc carry j t wr fun v w' => ∃ p' n' c' o, v = .slice p' n' c' /\ IntsR w' p' n' c' o /\ Limbs o /\ n' <= n + m + 1 /\ val o = val a + val b /\ Ext w w' := by
    intro t ht hlt
    unfold spec_l02Add_j1
    refine ifD (fun hlm => ?_) (fun hge => J2 _ (by rw [bb.resolve_left hge]; omega) hlt)
    obtain ⟨ad, rfl, hl⟩ := ints_at (k.ext hx) (i := (j : Int)) (by omega) hlm
    exact ⟨⟨by omega, by omega⟩, _, hl, exW ⟨by simp only [Int.toNat_natCast]; omega, by simp only [Int.toNat_natCast]; omega⟩ (J2 _ (by simp only [Int.toNat_natCast]; omega) hlt)⟩
  have J0 : (j < n ∨ j < m ∨ 0 < carry) -> spec_l02Add_j0 p n q m wr Inv (fun _ _ _ _ i _ => n + m + 2 - i.toNat) op j oc carry j wr fun v w' => ∃ p' n' c' o, v = .slice p' n' c' /\ IntsR w' p' n' c' o /\ Limbs o /\ n' <= n + m + 1 /\ val o = val a + val b /\ Ext w w' := by
    intro hlt
    unfold spec_l02Add_j0
    refine ifD (fun hln => ?_) (fun hge => J1 _ (by rw [ab.resolve_left hge]; omega) hlt)
    obtain ⟨ad, hp, hl⟩ := ints_at (h.ext hx) (i := (j : Int)) (by omega) hln
    subst hp
    exact ⟨⟨by omega, by omega⟩, _, hl, exW ⟨by simp only [Int.toNat_natCast]; omega, by simp only [Int.toNat_natCast]; omega⟩ (J1 _ (by simp only [Int.toNat_natCast]) hlt)⟩
  have fin : ¬ (j : Int) < n -> ¬ (j : Int) < m -> ¬ 0 < carry -> ∃ p' n' c' o, Value.slice op j oc = .slice p' n' c' /\ IntsR wr p' n' c' o /\ Limbs o /\ n' <= n + m + 1 /\ val o = val a + val b /\ Ext w wr := by
    intro h1 h2 h3
    have hc : carry = 0 := by omega
    subst hc
    rw [List.take_of_length_le (by omega), List.take_of_length_le (by omega)] at hv
    exact ⟨_, _, _, o, rfl, hown.ints, hlo, hjn, by omega, hx⟩
  exact ifD (fun h1 => ifT (ifT (J0 (.inl (by omega))))) (fun h1 => ifD (fun h2 => ifT (J0 (.inr (.inl (by omega))))) (fun h2 => ifD (fun h3 => J0 (.inr (.inr h3))) (fun h3 => fin h1 h2 h3)))
end Go.Proofs.YtbgokfhcgcoipaaGreatDoor
namespace Go.Proofs.YtbgokfhcgcoipaaGreatDoor
open Go Go.Proofs.YtbgokfhcgcoipaaGreatDoor.Sx
def mkS (neg : Bool) (m : List Int) : List D0 := [.bool (neg && !m.isEmpty), .ints m]
def enc (z : Int) : List D0 := [.bool (decide (z < 0)), .ints (digs z.natAbs)]
def ival : List D0 -> Int
  | [.bool b, .ints z] => if b then - val z else val z
  | _ => 0
def icap (z : Int) : List D0 := mkS (decide (z < 0)) (capL (digs z.natAbs))
theorem isEmpty_digs {n : Nat} : (digs n).isEmpty = decide (n = 0) := by
  cases h : (digs n) with
  | nil => simp [digs_nil.1 h]
  | cons a r =>
    have : n ≠ 0 := fun e => by rw [digs_nil.2 e] at h; cases h
    simp [this]
theorem enc_code (z : Int) : (enc z).map D0.code = [.bool, .ints] := rfl
theorem ival_enc (z : Int) : ival (enc z) = z := by
  simp only [ival, enc, val_digs]
  by_cases h : z < 0
  · simp [h]; omega
  · simp [h]; omega
theorem intOk_enc {d : List D0} (h : intOk d = true) : d = enc (ival d) /\ ∃ b z, d = [.bool b, .ints z] /\ Canon z /\ z.length <= 50 := by
  match d, h with
  | [.bool b, .ints z], h =>
    simp only [intOk, Bool.and_eq_true, natOk_spec, Bool.or_eq_true, Bool.not_eq_true'] at h
    obtain ⟨⟨hc, hl⟩, hb⟩ := h
    refine ⟨?_, b, z, rfl, hc, hl⟩
    have hv := val_nonneg hc.1
    have hd := digs_val hc
    cases b with
    | false =>
      simp only [ival, enc, Bool.false_eq_true, if_false]
      rw [show (val z).natAbs = (val z).toNat by omega, hd]
      have : ¬ val z < 0 := by omega
      simp [this]
    | true =>
      have hne : z ≠ [] := by
        rcases hb with hb | hb
        · cases hb
        · cases z with
          | nil => simp at hb
          | cons a r => simp
      have hp := canon_pos hc hne
      simp only [ival, enc, if_true]
      rw [show (-val z).natAbs = (val z).toNat by omega, hd]
      have : -val z < 0 := by omega
      simp [hp]
theorem isign_enc {z : Int} (h : intOk (enc z) = true) : isign (enc z) = if z < 0 then -1 else if z = 0 then 0 else 1 := by
  have h' := h
  unfold enc at h'
  unfold isign enc
  simp only [h', Bool.not_true, Bool.false_eq_true, if_false, isEmpty_digs]
  by_cases h1 : z < 0
  · have : z.natAbs ≠ 0 := by omega
    simp [h1]; omega
  · by_cases h2 : z = 0
    · simp [h2]
    · have : z.natAbs ≠ 0 := by omega
      simp [h1, h2]
theorem Sx.Owns.int2 {w : World} {B : Nat} {b : Bool} {p : Option Addr} {n c : Nat} {z : List Int} (h : Own w B T_int 1 p n c (z.map (Value.int .i64))) : Owns w B [.bool b, .slice p n c] [.bool b, .ints z] (p.map (·.block)).toList :=
  (Owns.bool w B b).append (Owns.ints h)
theorem nodup_opt (p : Option Addr) : ((p.map (·.block)).toList : List Nat).Nodup := by cases p <;> simp
theorem len_bool {z : List Int} {n : Nat} (h : z.length = n) : decide ((0 : Int) < (n : Nat)) = !z.isEmpty := intOk_len (b := true) h
theorem impl_signed_c {w : World} {neg : Bool} {p : Option Addr} {n c : Nat} {z : List Int} (hl : z.length = n) : Ret P n_impl_signed [.bool neg, .slice p n c] w fun v w' => v = .agg ⟨[.bool (neg && !z.isEmpty), .slice p n c]⟩ /\ Ext w w' := by
  refine impl_signed_ret ?_
  unfold impl_signed
  intro r w1 hn
  refine ⟨fun e => ?_, fun e => ?_⟩
  · obtain ⟨w2, st, hb, y⟩ := hn.fill (P := P) (t := T_impl_Signed) (xs := [.bool (decide ((0 : Int) < (n : Nat))), .slice p n c]) (by simp [Value.oneCell']) (by kernel_rfl) rfl
    exact ⟨w2, st, _, _, _, _, hb.loadA0 (by kernel_rfl), by rw [len_bool hl, e]; rfl, y⟩
  · obtain ⟨w2, st, hb, y⟩ := hn.fill (P := P) (t := T_impl_Signed) (xs := [.bool false, .slice p n c]) (by simp [Value.oneCell']) (by kernel_rfl) rfl
    exact ⟨w2, st, _, _, _, _, hb.loadA0 (by kernel_rfl), by rw [e]; rfl, y⟩
theorem impl_intAdd_c {w : World} {xs ys : List Value} {x y : Int} (h : Reps w xs (enc x)) (k : Reps w ys (enc y)) (hx : (digs x.natAbs).length <= 10000000) (hy : (digs y.natAbs).length <= 10000000) :
    Ret P n_impl_intAdd [.agg ⟨xs⟩, .agg ⟨ys⟩] w fun v w' => ∃ p n c, v = .agg ⟨[.bool (decide (x + y < 0)), .slice p n c]⟩ /\ Own w' w.heap.size T_int 1 p n c ((digs (x + y).natAbs).map (Value.int .i64)) /\ Ext w w' := by
  obtain ⟨a0, a1p, a1n, a1c, a1z, rfl, hd, ha⟩ := open_Signed h rfl
  obtain ⟨b0, b1p, b1n, b1c, b1z, rfl, he, hb⟩ := open_Signed k rfl
  simp only [enc, List.cons.injEq, D0.bool.injEq, D0.ints.injEq, and_true] at hd he
  obtain ⟨rfl, rfl⟩ := hd
  obtain ⟨rfl, rfl⟩ := he
  have la := ha.1; have lb := hb.1
  have ca := digs_canon x.natAbs; have cb := digs_canon y.natAbs
  have va := val_digs x.natAbs; have vb := val_digs y.natAbs
  refine impl_intAdd_ret ?_
  unfold impl_intAdd
  intro r w1 hn1 r1 w2 hn2 r2 w3 hn3
  have X := (hn1.ext.trans hn2.ext).trans hn3.ext
  have e1 := hn1.r_eq; have e2 := hn2.r_eq; have e3 := hn3.r_eq; have s1 := hn1.size; have s2 := hn2.size; have s3 := hn3.size
  have k0 := (hn1.blk.ext hn2.ext).ext hn3.ext; have k1 := hn2.blk.ext hn3.ext; have k2 := hn3.blk
  -- the end of every way: the sign, and what was added or subtracted
  have fin : ∀ (W : World) (neg : Bool) (p : Option Addr) (n c : Nat) (m : Nat), Own W w.heap.size T_int 1 p n c ((digs m).map (Value.int .i64)) -> Ext w W -> Blk W r2 T_impl_Signed [.bool false, .slice none 0 0] -> (∀ q, p.map (·.block) = some q -> q ≠ r2) -> m = (x + y).natAbs -> (m ≠ 0 -> neg = decide (x + y < 0)) ->
      Calls P n_impl_signed ⟨[.bool neg, .slice p n c]⟩ W fun e_1 wv_7 => ∃ (t170 : Bool) (t171_p : Option Addr) (t171_n : Nat) (t171_c : Nat), e_1 = .returned (.agg #[(.bool t170), (.slice t171_p t171_n t171_c)]) /\
        ∃ wv_8, Stores P T_impl_Signed ⟨r2, 0, none⟩ (.agg #[(.bool t170), (.slice t171_p t171_n t171_c)]) wv_7 wv_8 /\
        ∃ (r0 : Bool) (r1_p : Option Addr) (r1_n : Nat) (r1_c : Nat), Loads P T_impl_Signed ⟨r2, 0, none⟩ (.agg #[(.bool r0), (.slice r1_p r1_n r1_c)]) wv_8 /\ (fun (v : Value) (w' : World) => ∃ p n c, v = .agg ⟨[.bool (decide (x + y < 0)), .slice p n c]⟩ /\ Own w' w.heap.size T_int 1 p n c ((digs (x + y).natAbs).map (Value.int .i64)) /\ Ext w w') (.agg #[(.bool r0), (.slice r1_p r1_n r1_c)]) wv_8 := by
    intro W neg p n c m hown hX hk2 hq hm hs
    refine Ret.at (impl_signed_c hown.ints.1) ?_
    rintro v W2 ⟨hv, y2⟩
    subst hv
    obtain ⟨W3, st, hb3, ch, sz⟩ := (hk2.ext y2).storeA0 (P := P) (t := T_impl_Signed) (xs := [.bool (neg && !(digs m).isEmpty), .slice p n c]) (by kernel_rfl) rfl (by simp [Value.oneCell'])
    refine ⟨_, _, _, _, rfl, W3, st, _, _, _, _, hb3.loadA0 (by kernel_rfl), p, n, c, ?_, ?_, (hX.trans y2).chg ch (by simp; omega)⟩
    · rw [isEmpty_digs]
      by_cases h0 : m = 0
      · have : ¬ (x + y < 0) := by omega
        simp [h0, this]
      · simp [h0, hs h0]
    · rw [<- hm]
      exact (hown.ext y2).chg ch (fun q hq' => by simp only [List.mem_singleton]; exact hq q hq')
  have ne2 : ∀ {W : World} {B : Nat} {p : Option Addr} {n c : Nat} {zs : List Value}, Own W B T_int 1 p n c zs -> r2 < B -> ∀ q, p.map (·.block) = some q -> q ≠ r2 := fun ho hB q hq => by
    have := (World.ownsRow.lt ho q (by rw [<- hq]; rename_i p n c _; cases p <;> rfl)).1
    omega
  refine ⟨_, k0.load (by kernel_rfl) rfl, _, k1.load (by kernel_rfl) rfl, fun es => ?_, fun es => ?_⟩
  · have es' : decide (x < 0) = decide (y < 0) := by simpa using es
    have D := Ext.drew w3
    refine ⟨_, fun W hW => (k0.ext (D.trans hW)).load (by kernel_rfl) rfl, _, _, _, fun W hW => (k0.ext (D.trans hW)).load (by kernel_rfl) rfl, _, _, _, fun W hW => (k1.ext (D.trans hW)).load (by kernel_rfl) rfl, ?_⟩
    refine Ret.at (impl_natAdd_c (ha.ext (X.trans D)) (hb.ext (X.trans D)) ca.1 cb.1 (by omega) (by omega)) ?_
    rintro v w4 ⟨p, n, c, hv, hown, y4⟩
    subst hv
    rw [va, vb] at hown
    refine ⟨_, _, _, rfl, y4, fin w4 _ p n c _ (hown.mono ?_) ((X.trans D).trans y4) ((k2.ext D).ext y4) (ne2 hown ?_) ?_ ?_⟩
    · have := (X.trans D).le; omega
    · have := D.le; omega
    · by_cases hx0 : x < 0 <;> by_cases hy0 : y < 0 <;> simp [hx0, hy0] at es' <;> omega
    · intro h0
      by_cases hx0 : x < 0 <;> by_cases hy0 : y < 0 <;> simp [hx0, hy0] at es' ⊢ <;> omega
  · have es' : ¬ (decide (x < 0) = decide (y < 0)) := by simpa using es
    refine ⟨_, _, _, k0.load (by kernel_rfl) rfl, _, _, _, k1.load (by kernel_rfl) rfl, ?_⟩
    refine Ret.at (impl_natCmp_c (ha.ext X) (hb.ext X)) ?_
    rintro v w4 ⟨hv, y4⟩
    subst hv
    have cv := cmpL_val ca cb
    rw [va, vb] at cv
    have X4 := X.trans y4
    have k0 := k0.ext y4; have k1 := k1.ext y4; have k2 := k2.ext y4
    have s4 := y4.le
    refine ⟨_, rfl, ifD (fun hlt => ?_) (fun hge => ?_)⟩
    · have hlt' : x.natAbs < y.natAbs := by
        rcases cv with h | h | h <;> omega
      refine ⟨_, _, _, _, k1.loadA0 (by kernel_rfl), _, _, _, _, k0.loadA0 (by kernel_rfl), ?_⟩
      obtain ⟨w5, st5, k0', ch5, sz5⟩ := k0.storeA0 (P := P) (t := T_impl_Signed) (xs := [.bool (decide (y < 0)), .slice b1p b1n b1c]) (by kernel_rfl) rfl (by simp [Value.oneCell'])
      have k1 := k1.chg ch5 (by simp; omega); have k2 := k2.chg ch5 (by simp; omega); have X5 := X4.chg ch5 (by simp; omega)
      obtain ⟨w6, st6, k1', ch6, sz6⟩ := k1.storeA0 (P := P) (t := T_impl_Signed) (xs := [.bool (decide (x < 0)), .slice a1p a1n a1c]) (by kernel_rfl) rfl (by simp [Value.oneCell'])
      have k0' := k0'.chg ch6 (by simp; omega); have k2 := k2.chg ch6 (by simp; omega); have X6 := X5.chg ch6 (by simp; omega)
      refine ⟨w5, st5, w6, st6, ?_⟩
      unfold impl_intAdd_j0
      have D := Ext.drew w6
      refine ⟨_, fun W hW => (k0'.ext (D.trans hW)).load (by kernel_rfl) rfl, _, _, _, fun W hW => (k0'.ext (D.trans hW)).load (by kernel_rfl) rfl, _, _, _, fun W hW => (k1'.ext (D.trans hW)).load (by kernel_rfl) rfl, ?_⟩
      have hll : a1n <= b1n := by
        rcases Nat.lt_or_ge b1n a1n with h | h
        · have := canon_len cb ca (by omega); omega
        · exact h
      refine Ret.at (impl_natSub_c (hb.ext (X6.trans D)) (ha.ext (X6.trans D)) cb.1 ca.1 (by omega) hll (by omega)) ?_
      rintro v w7 ⟨p, n, c, hv, hown, y7⟩
      subst hv
      rw [va, vb] at hown
      refine ⟨_, _, _, rfl, y7, fin w7 _ p n c _ (hown.mono ?_) ((X6.trans D).trans y7) ((k2.ext D).ext y7) (ne2 hown ?_) ?_ ?_⟩
      · have := (X6.trans D).le; omega
      · have := D.le; omega
      · by_cases hx0 : x < 0 <;> by_cases hy0 : y < 0 <;> simp [hx0, hy0] at es' <;> omega
      · intro h0
        by_cases hx0 : x < 0 <;> by_cases hy0 : y < 0 <;> simp [hx0, hy0] at es' ⊢ <;> omega
    · have hge' : y.natAbs <= x.natAbs := by
        rcases cv with h | h | h <;> omega
      unfold impl_intAdd_j0
      have D := Ext.drew w4
      refine ⟨_, fun W hW => (k0.ext (D.trans hW)).load (by kernel_rfl) rfl, _, _, _, fun W hW => (k0.ext (D.trans hW)).load (by kernel_rfl) rfl, _, _, _, fun W hW => (k1.ext (D.trans hW)).load (by kernel_rfl) rfl, ?_⟩
      have hll : b1n <= a1n := by
        rcases Nat.lt_or_ge a1n b1n with h | h
        · have := canon_len ca cb (by omega); omega
        · exact h
      refine Ret.at (impl_natSub_c (ha.ext (X4.trans D)) (hb.ext (X4.trans D)) ca.1 cb.1 (by omega) hll (by omega)) ?_
      rintro v w7 ⟨p, n, c, hv, hown, y7⟩
      subst hv
      rw [va, vb] at hown
      refine ⟨_, _, _, rfl, y7, fin w7 _ p n c _ (hown.mono ?_) ((X4.trans D).trans y7) ((k2.ext D).ext y7) (ne2 hown ?_) ?_ ?_⟩
      · have := (X4.trans D).le; omega
      · have := D.le; omega
      · by_cases hx0 : x < 0 <;> by_cases hy0 : y < 0 <;> simp [hx0, hy0] at es' <;> omega
      · intro h0
        by_cases hx0 : x < 0 <;> by_cases hy0 : y < 0 <;> simp [hx0, hy0] at es' ⊢ <;> omega
end Go.Proofs.YtbgokfhcgcoipaaGreatDoor
namespace Go.Proofs.YtbgokfhcgcoipaaGreatDoor
open Go Go.Proofs.YtbgokfhcgcoipaaGreatDoor.Sx
theorem Sx.append0 {w : World} {r : Nat} {q : Option Addr} {m d : Nat} {ys : List Int} (hb : Blk w r T_int []) (k : IntsR w q m d ys) (hm : m <= 100000000) :
    ∃ p' c' w', Appends P [T_s_int, T_s_int] [.slice (some ⟨r, 0, none⟩) 0 0, .slice q m d] (.slice p' m c') w w' /\ Own w' r T_int 1 p' m c' (ys.map (Value.int .i64)) /\ Ext w w' := by
  have h : Own w r T_int 1 (some ⟨r, 0, none⟩) 0 0 (([] : List Int).map (Value.int .i64)) := Own.of_blk0 hb (Nat.le_refl _) rfl (by decide)
  obtain ⟨p', c', w', h1, h2, h3⟩ := Own.appendI h (Nat.le_of_lt hb.lt) k (by omega)
  rw [Nat.zero_add] at h1 h2
  refine ⟨p', c', w', h1, by simpa using h2, ?_⟩
  obtain ⟨hu, hi, hz, hs⟩ := sliceT_int
  cases hinf : P.info? T_int with
  | none => rw [hinf] at hi; cases hi
  | some i =>
    rw [hinf] at hi
    simp only [Option.map_some, Option.some.injEq, Prod.mk.injEq] at hi
    cases q with
    | none =>
      have hm0 : m = 0 := by
        rcases Nat.eq_zero_or_pos m with h0 | h0
        · exact h0
        · obtain ⟨b, off, hp, _⟩ := k.2.2.2 h0; cases hp
      subst hm0
      have := run_append_none (P := P) w r T_s_int 0 T_int i 1 hu hinf _ 0 d _ h
      have h1 : (Builtin.append_ #[T_s_int, T_s_int] 0 #[.slice (some ⟨r, 0, none⟩) 0 0, .slice none 0 d]).run P w = .ok (.slice p' 0 c') w' := h1
      rw [this] at h1
      cases h1
      exact Ext.refl _
    | some a =>
      have hcells : ∀ j u, (ys.map (Value.int .i64))[j]? = some u -> w.cell? (a.add j) = some u := by
        intro j u hj
        have hl : j < m := by
          have := (List.getElem?_eq_some_iff.1 hj).1
          rw [List.length_map, k.1] at this; exact this
        obtain ⟨b, off, hp, hseg⟩ := k.2.2.2 (by omega)
        cases hp
        rw [addr_add]
        exact hseg j u hj
      have h1 : (Builtin.append_ #[T_s_int, T_s_int] 0 #[.slice (some ⟨r, 0, none⟩) 0 0, .slice (some a) m d]).run P w = .ok (.slice p' m c') w' := h1
      rcases Nat.eq_zero_or_pos m with h0 | h0
      · subst h0
        have hy : ys = [] := List.eq_nil_of_length_eq_zero k.1
        subst hy
        have := run_append_room (P := P) w T_s_int 0 T_int i hu hinf r 0 0 #[] hb a 0 d [] (by simp) (by simp) (by simp) (by omega) (by simp)
        rw [this] at h1
        cases h1
        have e : w.setRow r ((#[] : Array Value).toList.take (0 * i.size) ++ ([] : List Value) ++ (#[] : Array Value).toList.drop (0 * i.size + ([] : List Value).length)).toArray = w := by
          have := setRow_self w r #[] T_int (0, 0) hb
          simpa using this
        rw [e]
        exact Ext.refl _
      · have hnext : Builtin.nextslicecap (0 + m) 0 * i.bytes <= 281474976710656 := by
          rw [Nat.zero_add, nextslicecap_zero h0, hi.2.2]; omega
        have := run_append_grow (P := P) w T_s_int 0 T_int i (.int .i64 0) hu hinf hi.1 ⟨r, 0, none⟩ 0 0 [] (by simp) (by simp) a m d (ys.map (Value.int .i64)) (by simp [k.1, hi.2.1]) hcells (by omega) (by omega) hnext
        rw [this] at h1
        injection h1 with _ hw
        rw [<- hw]
        exact (Ext.drew w).trans ((Go.RowKit.Below.refl _ _).alloc (Nat.le_refl _) _)
theorem Sx.Fl.got {os : List Obj} {ss : List (Option Nat)} {w : World} {ss' : List (Option Nat)} {w' : World} (h : Fl os ss w ss' w') : ∀ {k r : Nat} {o : Obj}, ss[k]? = some none -> os[k]? = some o -> ss'[k]? = some (some r) -> w.heap.size <= r /\ w'.heap[r]? = some o := by
  induction h with
  | refl => intro k r o h0 _ h1; rw [h0] at h1; cases h1
  | step h1 h2 h3 ih =>
    rename_i ss w k' o' ss' w'
    intro k r o h0 ho hr
    by_cases hk : k' = k
    · subst hk
      rw [h2] at ho
      cases ho
      have hset : (ss.set k' (some w.heap.size))[k']? = some (some w.heap.size) := by
        rw [List.getElem?_set_self]
        exact (List.getElem?_eq_some_iff.1 h1).1
      have := h3.keeps hset
      rw [this] at hr
      cases hr
      exact ⟨Nat.le_refl _, (h3.ext.block _ (by simp)).trans (heap_alloc_new w _)⟩
    · obtain ⟨a, b⟩ := ih (k := k) (r := r) (o := o) (by rw [List.getElem?_set_ne hk]; exact h0) ho hr
      refine ⟨?_, b⟩
      have : w.heap.size <= (w.alloc o').heap.size := by simp
      omega
end Go.Proofs.YtbgokfhcgcoipaaGreatDoor
namespace Go.Proofs.YtbgokfhcgcoipaaGreatDoor
open Go Go.Proofs.YtbgokfhcgcoipaaGreatDoor.Sx
def strOf : List D0 -> ByteArray
  | .str s :: _ => s
  | _ => S []
def acctAt (l : List (List D0)) (name : ByteArray) : Int := firstI (fun x => decide (strOf x = name)) l
theorem spec_AcctAt_c {w : World} {p : Option Addr} {n c : Nat} {l : List (List D0)} (h : RowsR w 4 p n c l) (hc : ∀ x ∈ l, x.map D0.code = [.str, .str, .bool, .ints]) (name : ByteArray) :
    Ret P n_spec_AcctAt [.agg ⟨[.slice p n c]⟩, .string name] w fun v w' => v = .int .i64 (acctAt l name) /\ Ext w w' := by
  refine spec_AcctAt_ret ?_
  unfold spec_AcctAt
  intro r w1 hn
  have hlen := h.1; have hcap := h.2.1; have hcm := h.2.2.1
  refine ⟨_, _, _, hn.blk.load (by kernel_rfl) rfl, fun i wr => ∃ j : Nat, i = j /\ j <= n /\ Ext w wr /\ ∀ i (hi : i < l.length), i < j -> decide (strOf l[i] = name) = false, fun i _ => n - i.toNat, ⟨0, rfl, by omega, hn.ext, fun i hi h => by omega⟩, ?_⟩
  intro junk wr i ⟨j, hij, hj, hx, hall⟩
  subst hij
  refine ifD (fun hlt => ?_) (fun hge => ?_)
  · have hjn : j < n := by omega
    obtain ⟨a, cs, hp, hk, hr, hl⟩ := (h.ext hx).at (P := P) (t := T_impl_Acct) (by kernel_rfl) hjn
    subst hp
    have hjl : j < l.length := by omega
    have hcode := hc _ (List.getElem_mem hjl)
    have hrr := hr
    obtain ⟨a0, a1, a2, p3, n3, c3, z3, rfl, hd, hi⟩ := open_Acct hr hcode
    refine ⟨⟨by omega, by omega⟩, _, _, _, _, _, _, by simpa using hl, ?_⟩
    intro r1 w2 hn2
    obtain ⟨w3, st, hb3, ch, sz⟩ := hn2.blk.storeA0 (P := P) (t := T_impl_Acct) (xs := [.string a0, .string a1, .bool a2, .slice p3 n3 c3]) (by kernel_rfl) rfl (by simp [Value.oneCell'])
    have x3 : Ext w w3 := (hx.trans hn2.ext).chg ch (by have := hn2.r_eq; have := hx.le; simp; omega)
    have hs : strOf l[j] = a0 := by rw [hd]; rfl
    refine ⟨w3, st, _, hb3.load (by kernel_rfl) rfl, ifD (fun e => ⟨?_, x3⟩) (fun e => ?_)⟩
    · rw [acctAt, firstI_some hjl (by simpa [hs] using e) hall]
    · refine exW ⟨by omega, by omega⟩ ⟨⟨j + 1, by omega, by omega, x3, fun i hi hij => ?_⟩, by simp; omega⟩
      by_cases hij' : i < j
      · exact hall i hi hij'
      · obtain rfl : i = j := by omega
        simpa [hs] using e
  · exact ⟨by rw [acctAt, firstI_none fun i hi => hall i hi (by omega)], hx⟩
theorem slices_IndexFunc_impl_Acct_impl_Acct_c {w : World} {p : Option Addr} {n c : Nat} {l : List (List D0)} (h : RowsR w 4 p n c l) (hc : ∀ x ∈ l, x.map D0.code = [.str, .str, .bool, .ints]) (f : Value) (q : List D0 -> Bool)
    (hf : ∀ cs x w', Ext w w' -> x ∈ l -> Reps w' cs x -> CallW P f [.agg ⟨cs⟩] w' fun e w'' => e = .returned (.bool (q x)) /\ Ext w' w'') :
    Ret P n_slices_IndexFunc_impl_Acct_impl_Acct [.slice p n c, f] w fun v w' => v = .int .i64 (firstI q l) /\ Ext w w' := by
  refine slices_IndexFunc_impl_Acct_impl_Acct_ret ?_
  unfold slices_IndexFunc_impl_Acct_impl_Acct
  have hlen := h.1; have hcap := h.2.1; have hcm := h.2.2.1
  refine ⟨fun i wr => ∃ j : Nat, i = j /\ j <= n /\ Ext w wr /\ ∀ i (hi : i < l.length), i < j -> q l[i] = false, fun i _ => n - i.toNat, ⟨0, rfl, by omega, Ext.refl _, fun i hi h => by omega⟩, ?_⟩
  intro junk wr i ⟨j, hij, hj, hx, hall⟩
  subst hij
  refine ifD (fun hlt => ?_) (fun hge => ?_)
  · have hjn : j < n := by omega
    obtain ⟨a, cs, hp, hk, hr, hl⟩ := (h.ext hx).at (P := P) (t := T_impl_Acct) (by kernel_rfl) hjn
    subst hp
    have hjl : j < l.length := by omega
    have hcode := hc _ (List.getElem_mem hjl)
    have hcall := hf _ _ _ hx (List.getElem_mem hjl) hr
    obtain ⟨a0, a1, a2, p3, n3, c3, z3, rfl, hd, hi⟩ := open_Acct hr hcode
    refine ⟨⟨by omega, by omega⟩, _, _, _, _, _, _, by simpa using hl, ?_⟩
    obtain ⟨g, first, captured, h1, h2, h3⟩ := hcall
    refine ⟨g, first, captured, h1, h2, Calls.mono h3 fun e w2 ⟨he, hy⟩ => ?_⟩
    refine ⟨_, he, fun e => ⟨by rw [firstI_some hjl e hall], hx.trans hy⟩, fun e => ?_⟩
    refine exW ⟨by omega, by omega⟩ ⟨⟨j + 1, by omega, by omega, hx.trans hy, fun i hi hij => ?_⟩, by simp; omega⟩
    by_cases hij' : i < j
    · exact hall i hi hij'
    · obtain rfl : i = j := by omega
      exact e
  · exact ⟨by rw [firstI_none fun i hi => hall i hi (by omega)], hx⟩
theorem impl_AcctAt_1_c {w : World} {cs : List Value} {x : List D0} (h : Reps w cs x) (hc : x.map D0.code = [.str, .str, .bool, .ints]) {b : Nat} {e : TypeId} {name : ByteArray} (hb : Blk w b e [.string name]) :
    Ret P n_impl_AcctAt_1 [.agg ⟨cs⟩, .pointer (some ⟨b, 0, none⟩)] w fun v w' => v = .bool (decide (strOf x = name)) /\ Ext w w' := by
  obtain ⟨a0, a1, a2, p3, n3, c3, z3, rfl, hd, hi⟩ := open_Acct h hc
  refine impl_AcctAt_1_ret ?_
  unfold impl_AcctAt_1
  intro r w1 hn
  refine ⟨_, hn.blk.load (by kernel_rfl) rfl, _, (hb.ext hn.ext).load0 (by kernel_rfl) rfl, ?_, hn.ext⟩
  rw [hd]; rfl
theorem impl_AcctAt_c {w : World} {p : Option Addr} {n c : Nat} {l : List (List D0)} (h : RowsR w 4 p n c l) (hc : ∀ x ∈ l, x.map D0.code = [.str, .str, .bool, .ints]) (name : ByteArray) :
    Ret P n_impl_AcctAt [.agg ⟨[.slice p n c]⟩, .string name] w fun v w' => v = .int .i64 (acctAt l name) /\ Ext w w' := by
  refine impl_AcctAt_ret ?_
  unfold impl_AcctAt
  intro r w1 hn1 r1 w2 hn2
  have x := hn1.ext.trans hn2.ext
  refine ⟨_, _, _, (hn1.blk.ext hn2.ext).load (by kernel_rfl) rfl, ?_⟩
  refine Ret.at (slices_IndexFunc_impl_Acct_impl_Acct_c (h.ext x) hc _ (fun x => decide (strOf x = name)) (fun cs x w' hx hm hr => ?_)) ?_
  · refine ⟨_, _, _, rfl, by kernel_rfl, ?_⟩
    refine Calls.mono (impl_AcctAt_1_c hr (hc _ hm) (hn2.blk.ext hx)) ?_
    rintro e w'' ⟨v, he, hv, y⟩
    subst hv
    exact ⟨he, y⟩
  · rintro v w3 ⟨hv, y⟩
    subst hv
    exact ⟨_, rfl, rfl, x.trans y⟩
end Go.Proofs.YtbgokfhcgcoipaaGreatDoor
namespace Go.Proofs.YtbgokfhcgcoipaaGreatDoor
open Go Go.Proofs.YtbgokfhcgcoipaaGreatDoor.Sx
theorem Sx.copyI {w : World} {r : Nat} {q : Option Addr} {n d : Nat} {ys zs : List Int} (hb : Blk w r T_int (zs.map (Value.int .i64))) (hz : zs.length = n) (k : IntsR w q n d ys) :
    ∃ w', Copies P [T_s_int, T_s_int] [.slice (some ⟨r, 0, none⟩) n n, .slice q n d] (goInt n) w w' /\ Blk w' r T_int (ys.map (Value.int .i64)) /\ Chg [r] w w' /\ w'.heap.size = w.heap.size := by
  obtain ⟨hu, hi, hz0, hs⟩ := sliceT_int
  cases hinf : P.info? T_int with
  | none => rw [hinf] at hi; cases hi
  | some i =>
    rw [hinf] at hi
    simp only [Option.map_some, Option.some.injEq, Prod.mk.injEq] at hi
    have hy := k.1
    cases q with
    | none =>
      have hm0 : n = 0 := by
        rcases Nat.eq_zero_or_pos n with h0 | h0
        · exact h0
        · obtain ⟨b, off, hp, _⟩ := k.2.2.2 h0; cases hp
      subst hm0
      have h1 : ys = [] := List.eq_nil_of_length_eq_zero hy
      have h2 : zs = [] := List.eq_nil_of_length_eq_zero hz
      subst h1; subst h2
      refine ⟨w, ?_, hb, Chg.refl _ _, rfl⟩
      show (Builtin.copy_ #[T_s_int, T_s_int] 0 #[.slice (some ⟨r, 0, none⟩) 0 0, .slice none 0 d]).run P w = .ok (goInt 0) w
      simp [Builtin.copy_, run_underlying hu, Builtin.lenOf, Builtin.firstCells, sizeOf, typeInfo, hinf, storeCells]
    | some a =>
      have hcells : ∀ j u, (ys.map (Value.int .i64))[j]? = some u -> w.cell? (a.add j) = some u := by
        intro j u hj
        have hl : j < n := by
          have := (List.getElem?_eq_some_iff.1 hj).1
          rw [List.length_map, hy] at this; exact this
        obtain ⟨b, off, hp, hseg⟩ := k.2.2.2 (by omega)
        cases hp
        rw [addr_add]
        exact hseg j u hj
      have := run_copy_row (P := P) w T_s_int T_s_int 0 T_int r 0 n n a n d ⟨zs.map (Value.int .i64)⟩ T_int (ys.map (Value.int .i64)) hu (by rw [hinf]; simp [hi.2.1]) hb (by simp [hy]) hcells (by simp [hy, hz]) (by simp [Value.oneCell'])
      have e : ((⟨zs.map (Value.int .i64)⟩ : Array Value).toList.take 0 ++ ys.map (Value.int .i64) ++ (⟨zs.map (Value.int .i64)⟩ : Array Value).toList.drop (0 + (ys.map (Value.int .i64)).length)) = ys.map (Value.int .i64) := by
        rw [List.take_zero, List.nil_append, List.drop_of_length_le (by simp [hy, hz]), List.append_nil]
      rw [e] at this
      refine ⟨_, ?_, setRow_heap w r _ _ T_int _ hb, setRow_chg _ _ _, by simp⟩
      have e2 : (ys.map (Value.int .i64)).length = n := by simp [hy]
      rw [e2] at this
      exact this
theorem spec_l17Money_c {w : World} {xs : List Value} {dx : List D0} (h : Reps w xs dx) (hc : dx.map D0.code = [.str, .bool, .ints]) (hb : bulks dx <= 100000000) :
    Ret P n_spec_l17Money [.agg ⟨xs⟩] w fun v w' => ∃ vs' f, v = .agg ⟨vs'⟩ /\ Owns w' w.heap.size vs' dx f /\ f.Nodup /\ Ext w w' := by
  obtain ⟨t0, a0, a1p, a1n, a1c, a1z, rfl, rfl, ha⟩ := open_Money h hc
  have l1 := ha.1
  simp only [bulks, D0.bulk, List.map_cons, List.map_nil, List.sum_cons, List.sum_nil] at hb
  refine spec_l17Money_ret ?_
  unfold spec_l17Money
  intro r w1 hn1 r1 w2 hn2
  have D := Ext.drew w2
  have X := (hn1.ext.trans hn2.ext).trans D
  have k0 := hn1.blk.ext hn2.ext; have k1 := hn2.blk.ext D
  have e2 := hn2.r_eq; have s1 := hn1.size; have s2 := hn2.size; have lD := D.le
  refine ⟨_, fun W hW => (k0.ext (D.trans hW)).loadAt 0 rfl (by kernel_rfl) rfl, _, fun W hW => (k0.ext (D.trans hW)).loadAt 1 rfl (by kernel_rfl) rfl, ?_⟩
  intro r2 w4 hn4
  have e4 := hn4.r_eq
  obtain ⟨p, c, w6, a1, o1, y6⟩ := append0 hn4.blk (ha.ext (X.trans hn4.ext)) (by omega)
  have Y := hn4.ext.trans y6
  refine ⟨hn4.ext, _, _, _, fun W hW => (k0.ext (D.trans hW)).loadAt 2 rfl (by kernel_rfl) rfl, _, _, _, _, a1, y6, ?_⟩
  obtain ⟨w7, st, hb7, ch, sz⟩ := (k1.ext Y).storeA0 (P := P) (t := T_impl_Money) (xs := [.string t0, .bool a0, .slice p a1n c]) (by kernel_rfl) rfl (by simp [Value.oneCell'])
  have n1 : ∀ q, p.map (·.block) = some q -> q ∉ [r1] := fun q hq hm => by
    have := (World.ownsRow.lt o1 q (by rw [<- hq]; cases p <;> rfl)).1
    simp at hm; omega
  have q1 : Own w7 w.heap.size T_int 1 p a1n c (a1z.map (Value.int .i64)) := (o1.chg ch n1).mono (by omega)
  exact ⟨w7, st, _, _, _, _, _, hb7.loadA0 (by kernel_rfl), _, _, rfl, Owns.append (Owns.str _ _ t0) (Owns.append (Owns.bool _ _ a0) (Owns.ints q1)), nodup_opt p, (X.trans Y).chg ch (by simp; omega)⟩
theorem impl_moneyCopy_c {w : World} {xs : List Value} {dx : List D0} (h : Reps w xs dx) (hc : dx.map D0.code = [.str, .bool, .ints]) (hb : bulks dx <= 100000000) :
    Ret P n_impl_moneyCopy [.agg ⟨xs⟩] w fun v w' => ∃ vs' f, v = .agg ⟨vs'⟩ /\ Owns w' w.heap.size vs' dx f /\ f.Nodup /\ Ext w w' := by
  obtain ⟨t0, a0, a1p, a1n, a1c, a1z, rfl, rfl, ha⟩ := open_Money h hc
  have l1 := ha.1
  simp only [bulks, D0.bulk, List.map_cons, List.map_nil, List.sum_cons, List.sum_nil] at hb
  refine impl_moneyCopy_ret ?_
  unfold impl_moneyCopy
  intro r w1 hn1 r1 w2 hn2
  have k0 := hn1.blk.ext hn2.ext
  have e2 := hn2.r_eq; have s1 := hn1.size; have s2 := hn2.size
  refine ⟨_, _, _, k0.loadAt 2 rfl (by kernel_rfl) rfl, ⟨by omega, by omega, by omega⟩, ?_⟩
  intro r2 w3 hn3
  have e3 := hn3.r_eq; have s3 := hn3.size
  have hblk := hn3.blk
  rw [zeroRow_int, Nat.mul_one, show (List.replicate a1n (Value.int .i64 0)) = (List.replicate a1n (0 : Int)).map (Value.int .i64) by simp] at hblk
  obtain ⟨w4, cp, hb4, ch4, sz4⟩ := copyI hblk (by simp) (ha.ext ((hn1.ext.trans hn2.ext).trans hn3.ext))
  have D := Ext.drew w4
  have Y := ((hn1.ext.trans hn2.ext).trans hn3.ext).chg ch4 (by simp; omega)
  have k0 := (k0.ext hn3.ext).chg ch4 (by have := hn1.r_eq; simp; omega)
  have k1 := (hn2.blk.ext hn3.ext).chg ch4 (by simp; omega)
  have lD := D.le
  refine ⟨_, _, _, (hn1.blk.ext (hn2.ext.trans hn3.ext)).loadAt 2 rfl (by kernel_rfl) rfl, _, w4, cp, _, fun W hW => (k0.ext (D.trans hW)).loadAt 0 rfl (by kernel_rfl) rfl, _, fun W hW => (k0.ext (D.trans hW)).loadAt 1 rfl (by kernel_rfl) rfl, ⟨by omega, by omega⟩, ⟨by omega, by omega⟩, ?_⟩
  obtain ⟨w7, st, hb7, ch, sz⟩ := (k1.ext D).storeA0 (P := P) (t := T_impl_Money) (xs := [.string t0, .bool a0, .slice (some ⟨r2, 0, none⟩) a1n a1n]) (by kernel_rfl) rfl (by simp [Value.oneCell'])
  have q1 : Own w7 w.heap.size T_int 1 (some ⟨r2, 0, none⟩) a1n a1n (a1z.map (Value.int .i64)) := Own.of_blk ((hb4.ext D).chg ch (by simp; omega)) (by omega) (by simp [l1]) (by simp only [maxLen]; omega)
  have es : sub (some ⟨r2, 0, none⟩) 0 a1n 1 = some ⟨r2, 0, none⟩ := by simp [sub, Addr.add]
  rw [es, Nat.sub_zero]
  exact ⟨w7, st, _, _, _, _, _, hb7.loadA0 (by kernel_rfl), _, _, rfl, Owns.append (Owns.str _ _ t0) (Owns.append (Owns.bool _ _ a0) (Owns.ints q1)), by simp, (Y.trans D).chg ch (by simp; omega)⟩
def balOf (l : List (List D0)) (name : ByteArray) : List D0 := if acctAt l name < 0 then [.str ByteArray.empty, .bool false, .ints []] else (l.getD (acctAt l name).toNat []).drop 1
theorem acctAt_spec (l : List (List D0)) (name : ByteArray) : acctAt l name = -1 ∨ ∃ j, j < l.length /\ acctAt l name = j := by
  rcases firstI_spec (fun x => decide (strOf x = name)) l with ⟨h, _⟩ | ⟨j, hj, h, _⟩
  · exact .inl h
  · exact .inr ⟨j, hj, h⟩
theorem getD_in {α : Type} {l : List α} {i : Nat} {d : α} (h : i < l.length) : l.getD i d ∈ l := by
  rw [List.getD_eq_getElem?_getD, List.getElem?_eq_getElem h]; exact List.getElem_mem h
theorem balOf_code {l : List (List D0)} {name : ByteArray} (hc : ∀ x ∈ l, x.map D0.code = [.str, .str, .bool, .ints]) : (balOf l name).map D0.code = [.str, .bool, .ints] := by
  unfold balOf
  rcases acctAt_spec l name with h | ⟨j, hj, h⟩
  · rw [if_pos (by omega)]; rfl
  · rw [if_neg (by omega), h, List.map_drop, hc _ (getD_in (by simpa using hj))]; rfl
theorem bulks_drop1 (x : List D0) : bulks (x.drop 1) <= bulks x := by
  cases x with
  | nil => simp [bulks]
  | cons a r => simp [bulks]
theorem balOf_bulks {l : List (List D0)} {name : ByteArray} (hb : ∀ x ∈ l, bulks x <= 1048576) : bulks (balOf l name) <= 1048576 := by
  unfold balOf
  rcases acctAt_spec l name with h | ⟨j, hj, h⟩
  · rw [if_pos (by omega)]; simp [bulks, D0.bulk]
  · rw [if_neg (by omega), h]
    exact Nat.le_trans (bulks_drop1 _) (hb _ (getD_in (by simpa using hj)))
theorem balOf_none {l : List (List D0)} {name : ByteArray} (h : acctAt l name < 0) : balOf l name = [.str ByteArray.empty, .bool false, .ints []] := by unfold balOf; rw [if_pos h]
theorem balOf_some {l : List (List D0)} {name : ByteArray} {j : Nat} (h : acctAt l name = j) : balOf l name = (l.getD j []).drop 1 := by unfold balOf; rw [if_neg (by omega), h]; rfl
theorem impl_BalanceOf_c {w : World} {p : Option Addr} {n c : Nat} {l : List (List D0)} (h : RowsR w 4 p n c l) (hc : ∀ x ∈ l, x.map D0.code = [.str, .str, .bool, .ints]) (hn : n <= 1048576) (hb : ∀ x ∈ l, bulks x <= 1048576) (name : ByteArray) :
    Ret P n_impl_BalanceOf [.agg ⟨[.slice p n c]⟩, .string name] w fun v w' => ∃ vs f, v = .tuple #[.agg ⟨vs⟩, .bool (decide (0 <= acctAt l name))] /\ Owns w' w.heap.size vs (balOf l name) f /\ f.Nodup /\ (balOf l name).map D0.code = [.str, .bool, .ints] /\ tcnts (balOf l name) <= 1000000000 /\ Ext w w' := by
  have hz := h.1; have hcap := h.2.1; have hcm := h.2.2.1
  have hcnt : tcnts (balOf l name) <= 1000000000 := by
    have h1 := tcnts_le (balOf l name); have h2 := balOf_bulks (name := name) hb
    omega
  refine impl_BalanceOf_ret ?_
  unfold impl_BalanceOf
  intro r w1 hn1 r1 w2 hn2
  have X := hn1.ext.trans hn2.ext
  have k0 := hn1.blk.ext hn2.ext; have k1 := hn2.blk
  have e1 := hn1.r_eq; have e2 := hn2.r_eq; have s1 := hn1.size; have s2 := hn2.size
  refine ⟨_, _, _, k0.loadA0 (by kernel_rfl), ?_⟩
  refine Ret.at (impl_AcctAt_c (h.ext X) hc name) ?_
  rintro v w3 ⟨hv, y3⟩
  subst hv
  have l3 := y3.le
  rcases acctAt_spec l name with h0 | ⟨j, hj, h0⟩
  · refine ⟨_, rfl, ifD (fun _ => ?_) (fun hge => absurd hge (by omega))⟩
    obtain ⟨w4, st, hb4, ch, sz⟩ := (k1.ext y3).storeA0 (P := P) (t := T_impl_Money) (xs := [.string ByteArray.empty, .bool false, .slice none 0 0]) (by kernel_rfl) rfl (by simp [Value.oneCell'])
    refine ⟨w4, st, _, _, _, _, _, hb4.loadA0 (by kernel_rfl), [.string ByteArray.empty, .bool false, .slice none 0 0], [], ?_, ?_, List.nodup_nil, balOf_code hc, hcnt, (X.trans y3).chg ch (by simp; omega)⟩
    · rw [decide_eq_false (show ¬ 0 <= acctAt l name by omega)]
    · rw [balOf_none (by omega)]
      exact Owns.append (Owns.str _ _ _) (Owns.append (Owns.bool _ _ false) (Owns.ints (zs := []) (Own.nil w4 w.heap.size T_int 1)))
  · refine ⟨_, rfl, ifD (fun hlt => absurd hlt (by omega)) (fun hge => ?_)⟩
    obtain ⟨b, off, hp, hs⟩ := (h.ext (X.trans y3)).2.2.2 (by omega)
    obtain ⟨cs, hk, hr, hsg⟩ := hs j _ (List.getElem?_eq_getElem hj)
    have hcode := hc _ (List.getElem_mem hj)
    have hbj := hb _ (List.getElem_mem hj)
    obtain ⟨a0, a1, a2, a3p, a3n, a3c, a3z, rfl, hd, ha⟩ := open_Acct hr hcode
    rw [hd] at hbj
    simp only [bulks, D0.bulk, List.map_cons, List.map_nil, List.sum_cons, List.sum_nil] at hbj
    subst hp
    rw [h0]
    have k0' := (k0.ext y3).loadAt (P := P) (t := T_s_impl_Acct) 0 (a := (⟨r, 0, none⟩ : Addr).add 0) rfl (by kernel_rfl) rfl
    refine ⟨_, _, _, k0', ⟨by omega, by omega⟩, _, _, _, _, _, (by simp only [addr_add, Int.toNat_natCast]; exact hsg.loadAAt 1 [.string a1, .bool a2, .slice a3p a3n a3c] rfl (by kernel_rfl) rfl), ?_⟩
    have hm : Reps w3 [.string a1, .bool a2, .slice a3p a3n a3c] [.str a1, .bool a2, .ints a3z] := ⟨rfl, rfl, ⟨_, _, _, rfl, ha⟩, trivial⟩
    refine Ret.at (impl_moneyCopy_c hm rfl (by simp only [bulks, D0.bulk, List.map_cons, List.map_nil, List.sum_cons, List.sum_nil]; omega)) ?_
    rintro v w4 ⟨vs, f, hv, ho, nd, y4⟩
    subst hv
    obtain ⟨b0, b1, b2p, b2n, b2c, b2z, rfl, hq, _⟩ := open_Money ho.reps rfl
    obtain ⟨w5, st, hb5, ch, sz⟩ := ((k1.ext y3).ext y4).storeA0 (P := P) (t := T_impl_Money) (xs := [.string b0, .bool b1, .slice b2p b2n b2c]) (by kernel_rfl) rfl (by simp [Value.oneCell'])
    have o5 := (ho.chg1 ch (by omega)).mono (B' := w.heap.size) (by omega)
    refine ⟨_, _, _, _, _, rfl, w5, st, _, _, _, _, _, hb5.loadA0 (by kernel_rfl), [.string b0, .bool b1, .slice b2p b2n b2c], f, ?_, ?_, nd, balOf_code hc, hcnt, ((X.trans y3).trans y4).chg ch (by simp; omega)⟩
    · rw [decide_eq_true (show (0 : Int) <= (j : Nat) by omega)]
    · rw [balOf_some h0, List.getD_eq_getElem?_getD, List.getElem?_eq_getElem hj]
      show Owns w5 _ _ ((l[j]'hj).drop 1) f
      rw [hd]
      exact o5
end Go.Proofs.YtbgokfhcgcoipaaGreatDoor
namespace Go.Proofs.YtbgokfhcgcoipaaGreatDoor
open Go Go.Proofs.YtbgokfhcgcoipaaGreatDoor.Sx
theorem sliceT_acct : sliceT P T_s_impl_Acct T_impl_Acct (.agg ⟨[.string ByteArray.empty, .string ByteArray.empty, .bool false, .slice none 0 0]⟩) 4 64 := ⟨by kernel_rfl, by kernel_rfl, rfl, by decide⟩
theorem spec_l17Copy_c {w : World} {p : Option Addr} {n c : Nat} {l : List (List D0)} (h : RowsR w 4 p n c l) (hc : ∀ x ∈ l, x.map D0.code = [.str, .str, .bool, .ints]) (hn : n <= 1048576) (hb : ∀ x ∈ l, bulks x <= 4194304) :
    Ret P n_spec_l17Copy [.agg ⟨[.slice p n c]⟩] w fun v w' => ∃ p' c' f, v = .agg ⟨[.slice p' n c']⟩ /\ OwnRows w' w.heap.size T_impl_Acct 4 p' n c' l f /\ Ext w w' := by
  have hln := h.1; have hcap := h.2.1; have hcm := h.2.2.1
  refine spec_l17Copy_ret ?_
  unfold spec_l17Copy
  intro r w1 hn1 r1 w2 hn2
  have e1 := hn1.r_eq; have z1 := hn1.size; have e2 := hn2.r_eq; have z2 := hn2.size
  intro r3 w4 hn4
  have e4 := hn4.r_eq; have z4 := hn4.size
  obtain ⟨w5, st5, b5, y5⟩ := hn4.fill (P := P) (t := T_impl_Book) (xs := [.slice none 0 0]) (by simp [Value.oneCell']) (by kernel_rfl) rfl
  have Y5 := (hn1.ext.trans hn2.ext).trans y5
  have ly5 := y5.le
  have hor0 : OwnRows w5 w.heap.size T_impl_Acct 4 none 0 0 [] [] := ⟨rfl, [], [], trivial, Own.nil _ _ _ _, by simp, by simp⟩
  have hr3f : r3 ∉ ([] : List Nat) := by simp
  refine ⟨w5, st5, _, _, _, ((hn1.blk.ext hn2.ext).ext y5).loadAt 0 rfl (by kernel_rfl) rfl, ?_⟩
  have b1 := (hn2.blk.ext y5)
  refine ⟨fun i wr => ∃ (j : Nat) (op : Option Addr) (oc : Nat) (f : List Nat), i = j /\ j <= n /\ Blk wr r3 T_impl_Book [.slice op j oc] /\ OwnRows wr w.heap.size T_impl_Acct 4 op j oc (l.take j) f /\ r3 ∉ f /\ r1 ∉ f /\ Blk wr r1 T_impl_Book [.slice none 0 0] /\ Ext w wr /\ r3 < wr.heap.size, fun i _ => n - i.toNat, ⟨0, _, _, _, rfl, Nat.zero_le _, b5, hor0, hr3f, by simp <;> omega, b1, Y5, b5.lt⟩, ?_⟩
  intro junk wr i ⟨j, op, oc, f, hi, hj, hb3, hor, hr3, hr1, hb1, hx, hlt3⟩
  subst hi
  refine ifD (fun hlt => ?_) (fun hge => ?_)
  · have hjn : j < n := by omega
    have hjl : j < l.length := by omega
    obtain ⟨b, off, hpp, hs⟩ := (h.ext hx).2.2.2 (by omega)
    subst hpp
    obtain ⟨cs, hk, hr, hsg⟩ := hs j _ (List.getElem?_eq_getElem hjl)
    have hcode := hc _ (List.getElem_mem hjl)
    have hbb := hb _ (List.getElem_mem hjl)
    have hsnoc := List.take_succ_eq_append_getElem hjl
    obtain ⟨a0, a1, a2, a3p, a3n, a3c, a3z, rfl, hd, ha⟩ := open_Acct hr hcode
    rw [hd] at hsnoc hbb
    refine ⟨⟨by omega, by omega⟩, _, _, _, _, _, _, by rw [addr_add, Int.toNat_natCast]; exact hsg.loadAAt 0 [.string a0, .string a1, .bool a2, .slice a3p a3n a3c] rfl (by kernel_rfl) rfl, ?_⟩
    intro r4 w6 hn6
    have e6 := hn6.r_eq; have z6 := hn6.size
    obtain ⟨w7, st7, b7, y7⟩ := hn6.fill (P := P) (t := T_impl_Acct) (xs := [.string a0, .string a1, .bool a2, .slice a3p a3n a3c]) (by simp [Value.oneCell']) (by kernel_rfl) rfl
    have D := Ext.drew w7
    have Y7 := y7.trans D
    have hm : Reps wr [.string a1, .bool a2, .slice a3p a3n a3c] [.str a1, .bool a2, .ints a3z] := ⟨rfl, rfl, ⟨_, _, _, rfl, ha⟩, trivial⟩
    refine ⟨w7, st7, _, _, _, fun W hW => (hb3.ext (Y7.trans hW)).loadAt 0 rfl (by kernel_rfl) rfl, _, fun W hW => (b7.ext (D.trans hW)).loadAt 0 rfl (by kernel_rfl) rfl, _, _, _, _, _, fun W hW => (b7.ext (D.trans hW)).loadAAt 1 [.string a1, .bool a2, .slice a3p a3n a3c] rfl (by kernel_rfl) rfl, ?_⟩
    refine Ret.at (spec_l17Money_c (hm.ext Y7) rfl (by simp only [bulks, D0.bulk, List.map_cons, List.map_nil, List.sum_cons, List.sum_nil] at hbb ⊢; omega)) ?_
    rintro v w8 ⟨vs, fx, hv, ho, hnd, y8⟩
    subst hv
    have ho' := ho
    obtain ⟨d0, d1, dp, dn, dc, dz, rfl, hq, hbr⟩ := open_Money ho.reps rfl
    refine ⟨_, _, _, _, _, rfl, y8, ?_⟩
    intro r5 w9 hn9
    have e9 := hn9.r_eq; have z9 := hn9.size
    have Y8 := Y7.trans y8
    have Y9 := Y8.trans hn9.ext
    have l7 := Y7.le; have l8 := y8.le; have l9 := Y9.le; have lx := hx.le
    have ho9 : Owns w9 w.heap.size [.string a0, .string d0, .bool d1, .slice dp dn dc] [.str a0, .str a1, .bool a2, .ints a3z] fx := Owns.append (Owns.str _ _ a0) ((ho'.ext hn9.ext).mono (by omega))
    refine ⟨hn9.ext, ?_⟩
    obtain ⟨p', c', w10, f', hap, hor', hch, hf'⟩ := OwnRows_pushF (P := P) (hor.ext Y9) sliceT_acct (by omega) hn9.blk rfl ho9 hnd (fun q hq hm => by
      have h1 := (ho'.lt q hq).1
      have h2 := (hor.lt q hm).2
      omega) (by omega) (by omega)
    have hop : ∀ q ∈ (op.map (·.block)).toList, q ∈ f := by
      obtain ⟨_, _, _, _, _, hf, _⟩ := hor
      intro q hq
      rw [hf]; exact List.mem_append_left _ hq
    have hb3' := (hb3.ext Y9).chg hch (fun hm => hr3 (hop _ hm))
    have hb1' := (hb1.ext Y9).chg hch (fun hm => hr1 (hop _ hm))
    have hX10 : Ext w w10 := (hx.trans Y9).chg hch (fun q hq => (hor.lt q (hop q hq)).1)
    obtain ⟨w11, st11, b11, ch11, sz11⟩ := hb3'.store (P := P) (t := T_s_impl_Acct) (k := 0) (v := .slice p' (j + 1) c') (by kernel_rfl) (by simp) rfl
    have lc := hch.size
    have hlt1 := hb1.lt
    have n3 : r3 ∉ f' := fun hm => by
      rcases hf' r3 hm with h1 | h1 | h1
      · exact hr3 h1
      · have := (ho'.lt r3 h1).1; omega
      · omega
    have n1 : r1 ∉ f' := fun hm => by
      rcases hf' r1 hm with h1 | h1 | h1
      · exact hr1 h1
      · have := (ho'.lt r1 h1).1; omega
      · omega
    refine ⟨_, _, _, w10, hap, w11, st11, exW ⟨by omega, by omega⟩ ⟨⟨j + 1, p', c', f', rfl, by omega, b11, ?_, n3, n1, hb1'.chg ch11 (by simp; omega), hX10.chg ch11 (by simp; omega), by omega⟩, by show n - ((j : Int) + 1).toNat < n - (j : Int).toNat; omega⟩⟩
    rw [hsnoc]
    exact hor'.chg ch11 (fun q hq hm => by simp at hm; subst hm; exact n3 hq)
  · have hjn : j = n := by omega
    subst hjn
    rw [List.take_of_length_le (by omega)] at hor
    obtain ⟨w12, st12, b12, ch12, sz12⟩ := hb1.storeA0 (P := P) (t := T_impl_Book) (xs := [.slice op j oc]) (by kernel_rfl) rfl (by simp [Value.oneCell'])
    refine ⟨_, _, _, hb3.loadA0 (by kernel_rfl), w12, st12, _, _, _, b12.loadA0 (by kernel_rfl), op, oc, f, rfl, hor.chg ch12 (fun q hq hm => by simp at hm; subst hm; exact hr1 hq), hx.chg ch12 (by simp; omega)⟩
theorem impl_bookCopy_c {w : World} {p : Option Addr} {n c : Nat} {l : List (List D0)} (h : RowsR w 4 p n c l) (hc : ∀ x ∈ l, x.map D0.code = [.str, .str, .bool, .ints]) (hn : n <= 1048576) (hb : ∀ x ∈ l, bulks x <= 4194304) :
    Ret P n_impl_bookCopy [.agg ⟨[.slice p n c]⟩] w fun v w' => ∃ p' c' f, v = .agg ⟨[.slice p' n c']⟩ /\ OwnRows w' w.heap.size T_impl_Acct 4 p' n c' l f /\ Ext w w' := by
  have hln := h.1; have hcap := h.2.1; have hcm := h.2.2.1
  refine impl_bookCopy_ret ?_
  unfold impl_bookCopy
  intro r w1 hn1 r1 w2 hn2
  have e1 := hn1.r_eq; have z1 := hn1.size; have e2 := hn2.r_eq; have z2 := hn2.size
  refine ⟨_, _, _, (hn1.blk.ext hn2.ext).loadAt 0 rfl (by kernel_rfl) rfl, ?_⟩
  refine exW ⟨by omega, by omega⟩ ⟨⟨by omega, by omega, by omega⟩, ?_⟩
  intro r2 w3 hn3 r3 w4 hn4
  have e3 := hn3.r_eq; have z3 := hn3.size; have e4 := hn4.r_eq; have z4 := hn4.size
  obtain ⟨w5, st5, b5, y5⟩ := hn4.fill (P := P) (t := T_impl_Book) (xs := [.slice (some ⟨r2, 0, none⟩) 0 ((n : Int) + 1).toNat]) (by simp [Value.oneCell']) (by kernel_rfl) rfl
  have Y5 := ((hn1.ext.trans hn2.ext).trans hn3.ext).trans y5
  have ly5 := y5.le
  have hor0 : OwnRows w5 w.heap.size T_impl_Acct 4 (some ⟨r2, 0, none⟩) 0 ((n : Int) + 1).toNat [] [r2] := by
    have ho := Own.of_blk' (B := w.heap.size) (n := 0) (c := ((n : Int) + 1).toNat) (size := 4) (hn3.blk.ext y5) (by omega) (by simp [zeroRow]) (by omega) (by simp only [maxLen]; omega)
    exact ⟨rfl, [], [], trivial, by simpa using ho, by simp, by simp⟩
  have hr3f : r3 ∉ [r2] := by simp; omega
  refine ⟨w5, st5, _, _, _, (((hn1.blk.ext hn2.ext).ext hn3.ext).ext y5).loadAt 0 rfl (by kernel_rfl) rfl, ?_⟩
  have b1 := ((hn2.blk.ext hn3.ext).ext y5)
  refine ⟨fun i wr => ∃ (j : Nat) (op : Option Addr) (oc : Nat) (f : List Nat), i = j /\ j <= n /\ Blk wr r3 T_impl_Book [.slice op j oc] /\ OwnRows wr w.heap.size T_impl_Acct 4 op j oc (l.take j) f /\ r3 ∉ f /\ r1 ∉ f /\ Blk wr r1 T_impl_Book [.slice none 0 0] /\ Ext w wr /\ r3 < wr.heap.size, fun i _ => n - i.toNat, ⟨0, _, _, _, rfl, Nat.zero_le _, b5, hor0, hr3f, by simp <;> omega, b1, Y5, b5.lt⟩, ?_⟩
  intro junk wr i ⟨j, op, oc, f, hi, hj, hb3, hor, hr3, hr1, hb1, hx, hlt3⟩
  subst hi
  refine ifD (fun hlt => ?_) (fun hge => ?_)
  · have hjn : j < n := by omega
    have hjl : j < l.length := by omega
    obtain ⟨b, off, hpp, hs⟩ := (h.ext hx).2.2.2 (by omega)
    subst hpp
    obtain ⟨cs, hk, hr, hsg⟩ := hs j _ (List.getElem?_eq_getElem hjl)
    have hcode := hc _ (List.getElem_mem hjl)
    have hbb := hb _ (List.getElem_mem hjl)
    have hsnoc := List.take_succ_eq_append_getElem hjl
    obtain ⟨a0, a1, a2, a3p, a3n, a3c, a3z, rfl, hd, ha⟩ := open_Acct hr hcode
    rw [hd] at hsnoc hbb
    refine ⟨⟨by omega, by omega⟩, _, _, _, _, _, _, by rw [addr_add, Int.toNat_natCast]; exact hsg.loadAAt 0 [.string a0, .string a1, .bool a2, .slice a3p a3n a3c] rfl (by kernel_rfl) rfl, ?_⟩
    intro r4 w6 hn6
    have e6 := hn6.r_eq; have z6 := hn6.size
    obtain ⟨w7, st7, b7, y7⟩ := hn6.fill (P := P) (t := T_impl_Acct) (xs := [.string a0, .string a1, .bool a2, .slice a3p a3n a3c]) (by simp [Value.oneCell']) (by kernel_rfl) rfl
    have D := Ext.drew w7
    have Y7 := y7.trans D
    have hm : Reps wr [.string a1, .bool a2, .slice a3p a3n a3c] [.str a1, .bool a2, .ints a3z] := ⟨rfl, rfl, ⟨_, _, _, rfl, ha⟩, trivial⟩
    refine ⟨w7, st7, _, _, _, fun W hW => (hb3.ext (Y7.trans hW)).loadAt 0 rfl (by kernel_rfl) rfl, _, fun W hW => (b7.ext (D.trans hW)).loadAt 0 rfl (by kernel_rfl) rfl, _, _, _, _, _, fun W hW => (b7.ext (D.trans hW)).loadAAt 1 [.string a1, .bool a2, .slice a3p a3n a3c] rfl (by kernel_rfl) rfl, ?_⟩
    refine Ret.at (impl_moneyCopy_c (hm.ext Y7) rfl (by simp only [bulks, D0.bulk, List.map_cons, List.map_nil, List.sum_cons, List.sum_nil] at hbb ⊢; omega)) ?_
    rintro v w8 ⟨vs, fx, hv, ho, hnd, y8⟩
    subst hv
    have ho' := ho
    obtain ⟨d0, d1, dp, dn, dc, dz, rfl, hq, hbr⟩ := open_Money ho.reps rfl
    refine ⟨_, _, _, _, _, rfl, y8, ?_⟩
    intro r5 w9 hn9
    have e9 := hn9.r_eq; have z9 := hn9.size
    have Y8 := Y7.trans y8
    have Y9 := Y8.trans hn9.ext
    have l7 := Y7.le; have l8 := y8.le; have l9 := Y9.le; have lx := hx.le
    have ho9 : Owns w9 w.heap.size [.string a0, .string d0, .bool d1, .slice dp dn dc] [.str a0, .str a1, .bool a2, .ints a3z] fx := Owns.append (Owns.str _ _ a0) ((ho'.ext hn9.ext).mono (by omega))
    refine ⟨hn9.ext, ?_⟩
    obtain ⟨p', c', w10, f', hap, hor', hch, hf'⟩ := OwnRows_pushF (P := P) (hor.ext Y9) sliceT_acct (by omega) hn9.blk rfl ho9 hnd (fun q hq hm => by
      have h1 := (ho'.lt q hq).1
      have h2 := (hor.lt q hm).2
      omega) (by omega) (by omega)
    have hop : ∀ q ∈ (op.map (·.block)).toList, q ∈ f := by
      obtain ⟨_, _, _, _, _, hf, _⟩ := hor
      intro q hq
      rw [hf]; exact List.mem_append_left _ hq
    have hb3' := (hb3.ext Y9).chg hch (fun hm => hr3 (hop _ hm))
    have hb1' := (hb1.ext Y9).chg hch (fun hm => hr1 (hop _ hm))
    have hX10 : Ext w w10 := (hx.trans Y9).chg hch (fun q hq => (hor.lt q (hop q hq)).1)
    obtain ⟨w11, st11, b11, ch11, sz11⟩ := hb3'.store (P := P) (t := T_s_impl_Acct) (k := 0) (v := .slice p' (j + 1) c') (by kernel_rfl) (by simp) rfl
    have lc := hch.size
    have hlt1 := hb1.lt
    have n3 : r3 ∉ f' := fun hm => by
      rcases hf' r3 hm with h1 | h1 | h1
      · exact hr3 h1
      · have := (ho'.lt r3 h1).1; omega
      · omega
    have n1 : r1 ∉ f' := fun hm => by
      rcases hf' r1 hm with h1 | h1 | h1
      · exact hr1 h1
      · have := (ho'.lt r1 h1).1; omega
      · omega
    refine ⟨_, _, _, w10, hap, w11, st11, exW ⟨by omega, by omega⟩ ⟨⟨j + 1, p', c', f', rfl, by omega, b11, ?_, n3, n1, hb1'.chg ch11 (by simp; omega), hX10.chg ch11 (by simp; omega), by omega⟩, by show n - ((j : Int) + 1).toNat < n - (j : Int).toNat; omega⟩⟩
    rw [hsnoc]
    exact hor'.chg ch11 (fun q hq hm => by simp at hm; subst hm; exact n3 hq)
  · have hjn : j = n := by omega
    subst hjn
    rw [List.take_of_length_le (by omega)] at hor
    obtain ⟨w12, st12, b12, ch12, sz12⟩ := hb1.storeA0 (P := P) (t := T_impl_Book) (xs := [.slice op j oc]) (by kernel_rfl) rfl (by simp [Value.oneCell'])
    refine ⟨_, _, _, hb3.loadA0 (by kernel_rfl), w12, st12, _, _, _, b12.loadA0 (by kernel_rfl), op, oc, f, rfl, hor.chg ch12 (fun q hq hm => by simp at hm; subst hm; exact hr1 hq), hx.chg ch12 (by simp; omega)⟩
end Go.Proofs.YtbgokfhcgcoipaaGreatDoor
namespace Go.Proofs.YtbgokfhcgcoipaaGreatDoor.Sx
open Go Go.RowKit
theorem copies_row {P : Program} {w : World} {dT sT e t : TypeId} {size g o dLen dCap sLen sCap : Nat} {a : Addr} {cur cs : List Value} (hu : P.underlying dT = some (.slice e)) (hs : (P.info? e).map (·.size) = some size)
    (hg : Blk w g t cur) (hn : cs.length = Nat.min sLen dLen * size) (hsrc : ∀ j v, cs[j]? = some v -> w.cell? (a.add j) = some v) (hfit : o + cs.length <= cur.length) (h1 : ∀ v ∈ cs, v.oneCell' = true) :
    ∃ w', Copies P [dT, sT] [.slice (some ⟨g, o, none⟩) dLen dCap, .slice (some a) sLen sCap] (.int .i64 ((Nat.min sLen dLen : Nat) : Int)) w w' /\ Blk w' g t (cur.take o ++ cs ++ cur.drop (o + cs.length)) /\ Chg [g] w w' /\ w'.heap.size = w.heap.size := by
  have hl := run_loadCells_list (P := P) w a cs hsrc
  have hst := run_storeCells_at P g o t cs 0 ⟨cur⟩ w hg (by simpa using hfit) h1
  refine ⟨_, ?_, setRow_heap w g ⟨cur⟩ _ t _ hg, setRow_chg _ _ _, by simp⟩
  unfold Copies
  cases hq : P.info? e with
  | none => simp [hq] at hs
  | some i =>
    have hi : i.size = size := by simpa [hq] using hs
    rw [hn] at hl
    simp only [Builtin.copy_, run_underlying hu, Builtin.lenOf, Builtin.firstCells, sizeOf, typeInfo, hq, hi, hl, hst, Sem.run_bind, Sem.run_pure, Result.andThen_ok, goInt]
    simp [typeInfo, hq, hi, hl, hst, run_underlying hu]
theorem Own.take {w : World} {B : Nat} {e : TypeId} {size : Nat} {p : Option Addr} {n c : Nat} {xs : List Value} (h : Own w B e size p n c xs) {i : Nat} (hi : i <= n) : Own w B e size p i c (xs.take (i * size)) := by
  have hl := h.len
  have him : i * size <= n * size := Nat.mul_le_mul_right _ hi
  refine ⟨by simp; omega, ?_⟩
  rcases h.2 with ⟨h1, h2⟩ | ⟨g, cap, cur, h1, hb, hg, h3, h4, h5, h6⟩
  · simp only [Value.slice.injEq] at h1
    obtain ⟨rfl, rfl, rfl⟩ := h1
    have : i = 0 := by omega
    subst this
    exact .inl ⟨rfl, rfl⟩
  · simp only [Value.slice.injEq] at h1
    obtain ⟨rfl, _, rfl⟩ := h1
    refine .inr ⟨g, c, cur, rfl, hb, hg, by omega, h4, h5, ?_⟩
    rw [<- h6, List.take_take, Nat.min_eq_left him]
theorem Own.pushN {P : Program} {w : World} {B : Nat} {t e : TypeId} {z : Value} {size bytes : Nat} {p : Option Addr} {n c m mc : Nat} {a : Addr} {xs news : List Value} (h : Own w B e size p n c xs)
    (hT : sliceT P t e z size bytes) (hb : B <= w.heap.size) (hcells : ∀ j u, news[j]? = some u -> w.cell? (a.add j) = some u) (hl : news.length = m * size) (h1 : ∀ u ∈ news, u.oneCell' = true)
    (hbytes : (n + m) * bytes <= 140737488355328) (hby : 1 <= bytes) (hm0 : 0 < m) :
    ∃ p' c' w', Appends P [t, t] [.slice p n c, .slice (some a) m mc] (.slice p' (n + m) c') w w' /\ Own w' B e size p' (n + m) c' (xs ++ news) /\ Chg (p.map (·.block)).toList w w' /\
      ((p'.map (·.block) = p.map (·.block) /\ n + m <= c) ∨ ((∀ q, p'.map (·.block) = some q -> w.heap.size <= q) /\ (p = none ∨ c < n + m))) := by
  obtain ⟨hu, hi, hz, hs⟩ := hT
  cases hinf : P.info? e with
  | none => rw [hinf] at hi; cases hi
  | some i =>
    rw [hinf] at hi
    simp only [Option.map_some, Option.some.injEq, Prod.mk.injEq] at hi
    have hnm : n + m <= maxLen := by
      have : n + m <= (n + m) * bytes := Nat.le_mul_of_pos_right _ hby
      simp only [maxLen]; omega
    obtain ⟨v', w', hrun, hown, hgr, _⟩ := run_append_own (P := P) w B t 0 e i z size bytes hu hinf hi.1 hi.2.1 hi.2.2 hz hs (.slice p n c) n xs h a m mc news hl hcells h1 hnm hbytes hb
    have hv : ∃ p' c', v' = .slice p' (n + m) c' := by
      rcases hown.2 with ⟨e1, e2⟩ | ⟨g, cap, cur, e1, _⟩
      · omega
      · exact ⟨_, _, e1⟩
    obtain ⟨p', c', rfl⟩ := hv
    have hob : (Value.slice p n c).ownBlock = p.map (·.block) := by cases p <;> rfl
    refine ⟨p', c', w', hrun, hown, ⟨hgr.os, hgr.tape, hgr.output, hgr.size, fun k hk hn => hgr.block k hk ?_⟩, ?_⟩
    · rw [hob]; intro e; rw [<- e] at hn; simp at hn
    have hrun : (Builtin.append_ #[t, t] 0 #[.slice p n c, .slice (some a) m mc]).run P w = .ok (.slice p' (n + m) c') w' := hrun
    rcases h.2 with ⟨e1, e2⟩ | ⟨g, cap, cur, e1, hB, hg, h3, h4, h5, h6⟩
    · simp only [Value.slice.injEq] at e1
      obtain ⟨rfl, rfl, rfl⟩ := e1
      have h0 := run_append_nil (P := P) w t 0 e i z hu hinf hi.1 a m mc news (by rw [hl, hi.2.1]) hcells (by omega) (by simp only [maxLen] at hnm; omega) (by rw [hi.2.2]; rw [Nat.zero_add] at hbytes; omega)
      rw [h0] at hrun
      injection hrun with hv _
      simp only [Value.slice.injEq] at hv
      exact .inr ⟨fun q hq => by rw [<- hv.1] at hq; simp at hq; omega, .inl rfl⟩
    · simp only [Value.slice.injEq] at e1
      obtain ⟨rfl, _, rfl⟩ := e1
      by_cases hroom : n + m <= c
      · have hsz : n * i.size + news.length <= cur.size := by
          have : (n + m) * size <= c * size := Nat.mul_le_mul_right _ hroom
          rw [hi.2.1, hl, h5, Nat.add_mul] at *
          omega
        have h0 := run_append_room (P := P) w t 0 e i hu hinf g n c cur hg a m mc news (by rw [hl, hi.2.1]) hcells h1 hroom hsz
        rw [h0] at hrun
        injection hrun with hv _
        simp only [Value.slice.injEq] at hv
        exact .inl ⟨by rw [<- hv.1], hroom⟩
      · have holds : ∀ j v, xs[j]? = some v -> w.cell? ((⟨g, 0, none⟩ : Addr).add j) = some v := World.ownsRow.cells h rfl
        have hfit : Builtin.nextslicecap (n + m) c * i.bytes <= 281474976710656 := by
          rw [hi.2.2]; exact growslice_fits (by omega) hbytes
        have h0 := run_append_grow (P := P) w t 0 e i z hu hinf hi.1 ⟨g, 0, none⟩ n c xs (by rw [h.len, hi.2.1]) holds a m mc news (by rw [hl, hi.2.1]) hcells (by omega) (by simp only [maxLen] at hnm; omega) hfit
        rw [h0] at hrun
        injection hrun with hv _
        simp only [Value.slice.injEq] at hv
        exact .inr ⟨fun q hq => by rw [<- hv.1] at hq; simp at hq; omega, .inr (by omega)⟩
theorem Own.growZeros {P : Program} {w : World} {B : Nat} {t tn e : TypeId} {z : Value} {size bytes g i c k : Nat} {xs : List Value} (h : Own w B e size (some ⟨g, 0, none⟩) i c xs)
    (hT : sliceT P t e z size bytes) (htn : P.underlying tn = some (.int .i64)) (hk : 0 < k) (hg : c < i + k) (hbytes : (i + k) * bytes <= 140737488355328) (hby : 1 <= bytes) :
    ∃ r c' w' ys, Appends P [t, tn] [.slice (some ⟨g, 0, none⟩) i c, .int .i64 ((k : Nat) : Int)] (.slice (some ⟨r, 0, none⟩) (i + k) c') w w' /\ Blk w' r e ys /\ ys.length = c' * size /\ i + k <= c' /\ c' <= maxLen /\ ys.take (i * size) = xs /\ w.heap.size <= r /\ Ext w w' := by
  obtain ⟨hu, hi, hz, hs⟩ := hT
  cases hinf : P.info? e with
  | none => rw [hinf] at hi; cases hi
  | some inf =>
    rw [hinf] at hi
    simp only [Option.map_some, Option.some.injEq, Prod.mk.injEq] at hi
    have hnm : i + k <= maxLen := by
      have : i + k <= (i + k) * bytes := Nat.le_mul_of_pos_right _ hby
      simp only [maxLen]; omega
    have hcells : ∀ j u, xs[j]? = some u -> w.drew.cell? ((⟨g, 0, none⟩ : Addr).add j) = some u := World.ownsRow.cells h rfl
    have hold : (Builtin.firstCells inf.size i (.slice (some ⟨g, 0, none⟩) i c)).run P w.drew = .ok xs.toArray w.drew := by
      rw [hi.2.1]
      exact run_firstCells_some w.drew size i ⟨g, 0, none⟩ i c xs h.len hcells
    have hkb : k * inf.bytes <= 281474976710656 := by
      rw [hi.2.2]
      have : k * bytes <= (i + k) * bytes := Nat.mul_le_mul_right _ (by omega)
      omega
    have hr := Lib.run_append_grow_zeros (P := P) w t tn 0 e inf z .i64 .i64 hu htn hinf hi.1 (some ⟨g, 0, none⟩) i c xs hold k hk (by rw [hi.2.1]; exact hs) hg (by simp only [maxLen] at hnm; omega) hkb (by rw [hi.2.2]; exact growslice_fits hg hbytes)
    have hge := grownCap_ge w (i + k) c e
    have hcm : grownCap w (i + k) c e <= maxLen := grownCap_le_maxLen w (i + k) c e hnm
    have hb : Blk (w.drew.alloc (.cells (xs.toArray ++ Builtin.zeroCells z.cells k ++ Builtin.zeroCells z.cells (grownCap w (i + k) c e - (i + k))) e)) w.heap.size e (xs ++ (Builtin.zeroCells z.cells k).toList ++ (Builtin.zeroCells z.cells (grownCap w (i + k) c e - (i + k))).toList) := by
      have := heap_alloc_new w.drew (.cells (xs.toArray ++ Builtin.zeroCells z.cells k ++ Builtin.zeroCells z.cells (grownCap w (i + k) c e - (i + k))) e)
      refine Eq.trans this ?_
      congr 2
      apply Array.ext'
      simp
    refine ⟨_, _, _, _, hr, hb, ?_, hge, hcm, ?_, Nat.le_refl _, ((Below.refl _ _).drew).alloc (Nat.le_refl _) _⟩
    · simp only [List.length_append, Array.length_toList, size_zeroCells, hz, h.len, <- Nat.add_mul]
      congr 1
      omega
    · rw [List.append_assoc, <- h.len, List.take_left]
theorem externs_apart {P : Program} {f : Nat} {fn : Func} {tS tR e tA tB : TypeId} {size a la ca lb cb b off : Nat} {xs ys : List Value} {w : World} (hf : P.funcs[f]? = some fn) (hname : (fn.name == "runtime.NumGoroutine") = false)
    (hb : fn.body.isNone = true) (hn : Extern.findNext fn = none) (he : Extern.find fn = some (Extern.SlicesOverlaps.overlaps #[tS, tS] #[tR])) (ht : P.underlying tS = some (.slice e)) (hz : ∀ w, (Go.sizeOf e).run P w = .ok size w)
    (hA : Blk w a tA xs) (hB : Blk w b tB ys) (hne : a ≠ b) (hy : ys.length ≠ 0) :
    Externs P f [.slice (some ⟨a, 0, none⟩) la ca, .slice (some ⟨b, off, none⟩) lb cb] (.bool false) w w := by
  have hA' : w.heap[a]? = some (.cells ⟨xs⟩ tA (0, 0)) := hA
  have hB' : w.heap[b]? = some (.cells ⟨ys⟩ tB (0, 0)) := hB
  unfold Externs
  rw [run_callFunc_extern hf hname hb hn he]
  rw [Lib.run_overlaps_apart w tS tR e ht size hz ⟨a, 0, none⟩ ⟨b, off, none⟩ la ca lb cb hne tA tB xs.length ys.length (by simp [World.shape?, hA']) (by simp [World.shape?, hB']) hy (by simp [World.frozen?, hA']) (by simp [World.frozen?, hA'])]
  rfl
theorem AllO.ins {w : World} {B k : Nat} {cs : List Value} {x : List D0} {f : List Nat} (hk : cs.length = k) (ho : Owns w B cs x f) : ∀ {css : List (List Value)} {l : List (List D0)} {fs : List (List Nat)} (i : Nat), i <= l.length -> AllO w B k css l fs -> AllO w B k (css.take i ++ cs :: css.drop i) (l.take i ++ x :: l.drop i) (fs.take i ++ f :: fs.drop i)
  | css, l, fs, 0, _, h => by
    simp only [List.take_zero, List.drop_zero, List.nil_append]
    exact ⟨hk, ho, h⟩
  | _ :: _, _ :: _, _ :: _, i + 1, hi, h => ⟨h.1, h.2.1, AllO.ins hk ho i (by simpa using hi) h.2.2⟩
  | [], [], [], i + 1, hi, _ => by simp at hi
  | [], [], _ :: _, _, _, h => h.elim
  | [], _ :: _, _, _, _, h => h.elim
  | _ :: _, [], _, _, _, h => h.elim
  | _ :: _, _ :: _, [], _, _, h => h.elim
theorem AllO.put {w : World} {B k : Nat} {cs : List Value} {x : List D0} {f : List Nat} (hk : cs.length = k) (ho : Owns w B cs x f) : ∀ {css : List (List Value)} {l : List (List D0)} {fs : List (List Nat)} (i : Nat), AllO w B k css l fs -> AllO w B k (css.set i cs) (l.set i x) (fs.set i f)
  | [], [], [], _, _ => trivial
  | _ :: _, _ :: _, _ :: _, 0, h => ⟨hk, ho, h.2.2⟩
  | _ :: _, _ :: _, _ :: _, i + 1, h => ⟨h.1, h.2.1, AllO.put hk ho i h.2.2⟩
  | [], [], _ :: _, _, h => h.elim
  | [], _ :: _, _, _, h => h.elim
  | _ :: _, [], _, _, h => h.elim
  | _ :: _, _ :: _, [], _, h => h.elim
theorem mem_ins {α : Type} {fs : List (List α)} {f : List α} {i : Nat} {y : α} (h : y ∈ (fs.take i ++ f :: fs.drop i).flatten) : y ∈ f ∨ y ∈ fs.flatten := by
  rw [List.flatten_append, List.flatten_cons, List.mem_append, List.mem_append] at h
  rcases h with h | h | h
  · obtain ⟨g, hg, hy⟩ := List.mem_flatten.1 h
    exact .inr (List.mem_flatten.2 ⟨g, List.mem_of_mem_take hg, hy⟩)
  · exact .inl h
  · obtain ⟨g, hg, hy⟩ := List.mem_flatten.1 h
    exact .inr (List.mem_flatten.2 ⟨g, List.mem_of_mem_drop hg, hy⟩)
theorem nodup_ins {α : Type} {fs : List (List α)} {f : List α} (h : fs.flatten.Nodup) (hf : f.Nodup) (hd : ∀ y ∈ f, y ∉ fs.flatten) (i : Nat) : (fs.take i ++ f :: fs.drop i).flatten.Nodup := by
  have e : fs.flatten = (fs.take i).flatten ++ (fs.drop i).flatten := by rw [<- List.flatten_append, List.take_append_drop]
  rw [e] at h hd
  rw [List.nodup_append] at h
  rw [List.flatten_append, List.flatten_cons, List.nodup_append]
  refine ⟨h.1, ?_, ?_⟩
  · rw [List.nodup_append]
    exact ⟨hf, h.2.1, fun a ha b hb e => hd a ha (by rw [e]; exact List.mem_append_right _ hb)⟩
  · intro a ha b hb e
    rcases List.mem_append.1 hb with hb | hb
    · exact hd b hb (by rw [<- e]; exact List.mem_append_left _ ha)
    · exact h.2.2 a ha b hb e
theorem mem_put {α : Type} {fs : List (List α)} {f : List α} {i : Nat} {y : α} (h : y ∈ (fs.set i f).flatten) : y ∈ f ∨ y ∈ fs.flatten := by
  obtain ⟨g, hg, hy⟩ := List.mem_flatten.1 h
  rcases List.mem_or_eq_of_mem_set hg with h1 | h1
  · exact .inr (List.mem_flatten.2 ⟨g, h1, hy⟩)
  · rw [h1] at hy; exact .inl hy
theorem nodup_put {α : Type} {fs : List (List α)} {f : List α} (h : fs.flatten.Nodup) (hf : f.Nodup) (hd : ∀ y ∈ f, y ∉ fs.flatten) (i : Nat) : (fs.set i f).flatten.Nodup := by
  induction fs generalizing i with
  | nil => simp
  | cons g fs ih =>
    rw [List.flatten_cons, List.nodup_append] at h
    cases i with
    | zero =>
      rw [List.set_cons_zero, List.flatten_cons, List.nodup_append]
      exact ⟨hf, h.2.1, fun a ha b hb e => hd a ha (by rw [e, List.flatten_cons]; exact List.mem_append_right _ hb)⟩
    | succ i =>
      rw [List.set_cons_succ, List.flatten_cons, List.nodup_append]
      refine ⟨h.1, ih h.2.1 (fun y hy hm => hd y hy (by rw [List.flatten_cons]; exact List.mem_append_right _ hm)) i, fun a ha b hb e => ?_⟩
      rcases mem_put hb with hb | hb
      · exact hd b hb (by rw [<- e, List.flatten_cons]; exact List.mem_append_left _ ha)
      · exact h.2.2 a ha b hb e
theorem flat_ins {α : Type} {k : Nat} : ∀ {css : List (List α)}, (∀ c ∈ css, c.length = k) -> ∀ (i : Nat) (cs : List α), i <= css.length -> (css.take i ++ cs :: css.drop i).flatten = css.flatten.take (i * k) ++ cs ++ css.flatten.drop (i * k)
  | css, h, 0, cs, _ => by simp
  | c :: css, h, i + 1, cs, hi => by
    have ih := flat_ins (css := css) (fun d hd => h d (List.mem_cons_of_mem _ hd)) i cs (by simpa using hi)
    have hc := h c List.mem_cons_self
    have e : (i + 1) * k = c.length + i * k := by rw [hc, Nat.succ_mul, Nat.add_comm]
    rw [List.take_succ_cons, List.drop_succ_cons, List.cons_append, List.flatten_cons, ih, List.flatten_cons, e, List.take_length_add_append, List.drop_length_add_append]
    simp
theorem OwnRows.ins {w : World} {B : Nat} {e : TypeId} {k : Nat} {p : Option Addr} {n c : Nat} {l : List (List D0)} {f : List Nat} (h : OwnRows w B e k p n c l f) {i : Nat} (hi : i <= n) :
    ∃ xs, Own w B e k p n c xs /\ (∀ v ∈ xs, v.oneCell' = true) /\ ∀ w' p' c' cs x fx, Own w' B e k p' (n + 1) c' (xs.take (i * k) ++ cs ++ xs.drop (i * k)) -> Chg (p.map (·.block)).toList w w' ->
      (p'.map (·.block) = p.map (·.block) ∨ ∀ q, p'.map (·.block) = some q -> w.heap.size <= q) -> cs.length = k -> Owns w' B cs x fx -> fx.Nodup -> (∀ q ∈ fx, q ∉ f) -> (∀ q ∈ fx, p'.map (·.block) ≠ some q) ->
      ∃ f', OwnRows w' B e k p' (n + 1) c' (l.take i ++ x :: l.drop i) f' /\ ∀ q ∈ f', q ∈ f ∨ q ∈ fx ∨ w.heap.size <= q := by
  obtain ⟨hl, css, fs, ha, ho, rfl, hnd⟩ := h
  obtain ⟨hlen, hcl, hfl⟩ := ha.lens
  refine ⟨css.flatten, ho, ha.cells1, ?_⟩
  intro w' p' c' cs x fx ho' hch hp hcs hox hnx hdis hpx
  have hnd1 := List.nodup_append.1 hnd
  have hpin : ∀ q ∈ fs.flatten, q ∉ (p.map (·.block)).toList := fun q hq hm => hnd1.2.2 q hm q hq rfl
  have ha' := AllO.ins hcs hox i (by omega) (ha.chg hch hpin)
  have hlt : ∀ q ∈ fs.flatten, q < w.heap.size := fun q hq => (ha.lt q hq).2
  refine ⟨(p'.map (·.block)).toList ++ (fs.take i ++ fx :: fs.drop i).flatten, ⟨by simp; omega, _, _, ha', by rw [flat_ins hlen i cs (by omega)]; exact ho', rfl, ?_⟩, ?_⟩
  · rw [List.nodup_append]
    refine ⟨by cases p' <;> simp, nodup_ins hnd1.2.1 hnx (fun y hy hm => hdis y hy (List.mem_append_right _ hm)) i, ?_⟩
    intro a ha b hb hab
    subst hab
    have hpa := opt_mem ha
    rcases mem_ins hb with hb | hb
    · exact hpx a hb hpa
    · rcases hp with hp | hp
      · rw [hp] at hpa
        exact hpin a hb (mem_opt hpa)
      · have := hp a hpa
        have := hlt a hb
        omega
  · intro q hq
    rcases List.mem_append.1 hq with hq | hq
    · have hpa := opt_mem hq
      rcases hp with hp | hp
      · rw [hp] at hpa
        exact .inl (List.mem_append_left _ (mem_opt hpa))
      · exact .inr (.inr (hp q hpa))
    · rcases mem_ins hq with hq | hq
      · exact .inr (.inl hq)
      · exact .inl (List.mem_append_right _ hq)
theorem OwnRows.put {w : World} {B : Nat} {e : TypeId} {k : Nat} {p : Option Addr} {n c : Nat} {l : List (List D0)} {f : List Nat} (h : OwnRows w B e k p n c l f) {i : Nat} {x : List D0} (hx : l[i]? = some x) :
    ∃ b xs cs zs, p = some ⟨b, 0, none⟩ /\ B <= b /\ b ∈ f /\ xs.length = i * k /\ cs.length = k /\ Blk w b e (xs ++ cs ++ zs) /\ Reps w cs x /\
      ∀ w' cs' x' f', Chg [b] w w' -> cs'.length = k -> Blk w' b e (xs ++ cs' ++ zs) -> Owns w' B cs' x' f' -> f'.Nodup -> (∀ y ∈ f', y ∉ f) -> ∃ f'', OwnRows w' B e k p n c (l.set i x') f'' /\ ∀ q ∈ f'', q ∈ f ∨ q ∈ f' := by
  obtain ⟨hl, css, fs, ha, ho, rfl, hnd⟩ := h
  have hi : i < l.length := (List.getElem?_eq_some_iff.1 hx).1
  obtain ⟨cs, fi, hcs, hfi, hk, how⟩ := ha.focus i x hx
  obtain ⟨hlen, hcl, hfl⟩ := ha.lens
  obtain ⟨b, ys, rfl, hb, hblk, hyl, hnc, hc, hy⟩ := ho.blk (by omega)
  have hsp := congrArg List.flatten (cons_at hcs)
  rw [List.flatten_append, List.flatten_cons] at hsp
  have hA : (css.take i).flatten.length = i * k := by
    rw [flat_len fun c hc => hlen c (List.mem_of_mem_take hc), List.length_take, Nat.min_eq_left (by omega)]
  have hys : ys = (css.take i).flatten ++ cs ++ ((css.drop (i + 1)).flatten ++ ys.drop (n * k)) := by
    conv => lhs; rw [<- List.take_append_drop (n * k) ys, hy, hsp]
    simp
  have hnd1 := List.nodup_append.1 hnd
  have hpin : ∀ q ∈ fs.flatten, q ∉ [b] := fun q hq hm => hnd1.2.2 q (by simpa using hm) q hq rfl
  rw [hys] at hblk
  refine ⟨b, _, cs, _, rfl, hb, by simp, hA, hk, hblk, how.reps, ?_⟩
  intro w' cs' x' f' hch hk' hblk' how' hnf hdis
  have ha' := AllO.put hk' how' i (ha.chg hch hpin)
  have hset : (css.set i cs').flatten = (css.take i).flatten ++ cs' ++ (css.drop (i + 1)).flatten := by
    rw [List.set_eq_take_append_cons_drop, if_pos (by omega), List.flatten_append, List.flatten_cons, List.append_assoc]
  refine ⟨[b] ++ (fs.set i f').flatten, ⟨by simpa using hl, _, _, ha', ?_, by simp, ?_⟩, ?_⟩
  · rw [hset]
    have hlen2 : ((css.take i).flatten ++ cs' ++ (css.drop (i + 1)).flatten).length = n * k := by
      rw [<- hset, flat_len (k := k) (fun c hc => by
        rcases List.mem_or_eq_of_mem_set hc with h1 | h1
        · exact hlen c h1
        · rw [h1]; exact hk')]
      rw [List.length_set, show css.length = n by omega]
    have hyl2 : ((css.take i).flatten ++ cs' ++ ((css.drop (i + 1)).flatten ++ ys.drop (n * k))).length = c * k := by
      rw [<- hyl]
      conv => rhs; rw [hys]
      simp only [List.length_append, hk, hk']
    have := Own.of_blk' (B := B) (n := n) hblk' hb hyl2 hnc hc
    rwa [<- List.append_assoc, List.take_left' hlen2] at this
  · rw [List.nodup_append]
    refine ⟨by simp, nodup_put hnd1.2.1 hnf (fun y hy hm => hdis y hy (List.mem_append_right _ hm)) i, ?_⟩
    intro a ha b' hb' hab
    subst hab
    rcases mem_put hb' with hb' | hb'
    · exact hdis a hb' (by simp at ha; subst ha; simp)
    · exact hpin a hb' ha
  · intro q hq
    rcases List.mem_append.1 hq with hq | hq
    · exact .inl (by simp at hq; subst hq; simp)
    · rcases mem_put hq with hq | hq
      · exact .inr hq
      · exact .inl (List.mem_append_right _ hq)
end Go.Proofs.YtbgokfhcgcoipaaGreatDoor.Sx
namespace Go.Proofs.YtbgokfhcgcoipaaGreatDoor
open Go Go.Proofs.YtbgokfhcgcoipaaGreatDoor.Sx
theorem sub0g (p : Option Addr) (c k : Nat) : Sx.sub p 0 c k = p := by
  unfold Sx.sub
  split
  · rfl
  · cases p <;> simp [Addr.add]
theorem subS {b i c k : Nat} (h : i < c) : Sx.sub (some ⟨b, 0, none⟩) i c k = some ⟨b, i * k, none⟩ := by
  unfold Sx.sub
  rw [if_neg (by omega)]
  show some ((⟨b, 0, none⟩ : Addr).add (i * k)) = _
  rw [addr_add, Nat.zero_add]
theorem len_copy {α : Type} {cur cs : List α} {o : Nat} (h : o + cs.length <= cur.length) : (cur.take o ++ cs ++ cur.drop (o + cs.length)).length = cur.length := by
  simp only [List.length_append, List.length_take, List.length_drop]
  omega
theorem list_grow {α : Type} {ys A news D : List α} {a m : Nat} (hA : ys.take a = A) (ha : A.length = a) (hm : news.length = m) :
    (((ys.take a ++ news ++ ys.drop (a + m)).take (a + m) ++ D ++ (ys.take a ++ news ++ ys.drop (a + m)).drop (a + m + D.length)).take (a + m + D.length)) = A ++ news ++ D := by
  have h1 : (A ++ news).length = a + m := by simp [ha, hm]
  rw [hA, List.take_left' h1, List.take_left' (by simp [ha, hm]; omega)]
theorem list_shift {α : Type} {ys A news D : List α} {a m : Nat} (hA : ys.take a = A) (hy : a + m <= ys.length) (ha : A.length = a) (hm : news.length = m) :
    (((ys.take (a + m) ++ D ++ ys.drop (a + m + D.length)).take a ++ news ++ (ys.take (a + m) ++ D ++ ys.drop (a + m + D.length)).drop (a + m)).take (a + m + D.length)) = A ++ news ++ D := by
  have h1 : (ys.take (a + m)).length = a + m := by simp; omega
  have h2 : (ys.take (a + m) ++ D ++ ys.drop (a + m + D.length)).take a = A := by
    rw [List.append_assoc, List.take_append_of_le_length (by omega), List.take_take, Nat.min_eq_left (by omega), hA]
  have h3 : (ys.take (a + m) ++ D ++ ys.drop (a + m + D.length)).drop (a + m) = D ++ ys.drop (a + m + D.length) := by
    rw [List.append_assoc, List.drop_left' h1]
  rw [h2, h3, <- List.append_assoc, List.take_left' (by simp [ha, hm]; omega)]
theorem ins_sliceT_Money : sliceT P T_s_impl_Money T_impl_Money (.agg ⟨[.string ByteArray.empty, .bool false, .slice none 0 0]⟩) 3 48 := ⟨by kernel_rfl, by kernel_rfl, rfl, by decide⟩
theorem ins_overlaps_Money {a b off lb cb : Nat} {xs ys : List Value} {w : World} {tA tB : TypeId} (hA : Blk w a tA xs) (hB : Blk w b tB ys) (hne : a ≠ b) (hy : ys.length ≠ 0) :
    Externs P n_slices_overlaps_impl_Money [.slice (some ⟨a, 0, none⟩) 1 1, .slice (some ⟨b, off, none⟩) lb cb] (.bool false) w w :=
  externs_apart Tryz.func303 (by kernel_rfl) (by kernel_rfl) (by kernel_rfl) (by kernel_rfl) (tR := T_bool) (show P.underlying T_s_impl_Money = some (.slice T_impl_Money) by kernel_rfl) (size := 3) (fun w => by
    have h := ins_sliceT_Money.2.1
    cases hq : P.info? T_impl_Money with
    | none => rw [hq] at h; cases h
    | some i =>
      rw [hq] at h
      simp only [Option.map_some, Option.some.injEq, Prod.mk.injEq] at h
      rw [sizeOf_run hq, h.2.1]) hA hB hne hy
theorem ins_Money_c {w : World} {B : Nat} {p : Option Addr} {n c r i : Nat} {xs news : List Value} (h : Own w B T_impl_Money 3 p n c xs) (h1 : ∀ v ∈ xs, v.oneCell' = true) (hr : Blk w r T_impl_Money news) (hl : news.length = 3) (hn1 : ∀ v ∈ news, v.oneCell' = true)
    (hpr : p.map (·.block) ≠ some r) (hi : i <= n) (hB : B <= w.heap.size) (hbytes : (n + 1) * 48 <= 140737488355328) :
    Ret P n_slices_Insert_impl_Money_impl_Money [.slice p n c, .int .i64 ((i : Nat) : Int), .slice (some ⟨r, 0, none⟩) 1 1] w fun v w' => ∃ p' c', v = .slice p' (n + 1) c' /\ Own w' B T_impl_Money 3 p' (n + 1) c' (xs.take (i * 3) ++ news ++ xs.drop (i * 3)) /\ Chg (p.map (·.block)).toList w w' /\
      (p'.map (·.block) = p.map (·.block) ∨ ∀ q, p'.map (·.block) = some q -> w.heap.size <= q) := by
  have hlen := h.len
  have hseg : ∀ W, Ext w W -> ∀ j u, news[j]? = some u -> W.cell? ((⟨r, 0, none⟩ : Addr).add j) = some u := fun W hW j u hj => by rw [addr_add, Nat.zero_add, (hr.ext hW).cell, hj]
  refine slices_Insert_impl_Money_impl_Money_ret ?_
  unfold slices_Insert_impl_Money_impl_Money
  simp only [Int.toNat_natCast, Nat.sub_zero, sub0g]
  refine ⟨⟨by omega, by omega⟩, ifD (fun hh => absurd hh (by decide)) (fun _ => ifD (fun he => ?_) (fun hne => exW ⟨by omega, by omega⟩ (ifD (fun hgr => ?_) (fun hroom => ?_))))⟩
  · have hin : i = n := by omega
    subst hin
    obtain ⟨p', c', w', hrun, hown, hch, hp⟩ := h.pushN (mc := 1) (m := 1) ins_sliceT_Money hB (hseg w (Ext.refl w)) (by rw [hl]) hn1 hbytes (by decide) (by decide)
    refine ⟨p', i + 1, c', w', hrun, p', c', rfl, ?_, hch, ?_⟩
    · rw [List.take_of_length_le (by omega), List.drop_of_length_le (by omega), List.append_nil]
      exact hown
    · rcases hp with ⟨hp, _⟩ | ⟨hp, _⟩
      · exact .inl hp
      · exact .inr hp
  · have hin : i < n := by omega
    obtain ⟨b, ys, rfl, hb, hblk, hyl, hnc, hcm, hy⟩ := h.blk (by omega)
    have hcn : c = n := by omega
    subst hcn
    have hnr : r ≠ b := fun e => hpr (by rw [e]; rfl)
    have hbl := hblk.lt
    refine ⟨⟨by omega, by omega⟩, exW ⟨by omega, by omega⟩ (exW ⟨by omega, by omega⟩ ?_)⟩
    rw [show ((c : Nat) : Int) + ((1 : Nat) : Int) - ((i : Nat) : Int) = ((c + 1 - i : Nat) : Int) by omega]
    obtain ⟨r', c', w1, ys1, hA, hb1, hyl1, hle1, hcm1, htk, hr', hx1⟩ := (h.take (i := i) (by omega)).growZeros (tn := T_int) (k := c + 1 - i) ins_sliceT_Money (by kernel_rfl) (by omega) (by omega) (by rw [show i + (c + 1 - i) = c + 1 by omega]; exact hbytes) (by decide)
    rw [show i + (c + 1 - i) = c + 1 by omega] at hA hle1
    have hAl : (xs.take (i * 3)).length = i * 3 := by simp; omega
    obtain ⟨w2, hC2, hb2, ch2, sz2⟩ := copies_row (P := P) (dT := T_s_impl_Money) (sT := T_s_impl_Money) (e := T_impl_Money) (size := 3) (o := i * 3) (dLen := c + 1 - i) (dCap := c' - i) (sLen := 1) (sCap := 1) (cs := news) (by kernel_rfl) (by kernel_rfl) hb1 (by rw [hl, show Nat.min 1 (c + 1 - i) = 1 from Nat.min_eq_left (by omega)]) (hseg w1 hx1) (by omega) hn1
    have hblk2 := (hblk.ext hx1).chg ch2 (by simp; omega)
    have hdr := Ext.drew w2
    have hD : (xs.drop (i * 3)).length = (c - i) * 3 := by simp; omega
    have hsrc : ∀ j u, (xs.drop (i * 3))[j]? = some u -> w2.drew.cell? ((⟨b, i * 3, none⟩ : Addr).add j) = some u := fun j u hj => by
      rw [addr_add, (hblk2.ext hdr).cell]
      rw [List.getElem?_drop, <- hy, List.getElem?_take] at hj
      split at hj
      · exact hj
      · cases hj
    obtain ⟨w3, hC3, hb3, ch3, sz3⟩ := copies_row (P := P) (dT := T_s_impl_Money) (sT := T_s_impl_Money) (e := T_impl_Money) (size := 3) (o := (i + 1) * 3) (dLen := c + 1 - (i + 1)) (dCap := c' - (i + 1)) (sLen := c - i) (sCap := c - i) (cs := xs.drop (i * 3)) (by kernel_rfl) (by kernel_rfl) (hb2.ext hdr) (by rw [hD, show Nat.min (c - i) (c + 1 - (i + 1)) = c - i from Nat.min_eq_left (by omega)]) hsrc (by simp; omega) (fun v hv => h1 v (List.mem_of_mem_drop hv))
    refine ⟨_, _, _, w1, hA, ⟨by omega, by omega⟩, ((Nat.min 1 (c + 1 - i) : Nat) : Int), w2, ?_, exW ⟨by omega, by omega⟩ ⟨⟨by omega, by omega⟩, ⟨by omega, by omega⟩, ((Nat.min (c - i) (c + 1 - (i + 1)) : Nat) : Int), w3, ?_, _, c', rfl, ?_, ?_, .inr fun q hq => by simp at hq; omega⟩⟩
    · rw [subS (by omega)]; exact hC2
    · rw [show (((i : Nat) : Int) + ((1 : Nat) : Int)).toNat = i + 1 by omega, subS (by omega), subS (by omega)]; exact hC3
    · have hL2 := len_copy (cur := ys1) (cs := news) (o := i * 3) (by omega)
      have hL3 := len_copy (cur := ys1.take (i * 3) ++ news ++ ys1.drop (i * 3 + news.length)) (cs := xs.drop (i * 3)) (o := (i + 1) * 3) (by omega)
      rw [hL2] at hL3
      rw [show (i + 1) * 3 = i * 3 + 3 by omega, hl] at hL3
      have hfin := list_grow (D := xs.drop (i * 3)) (m := 3) htk hAl hl
      have hyl3 := hb3
      rw [show (i + 1) * 3 = i * 3 + 3 by omega, hl] at hb3
      have := Own.of_blk' (B := B) (n := c + 1) (c := c') hb3 (by omega) (hL3.trans hyl1) hle1 hcm1
      rw [show (c + 1) * 3 = i * 3 + 3 + (xs.drop (i * 3)).length by omega, hfin] at this
      exact this
    · have h12 : Ext w w2 := hx1.chg ch2 (by simp; omega)
      exact ((h12.trans hdr).chg ch3 (by simp; omega)).toChg
  · have hin : i < n := by omega
    obtain ⟨b, ys, rfl, hb, hblk, hyl, hnc, hcm, hy⟩ := h.blk (by omega)
    have hnr : r ≠ b := fun e => hpr (by rw [e]; rfl)
    have hD : (xs.drop (i * 3)).length = (n - i) * 3 := by simp; omega
    have hAl : (xs.take (i * 3)).length = i * 3 := by simp; omega
    have hdr := Ext.drew w
    have hsrc : ∀ j u, (xs.drop (i * 3))[j]? = some u -> w.drew.cell? ((⟨b, i * 3, none⟩ : Addr).add j) = some u := fun j u hj => by
      rw [addr_add, (hblk.ext hdr).cell]
      rw [List.getElem?_drop, <- hy, List.getElem?_take] at hj
      split at hj
      · exact hj
      · cases hj
    obtain ⟨w2, hC2, hb2, ch2, sz2⟩ := copies_row (P := P) (dT := T_s_impl_Money) (sT := T_s_impl_Money) (e := T_impl_Money) (size := 3) (o := (i + 1) * 3) (dLen := n + 1 - (i + 1)) (dCap := c - (i + 1)) (sLen := n + 1 - i) (sCap := c - i) (cs := xs.drop (i * 3)) (by kernel_rfl) (by kernel_rfl) (hblk.ext hdr) (by rw [hD, show Nat.min (n + 1 - i) (n + 1 - (i + 1)) = n - i from (Nat.min_eq_right (by omega)).trans (by omega)]) hsrc (by omega) (fun v hv => h1 v (List.mem_of_mem_drop hv))
    have hseg2 : ∀ j u, news[j]? = some u -> w2.cell? ((⟨r, 0, none⟩ : Addr).add j) = some u := fun j u hj => by rw [addr_add, Nat.zero_add, ((hr.ext hdr).chg ch2 (by simpa using hnr)).cell, hj]
    obtain ⟨w3, hC3, hb3, ch3, sz3⟩ := copies_row (P := P) (dT := T_s_impl_Money) (sT := T_s_impl_Money) (e := T_impl_Money) (size := 3) (o := i * 3) (dLen := n + 1 - i) (dCap := c - i) (sLen := 1) (sCap := 1) (cs := news) (by kernel_rfl) (by kernel_rfl) hb2 (by rw [hl, show Nat.min 1 (n + 1 - i) = 1 from Nat.min_eq_left (by omega)]) hseg2 (by simp; omega) hn1
    refine exW ⟨by omega, by omega⟩ ?_
    rw [show (((n : Nat) : Int) + ((1 : Nat) : Int)).toNat = n + 1 by omega]
    refine ⟨⟨by omega, by omega⟩, exW ⟨by omega, by omega⟩ ⟨⟨by omega, by omega⟩, false, w, ?_, ifN (fun _ => exW ⟨by omega, by omega⟩ ⟨⟨by omega, by omega⟩, ⟨by omega, by omega⟩, ((Nat.min (n + 1 - i) (n + 1 - (i + 1)) : Nat) : Int), w2, ?_, ⟨by omega, by omega⟩, ((Nat.min 1 (n + 1 - i) : Nat) : Int), w3, ?_, _, c, rfl, ?_, ?_, .inl rfl⟩) (fun hh => absurd hh (by simp))⟩⟩
    · rw [show (((i : Nat) : Int) + ((1 : Nat) : Int)).toNat = i + 1 by omega, subS (by omega)]
      exact ins_overlaps_Money hr hblk hnr (by omega)
    · rw [show (((i : Nat) : Int) + ((1 : Nat) : Int)).toNat = i + 1 by omega, subS (by omega), subS (by omega)]; exact hC2
    · rw [subS (by omega)]; exact hC3
    · have hA : ys.take (i * 3) = xs.take (i * 3) := by rw [<- hy, List.take_take, Nat.min_eq_left (by omega)]
      have hL2 := len_copy (cur := ys) (cs := xs.drop (i * 3)) (o := (i + 1) * 3) (by omega)
      have hL3 := len_copy (cur := ys.take ((i + 1) * 3) ++ xs.drop (i * 3) ++ ys.drop ((i + 1) * 3 + (xs.drop (i * 3)).length)) (cs := news) (o := i * 3) (by omega)
      rw [hL2] at hL3
      rw [show (i + 1) * 3 = i * 3 + 3 by omega, hl] at hL3
      have hfin := list_shift (D := xs.drop (i * 3)) (m := 3) hA (by omega) hAl hl
      rw [show (i + 1) * 3 = i * 3 + 3 by omega, hl] at hb3
      have := Own.of_blk' (B := B) (n := n + 1) (c := c) hb3 hb (hL3.trans hyl) (by omega) hcm
      rw [show (n + 1) * 3 = i * 3 + 3 + (xs.drop (i * 3)).length by omega, hfin] at this
      exact this
    · exact (hdr.toChg.trans ch2).trans ch3
end Go.Proofs.YtbgokfhcgcoipaaGreatDoor
namespace Go.Proofs.YtbgokfhcgcoipaaGreatDoor
open Go Go.Proofs.YtbgokfhcgcoipaaGreatDoor.Sx
theorem own_pushA {w : World} {B : Nat} {t e : TypeId} {z : Value} {size bytes : Nat} {g n c m mc : Nat} {a : Addr} {xs news : List Value} (h : Sx.Own w B e size (some ⟨g, 0, none⟩) n c xs)
    (hT : sliceT P t e z size bytes) (hb : B <= w.heap.size) (hcells : ∀ j u, news[j]? = some u -> w.cell? (a.add j) = some u) (hl : news.length = m * size) (h1 : ∀ u ∈ news, u.oneCell' = true)
    (hbytes : (n + m) * bytes <= 140737488355328) (hby : 1 <= bytes) :
    ∃ g' c' w', Appends P [t, t] [.slice (some ⟨g, 0, none⟩) n c, .slice (some a) m mc] (.slice (some ⟨g', 0, none⟩) (n + m) c') w w' /\ Sx.Own w' B e size (some ⟨g', 0, none⟩) (n + m) c' (xs ++ news) /\ Chg [g] w w' /\ (g' = g ∨ w.heap.size <= g') := by
  rcases Nat.eq_zero_or_pos m with h0 | h0
  · subst h0
    have hn : news = [] := List.eq_nil_of_length_eq_zero (by simpa using hl)
    subst hn
    obtain ⟨hu, hi, hz, hs⟩ := hT
    cases hinf : P.info? e with
    | none => rw [hinf] at hi; cases hi
    | some i =>
      rw [hinf] at hi
      simp only [Option.map_some, Option.some.injEq, Prod.mk.injEq] at hi
      rcases h.2 with ⟨e1, e2⟩ | ⟨g2, cap, cur, e1, hB, hg, h3, h4, h5, h6⟩
      · simp at e1
      · simp only [Value.slice.injEq, Option.some.injEq, Addr.mk.injEq, and_true, true_and] at e1
        obtain ⟨rfl, rfl⟩ := e1
        have hsz : n * i.size + ([] : List Value).length <= cur.size := by
          have : n * size <= c * size := Nat.mul_le_mul_right _ h3
          simp only [List.length_nil, Nat.add_zero, hi.2.1, h5]
          exact this
        obtain ⟨v', w', hrun, hown, hgr, _⟩ := run_append_own (P := P) w B t 0 e i z size bytes hu hinf hi.1 hi.2.1 hi.2.2 hz hs (.slice (some ⟨g, 0, none⟩) n c) n xs h a 0 mc [] hl hcells h1 (by omega) (by simpa using hbytes) hb
        have hr := run_append_room (P := P) w t 0 e i hu hinf g n c cur hg a 0 mc [] (by simp) hcells h1 (by omega) hsz
        rw [hr] at hrun
        injection hrun with hv hw
        subst hv
        subst hw
        refine ⟨g, c, _, hr, hown, ⟨hgr.os, hgr.tape, hgr.output, hgr.size, fun k hk hn => hgr.block k hk ?_⟩, .inl rfl⟩
        intro e; simp [Value.ownBlock] at e; simp at hn; omega
  · obtain ⟨p', c', w', hA, hO, hC, hP⟩ := Sx.Own.pushN h (mc := mc) hT hb hcells hl h1 hbytes hby h0
    obtain ⟨g', ys, rfl, _⟩ := hO.blk (by omega)
    refine ⟨g', c', w', hA, hO, hC, ?_⟩
    rcases hP with ⟨hp, _⟩ | ⟨hp, _⟩
    · simp at hp; exact .inl hp
    · exact .inr (hp g' rfl)
theorem own_pushS {w : World} {B : Nat} {t e : TypeId} {z : Value} {size bytes : Nat} {g n c m mc : Nat} {q : Option Addr} {xs news : List Value} (h : Sx.Own w B e size (some ⟨g, 0, none⟩) n c xs)
    (hT : sliceT P t e z size bytes) (hb : B <= w.heap.size) (hsrc : (m = 0 /\ q = none) ∨ ∃ a, q = some a /\ ∀ j u, news[j]? = some u -> w.cell? (a.add j) = some u) (hl : news.length = m * size) (h1 : ∀ u ∈ news, u.oneCell' = true)
    (hbytes : (n + m) * bytes <= 140737488355328) (hby : 1 <= bytes) :
    ∃ g' c' w', Appends P [t, t] [.slice (some ⟨g, 0, none⟩) n c, .slice q m mc] (.slice (some ⟨g', 0, none⟩) (n + m) c') w w' /\ Sx.Own w' B e size (some ⟨g', 0, none⟩) (n + m) c' (xs ++ news) /\ Chg [g] w w' /\ (g' = g ∨ w.heap.size <= g') := by
  rcases hsrc with ⟨rfl, rfl⟩ | ⟨a, rfl, hc⟩
  · have hn : news = [] := List.eq_nil_of_length_eq_zero (by simpa using hl)
    subst hn
    obtain ⟨hu, hi, hz, hs⟩ := hT
    cases hinf : P.info? e with
    | none => rw [hinf] at hi; cases hi
    | some i =>
      exact ⟨g, c, w, run_append_none w B t 0 e i size hu hinf _ n mc _ h, by simpa using h, Chg.refl _ _, .inl rfl⟩
  · exact own_pushA h hT hb hc hl h1 hbytes hby
end Go.Proofs.YtbgokfhcgcoipaaGreatDoor
namespace Go.Proofs.YtbgokfhcgcoipaaGreatDoor
open Go Go.Proofs.YtbgokfhcgcoipaaGreatDoor.Sx
def acAt : List (List D0) -> ByteArray -> Nat
  | [], _ => 0
  | x :: r, c => if Op.bytesLess (strOf x).toList c.toList = true then acAt r c + 1 else 0
theorem acAt_unique : ∀ {l : List (List D0)} {c : ByteArray} {k : Nat}, k <= l.length -> (∀ j x, l[j]? = some x -> j < k -> Op.bytesLess (strOf x).toList c.toList = true) -> (∀ x, l[k]? = some x -> Op.bytesLess (strOf x).toList c.toList = false) -> k = acAt l c
  | [], c, k, hk, _, _ => by simp at hk; subst hk; rfl
  | x :: r, c, 0, _, _, h2 => by
    have := h2 x rfl
    unfold acAt
    rw [this]; rfl
  | x :: r, c, k + 1, hk, h1, h2 => by
    have h0 := h1 0 x rfl (by omega)
    have ih := acAt_unique (l := r) (c := c) (k := k) (by simpa using hk) (fun j y hj hlt => h1 (j + 1) y (by simpa using hj) (by omega)) (fun y hy => h2 y (by simpa using hy))
    unfold acAt
    rw [h0, <- ih]; rfl
theorem wide {l : List (List D0)} (h : ∀ x ∈ l, bulks x <= 1048576) : ∀ x ∈ l, bulks x <= 4194304 := fun x hx => Nat.le_trans (h x hx) (by decide)
def openRow (name cur : ByteArray) : List D0 := [.str name, .str cur, .bool false, .ints []]
def openL (l : List (List D0)) (name cur : ByteArray) : List (List D0) := l.take (acAt l name) ++ openRow name cur :: l.drop (acAt l name)
def openOk (l : List (List D0)) (name cur : ByteArray) : Bool := bookOk l && (decide (acctAt l name < 0) && bookOk (openL l name cur))
def openT (l : List (List D0)) (name cur : ByteArray) : List (List D0) := if openOk l name cur then openL l name cur else []
theorem openL_mem {l : List (List D0)} {name cur : ByteArray} {x : List D0} (h : x ∈ openL l name cur) : x ∈ l ∨ x = openRow name cur := by
  unfold openL at h
  rcases List.mem_append.1 h with h | h
  · exact .inl (List.mem_of_mem_take h)
  · rcases List.mem_cons.1 h with h | h
    · exact .inr h
    · exact .inl (List.mem_of_mem_drop h)
theorem openL_code {l : List (List D0)} (hc : ∀ x ∈ l, x.map D0.code = [.str, .str, .bool, .ints]) (name cur : ByteArray) : ∀ x ∈ openL l name cur, x.map D0.code = [.str, .str, .bool, .ints] := fun x hx => by
  rcases openL_mem hx with h | h
  · exact hc x h
  · rw [h]; rfl
theorem openL_bulk {l : List (List D0)} (hb : ∀ x ∈ l, bulks x <= 1048576) {name cur : ByteArray} (s1 : name.size <= 1048576) (s2 : cur.size <= 1048576) : ∀ x ∈ openL l name cur, bulks x <= 4194304 := fun x hx => by
  rcases openL_mem hx with h | h
  · have := hb x h; omega
  · rw [h]
    simp only [openRow, bulks, D0.bulk, List.map_cons, List.map_nil, List.sum_cons, List.sum_nil, List.length_nil]
    omega
theorem bookOk_len {l : List (List D0)} (h : bookOk l = true) : l.length <= 12 := by
  simp only [bookOk, Bool.and_eq_true, decide_eq_true_eq] at h
  exact h.1
theorem bookOk_leg {l : List (List D0)} (h : bookOk l = true) : ∀ x ∈ l, legOk x = true := fun x hx => by
  obtain ⟨i, hi, rfl⟩ := List.getElem_of_mem hx
  simp only [bookOk, Bool.and_eq_true, List.all_eq_true] at h
  have := h.2 i (List.mem_range.2 hi)
  simp only [bookRowOk, Bool.and_eq_true] at this
  rw [getD_row hi] at this
  exact this.1
theorem leg_cnt {x : List D0} (hc : x.map D0.code = [.str, .str, .bool, .ints]) (h : legOk x = true) : cnts x <= 60 := by
  obtain ⟨a, es, he, c1⟩ := code_str hc
  obtain ⟨b, es2, he2, c2⟩ := code_str c1
  obtain ⟨s, es3, he3, c3⟩ := code_bool c2
  obtain ⟨z, es4, he4, c4⟩ := code_ints c3
  have := code_nil c4
  subst this; subst he4; subst he3; subst he2; subst he
  simp only [legOk, Bool.and_eq_true] at h
  have hm := h.2
  simp only [moneyOk, Bool.and_eq_true] at hm
  obtain ⟨_, b', z', he, _, hl⟩ := intOk_enc hm.1.2
  simp only [List.cons.injEq, D0.bool.injEq, D0.ints.injEq, and_true] at he
  obtain ⟨_, rfl⟩ := he
  have he : cnts [.str a, .str b, .bool s, .ints z] = 1 + (1 + (1 + ((z.length : Nat) + 0))) := rfl
  rw [he]
  omega
theorem cntL_maxA {M : Int} (hM : 0 <= M) : ∀ (l : List (List D0)), (∀ x ∈ l, cnts x <= M) -> cntL l <= (l.length : Nat) * M
  | [], _ => by simp [cntL]
  | x :: l, h => by
    have h1 := h x (.head _); have h2 := cntL_maxA hM l fun y hy => h y (.tail _ hy)
    simp only [cntL, List.length_cons, Int.natCast_add, Int.natCast_one, Int.add_mul, Int.one_mul]
    omega
theorem rows0 (w : World) (B : Nat) (e : TypeId) (k : Nat) : OwnRows w B e k none 0 0 [] [] := ⟨rfl, [], [], trivial, Own.nil _ _ _ _, by simp, by simp⟩
theorem own_openRow (w : World) (B : Nat) (name cur : ByteArray) : Owns w B [.string name, .string cur, .bool false, .slice none 0 0] (openRow name cur) [] :=
  Owns.append (Owns.str _ _ name) (Owns.append (Owns.str _ _ cur) (Owns.append (Owns.bool w B false) (Owns.ints (zs := []) (Own.nil w B T_int 1))))
theorem ins3 {wk wa : World} {B n c j r3 : Nat} {p : Option Addr} {l : List (List D0)} {f : List Nat} (how : OwnRows wk B T_impl_Acct 4 p n c l f) (hB : B <= wk.heap.size) (hj : j <= n) (hn : n <= 1000000) (hna : New wk (.cells ⟨[]⟩ T_impl_Acct (0, 0)) r3 wa) :
    ∃ g1 c1 w14, Appends P [T_s_impl_Acct, T_s_impl_Acct] [.slice (some ⟨r3, 0, none⟩) 0 0, .slice p j c] (.slice (some ⟨g1, 0, none⟩) j c1) wa w14 /\ Ext wk w14 /\ j <= c /\
      ∀ (x : List D0) (cs : List Value) (r4 : Nat) (w16 : World), New w14 (.cells ⟨cs⟩ T_impl_Acct (0, 0)) r4 w16 -> cs.length = 4 -> (∀ u ∈ cs, u.oneCell' = true) -> (∀ W, Owns W B cs x []) ->
        ∃ g2 c2 w17, Appends P [T_s_impl_Acct, T_s_impl_Acct] [.slice (some ⟨g1, 0, none⟩) j c1, .slice (some ⟨r4, 0, none⟩) 1 1] (.slice (some ⟨g2, 0, none⟩) (j + 1) c2) w16 w17 /\ Ext wk w17 /\
          ∃ g3 c3 w18 f', Appends P [T_s_impl_Acct, T_s_impl_Acct] [.slice (some ⟨g2, 0, none⟩) (j + 1) c2, .slice (Sx.sub p j c 4) (n - j) (c - j)] (.slice (some ⟨g3, 0, none⟩) (n + 1) c3) w17 w18 /\ OwnRows w18 B T_impl_Acct 4 (some ⟨g3, 0, none⟩) (n + 1) c3 (l.take j ++ x :: l.drop j) f' /\ Ext wk w18 := by
  have hra := hna.r_eq; have hza := hna.size
  obtain ⟨xs, hown, h1, hins⟩ := how.ins (i := j) hj
  have hxl : xs.length = n * 4 := hown.len
  have hle := hown.le
  have hT := sliceT_acct
  -- where the rows come from
  have src : ∀ W, Ext wk W -> (p = none /\ n = 0) ∨ ∃ b, p = some ⟨b, 0, none⟩ /\ Seg W b 0 xs /\ b < wk.heap.size := fun W hW => by
    rcases hown.2 with ⟨e1, e2⟩ | ⟨g, cap, cu, e1, hBg, hg, h3, h4, h5, h6⟩
    · left
      simp only [Value.slice.injEq] at e1
      exact ⟨e1.1, e1.2.1⟩
    · right
      simp only [Value.slice.injEq] at e1
      have hbk : Blk wk g T_impl_Acct cu.toList := by cases cu; exact hg
      have := ((hbk.ext hW).seg).take (n * 4)
      refine ⟨g, e1.1, ?_, hbk.lt⟩
      rw [show xs = cu.toList.take (n * 4) from h6.symm]
      exact this
  obtain ⟨g1, c1, w14, hA1, hO1, ch1, hg1⟩ := own_pushS (m := j) (mc := c) (q := p) (news := xs.take (j * 4)) (Sx.Own.of_blk0 (base := B) (size := 4) (n := 0) hna.blk (by omega) (by simp) (by decide) : Sx.Own wa B T_impl_Acct 4 (some ⟨r3, 0, none⟩) 0 0 []) hT (by omega) (by
      rcases src wa hna.ext with ⟨rfl, h0⟩ | ⟨b, rfl, hs, _⟩
      · exact .inl ⟨by omega, rfl⟩
      · refine .inr ⟨_, rfl, fun i u hi => ?_⟩
        rw [addr_add]
        exact (hs.take (j * 4)) i u hi) (by simp; omega) (fun u hu => h1 u (List.mem_of_mem_take hu)) (by omega) (by decide)
  rw [Nat.zero_add, List.nil_append] at hO1
  rw [Nat.zero_add] at hA1
  have X14 : Ext wk w14 := hna.ext.chg ch1 (by simp; omega)
  refine ⟨g1, c1, w14, hA1, X14, by omega, ?_⟩
  intro x cs r4 w16 hn16 hcl hc1 hox
  have e16 := hn16.r_eq; have z16 := hn16.size
  have l14 := X14.le
  have hg1l : g1 < w14.heap.size := by
    rcases hO1.2 with ⟨e1, e2⟩ | ⟨g, cap, cu, e1, hBg, hg, h3, h4, h5, h6⟩
    · simp at e1
    · simp only [Value.slice.injEq, Option.some.injEq, Addr.mk.injEq, and_true, true_and] at e1
      obtain ⟨rfl, rfl⟩ := e1
      exact (Array.getElem?_eq_some_iff.1 hg).1
  have hg1B : wk.heap.size <= g1 := by rcases hg1 with h | h <;> omega
  obtain ⟨g2, c2, w17, hA2, hO2, ch2, hg2⟩ := own_pushA (m := 1) (mc := 1) (a := ⟨r4, 0, none⟩) (news := cs) (hO1.ext hn16.ext) hT (by omega) (fun i u hi => by rw [addr_add, Nat.zero_add, hn16.blk.cell, hi]) (by rw [hcl]) hc1 (by omega) (by decide)
  have X17 : Ext wk w17 := (X14.trans hn16.ext).chg ch2 (by simp; omega)
  have hg2B : wk.heap.size <= g2 := by rcases hg2 with h | h <;> omega
  refine ⟨g2, c2, w17, hA2, X17, ?_⟩
  have l17 := X17.le
  obtain ⟨g3, c3, w18, hA3, hO3, ch3, hg3⟩ := own_pushS (m := n - j) (mc := c - j) (q := Sx.sub p j c 4) (news := xs.drop (j * 4)) hO2 hT (by omega) (by
      rcases src w17 X17 with ⟨rfl, h0⟩ | ⟨b, rfl, hs, _⟩
      · exact .inl ⟨by omega, by unfold Sx.sub; split <;> rfl⟩
      · by_cases hjc : j < c
        · refine .inr ⟨⟨b, j * 4, none⟩, subS hjc, fun i u hi => ?_⟩
          rw [addr_add]
          have := (hs.drop (j * 4)) i u hi
          rwa [Nat.zero_add] at this
        · refine .inr ⟨⟨b, 0, none⟩, by unfold Sx.sub; rw [if_pos (by omega)], fun i u hi => ?_⟩
          have := (List.getElem?_eq_some_iff.1 hi).1
          simp at this; omega) (by simp; omega) (fun u hu => h1 u (List.mem_of_mem_drop hu)) (by omega) (by decide)
  rw [show j + 1 + (n - j) = n + 1 by omega] at hA3 hO3
  have X18 : Ext wk w18 := X17.chg ch3 (by simp; omega)
  have hg3B : wk.heap.size <= g3 := by rcases hg3 with h | h <;> omega
  obtain ⟨f', hor, _⟩ := hins w18 (some ⟨g3, 0, none⟩) c3 cs x [] hO3 X18.toChg (.inr (fun q hq => by simp at hq; omega)) hcl (hox w18) List.nodup_nil (by simp) (by simp)
  exact ⟨g3, c3, w18, f', hA3, hor, X18⟩
end Go.Proofs.YtbgokfhcgcoipaaGreatDoor
namespace Go.Proofs.YtbgokfhcgcoipaaGreatDoor
open Go Go.Proofs.YtbgokfhcgcoipaaGreatDoor.Sx
def iadd (d e : List D0) : List D0 := if intOk d && intOk e then icap (ival d + ival e) else enc 0
theorem enc0 : enc 0 = [.bool false, .ints []] := by simp [enc, digs_zero]
theorem icap_code (z : Int) : (icap z).map D0.code = [.bool, .ints] := rfl
theorem capL_canon {n : Nat} : Canon (capL (digs n)) /\ (capL (digs n)).length <= 50 := by
  unfold capL
  split
  · exact ⟨digs_canon n, by assumption⟩
  · exact ⟨⟨Limbs.nil, by simp⟩, by simp⟩
theorem icap_ok (z : Int) : intOk (icap z) = true := by
  have h := capL_canon (n := z.natAbs)
  simp only [icap, mkS, intOk, natOk_spec.2 h, Bool.true_and]
  cases decide (z < 0) <;> cases (capL (digs z.natAbs)) <;> simp
theorem mkS_digs {neg : Bool} {m : Nat} {z : Int} (hm : m = z.natAbs) (hs : m ≠ 0 -> neg = decide (z < 0)) : mkS neg (capL (digs m)) = icap z := by
  subst hm
  by_cases h0 : z.natAbs = 0
  · have hz : z = 0 := by omega
    subst hz
    simp [icap, mkS, digs_zero, capL]
  · rw [hs h0]; rfl
theorem impl_intsOk_c {w : World} {xs ys : List Value} {dx dy : List D0} (h : Reps w xs dx) (k : Reps w ys dy) (hc : dx.map D0.code = [.bool, .ints]) (kc : dy.map D0.code = [.bool, .ints]) :
    Ret P n_impl_intsOk [.agg ⟨xs⟩, .agg ⟨ys⟩] w fun v w' => v = .bool (intOk dx && intOk dy) /\ Ext w w' := by
  have hr := h; have kr := k
  obtain ⟨a0, a1p, a1n, a1c, a1z, rfl, rfl, ha⟩ := open_Signed h hc
  obtain ⟨b0, b1p, b1n, b1c, b1z, rfl, rfl, hb⟩ := open_Signed k kc
  refine impl_intsOk_ret ?_
  unfold impl_intsOk
  intro r w1 hn1 r1 w2 hn2
  have x := hn1.ext.trans hn2.ext
  have k0 := hn1.blk.ext hn2.ext; have k1 := hn2.blk
  refine ⟨_, _, _, _, k0.loadA0 (by kernel_rfl), ?_⟩
  refine Ret.at (impl_IntOk_c (hr.ext x) rfl) ?_
  rintro v w3 ⟨hv, y⟩
  subst hv
  refine ⟨_, rfl, fun e => ⟨_, _, _, _, (k1.ext y).loadA0 (by kernel_rfl), ?_⟩, fun e => ⟨by rw [e]; rfl, x.trans y⟩⟩
  refine Ret.at (impl_IntOk_c (kr.ext (x.trans y)) rfl) ?_
  rintro v w4 ⟨hv, y2⟩
  subst hv
  exact ⟨_, rfl, by rw [e]; rfl, (x.trans y).trans y2⟩
end Go.Proofs.YtbgokfhcgcoipaaGreatDoor
namespace Go.Proofs.YtbgokfhcgcoipaaGreatDoor
open Go Go.Proofs.YtbgokfhcgcoipaaGreatDoor.Sx
def sgn (z : Int) : Int := if z < 0 then -1 else if z = 0 then 0 else 1
theorem impl_intSign_c {w : World} {xs : List Value} {z : Int} (h : Reps w xs (enc z)) : Ret P n_impl_intSign [.agg ⟨xs⟩] w fun v w' => v = .int .i64 (sgn z) /\ Ext w w' := by
  obtain ⟨a0, a1p, a1n, a1c, a1z, rfl, hd, ha⟩ := open_Signed h rfl
  simp only [enc, List.cons.injEq, D0.bool.injEq, D0.ints.injEq, and_true] at hd
  obtain ⟨rfl, rfl⟩ := hd
  have hl := ha.1
  have he := isEmpty_digs (n := z.natAbs)
  refine impl_intSign_ret ?_
  unfold impl_intSign
  intro r w1 hn
  have hzero : (a1n = 0) ↔ z = 0 := by
    rw [<- hl, List.length_eq_zero_iff, digs_nil]; omega
  refine ⟨_, _, _, hn.blk.load (by kernel_rfl) rfl, ifD (fun h0 => ⟨?_, hn.ext⟩) (fun h0 => ⟨_, hn.blk.load (by kernel_rfl) rfl, fun e => ⟨?_, hn.ext⟩, fun e => ⟨?_, hn.ext⟩⟩)⟩
  · have : z = 0 := hzero.1 (by omega)
    subst this; rfl
  · have e := of_decide_eq_true e
    simp [sgn, e]
  · have e := of_decide_eq_false e
    have : z ≠ 0 := fun h => h0 (by have := hzero.2 h; omega)
    simp [sgn, e, this]
theorem impl_intNeg_c {w : World} {xs : List Value} {z : Int} (h : Reps w xs (enc z)) (hz : (digs z.natAbs).length <= 10000000) : Ret P n_impl_intNeg [.agg ⟨xs⟩] w fun v w' => ∃ vs' f, v = .agg ⟨vs'⟩ /\ Owns w' w.heap.size vs' (enc (-z)) f /\ f.Nodup /\ Ext w w' := by
  obtain ⟨a0, a1p, a1n, a1c, a1z, rfl, hd, ha⟩ := open_Signed h rfl
  simp only [enc, List.cons.injEq, D0.bool.injEq, D0.ints.injEq, and_true] at hd
  obtain ⟨rfl, rfl⟩ := hd
  have hl := ha.1
  refine impl_intNeg_ret ?_
  unfold impl_intNeg
  intro r w1 hn1 r1 w2 hn2
  have x := hn1.ext.trans hn2.ext
  have D := Ext.drew w2
  have XD := x.trans D
  have k0 := hn1.blk.ext hn2.ext
  have e2 := hn2.r_eq; have s1 := hn1.size; have s2 := hn2.size
  refine ⟨_, fun W hW => (k0.ext (D.trans hW)).load (by kernel_rfl) rfl, _, _, _, fun W hW => (k0.ext (D.trans hW)).load (by kernel_rfl) rfl, ?_⟩
  refine Ret.at (impl_natCopy_c (ha.ext XD) (by omega)) ?_
  rintro v w3 ⟨p, c, hv, ho, y3⟩
  subst hv
  refine ⟨_, _, _, rfl, y3, ?_⟩
  refine Ret.at (impl_signed_c ho.ints.1) ?_
  rintro v w4 ⟨hv, y4⟩
  subst hv
  have lD := D.le
  obtain ⟨w5, st, hb5, ch, sz⟩ := (((hn2.blk.ext D).ext y3).ext y4).storeA0 (P := P) (t := T_impl_Signed) (xs := [.bool (!(decide (z < 0)) && !(digs z.natAbs).isEmpty), .slice p a1n c]) (by kernel_rfl) rfl (by simp [Value.oneCell'])
  refine ⟨_, _, _, _, rfl, w5, st, _, _, _, _, hb5.loadA0 (by kernel_rfl), _, _, rfl, ?_, nodup_opt p, ((XD.trans y3).trans y4).chg ch (by simp; omega)⟩
  have eb : (!(decide (z < 0)) && !(digs z.natAbs).isEmpty) = decide (-z < 0) := by
    rw [isEmpty_digs]
    by_cases h0 : z = 0
    · subst h0; rfl
    · by_cases h1 : z < 0
      · have : ¬ (-z < 0) := by omega
        simp [h1]; omega
      · have h2 : z.natAbs ≠ 0 := by omega
        simp [h1, h0]; omega
  rw [eb]
  have := ((Owns.int2 (b := decide (-z < 0)) (ho.ext y4)).chg1 ch (by omega)).mono (B' := w.heap.size) (by omega)
  unfold enc
  rw [Int.natAbs_neg]
  exact this
theorem impl_intCmp_c {w : World} {xs ys : List Value} {x y : Int} (h : Reps w xs (enc x)) (k : Reps w ys (enc y)) (hx : (digs x.natAbs).length <= 10000000) (hy : (digs y.natAbs).length <= 10000000) :
    Ret P n_impl_intCmp [.agg ⟨xs⟩, .agg ⟨ys⟩] w fun v w' => v = .int .i64 (sgn (x - y)) /\ Ext w w' := by
  have hr := h; have kr := k
  obtain ⟨a0, a1p, a1n, a1c, a1z, rfl, hd, ha⟩ := open_Signed h rfl
  obtain ⟨b0, b1p, b1n, b1c, b1z, rfl, he, hb⟩ := open_Signed k rfl
  refine impl_intCmp_ret ?_
  unfold impl_intCmp
  intro r w1 hn1 r1 w2 hn2
  have X := hn1.ext.trans hn2.ext
  have D := Ext.drew w2
  have XD := X.trans D
  have k0 := hn1.blk.ext hn2.ext; have k1 := hn2.blk
  refine ⟨_, _, _, _, fun W hW => (k0.ext (D.trans hW)).loadA0 (by kernel_rfl), _, _, _, _, fun W hW => (k1.ext (D.trans hW)).loadA0 (by kernel_rfl), ?_⟩
  refine Ret.at (impl_intNeg_c (kr.ext XD) hy) ?_
  rintro v w3 ⟨vs', f, hv, ho, _, y3⟩
  subst hv
  obtain ⟨q0, q1p, q1n, q1c, q1z, rfl, hq, hqi⟩ := open_Signed ho.reps (enc_code _)
  refine ⟨_, _, _, _, rfl, y3, ?_⟩
  refine Ret.at (impl_intAdd_c (hr.ext (XD.trans y3)) ho.reps hx (by rw [Int.natAbs_neg]; exact hy)) ?_
  rintro v w4 ⟨p, n, c, hv, hown, y4⟩
  subst hv
  refine ⟨_, _, _, _, rfl, ?_⟩
  have hs : Reps w4 [.bool (decide (x + -y < 0)), .slice p n c] (enc (x + -y)) := ⟨rfl, ⟨_, _, _, rfl, hown.ints⟩, trivial⟩
  refine Ret.at (impl_intSign_c hs) ?_
  rintro v w5 ⟨hv, y5⟩
  subst hv
  exact ⟨_, rfl, rfl, ((XD.trans y3).trans y4).trans y5⟩
end Go.Proofs.YtbgokfhcgcoipaaGreatDoor
namespace Go.Proofs.YtbgokfhcgcoipaaGreatDoor
open Go Go.Proofs.YtbgokfhcgcoipaaGreatDoor.Sx
theorem moneyOk_int {c : ByteArray} {b : Bool} {z : List Int} (h : moneyOk [.str c, .bool b, .ints z] = true) : intOk [.bool b, .ints z] = true := by
  simp only [moneyOk, Bool.and_eq_true] at h
  exact h.1.2
end Go.Proofs.YtbgokfhcgcoipaaGreatDoor
namespace Go.Proofs.YtbgokfhcgcoipaaGreatDoor
open Go Go.Proofs.YtbgokfhcgcoipaaGreatDoor.Sx
theorem digs_len : ∀ (k : Nat) {n : Nat}, n < 1000000000 ^ k -> (digs n).length <= k
  | 0, n, h => by
    have : n = 0 := by simpa using h
    subst this; simp [digs_zero]
  | k + 1, n, h => by
    by_cases h0 : n = 0
    · subst h0; simp [digs_zero]
    · rw [digs_pos h0, List.length_cons]
      have := digs_len k (n := n / 1000000000) (Nat.div_lt_of_lt_mul (by rw [Nat.mul_comm, <- Nat.pow_succ]; exact h))
      omega
theorem icap_fit {z : Int} (h : (digs z.natAbs).length <= 50) : icap z = enc z := by
  unfold icap capL
  rw [if_pos h]
  simp only [mkS, enc, isEmpty_digs]
  by_cases h0 : z < 0
  · have : z.natAbs ≠ 0 := by omega
    simp [h0]; omega
  · simp [h0]
theorem spec_l04Make_c {w : World} {neg : Bool} {p : Option Addr} {n c : Nat} {z : List Int} (h : IntsR w p n c z) (hl : Limbs z) :
    Ret P n_spec_l04Make [.bool neg, .slice p n c] w fun v w' => ∃ b p n c, v = .agg ⟨[.bool b, .slice p n c]⟩ /\ b = (neg && !(capL (digs (val z).toNat)).isEmpty) /\ Own w' w.heap.size T_int 1 p n c ((capL (digs (val z).toNat)).map (Value.int .i64)) /\ Ext w w' := by
  refine spec_l04Make_ret ?_
  unfold spec_l04Make
  intro r w1 hn1
  refine Ret.at (spec_l02Cap_c (h.ext hn1.ext)) ?_
  rintro v w2 ⟨p', n', c', hv, hw, hr⟩
  subst hv; subst hw
  rw [trimL_eq hl] at hr
  have hn' := hr.1
  have h50 : n' <= 50 := by
    have := (capL_canon (n := (val z).toNat)).2
    omega
  have e1 := hn1.r_eq
  refine ⟨_, _, _, rfl, fun e => ?_, fun e => ?_⟩
  all_goals
    intro r1 w3 hn3
    obtain ⟨p2, c2, w4, g1, g2, g3⟩ := Own.appendI (Own.fresh hn3) hn3.ext.le (hr.ext hn3.ext) (by omega)
    rw [Nat.zero_add] at g1 g2
    rw [List.nil_append] at g2
    have y4 : Ext w2 w4 := g3 w2 hn3.ext (Nat.le_refl _)
    refine ⟨_, _, _, _, g1, ?_⟩
  · obtain ⟨w5, st, hb5, ch, sz⟩ := (hn1.blk.ext y4).storeA0 (P := P) (t := T_impl_Signed) (xs := [.bool (decide ((0 : Int) < (n' : Nat))), .slice p2 n' c2]) (by kernel_rfl) rfl (by simp [Value.oneCell'])
    refine ⟨w5, st, _, _, _, _, hb5.loadA0 (by kernel_rfl), _, _, _, _, rfl, by rw [len_bool hn', e]; rfl, (g2.chg ch (fun q hq => ?_)).mono hn1.ext.le, (hn1.ext.trans y4).chg ch (by simp; omega)⟩
    have := (World.ownsRow.lt g2 q (by rw [<- hq]; cases p2 <;> rfl)).1
    have := hn1.size
    simp; omega
  · obtain ⟨w5, st, hb5, ch, sz⟩ := (hn1.blk.ext y4).storeA0 (P := P) (t := T_impl_Signed) (xs := [.bool false, .slice p2 n' c2]) (by kernel_rfl) rfl (by simp [Value.oneCell'])
    refine ⟨w5, st, _, _, _, _, hb5.loadA0 (by kernel_rfl), _, _, _, _, rfl, by rw [e]; rfl, (g2.chg ch (fun q hq => ?_)).mono hn1.ext.le, (hn1.ext.trans y4).chg ch (by simp; omega)⟩
    have := (World.ownsRow.lt g2 q (by rw [<- hq]; cases p2 <;> rfl)).1
    have := hn1.size
    simp; omega
theorem spec_l04Add_c {w : World} {xs ys : List Value} {x y : Int} (h : Reps w xs (enc x)) (k : Reps w ys (enc y)) (hx : (digs x.natAbs).length <= 1000000) (hy : (digs y.natAbs).length <= 1000000) :
    Ret P n_spec_l04Add [.agg ⟨xs⟩, .agg ⟨ys⟩] w fun v w' => ∃ vs' f, v = .agg ⟨vs'⟩ /\ Owns w' w.heap.size vs' (icap (x + y)) f /\ f.Nodup /\ Ext w w' := by
  obtain ⟨a0, a1p, a1n, a1c, a1z, rfl, hd, ha⟩ := open_Signed h rfl
  obtain ⟨b0, b1p, b1n, b1c, b1z, rfl, he, hb⟩ := open_Signed k rfl
  simp only [enc, List.cons.injEq, D0.bool.injEq, D0.ints.injEq, and_true] at hd he
  obtain ⟨rfl, rfl⟩ := hd
  obtain ⟨rfl, rfl⟩ := he
  have la := ha.1; have lb := hb.1
  have ca := digs_canon x.natAbs; have cb := digs_canon y.natAbs
  have va := val_digs x.natAbs; have vb := val_digs y.natAbs
  refine spec_l04Add_ret ?_
  unfold spec_l04Add
  intro r w1 hn1 r1 w2 hn2 r2 w3 hn3
  have X := (hn1.ext.trans hn2.ext).trans hn3.ext
  have e1 := hn1.r_eq; have e2 := hn2.r_eq; have e3 := hn3.r_eq; have s1 := hn1.size; have s2 := hn2.size; have s3 := hn3.size
  have k0 := (hn1.blk.ext hn2.ext).ext hn3.ext; have k1 := hn2.blk.ext hn3.ext; have k2 := hn3.blk
  have fin : ∀ (W : World) (neg : Bool) (p : Option Addr) (n c : Nat) (z : List Int), IntsR W p n c z -> Limbs z -> Ext w3 W -> (val z).toNat = (x + y).natAbs -> ((val z).toNat ≠ 0 -> neg = decide (x + y < 0)) ->
      Calls P n_spec_l04Make ⟨[.bool neg, .slice p n c]⟩ W fun e_1 wv_7 => ∃ (t170 : Bool) (t171_p : Option Addr) (t171_n : Nat) (t171_c : Nat), e_1 = .returned (.agg #[(.bool t170), (.slice t171_p t171_n t171_c)]) /\
        ∃ wv_8, Stores P T_impl_Signed ⟨r2, 0, none⟩ (.agg #[(.bool t170), (.slice t171_p t171_n t171_c)]) wv_7 wv_8 /\
        ∃ (r0 : Bool) (r1_p : Option Addr) (r1_n : Nat) (r1_c : Nat), Loads P T_impl_Signed ⟨r2, 0, none⟩ (.agg #[(.bool r0), (.slice r1_p r1_n r1_c)]) wv_8 /\ (fun (v : Value) (w' : World) => ∃ vs' f, v = .agg ⟨vs'⟩ /\ Owns w' w.heap.size vs' (icap (x + y)) f /\ f.Nodup /\ Ext w w') (.agg #[(.bool r0), (.slice r1_p r1_n r1_c)]) wv_8 := by
    intro W neg p n c z hz hlz hW hm hs
    refine Ret.at (spec_l04Make_c hz hlz) ?_
    rintro v W2 ⟨b, q, qn, qc, hv, hbb, ho, y2⟩
    subst hv
    have hW0 := hW.le
    obtain ⟨W3, st, hb3, ch, sz⟩ := ((k2.ext hW).ext y2).storeA0 (P := P) (t := T_impl_Signed) (xs := [.bool b, .slice q qn qc]) (by kernel_rfl) rfl (by simp [Value.oneCell'])
    have ow := Owns.int2 (b := b) ho
    rw [hbb] at ow
    have ow2 : Owns W2 W.heap.size [.bool b, .slice q qn qc] (icap (x + y)) (q.map (·.block)).toList := by
      rw [<- mkS_digs hm hs, hbb]; exact ow
    refine ⟨_, _, _, _, rfl, W3, st, _, _, _, _, hb3.loadA0 (by kernel_rfl), _, _, rfl, (ow2.chg1 ch (by omega)).mono (by have := X.le; omega), nodup_opt q, ((X.trans hW).trans y2).chg ch (by simp; omega)⟩
  refine ⟨_, k0.load (by kernel_rfl) rfl, _, k1.load (by kernel_rfl) rfl, fun es => ?_, fun es => ?_⟩
  · have es' : decide (x < 0) = decide (y < 0) := by simpa using es
    have D := Ext.drew w3
    refine ⟨_, fun W hW => (k0.ext (D.trans hW)).load (by kernel_rfl) rfl, _, _, _, fun W hW => (k0.ext (D.trans hW)).load (by kernel_rfl) rfl, _, _, _, fun W hW => (k1.ext (D.trans hW)).load (by kernel_rfl) rfl, ?_⟩
    refine Ret.at (spec_l02Add_c (ha.ext (X.trans D)) (hb.ext (X.trans D)) ca.1 cb.1 (by omega) (by omega)) ?_
    rintro v w4 ⟨p, n, c, o, hv, hr, hlo, hln, hvo, y4⟩
    subst hv
    rw [va, vb] at hvo
    refine ⟨_, _, _, rfl, y4, fin w4 _ p n c o hr hlo (D.trans y4) ?_ ?_⟩
    · by_cases hx0 : x < 0 <;> by_cases hy0 : y < 0 <;> simp [hx0, hy0] at es' <;> omega
    · intro h0
      by_cases hx0 : x < 0 <;> by_cases hy0 : y < 0 <;> simp [hx0, hy0] at es' ⊢ <;> omega
  · have es' : ¬ (decide (x < 0) = decide (y < 0)) := by simpa using es
    refine ⟨_, _, _, k0.load (by kernel_rfl) rfl, _, _, _, k1.load (by kernel_rfl) rfl, ?_⟩
    refine Ret.at (spec_l02Cmp_c (ha.ext X) (hb.ext X)) ?_
    rintro v w4 ⟨hv, y4⟩
    subst hv
    have cv := cmpL_val ca cb
    rw [va, vb] at cv
    have X4 := X.trans y4
    have k0 := k0.ext y4; have k1 := k1.ext y4
    have D := Ext.drew w4
    refine ⟨_, rfl, ifD (fun hge => ?_) (fun hlt => ?_)⟩
    · have hge' : y.natAbs <= x.natAbs := by
        rcases cv with h | h | h <;> omega
      refine ⟨_, fun W hW => (k0.ext (D.trans hW)).load (by kernel_rfl) rfl, _, _, _, fun W hW => (k0.ext (D.trans hW)).load (by kernel_rfl) rfl, _, _, _, fun W hW => (k1.ext (D.trans hW)).load (by kernel_rfl) rfl, ?_⟩
      have hll : b1n <= a1n := by
        rcases Nat.lt_or_ge a1n b1n with h | h
        · have := canon_len ca cb (by omega); omega
        · exact h
      refine Ret.at (spec_l02Sub_c (ha.ext (X4.trans D)) (hb.ext (X4.trans D)) ca.1 cb.1 (by omega) hll (by omega)) ?_
      rintro v w7 ⟨p, n, c, hv, hr, y7⟩
      subst hv
      rw [va, vb] at hr
      have vd := val_digs ((x.natAbs : Int) - y.natAbs).toNat
      refine ⟨_, _, _, rfl, y7, fin w7 _ p n c _ hr (digs_limbs _) ((y4.trans D).trans y7) ?_ ?_⟩
      · by_cases hx0 : x < 0 <;> by_cases hy0 : y < 0 <;> simp [hx0, hy0] at es' <;> omega
      · intro h0
        by_cases hx0 : x < 0 <;> by_cases hy0 : y < 0 <;> simp [hx0, hy0] at es' ⊢ <;> omega
    · have hlt' : x.natAbs < y.natAbs := by
        rcases cv with h | h | h <;> omega
      refine ⟨_, fun W hW => (k1.ext (D.trans hW)).load (by kernel_rfl) rfl, _, _, _, fun W hW => (k1.ext (D.trans hW)).load (by kernel_rfl) rfl, _, _, _, fun W hW => (k0.ext (D.trans hW)).load (by kernel_rfl) rfl, ?_⟩
      have hll : a1n <= b1n := by
        rcases Nat.lt_or_ge b1n a1n with h | h
        · have := canon_len cb ca (by omega); omega
        · exact h
      refine Ret.at (spec_l02Sub_c (hb.ext (X4.trans D)) (ha.ext (X4.trans D)) cb.1 ca.1 (by omega) hll (by omega)) ?_
      rintro v w7 ⟨p, n, c, hv, hr, y7⟩
      subst hv
      rw [va, vb] at hr
      have vd := val_digs ((y.natAbs : Int) - x.natAbs).toNat
      refine ⟨_, _, _, rfl, y7, fin w7 _ p n c _ hr (digs_limbs _) ((y4.trans D).trans y7) ?_ ?_⟩
      · by_cases hx0 : x < 0 <;> by_cases hy0 : y < 0 <;> simp [hx0, hy0] at es' <;> omega
      · intro h0
        by_cases hx0 : x < 0 <;> by_cases hy0 : y < 0 <;> simp [hx0, hy0] at es' ⊢ <;> omega
theorem spec_IntAdd_c {w : World} {xs ys : List Value} {dx dy : List D0} (h : Reps w xs dx) (k : Reps w ys dy) (hc : dx.map D0.code = [.bool, .ints]) (kc : dy.map D0.code = [.bool, .ints]) :
    Ret P n_spec_IntAdd [.agg ⟨xs⟩, .agg ⟨ys⟩] w fun v w' => ∃ vs' f, v = .agg ⟨vs'⟩ /\ Owns w' w.heap.size vs' (iadd dx dy) f /\ f.Nodup /\ Ext w w' := by
  have hr := h; have kr := k
  obtain ⟨a0, a1p, a1n, a1c, a1z, rfl, hd, ha⟩ := open_Signed h hc
  obtain ⟨b0, b1p, b1n, b1c, b1z, rfl, he, hb⟩ := open_Signed k kc
  refine spec_IntAdd_ret ?_
  unfold spec_IntAdd
  intro r w1 hn1 r1 w2 hn2 r2 w3 hn3
  have X := (hn1.ext.trans hn2.ext).trans hn3.ext
  have e1 := hn1.r_eq; have e2 := hn2.r_eq; have e3 := hn3.r_eq; have s1 := hn1.size; have s2 := hn2.size; have s3 := hn3.size
  have k0 := (hn1.blk.ext hn2.ext).ext hn3.ext; have k1 := hn2.blk.ext hn3.ext; have k2 := hn3.blk
  have bad : ∀ W, Ext w3 W -> (intOk dx && intOk dy) = false -> ∃ wv_8, Stores P T_impl_Signed ⟨r2, 0, none⟩ (.agg #[(.bool false), (.slice none 0 0)]) W wv_8 /\
      ∃ (r0 : Bool) (r1_p : Option Addr) (r1_n : Nat) (r1_c : Nat), Loads P T_impl_Signed ⟨r2, 0, none⟩ (.agg #[(.bool r0), (.slice r1_p r1_n r1_c)]) wv_8 /\ (fun (v : Value) (w' : World) => ∃ vs' f, v = .agg ⟨vs'⟩ /\ Owns w' w.heap.size vs' (iadd dx dy) f /\ f.Nodup /\ Ext w w') (.agg #[(.bool r0), (.slice r1_p r1_n r1_c)]) wv_8 := by
    intro W hW hno
    obtain ⟨w5, st, hb5, ch, sz⟩ := (k2.ext hW).storeA0 (P := P) (t := T_impl_Signed) (xs := [.bool false, .slice none 0 0]) (by kernel_rfl) rfl (by simp [Value.oneCell'])
    refine ⟨w5, st, _, _, _, _, hb5.loadA0 (by kernel_rfl), _, _, rfl, ?_, nodup_opt none, (X.trans hW).chg ch (by simp; omega)⟩
    have : iadd dx dy = [.bool false, .ints []] := by rw [iadd, hno, <- enc0]; rfl
    rw [this]
    exact Owns.int2 (z := []) (Own.nil w5 _ T_int 1 : Own w5 w.heap.size T_int 1 none 0 0 (([] : List Int).map (Value.int .i64)))
  refine ⟨_, _, _, _, k0.loadA0 (by kernel_rfl), ?_⟩
  refine Ret.at (spec_IntOk_c (hr.ext X) hc) ?_
  rintro v w4 ⟨hv, y4⟩
  subst hv
  refine ⟨_, rfl, ifN (fun hno => ifT (bad w4 y4 (by simp [hno]))) (fun hok1 => ?_)⟩
  refine ⟨_, _, _, _, (k1.ext y4).loadA0 (by kernel_rfl), ?_⟩
  refine Ret.at (spec_IntOk_c (kr.ext (X.trans y4)) kc) ?_
  rintro v w5 ⟨hv, y5⟩
  subst hv
  refine ⟨_, rfl, ifN (fun hno => bad w5 (y4.trans y5) (by simp [hno])) (fun hok2 => ?_)⟩
  have X5 := (X.trans y4).trans y5
  obtain ⟨ex, _, zx, hx1, cx, lx⟩ := intOk_enc hok1
  obtain ⟨ey, _, zy, hy1, cy, ly⟩ := intOk_enc hok2
  have lenx : (digs (ival dx).natAbs).length <= 50 := by
    rw [ex] at hx1
    simp only [enc, List.cons.injEq, D0.ints.injEq, and_true] at hx1
    rw [hx1.2]; exact lx
  have leny : (digs (ival dy).natAbs).length <= 50 := by
    rw [ey] at hy1
    simp only [enc, List.cons.injEq, D0.ints.injEq, and_true] at hy1
    rw [hy1.2]; exact ly
  refine ⟨_, _, _, _, ((k0.ext y4).ext y5).loadA0 (by kernel_rfl), _, _, _, _, ((k1.ext y4).ext y5).loadA0 (by kernel_rfl), ?_⟩
  refine Ret.at (spec_l04Add_c (x := ival dx) (y := ival dy) (by rw [<- ex]; exact hr.ext X5) (by rw [<- ey]; exact kr.ext X5) (by omega) (by omega)) ?_
  rintro v w6 ⟨vs', f, hv, ho, hnd, y6⟩
  subst hv
  obtain ⟨q0, q1p, q1n, q1c, q1z, rfl, hq, hqi⟩ := open_Signed ho.reps (icap_code _)
  have X6 := X5.trans y6
  have s4 := X5.le; have s34 := y4.le; have s35 := y5.le
  obtain ⟨w7, st, hb7, ch, sz⟩ := (((k2.ext y4).ext y5).ext y6).storeA0 (P := P) (t := T_impl_Signed) (xs := [.bool q0, .slice q1p q1n q1c]) (by kernel_rfl) rfl ho.reps.cells1
  refine ⟨_, _, _, _, rfl, w7, st, _, _, _, _, hb7.loadA0 (by kernel_rfl), _, f, rfl, ?_, hnd, X6.chg ch (by simp; omega)⟩
  have : iadd dx dy = icap (ival dx + ival dy) := by rw [iadd, hok1, hok2]; rfl
  rw [this]
  exact (ho.chg1 ch (by omega)).mono (by omega)
end Go.Proofs.YtbgokfhcgcoipaaGreatDoor
