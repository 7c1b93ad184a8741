/-
  Contracts: currencies.
-/
import Derived.Test.YtfbmjimhjlmhkaaDoorTab
import Derived.Test.YtfbmjimhjlmhkaaDoorCBase
namespace Go.Proofs.YtfbmjimhjlmhkaaDoor
open Go Go.Proofs.YtfbmjimhjlmhkaaDoor.Sx
set_option linter.unusedVariables false
set_option linter.unusedSimpArgs false

def curCells (r : CurRow) : List Value := [.string r.1, .string r.2.1, .int .i64 r.2.2.1, .int .i64 r.2.2.2]
def curZero : CurRow := (ByteArray.empty, ByteArray.empty, 0, 0)
def curFind : List CurRow → ByteArray → CurRow
  | [], _ => curZero
  | r :: l, c => if r.1 = c then r else curFind l c
def curIn (l : List CurRow) (c : ByteArray) : Bool := l.any fun r => decide (r.1 = c)
def curKnown (c : ByteArray) : Bool := curIn implTab c
/-- the program's table lies in its variable -/
def Tab (w : World) : Prop := Seg w 0 0 (implTab.flatMap curCells)
theorem Tab.ext {w w' : World} (h : Tab w) (he : Ext w w') : Tab w' := Seg.ext h he

theorem curIn_drop {l : List CurRow} {c : ByteArray} {j : Nat} (hj : j < l.length) : curIn (l.drop j) c = (decide ((l[j]'hj).1 = c) || curIn (l.drop (j + 1)) c) := by
  rw [List.drop_eq_getElem_cons hj, curIn, List.any_cons]; rfl
theorem curFind_drop {l : List CurRow} {c : ByteArray} {j : Nat} (hj : j < l.length) : curFind (l.drop j) c = if (l[j]'hj).1 = c then l[j]'hj else curFind (l.drop (j + 1)) c := by
  rw [List.drop_eq_getElem_cons hj, curFind]
theorem curFind_fst {c : ByteArray} : ∀ {l : List CurRow}, (∀ r ∈ l, r.1 ≠ ByteArray.empty) → decide ((curFind l c).1 ≠ ByteArray.empty) = curIn l c
  | [], _ => by simp [curFind, curIn, curZero]
  | r :: l, h => by
    unfold curFind
    have hr := h r (.head _)
    have ih := curFind_fst (c := c) fun r hr => h r (.tail _ hr)
    rw [curIn, List.any_cons]
    by_cases he : r.1 = c
    · rw [if_pos he, decide_eq_true hr]; simp [he]
    · rw [if_neg he, ih]; simp [he, curIn]
theorem impl_nonempty : ∀ r ∈ implTab, r.1 ≠ ByteArray.empty := by
  have : (implTab.all fun r => decide (r.1 ≠ ByteArray.empty)) = true := by decide +kernel
  intro r hr
  rw [List.all_eq_true] at this
  exact of_decide_eq_true (this r hr)
theorem flat_row : ∀ (l : List CurRow) (j : Nat) (hj : j < l.length), ((l.flatMap curCells).drop (j * 4)).take 4 = curCells (l[j]'hj)
  | r :: l, 0, _ => by simp [List.flatMap_cons, curCells]
  | r :: l, j + 1, hj => by
    have := flat_row l j (by simpa using hj)
    rw [List.flatMap_cons, show (j + 1) * 4 = 4 + j * 4 by omega, ← List.drop_drop, List.drop_left' (show (curCells r).length = 4 from rfl), this]
    rfl
theorem flat_length : ∀ (l : List CurRow), (l.flatMap curCells).length = l.length * 4
  | [] => rfl
  | r :: l => by rw [List.flatMap_cons, List.length_append, flat_length l, List.length_cons]; simp [curCells]; omega
theorem impl_length : implTab.length = 20 := rfl

set_option maxRecDepth 100000 in
theorem index_cur {j : Nat} (hj : j < implTab.length) {K : Value → Prop} (h : K (.agg ⟨curCells (implTab[j]'hj)⟩)) : indexS P T_20_impl_currency (.agg ⟨implTab.flatMap curCells⟩) (.int .i64 (j : Nat)) K := by
  have hu : P.underlying T_20_impl_currency = some (.array 20 T_impl_currency) := und_T_20_impl_currency
  have hc : P.cellsOf T_impl_currency = 4 := by kernel_rfl
  obtain ⟨fs, hs⟩ := und_T_impl_currency
  have hs : P.underlying T_impl_currency = some (.struct fs) := hs
  have hl := impl_length
  unfold indexS
  rw [hu]
  refine ⟨⟨by omega, by omega⟩, _, ?_, h⟩
  unfold partS
  rw [hs, hc]
  show Value.agg ⟨((implTab.flatMap curCells).drop (((j : Nat) : Int).toNat * 4)).take 4⟩ = _
  rw [Int.toNat_natCast, flat_row]

set_option maxRecDepth 100000 in
theorem impl_currencyOf_c {w : World} (ht : Tab w) (c : ByteArray) :
    Ret P n_impl_currencyOf [.string c] w fun v w' => v = .tuple #[.agg ⟨curCells (curFind implTab c)⟩, .bool (curKnown c)] ∧ Ext w w' := by
  have hlen := impl_length
  refine impl_currencyOf_ret ?_
  unfold impl_currencyOf
  intro r w1 hn1
  have e1 := hn1.r_eq; have s1 := hn1.size
  refine ⟨_, loadsA (by rw [flat_length]; kernel_rfl) (ht.ext hn1.ext), ?_⟩
  refine ⟨fun i wr => ∃ j : Nat, i = j ∧ j ≤ 20 ∧ Ext w1 wr ∧ curFind implTab c = curFind (implTab.drop j) c ∧ curKnown c = curIn (implTab.drop j) c, fun i _ => 20 - i.toNat, ⟨0, rfl, by omega, Ext.refl _, rfl, rfl⟩, ?_⟩
  intro junk wr i ⟨j, hij, hj, hx, hf, hk⟩
  subst hij
  have lx := hx.le
  refine ifD (fun hlt => ?_) (fun hge => ?_)
  · have hjl : j < implTab.length := by omega
    rw [curFind_drop hjl] at hf
    rw [curIn_drop hjl] at hk
    apply index_cur hjl
    intro r1 w2 hn2
    obtain ⟨w3, st, hb3, y3⟩ := hn2.fill (P := P) (t := T_impl_currency) (xs := curCells (implTab[j]'hjl)) (by simp [curCells, Value.oneCell']) (by kernel_rfl) rfl
    refine ⟨w3, st, _, hb3.loadAt 0 rfl (by kernel_rfl) rfl, ifD (fun heq => ?_) (fun hne => ?_)⟩
    · have hf := hf.trans (if_pos heq)
      rw [decide_eq_true heq, Bool.true_or] at hk
      obtain ⟨w4, st4, hb4, ch, sz⟩ := (hn1.blk.ext (hx.trans y3)).storeA0 (P := P) (t := T_impl_currency) (xs := curCells (implTab[j]'hjl)) (by kernel_rfl) rfl (by simp [curCells, Value.oneCell'])
      refine ⟨_, _, _, _, hb3.loadA0 (by kernel_rfl), w4, st4, _, _, _, _, hb4.loadA0 (by kernel_rfl), ?_, ((hn1.ext.trans hx).trans y3).chg ch (by simp; omega)⟩
      rw [hf, hk]; rfl
    · have hf := hf.trans (if_neg hne)
      rw [decide_eq_false hne, Bool.false_or] at hk
      refine exW ⟨by omega, by omega⟩ ⟨⟨j + 1, by omega, by omega, hx.trans y3, hf, hk⟩, ?_⟩
      show 20 - ((j : Int) + 1).toNat < 20 - (j : Int).toNat
      omega
  · rw [List.drop_of_length_le (by omega)] at hf hk
    obtain ⟨w4, st4, hb4, ch, sz⟩ := (hn1.blk.ext hx).storeA0 (P := P) (t := T_impl_currency) (xs := curCells curZero) (by kernel_rfl) rfl (by simp [curCells, Value.oneCell'])
    refine ⟨w4, st4, _, _, _, _, hb4.loadA0 (by kernel_rfl), ?_, (hn1.ext.trans hx).chg ch (by simp; omega)⟩
    rw [hf, hk]; rfl

theorem impl_CurKnown_c {w : World} (ht : Tab w) (c : ByteArray) :
    Ret P n_impl_CurKnown [.string c] w fun v w' => v = .bool (curKnown c) ∧ Ext w w' := by
  refine impl_CurKnown_ret ?_
  unfold impl_CurKnown
  refine Ret.at (impl_currencyOf_c ht c) ?_
  rintro v w1 ⟨hv, y1⟩
  subst hv
  refine ⟨_, _, _, _, _, rfl, ?_⟩
  intro r w2 hn2
  obtain ⟨w3, st, hb3, y3⟩ := hn2.fill (P := P) (t := T_impl_currency) (xs := curCells (curFind implTab c)) (by simp [curCells, Value.oneCell']) (by kernel_rfl) rfl
  exact ⟨w3, st, rfl, y1.trans y3⟩

theorem spec_nonempty : ∀ r ∈ specTab, r.1 ≠ ByteArray.empty := by
  have : (specTab.all fun r => decide (r.1 ≠ ByteArray.empty)) = true := by decide +kernel
  intro r hr
  rw [List.all_eq_true] at this
  exact of_decide_eq_true (this r hr)
theorem spec_known (c : ByteArray) : curIn specTab c = curKnown c := by
  have h1 : (specTab.all fun r => curIn implTab r.1) = true := by decide +kernel
  have h2 : (implTab.all fun r => curIn specTab r.1) = true := by decide +kernel
  rw [List.all_eq_true] at h1 h2
  have key : ∀ {a b : List CurRow}, (∀ r ∈ a, curIn b r.1 = true) → curIn a c = true → curIn b c = true := by
    intro a b h hc
    unfold curIn at hc
    rw [List.any_eq_true] at hc
    obtain ⟨r, hr, he⟩ := hc
    have he := of_decide_eq_true he
    have := h r hr
    rwa [he] at this
  unfold curKnown
  cases h3 : curIn specTab c with
  | true => exact (key h1 h3).symm
  | false =>
    cases h4 : curIn implTab c with
    | false => rfl
    | true => rw [key h2 h4] at h3; cases h3
theorem spec_length : specTab.length = 20 := rfl
theorem spec_l08Find_c {w : World} (c : ByteArray) :
    Ret P n_spec_l08Find [.string c] w fun v w' => v = .agg ⟨curCells (curFind specTab c)⟩ ∧ Ext w w' := by
  have hlen := spec_length
  refine spec_l08Find_ret ?_
  unfold spec_l08Find
  intro r w1 hn1
  have e1 := hn1.r_eq; have s1 := hn1.size
  refine Ret.at (R := fun v w' => ∃ r, v = .slice (some ⟨r, 0, none⟩) 20 20 ∧ Seg w' r 0 (specTab.flatMap curCells) ∧ Ext w1 w') ?_ ?_
  · refine spec_l08Table_ret ?_
    unfold spec_l08Table
    intro r2 w2 hn2
    exact ⟨r2, rfl, hn2.blk.seg, hn2.ext⟩
  rintro v w2 ⟨r2, hv, hseg, y2⟩
  subst hv
  refine ⟨_, _, _, rfl, ?_⟩
  refine ⟨fun i wr => ∃ j : Nat, i = j ∧ j ≤ 20 ∧ Ext w2 wr ∧ curFind specTab c = curFind (specTab.drop j) c, fun i _ => 20 - i.toNat, ⟨0, rfl, by omega, Ext.refl _, rfl⟩, ?_⟩
  intro junk wr i ⟨j, hij, hj, hx, hf⟩
  subst hij
  have lx := hx.le; have ly := y2.le
  refine ifD (fun hlt => ?_) (fun hge => ?_)
  · have hjl : j < specTab.length := by omega
    rw [curFind_drop hjl] at hf
    have hrow : Seg wr r2 (0 + j * 4) (curCells (specTab[j]'hjl)) := by
      rw [← flat_row specTab j hjl]
      exact ((hseg.ext hx).drop (j * 4)).take 4
    refine ⟨⟨by omega, by omega⟩, _, _, _, _, (by simp only [addr_add, Int.toNat_natCast]; exact loadsA (cs := curCells (specTab[j]'hjl)) (by kernel_rfl) hrow), ?_⟩
    intro r1 w3 hn3
    obtain ⟨w4, st, hb4, y4⟩ := hn3.fill (P := P) (t := T_spec_l08Row) (xs := curCells (specTab[j]'hjl)) (by simp [curCells, Value.oneCell']) (by kernel_rfl) rfl
    refine ⟨w4, st, _, hb4.loadAt 0 rfl (by kernel_rfl) rfl, ifD (fun heq => ?_) (fun hne => ?_)⟩
    · have hf := hf.trans (if_pos heq)
      obtain ⟨w5, st5, hb5, ch, sz⟩ := (hn1.blk.ext ((y2.trans hx).trans y4)).storeA0 (P := P) (t := T_spec_l08Row) (xs := curCells (specTab[j]'hjl)) (by kernel_rfl) rfl (by simp [curCells, Value.oneCell'])
      refine ⟨_, _, _, _, hb4.loadA0 (by kernel_rfl), w5, st5, _, _, _, _, hb5.loadA0 (by kernel_rfl), ?_, (((hn1.ext.trans y2).trans hx).trans y4).chg ch (by simp; omega)⟩
      rw [hf]; rfl
    · have hf := hf.trans (if_neg hne)
      refine exW ⟨by omega, by omega⟩ ⟨⟨j + 1, by omega, by omega, hx.trans y4, hf⟩, ?_⟩
      show 20 - ((j : Int) + 1).toNat < 20 - (j : Int).toNat
      omega
  · rw [List.drop_of_length_le (by omega)] at hf
    obtain ⟨w4, st4, hb4, ch, sz⟩ := (hn1.blk.ext (y2.trans hx)).storeA0 (P := P) (t := T_spec_l08Row) (xs := curCells curZero) (by kernel_rfl) rfl (by simp [curCells, Value.oneCell'])
    refine ⟨w4, st4, _, _, _, _, hb4.loadA0 (by kernel_rfl), ?_, ((hn1.ext.trans y2).trans hx).chg ch (by simp; omega)⟩
    rw [hf]; rfl

theorem spec_CurKnown_c {w : World} (c : ByteArray) :
    Ret P n_spec_CurKnown [.string c] w fun v w' => v = .bool (curKnown c) ∧ Ext w w' := by
  refine spec_CurKnown_ret ?_
  unfold spec_CurKnown
  refine Ret.at (spec_l08Find_c c) ?_
  rintro v w1 ⟨hv, y1⟩
  subst hv
  refine ⟨_, _, _, _, rfl, ?_, y1⟩
  rw [← spec_known, ← curFind_fst spec_nonempty]
  rfl

end Go.Proofs.YtfbmjimhjlmhkaaDoor
