/-
  Contracts: books: valid.
-/
import Derived.Test.YtfbmjimhjlmhkaaDoorCLegsOk
namespace Go.Proofs.YtfbmjimhjlmhkaaDoor
open Go Go.Proofs.YtfbmjimhjlmhkaaDoor.Sx
set_option linter.unusedVariables false
set_option linter.unusedSimpArgs false

def bName : List D0 → ByteArray
  | .str s :: _ => s
  | _ => ByteArray.empty
def bookRowOk (l : List (List D0)) (i : Nat) : Bool := legOk (l.getD i []) && !(decide (0 < i) && !(Op.bytesLess (bName (l.getD (i - 1) [])).toList (bName (l.getD i [])).toList))
def bookOk (l : List (List D0)) : Bool := decide (l.length ≤ 12) && (List.range l.length).all (bookRowOk l)
theorem range_no {f : Nat → Bool} {n i : Nat} (hi : i < n) (h : f i = false) : (List.range n).all f = false := by
  rw [Bool.eq_false_iff]
  intro ha
  rw [List.all_eq_true] at ha
  have := ha i (List.mem_range.2 hi)
  rw [h] at this; cases this
theorem range_yes {f : Nat → Bool} {n : Nat} (h : ∀ i < n, f i = true) : (List.range n).all f = true := by
  rw [List.all_eq_true]
  exact fun i hi => h i (List.mem_range.1 hi)
theorem getD_row {l : List (List D0)} {i : Nat} (h : i < l.length) : l.getD i [] = l[i]'h := by
  rw [List.getD_eq_getElem?_getD, List.getElem?_eq_getElem h]; rfl

theorem spec_BookOk_c {w : World} {p : Option Addr} {n c : Nat} {l : List (List D0)} (h : RowsR w 4 p n c l) (hc : ∀ x ∈ l, x.map D0.code = [.str, .str, .bool, .ints]) (hn : n ≤ 1048576) (hb : ∀ x ∈ l, bulks x ≤ 1048576) :
    Ret P n_spec_BookOk [.agg ⟨[.slice p n c]⟩] w fun v w' => v = .bool (bookOk l) ∧ Ext w w' := by
  have hz := h.1; have hcap := h.2.1; have hcm := h.2.2.1
  refine spec_BookOk_ret ?_
  unfold spec_BookOk
  intro r w1 hn1
  have hrow := h.ext hn1.ext
  refine ⟨_, _, _, hn1.blk.loadAt 0 rfl (by kernel_rfl) rfl, ?_⟩
  refine ⟨fun i wr => ∃ j : Nat, i = j ∧ j ≤ n ∧ Ext w1 wr ∧ ∀ i < j, bookRowOk l i = true, fun i _ => n - i.toNat, ⟨0, rfl, by omega, Ext.refl _, fun i h => absurd h (by omega)⟩, ?_⟩
  intro junk wr i ⟨j, hij, hj, hx, hall⟩
  subst hij
  refine ifD (fun hlt => ?_) (fun hge => ?_)
  · have hjn : j < n := by omega
    have hjl : j < l.length := by omega
    obtain ⟨b, off, hpp, hs⟩ := (hrow.ext hx).2.2.2 (by omega)
    subst hpp
    obtain ⟨cs, hk, hr, hsg⟩ := hs j _ (List.getElem?_eq_getElem hjl)
    have hrr := hr; have hcode := hc _ (List.getElem_mem hjl); have hbj := hb _ (List.getElem_mem hjl)
    obtain ⟨a0, a1, a2, a3p, a3n, a3c, a3z, rfl, hd, ha⟩ := open_Acct hr hcode
    have hgd : l.getD j [] = [.str a0, .str a1, .bool a2, .ints a3z] := by rw [getD_row hjl, hd]
    rw [hd] at hbj
    simp only [bulks, D0.bulk, List.map_cons, List.map_nil, List.sum_cons, List.sum_nil] at hbj
    have first : ∀ i (hi : i < l.length), ∀ W, Ext wr W → Loads P T_string (((⟨b, off, none⟩ : Addr).add (i * 4)).add 0) (.string (bName (l.getD i []))) W := by
      intro i hi W hW
      obtain ⟨cs, hk, hr, hsg⟩ := hs i _ (List.getElem?_eq_getElem hi)
      obtain ⟨a0, a1, a2, a3p, a3n, a3c, a3z, rfl, hd, _⟩ := open_Acct hr (hc _ (List.getElem_mem hi))
      rw [getD_row hi, hd]
      exact (hsg.ext hW).loadAt 0 (by simp [Addr.add]) (by kernel_rfl) rfl
    have bad : bookRowOk l j = false → bookOk l = false := fun h => by
      unfold bookOk
      rw [range_no hjl h, Bool.and_false]
    have hl : Loads P T_impl_Acct ((⟨b, off, none⟩ : Addr).add (j * 4)) (.agg ⟨[.string a0, .string a1, .bool a2, .slice a3p a3n a3c]⟩) wr := by
      rw [addr_add]; exact loadsA (by kernel_rfl) hsg
    refine ⟨⟨by omega, by omega⟩, _, _, _, _, _, _, by simpa using hl, ?_⟩
    intro r1 w2 hn2
    obtain ⟨w3, st, hb3, y3⟩ := hn2.fill (P := P) (t := T_impl_Acct) hrr.cells1 (by kernel_rfl) rfl
    have D := Ext.drew w3
    have y4 := y3.trans D
    have hb4 := hb3.ext D
    have bk := ((hn1.blk.ext hx).ext y4)
    refine ⟨w3, st, _, fun W hW => (hb4.ext hW).loadAt 0 rfl (by kernel_rfl) rfl, ?_⟩
    refine Ret.at (spec_IsWord_c a0 (by omega) _) ?_
    rintro v w4 ⟨hv, hw⟩
    subst hv; subst hw
    refine ⟨_, rfl, ifN (fun hno => ifT (ifT ⟨by rw [bad (by simp only [bookRowOk, hgd, legOk, hno, Bool.false_and])], (hn1.ext.trans hx).trans y4⟩)) (fun h1 => ?_)⟩
    refine ⟨_, _, _, _, _, fun W hW => (hb4.ext hW).loadAAt 1 [.string a1, .bool a2, .slice a3p a3n a3c] rfl (by kernel_rfl) rfl, ?_⟩
    have hm : Reps w3.drew [.string a1, .bool a2, .slice a3p a3n a3c] [.str a1, .bool a2, .ints a3z] := ⟨rfl, rfl, ⟨_, _, _, rfl, ha.ext y4⟩, trivial⟩
    refine Ret.at (spec_MoneyOk_c  hm rfl) ?_
    rintro v w5 ⟨hv, y5⟩
    subst hv
    have X5 := (hx.trans y4).trans y5
    have bk := bk.ext y5
    have hb5 := hb4.ext y5
    refine ⟨_, rfl, ifN (fun hno => ifT ⟨by rw [bad (by simp only [bookRowOk, hgd, legOk, hno, Bool.and_false, Bool.false_and])], hn1.ext.trans X5⟩) (fun h2 => ?_)⟩
    have next : bookRowOk l j = true → ∃ t48 : Int, t48 = IntKind.wrap .i64 ((j : Int) + 1) ∧ (fun (i : Int) (wr : World) => ∃ j : Nat, i = j ∧ j ≤ n ∧ Ext w1 wr ∧ ∀ i < j, bookRowOk l i = true) t48 w5 ∧ (fun (i : Int) (_ : World) => n - i.toNat) t48 w5 < (fun (i : Int) (_ : World) => n - i.toNat) (j : Int) wr := by
      intro hs
      refine exW ⟨by omega, by omega⟩ ⟨⟨j + 1, by omega, by omega, X5, fun i hi => ?_⟩, ?_⟩
      · rcases Nat.lt_or_ge i j with h | h
        · exact hall i h
        · have : i = j := by omega
          subst this; exact hs
      · show n - ((j : Int) + 1).toNat < n - (j : Int).toNat
        omega
    have hleg : legOk (l.getD j []) = true := by rw [hgd]; simp only [legOk, h1, h2, Bool.and_self]
    refine ifD (fun hpos => ?_) (fun hzero => ifF (next ?_))
    · refine ⟨_, _, _, fun W hW => (bk.ext hW).loadAt 0 rfl (by kernel_rfl) rfl, exW ⟨by omega, by omega⟩ ⟨⟨by omega, by omega⟩, bName (l.getD (j - 1) []), fun W hW => ?_, a0, fun W hW => (hb5.ext hW).loadAt 0 rfl (by kernel_rfl) rfl, fun hle => ⟨?_, hn1.ext.trans X5⟩, fun hgt => next ?_⟩⟩
      · have := first (j - 1) (by omega) W ((y4.trans y5).trans hW)
        rw [show ((j : Int) - 1).toNat = j - 1 by omega]
        exact this
      · rw [bad]
        unfold bookRowOk
        rw [hleg, hgd, decide_eq_true (show 0 < j by omega)]
        rw [show (!(Op.bytesLess (bName (l.getD (j - 1) [])).toList (bName [.str a0, .str a1, .bool a2, .ints a3z]).toList)) = true from hle]
        rfl
      · unfold bookRowOk
        rw [hleg, hgd, decide_eq_true (show 0 < j by omega)]
        rw [show (!(Op.bytesLess (bName (l.getD (j - 1) [])).toList (bName [.str a0, .str a1, .bool a2, .ints a3z]).toList)) = false from hgt]
        rfl
    · unfold bookRowOk
      rw [hleg, decide_eq_false (show ¬ 0 < j by omega)]
      rfl
  · refine ⟨_, _, _, (hn1.blk.ext hx).loadAt 0 rfl (by kernel_rfl) rfl, ?_, hn1.ext.trans hx⟩
    unfold bookOk
    rw [range_yes fun i hi => hall i (by omega), Bool.and_true]
    exact congrArg Value.bool (decide_eq_decide.2 (by omega))


theorem impl_BookOk_c {w : World} {p : Option Addr} {n c : Nat} {l : List (List D0)} (h : RowsR w 4 p n c l) (hc : ∀ x ∈ l, x.map D0.code = [.str, .str, .bool, .ints]) (hn : n ≤ 1048576) (hb : ∀ x ∈ l, bulks x ≤ 1048576) (ht : Tab w) :
    Ret P n_impl_BookOk [.agg ⟨[.slice p n c]⟩] w fun v w' => v = .bool (bookOk l) ∧ Ext w w' := by
  have hz := h.1; have hcap := h.2.1; have hcm := h.2.2.1
  refine impl_BookOk_ret ?_
  unfold impl_BookOk
  intro r w1 hn1
  have hrow := h.ext hn1.ext
  refine ⟨_, _, _, hn1.blk.loadAt 0 rfl (by kernel_rfl) rfl, ifD (fun h12 => ⟨?_, hn1.ext⟩) (fun h12 => ?_)⟩
  · unfold bookOk
    rw [decide_eq_false (show ¬ l.length ≤ 12 by omega), Bool.false_and]
  refine ⟨_, _, _, hn1.blk.loadAt 0 rfl (by kernel_rfl) rfl, ?_⟩
  refine ⟨fun i wr => ∃ j : Nat, i = j ∧ j ≤ n ∧ Ext w1 wr ∧ ∀ i < j, bookRowOk l i = true, fun i _ => n - i.toNat, ⟨0, rfl, by omega, Ext.refl _, fun i h => absurd h (by omega)⟩, ?_⟩
  intro junk wr i ⟨j, hij, hj, hx, hall⟩
  subst hij
  refine ifD (fun hlt => ?_) (fun hge => ?_)
  · have hjn : j < n := by omega
    have hjl : j < l.length := by omega
    obtain ⟨b, off, hpp, hs⟩ := (hrow.ext hx).2.2.2 (by omega)
    subst hpp
    obtain ⟨cs, hk, hr, hsg⟩ := hs j _ (List.getElem?_eq_getElem hjl)
    have hrr := hr; have hcode := hc _ (List.getElem_mem hjl); have hbj := hb _ (List.getElem_mem hjl)
    obtain ⟨a0, a1, a2, a3p, a3n, a3c, a3z, rfl, hd, ha⟩ := open_Acct hr hcode
    have hgd : l.getD j [] = [.str a0, .str a1, .bool a2, .ints a3z] := by rw [getD_row hjl, hd]
    rw [hd] at hbj
    simp only [bulks, D0.bulk, List.map_cons, List.map_nil, List.sum_cons, List.sum_nil] at hbj
    have first : ∀ i (hi : i < l.length), ∀ W, Ext wr W → Loads P T_string (((⟨b, off, none⟩ : Addr).add (i * 4)).add 0) (.string (bName (l.getD i []))) W := by
      intro i hi W hW
      obtain ⟨cs, hk, hr, hsg⟩ := hs i _ (List.getElem?_eq_getElem hi)
      obtain ⟨a0, a1, a2, a3p, a3n, a3c, a3z, rfl, hd, _⟩ := open_Acct hr (hc _ (List.getElem_mem hi))
      rw [getD_row hi, hd]
      exact (hsg.ext hW).loadAt 0 (by simp [Addr.add]) (by kernel_rfl) rfl
    have bad : bookRowOk l j = false → bookOk l = false := fun h => by
      unfold bookOk
      rw [range_no hjl h, Bool.and_false]
    have hl : Loads P T_impl_Acct ((⟨b, off, none⟩ : Addr).add (j * 4)) (.agg ⟨[.string a0, .string a1, .bool a2, .slice a3p a3n a3c]⟩) wr := by
      rw [addr_add]; exact loadsA (by kernel_rfl) hsg
    refine ⟨⟨by omega, by omega⟩, _, _, _, _, _, _, by simpa using hl, ?_⟩
    intro r1 w2 hn2
    obtain ⟨w3, st, hb3, y3⟩ := hn2.fill (P := P) (t := T_impl_Acct) hrr.cells1 (by kernel_rfl) rfl
    have D := Ext.drew w3
    have y4 := y3.trans D
    have hb4 := hb3.ext D
    have bk := ((hn1.blk.ext hx).ext y4)
    refine ⟨w3, st, _, fun W hW => (hb4.ext hW).loadAt 0 rfl (by kernel_rfl) rfl, ?_⟩
    refine Ret.at (impl_IsWord_c a0 (by omega) _) ?_
    rintro v w4 ⟨hv, hw⟩
    subst hv; subst hw
    refine ⟨_, rfl, ifN (fun hno => ifT (ifT ⟨by rw [bad (by simp only [bookRowOk, hgd, legOk, hno, Bool.false_and])], (hn1.ext.trans hx).trans y4⟩)) (fun h1 => ?_)⟩
    refine ⟨_, _, _, _, _, fun W hW => (hb4.ext hW).loadAAt 1 [.string a1, .bool a2, .slice a3p a3n a3c] rfl (by kernel_rfl) rfl, ?_⟩
    have hm : Reps w3.drew [.string a1, .bool a2, .slice a3p a3n a3c] [.str a1, .bool a2, .ints a3z] := ⟨rfl, rfl, ⟨_, _, _, rfl, ha.ext y4⟩, trivial⟩
    refine Ret.at (impl_MoneyOk_c (ht.ext ((hn1.ext.trans hx).trans y4)) hm rfl) ?_
    rintro v w5 ⟨hv, y5⟩
    subst hv
    have X5 := (hx.trans y4).trans y5
    have bk := bk.ext y5
    have hb5 := hb4.ext y5
    refine ⟨_, rfl, ifN (fun hno => ifT ⟨by rw [bad (by simp only [bookRowOk, hgd, legOk, hno, Bool.and_false, Bool.false_and])], hn1.ext.trans X5⟩) (fun h2 => ?_)⟩
    have next : bookRowOk l j = true → ∃ t48 : Int, t48 = IntKind.wrap .i64 ((j : Int) + 1) ∧ (fun (i : Int) (wr : World) => ∃ j : Nat, i = j ∧ j ≤ n ∧ Ext w1 wr ∧ ∀ i < j, bookRowOk l i = true) t48 w5 ∧ (fun (i : Int) (_ : World) => n - i.toNat) t48 w5 < (fun (i : Int) (_ : World) => n - i.toNat) (j : Int) wr := by
      intro hs
      refine exW ⟨by omega, by omega⟩ ⟨⟨j + 1, by omega, by omega, X5, fun i hi => ?_⟩, ?_⟩
      · rcases Nat.lt_or_ge i j with h | h
        · exact hall i h
        · have : i = j := by omega
          subst this; exact hs
      · show n - ((j : Int) + 1).toNat < n - (j : Int).toNat
        omega
    have hleg : legOk (l.getD j []) = true := by rw [hgd]; simp only [legOk, h1, h2, Bool.and_self]
    refine ifD (fun hpos => ?_) (fun hzero => ifF (next ?_))
    · refine ⟨_, _, _, fun W hW => (bk.ext hW).loadAt 0 rfl (by kernel_rfl) rfl, exW ⟨by omega, by omega⟩ ⟨⟨by omega, by omega⟩, bName (l.getD (j - 1) []), fun W hW => ?_, a0, fun W hW => (hb5.ext hW).loadAt 0 rfl (by kernel_rfl) rfl, fun hle => ⟨?_, hn1.ext.trans X5⟩, fun hgt => next ?_⟩⟩
      · have := first (j - 1) (by omega) W ((y4.trans y5).trans hW)
        rw [show ((j : Int) - 1).toNat = j - 1 by omega]
        exact this
      · rw [bad]
        unfold bookRowOk
        rw [hleg, hgd, decide_eq_true (show 0 < j by omega)]
        rw [show (!(Op.bytesLess (bName (l.getD (j - 1) [])).toList (bName [.str a0, .str a1, .bool a2, .ints a3z]).toList)) = true from hle]
        rfl
      · unfold bookRowOk
        rw [hleg, hgd, decide_eq_true (show 0 < j by omega)]
        rw [show (!(Op.bytesLess (bName (l.getD (j - 1) [])).toList (bName [.str a0, .str a1, .bool a2, .ints a3z]).toList)) = false from hgt]
        rfl
    · unfold bookRowOk
      rw [hleg, decide_eq_false (show ¬ 0 < j by omega)]
      rfl
  · refine ⟨?_, hn1.ext.trans hx⟩
    unfold bookOk
    rw [range_yes fun i hi => hall i (by omega), decide_eq_true (show l.length ≤ 12 by omega)]
    rfl


end Go.Proofs.YtfbmjimhjlmhkaaDoor
