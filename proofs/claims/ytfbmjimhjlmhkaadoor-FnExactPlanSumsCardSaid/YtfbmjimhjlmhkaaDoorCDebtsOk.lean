/-
  Contracts: debts: valid.
-/
import Derived.Test.YtfbmjimhjlmhkaaDoorCLegsOk
import Derived.Test.YtfbmjimhjlmhkaaDoorCCmp
namespace Go.Proofs.YtfbmjimhjlmhkaaDoor
open Go Go.Proofs.YtfbmjimhjlmhkaaDoor.Sx
set_option linter.unusedVariables false
set_option linter.unusedSimpArgs false

def debtOk (cur : ByteArray) : List D0 → Bool
  | [.str a, .str b, .str c, .bool s, .ints z] => moneyOk [.str c, .bool s, .ints z] && decide (c = cur) && decide (0 < ival [.bool s, .ints z]) && isWord a && isWord b && !(decide (a = b))
  | _ => false
def debtsOk (cur : ByteArray) (l : List (List D0)) : Bool := curKnown cur && decide (l.length ≤ 20) && l.all (debtOk cur)
theorem moneyOk_int {c : ByteArray} {b : Bool} {z : List Int} (h : moneyOk [.str c, .bool b, .ints z] = true) : intOk [.bool b, .ints z] = true := by
  simp only [moneyOk, Bool.and_eq_true] at h
  exact h.1.2
theorem isign_sgn {z : Int} (h : intOk (enc z) = true) : isign (enc z) = sgn z := by rw [isign_enc h]; rfl
theorem sgn_le {z : Int} : sgn z ≤ 0 ↔ ¬ 0 < z := by
  unfold sgn
  by_cases h1 : z < 0
  · rw [if_pos h1]; omega
  · rw [if_neg h1]
    by_cases h2 : z = 0
    · rw [if_pos h2]; omega
    · rw [if_neg h2]; omega

theorem spec_DebtsOk_c {w : World} (cur : ByteArray) {p : Option Addr} {n c : Nat} {l : List (List D0)} (h : RowsR w 5 p n c l) (hc : ∀ x ∈ l, x.map D0.code = [.str, .str, .str, .bool, .ints]) (hn : n ≤ 1048576) (hb : ∀ x ∈ l, bulks x ≤ 1048576) :
    Ret P n_spec_DebtsOk [.string cur, .slice p n c] w fun v w' => v = .bool (debtsOk cur l) ∧ Ext w w' := by
  have hz := h.1; have hcap := h.2.1; have hcm := h.2.2.1
  refine spec_DebtsOk_ret ?_
  unfold spec_DebtsOk
  refine ⟨fun i wr => ∃ j : Nat, i = j ∧ j ≤ n ∧ Ext w wr ∧ ∀ i (hi : i < l.length), i < j → debtOk cur (l[i]'hi) = true, fun i _ => n - i.toNat, ⟨0, rfl, by omega, Ext.refl _, fun i _ h => absurd h (by omega)⟩, ?_⟩
  intro junk wr i ⟨j, hij, hj, hx, hall⟩
  subst hij
  refine ifD (fun hlt => ?_) (fun hge => ?_)
  · have hjn : j < n := by omega
    have hjl : j < l.length := by omega
    obtain ⟨a, cs, hp, hk, hr, hl⟩ := (h.ext hx).at (P := P) (t := T_impl_Debt) (by kernel_rfl) hjn
    subst hp
    have hrr := hr; have hcode := hc _ (List.getElem_mem hjl); have hbj := hb _ (List.getElem_mem hjl)
    obtain ⟨a0, a1, a2, a3, a4p, a4n, a4c, a4z, rfl, hd, ha⟩ := open_Debt hr hcode
    rw [hd] at hbj
    simp only [bulks, D0.bulk, List.map_cons, List.map_nil, List.sum_cons, List.sum_nil] at hbj
    have bad : debtOk cur [.str a0, .str a1, .str a2, .bool a3, .ints a4z] = false → debtsOk cur l = false := fun h => by
      unfold debtsOk
      rw [all_no hjl (by rw [hd]; exact h), Bool.and_false]
    refine ⟨⟨by omega, by omega⟩, _, _, _, _, _, _, _, by simpa using hl, ?_⟩
    intro r w2 hn2
    obtain ⟨w3, st, hb3, y3⟩ := hn2.fill (P := P) (t := T_impl_Debt) hrr.cells1 (by kernel_rfl) rfl
    have hm : Reps w3 [.string a2, .bool a3, .slice a4p a4n a4c] [.str a2, .bool a3, .ints a4z] := ⟨rfl, rfl, ⟨_, _, _, rfl, ha.ext y3⟩, trivial⟩
    refine ⟨w3, st, _, _, _, _, _, hb3.loadAAt 2 [.string a2, .bool a3, .slice a4p a4n a4c] rfl (by kernel_rfl) rfl, ?_⟩
    refine Ret.at (spec_MoneyOk_c hm rfl) ?_
    rintro v w4 ⟨hv, y4⟩
    subst hv
    have X4 := (hx.trans y3).trans y4
    have hb4 := hb3.ext y4
    refine ⟨_, rfl, ifN (fun hno => ifT (ifT (ifT (ifT (ifT ⟨by rw [bad (by simp only [debtOk, hno, Bool.false_and])], X4⟩))))) (fun h1 => ?_)⟩
    have hio := moneyOk_int h1
    have henc := (intOk_enc hio).1
    refine ⟨_, hb4.loadAt 2 rfl (by kernel_rfl) rfl, ifD (fun hno => ifT (ifT (ifT (ifT ⟨by rw [bad (by simp only [debtOk, decide_eq_false hno, Bool.and_false, Bool.false_and])], X4⟩)))) (fun hcur => ?_)⟩
    have hcur : a2 = cur := by simpa using hcur
    have hs : Reps w4 [.bool a3, .slice a4p a4n a4c] (enc (ival [.bool a3, .ints a4z])) := by
      rw [← henc]
      exact ⟨rfl, ⟨_, _, _, rfl, (ha.ext y3).ext y4⟩, trivial⟩
    refine ⟨_, _, _, _, hb4.loadAAt 3 [.bool a3, .slice a4p a4n a4c] rfl (by kernel_rfl) rfl, ?_⟩
    refine Ret.at (spec_IntSign_c hs (enc_code _)) ?_
    rintro v w5 ⟨hv, y5⟩
    subst hv
    have X5 := X4.trans y5
    have hb5 := hb4.ext y5
    refine ⟨_, rfl, ?_⟩
    rw [isign_sgn (by rw [← henc]; exact hio)]
    refine ifD (fun hno => ifT (ifT (ifT ⟨by rw [bad (by simp only [debtOk, decide_eq_false (sgn_le.1 hno), Bool.and_false, Bool.false_and])], X5⟩))) (fun hpos => ?_)
    have hpos : 0 < ival [.bool a3, .ints a4z] := Decidable.byContradiction fun hh => hpos (sgn_le.2 hh)
    refine ⟨_, hb5.loadAt 0 rfl (by kernel_rfl) rfl, ?_⟩
    refine Ret.at (spec_IsWord_c a0 (by omega) _) ?_
    rintro v w6 ⟨hv, hw⟩
    subst hv; subst hw
    refine ⟨_, rfl, ifN (fun hno => ifT (ifT ⟨by rw [bad (by simp only [debtOk, hno, Bool.and_false, Bool.false_and])], X5⟩)) (fun h4 => ?_)⟩
    refine ⟨_, hb5.loadAt 1 rfl (by kernel_rfl) rfl, ?_⟩
    refine Ret.at (spec_IsWord_c a1 (by omega) _) ?_
    rintro v w7 ⟨hv, hw⟩
    subst hv; subst hw
    refine ⟨_, rfl, ifN (fun hno => ifT ⟨by rw [bad (by simp only [debtOk, hno, Bool.and_false, Bool.false_and])], X5⟩) (fun h5 => ?_)⟩
    refine ⟨_, hb5.loadAt 0 rfl (by kernel_rfl) rfl, _, hb5.loadAt 1 rfl (by kernel_rfl) rfl, ifD (fun heq => ⟨by rw [bad (by simp only [debtOk, decide_eq_true heq, Bool.not_true, Bool.and_false])], X5⟩) (fun hne => ?_)⟩
    refine exW ⟨by omega, by omega⟩ ⟨⟨j + 1, by omega, by omega, X5, fun i hi hij => ?_⟩, ?_⟩
    · rcases Nat.lt_or_ge i j with h3 | h3
      · exact hall i hi h3
      · have : i = j := by omega
        subst this
        rw [hd]
        simp only [debtOk, h1, decide_eq_true hcur, decide_eq_true hpos, h4, h5, decide_eq_false hne, Bool.and_self, Bool.not_false]
    · show n - ((j : Int) + 1).toNat < n - (j : Int).toNat
      omega
  · refine Ret.at (spec_CurKnown_c cur) ?_
    rintro v w1 ⟨hv, y1⟩
    subst hv
    have hlast : l.all (debtOk cur) = true := all_yes fun i hi => hall i hi (by omega)
    refine ⟨_, rfl, fun hk => ⟨?_, hx.trans y1⟩, fun hk => ⟨?_, hx.trans y1⟩⟩
    · unfold debtsOk
      rw [hlast, hk, Bool.and_true, Bool.true_and]
      exact congrArg Value.bool (decide_eq_decide.2 (by omega))
    · unfold debtsOk
      rw [hk, Bool.false_and, Bool.false_and]


theorem impl_DebtsOk_c {w : World} (cur : ByteArray) {p : Option Addr} {n c : Nat} {l : List (List D0)} (h : RowsR w 5 p n c l) (hc : ∀ x ∈ l, x.map D0.code = [.str, .str, .str, .bool, .ints]) (hn : n ≤ 1048576) (hb : ∀ x ∈ l, bulks x ≤ 1048576) (ht : Tab w) :
    Ret P n_impl_DebtsOk [.string cur, .slice p n c] w fun v w' => v = .bool (debtsOk cur l) ∧ Ext w w' := by
  have hz := h.1; have hcap := h.2.1; have hcm := h.2.2.1
  refine impl_DebtsOk_ret ?_
  unfold impl_DebtsOk
  refine Ret.at (impl_CurKnown_c ht cur) ?_
  rintro v w1 ⟨hv, y1⟩
  subst hv
  refine ⟨_, rfl, ifN (fun hno => ifT ⟨?_, y1⟩) (fun hcu => ifD (fun h20 => ⟨?_, y1⟩) (fun h20 => ?_))⟩
  · unfold debtsOk
    rw [hno, Bool.false_and, Bool.false_and]
  · unfold debtsOk
    rw [decide_eq_false (show ¬ l.length ≤ 20 by omega), Bool.and_false, Bool.false_and]
  unfold impl_DebtsOk_j0
  refine ⟨fun i wr => ∃ j : Nat, i = j ∧ j ≤ n ∧ Ext w wr ∧ ∀ i (hi : i < l.length), i < j → debtOk cur (l[i]'hi) = true, fun i _ => n - i.toNat, ⟨0, rfl, by omega, y1, fun i _ h => absurd h (by omega)⟩, ?_⟩
  intro junk wr i ⟨j, hij, hj, hx, hall⟩
  subst hij
  refine ifD (fun hlt => ?_) (fun hge => ?_)
  · have hjn : j < n := by omega
    have hjl : j < l.length := by omega
    obtain ⟨a, cs, hp, hk, hr, hl⟩ := (h.ext hx).at (P := P) (t := T_impl_Debt) (by kernel_rfl) hjn
    subst hp
    have hrr := hr; have hcode := hc _ (List.getElem_mem hjl); have hbj := hb _ (List.getElem_mem hjl)
    obtain ⟨a0, a1, a2, a3, a4p, a4n, a4c, a4z, rfl, hd, ha⟩ := open_Debt hr hcode
    rw [hd] at hbj
    simp only [bulks, D0.bulk, List.map_cons, List.map_nil, List.sum_cons, List.sum_nil] at hbj
    have bad : debtOk cur [.str a0, .str a1, .str a2, .bool a3, .ints a4z] = false → debtsOk cur l = false := fun h => by
      unfold debtsOk
      rw [all_no hjl (by rw [hd]; exact h), Bool.and_false]
    refine ⟨⟨by omega, by omega⟩, _, _, _, _, _, _, _, by simpa using hl, ?_⟩
    intro r w2 hn2
    obtain ⟨w3, st, hb3, y3⟩ := hn2.fill (P := P) (t := T_impl_Debt) hrr.cells1 (by kernel_rfl) rfl
    have hm : Reps w3 [.string a2, .bool a3, .slice a4p a4n a4c] [.str a2, .bool a3, .ints a4z] := ⟨rfl, rfl, ⟨_, _, _, rfl, ha.ext y3⟩, trivial⟩
    refine ⟨w3, st, _, _, _, _, _, hb3.loadAAt 2 [.string a2, .bool a3, .slice a4p a4n a4c] rfl (by kernel_rfl) rfl, ?_⟩
    refine Ret.at (impl_MoneyOk_c (ht.ext (hx.trans y3)) hm rfl) ?_
    rintro v w4 ⟨hv, y4⟩
    subst hv
    have X4 := (hx.trans y3).trans y4
    have hb4 := hb3.ext y4
    refine ⟨_, rfl, ifN (fun hno => ifT (ifT (ifT (ifT (ifT ⟨by rw [bad (by simp only [debtOk, hno, Bool.false_and])], X4⟩))))) (fun h1 => ?_)⟩
    have hio := moneyOk_int h1
    have henc := (intOk_enc hio).1
    refine ⟨_, hb4.loadAt 2 rfl (by kernel_rfl) rfl, ifD (fun hno => ifT (ifT (ifT (ifT ⟨by rw [bad (by simp only [debtOk, decide_eq_false hno, Bool.and_false, Bool.false_and])], X4⟩)))) (fun hcur => ?_)⟩
    have hcur : a2 = cur := by simpa using hcur
    have hs : Reps w4 [.bool a3, .slice a4p a4n a4c] (enc (ival [.bool a3, .ints a4z])) := by
      rw [← henc]
      exact ⟨rfl, ⟨_, _, _, rfl, (ha.ext y3).ext y4⟩, trivial⟩
    refine ⟨_, _, _, _, hb4.loadAAt 3 [.bool a3, .slice a4p a4n a4c] rfl (by kernel_rfl) rfl, ?_⟩
    refine Ret.at (impl_intSign_c hs) ?_
    rintro v w5 ⟨hv, y5⟩
    subst hv
    have X5 := X4.trans y5
    have hb5 := hb4.ext y5
    refine ⟨_, rfl, ?_⟩
    refine ifD (fun hno => ifT (ifT (ifT ⟨by rw [bad (by simp only [debtOk, decide_eq_false (sgn_le.1 hno), Bool.and_false, Bool.false_and])], X5⟩))) (fun hpos => ?_)
    have hpos : 0 < ival [.bool a3, .ints a4z] := Decidable.byContradiction fun hh => hpos (sgn_le.2 hh)
    refine ⟨_, hb5.loadAt 0 rfl (by kernel_rfl) rfl, ?_⟩
    refine Ret.at (impl_IsWord_c a0 (by omega) _) ?_
    rintro v w6 ⟨hv, hw⟩
    subst hv; subst hw
    refine ⟨_, rfl, ifN (fun hno => ifT (ifT ⟨by rw [bad (by simp only [debtOk, hno, Bool.and_false, Bool.false_and])], X5⟩)) (fun h4 => ?_)⟩
    refine ⟨_, hb5.loadAt 1 rfl (by kernel_rfl) rfl, ?_⟩
    refine Ret.at (impl_IsWord_c a1 (by omega) _) ?_
    rintro v w7 ⟨hv, hw⟩
    subst hv; subst hw
    refine ⟨_, rfl, ifN (fun hno => ifT ⟨by rw [bad (by simp only [debtOk, hno, Bool.and_false, Bool.false_and])], X5⟩) (fun h5 => ?_)⟩
    refine ⟨_, hb5.loadAt 0 rfl (by kernel_rfl) rfl, _, hb5.loadAt 1 rfl (by kernel_rfl) rfl, ifD (fun heq => ⟨by rw [bad (by simp only [debtOk, decide_eq_true heq, Bool.not_true, Bool.and_false])], X5⟩) (fun hne => ?_)⟩
    refine exW ⟨by omega, by omega⟩ ⟨⟨j + 1, by omega, by omega, X5, fun i hi hij => ?_⟩, ?_⟩
    · rcases Nat.lt_or_ge i j with h3 | h3
      · exact hall i hi h3
      · have : i = j := by omega
        subst this
        rw [hd]
        simp only [debtOk, h1, decide_eq_true hcur, decide_eq_true hpos, h4, h5, decide_eq_false hne, Bool.and_self, Bool.not_false]
    · show n - ((j : Int) + 1).toNat < n - (j : Int).toNat
      omega
  · refine ⟨?_, hx⟩
    unfold debtsOk
    rw [all_yes fun i hi => hall i hi (by omega), hcu, decide_eq_true (show l.length ≤ 20 by omega)]
    rfl


end Go.Proofs.YtfbmjimhjlmhkaaDoor
