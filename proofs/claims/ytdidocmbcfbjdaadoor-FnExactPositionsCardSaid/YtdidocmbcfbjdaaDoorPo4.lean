/-
  Parts of the proof of positions_holds: CCmp, CDebtsOk, CSpecInt, DMark, DMarkS, CBookSum, CUndo, CMoneySum, CAcctAt, CSums, CSumsS, CBalanced, CPosI, CPositions, SxFlS, DM, WPositions, SxRow, SxOpen, CTab.
  Conditions: none.
-/
import Derived.Laws.BytesArg
import Derived.ProofKit
import Derived.Deep.Slices
import Derived.Test.YtdidocmbcfbjdaaDoorRows
import Derived.OpenShut
import Derived.Lib.LaidTab
import Derived.Test.YtdidocmbcfbjdaaDoorPo3

namespace Go.Proofs.YtdidocmbcfbjdaaDoor
open Go Go.Proofs.YtdidocmbcfbjdaaDoor.Sx
set_option linter.unusedVariables false
set_option linter.unusedSimpArgs false
def sgn (z : Int) : Int := if z < 0 then -1 else if z = 0 then 0 else 1
theorem impl_intSign_c {w : World} {xs : List Value} {z : Int} (h : Reps w xs (enc z)) : Ret P n_impl_intSign [.agg ⟨xs⟩] w fun v w' => v = .int .i64 (sgn z) ∧ Ext w w' := by
  obtain ⟨a0, a1p, a1n, a1c, a1z, rfl, hd, ha⟩ := open_Signed h rfl
  simp only [enc, List.cons.injEq, D0.bool.injEq, D0.ints.injEq, and_true] at hd
  obtain ⟨rfl, rfl⟩ := hd
  have hl := ha.1
  have he := isEmpty_digs (n := z.natAbs)
  refine impl_intSign_ret ?_
  unfold impl_intSign
  intro r w1 hn
  have hzero : (a1n = 0) ↔ z = 0 := by
    rw [← hl, List.length_eq_zero_iff, digs_nil]; omega
  refine ⟨_, _, _, hn.blk.load (by kernel_rfl) rfl, ifD (fun h0 => ⟨?_, hn.ext⟩) (fun h0 => ⟨_, hn.blk.load (by kernel_rfl) rfl, fun e => ⟨?_, hn.ext⟩, fun e => ⟨?_, hn.ext⟩⟩)⟩
  · have : z = 0 := hzero.1 (by omega)
    subst this; rfl
  · have e := of_decide_eq_true e
    simp [sgn, e]
  · have e := of_decide_eq_false e
    have : z ≠ 0 := fun h => h0 (by have := hzero.2 h; omega)
    simp [sgn, e, this]
theorem impl_intNeg_c {w : World} {xs : List Value} {z : Int} (h : Reps w xs (enc z)) (hz : (digs z.natAbs).length ≤ 10000000) : Ret P n_impl_intNeg [.agg ⟨xs⟩] w fun v w' => ∃ vs' f, v = .agg ⟨vs'⟩ ∧ Owns w' w.heap.size vs' (enc (-z)) f ∧ f.Nodup ∧ Ext w w' := by
  obtain ⟨a0, a1p, a1n, a1c, a1z, rfl, hd, ha⟩ := open_Signed h rfl
  simp only [enc, List.cons.injEq, D0.bool.injEq, D0.ints.injEq, and_true] at hd
  obtain ⟨rfl, rfl⟩ := hd
  have hl := ha.1
  refine impl_intNeg_ret ?_
  unfold impl_intNeg
  intro r w1 hn1 r1 w2 hn2
  have x := hn1.ext.trans hn2.ext
  have D := Ext.drew w2
  have XD := x.trans D
  have k0 := hn1.blk.ext hn2.ext
  have e2 := hn2.r_eq; have s1 := hn1.size; have s2 := hn2.size
  refine ⟨_, fun W hW => (k0.ext (D.trans hW)).load (by kernel_rfl) rfl, _, _, _, fun W hW => (k0.ext (D.trans hW)).load (by kernel_rfl) rfl, ?_⟩
  refine Ret.at (impl_natCopy_c (ha.ext XD) (by omega)) ?_
  rintro v w3 ⟨p, c, hv, ho, y3⟩
  subst hv
  refine ⟨_, _, _, rfl, y3, ?_⟩
  refine Ret.at (impl_signed_c ho.ints.1) ?_
  rintro v w4 ⟨hv, y4⟩
  subst hv
  have lD := D.le
  obtain ⟨w5, st, hb5, ch, sz⟩ := (((hn2.blk.ext D).ext y3).ext y4).storeA0 (P := P) (t := T_impl_Signed) (xs := [.bool (!(decide (z < 0)) && !(digs z.natAbs).isEmpty), .slice p a1n c]) (by kernel_rfl) rfl (by simp [Value.oneCell'])
  refine ⟨_, _, _, _, rfl, w5, st, _, _, _, _, hb5.loadA0 (by kernel_rfl), _, _, rfl, ?_, nodup_opt p, ((XD.trans y3).trans y4).chg ch (by simp; omega)⟩
  have eb : (!(decide (z < 0)) && !(digs z.natAbs).isEmpty) = decide (-z < 0) := by
    rw [isEmpty_digs]
    by_cases h0 : z = 0
    · subst h0; rfl
    · by_cases h1 : z < 0
      · have : ¬ (-z < 0) := by omega
        simp [h1]; omega
      · have h2 : z.natAbs ≠ 0 := by omega
        simp [h1, h0]; omega
  rw [eb]
  have := ((Owns.int2 (b := decide (-z < 0)) (ho.ext y4)).chg1 ch (by omega)).mono (B' := w.heap.size) (by omega)
  unfold enc
  rw [Int.natAbs_neg]
  exact this
end Go.Proofs.YtdidocmbcfbjdaaDoor

namespace Go.Proofs.YtdidocmbcfbjdaaDoor
open Go Go.Proofs.YtdidocmbcfbjdaaDoor.Sx
set_option linter.unusedVariables false
set_option linter.unusedSimpArgs false
def debtOk (cur : ByteArray) : List D0 → Bool
  | [.str a, .str b, .str c, .bool s, .ints z] => moneyOk [.str c, .bool s, .ints z] && decide (c = cur) && decide (0 < ival [.bool s, .ints z]) && isWord a && isWord b && !(decide (a = b))
  | _ => false
def debtsOk (cur : ByteArray) (l : List (List D0)) : Bool := curKnown cur && decide (l.length ≤ 20) && l.all (debtOk cur)
theorem moneyOk_int {c : ByteArray} {b : Bool} {z : List Int} (h : moneyOk [.str c, .bool b, .ints z] = true) : intOk [.bool b, .ints z] = true := by
  simp only [moneyOk, Bool.and_eq_true] at h
  exact h.1.2
theorem isign_sgn {z : Int} (h : intOk (enc z) = true) : isign (enc z) = sgn z := by rw [isign_enc h]; rfl
theorem sgn_le {z : Int} : sgn z ≤ 0 ↔ ¬ 0 < z := by
  unfold sgn
  by_cases h1 : z < 0
  · rw [if_pos h1]; omega
  · rw [if_neg h1]
    by_cases h2 : z = 0
    · rw [if_pos h2]; omega
    · rw [if_neg h2]; omega
theorem spec_DebtsOk_c {w : World} (cur : ByteArray) {p : Option Addr} {n c : Nat} {l : List (List D0)} (h : RowsR w 5 p n c l) (hc : ∀ x ∈ l, x.map D0.code = [.str, .str, .str, .bool, .ints]) (hn : n ≤ 1048576) (hb : ∀ x ∈ l, bulks x ≤ 1048576) :
    Ret P n_spec_DebtsOk [.string cur, .slice p n c] w fun v w' => v = .bool (debtsOk cur l) ∧ Ext w w' := by
  have hz := h.1; have hcap := h.2.1; have hcm := h.2.2.1
  refine spec_DebtsOk_ret ?_
  unfold spec_DebtsOk
  refine ⟨fun i wr => ∃ j : Nat, i = j ∧ j ≤ n ∧ Ext w wr ∧ ∀ i (hi : i < l.length), i < j → debtOk cur (l[i]'hi) = true, fun i _ => n - i.toNat, ⟨0, rfl, by omega, Ext.refl _, fun i _ h => absurd h (by omega)⟩, ?_⟩
  intro junk wr i ⟨j, hij, hj, hx, hall⟩
  subst hij
  refine ifD (fun hlt => ?_) (fun hge => ?_)
  · have hjn : j < n := by omega
    have hjl : j < l.length := by omega
    obtain ⟨a, cs, hp, hk, hr, hl⟩ := (h.ext hx).at (P := P) (t := T_impl_Debt) (by kernel_rfl) hjn
    subst hp
    have hrr := hr; have hcode := hc _ (List.getElem_mem hjl); have hbj := hb _ (List.getElem_mem hjl)
    obtain ⟨a0, a1, a2, a3, a4p, a4n, a4c, a4z, rfl, hd, ha⟩ := open_Debt hr hcode
    rw [hd] at hbj
    simp only [bulks, D0.bulk, List.map_cons, List.map_nil, List.sum_cons, List.sum_nil] at hbj
    have bad : debtOk cur [.str a0, .str a1, .str a2, .bool a3, .ints a4z] = false → debtsOk cur l = false := fun h => by
      unfold debtsOk
      rw [all_no hjl (by rw [hd]; exact h), Bool.and_false]
    refine ⟨⟨by omega, by omega⟩, _, _, _, _, _, _, _, by simpa using hl, ?_⟩
    intro r w2 hn2
    obtain ⟨w3, st, hb3, y3⟩ := hn2.fill (P := P) (t := T_impl_Debt) hrr.cells1 (by kernel_rfl) rfl
    have hm : Reps w3 [.string a2, .bool a3, .slice a4p a4n a4c] [.str a2, .bool a3, .ints a4z] := ⟨rfl, rfl, ⟨_, _, _, rfl, ha.ext y3⟩, trivial⟩
    refine ⟨w3, st, _, _, _, _, _, hb3.loadAAt 2 [.string a2, .bool a3, .slice a4p a4n a4c] rfl (by kernel_rfl) rfl, ?_⟩
    refine Ret.at (spec_MoneyOk_c hm rfl) ?_
    rintro v w4 ⟨hv, y4⟩
    subst hv
    have X4 := (hx.trans y3).trans y4
    have hb4 := hb3.ext y4
    refine ⟨_, rfl, ifN (fun hno => ifT (ifT (ifT (ifT (ifT ⟨by rw [bad (by simp only [debtOk, hno, Bool.false_and])], X4⟩))))) (fun h1 => ?_)⟩
    have hio := moneyOk_int h1
    have henc := (intOk_enc hio).1
    refine ⟨_, hb4.loadAt 2 rfl (by kernel_rfl) rfl, ifD (fun hno => ifT (ifT (ifT (ifT ⟨by rw [bad (by simp only [debtOk, decide_eq_false hno, Bool.and_false, Bool.false_and])], X4⟩)))) (fun hcur => ?_)⟩
    have hcur : a2 = cur := by simpa using hcur
    have hs : Reps w4 [.bool a3, .slice a4p a4n a4c] (enc (ival [.bool a3, .ints a4z])) := by
      rw [← henc]
      exact ⟨rfl, ⟨_, _, _, rfl, (ha.ext y3).ext y4⟩, trivial⟩
    refine ⟨_, _, _, _, hb4.loadAAt 3 [.bool a3, .slice a4p a4n a4c] rfl (by kernel_rfl) rfl, ?_⟩
    refine Ret.at (spec_IntSign_c hs (enc_code _)) ?_
    rintro v w5 ⟨hv, y5⟩
    subst hv
    have X5 := X4.trans y5
    have hb5 := hb4.ext y5
    refine ⟨_, rfl, ?_⟩
    rw [isign_sgn (by rw [← henc]; exact hio)]
    refine ifD (fun hno => ifT (ifT (ifT ⟨by rw [bad (by simp only [debtOk, decide_eq_false (sgn_le.1 hno), Bool.and_false, Bool.false_and])], X5⟩))) (fun hpos => ?_)
    have hpos : 0 < ival [.bool a3, .ints a4z] := Decidable.byContradiction fun hh => hpos (sgn_le.2 hh)
    refine ⟨_, hb5.loadAt 0 rfl (by kernel_rfl) rfl, ?_⟩
    refine Ret.at (spec_IsWord_c a0 (by omega) _) ?_
    rintro v w6 ⟨hv, hw⟩
    subst hv; subst hw
    refine ⟨_, rfl, ifN (fun hno => ifT (ifT ⟨by rw [bad (by simp only [debtOk, hno, Bool.and_false, Bool.false_and])], X5⟩)) (fun h4 => ?_)⟩
    refine ⟨_, hb5.loadAt 1 rfl (by kernel_rfl) rfl, ?_⟩
    refine Ret.at (spec_IsWord_c a1 (by omega) _) ?_
    rintro v w7 ⟨hv, hw⟩
    subst hv; subst hw
    refine ⟨_, rfl, ifN (fun hno => ifT ⟨by rw [bad (by simp only [debtOk, hno, Bool.and_false, Bool.false_and])], X5⟩) (fun h5 => ?_)⟩
    refine ⟨_, hb5.loadAt 0 rfl (by kernel_rfl) rfl, _, hb5.loadAt 1 rfl (by kernel_rfl) rfl, ifD (fun heq => ⟨by rw [bad (by simp only [debtOk, decide_eq_true heq, Bool.not_true, Bool.and_false])], X5⟩) (fun hne => ?_)⟩
    refine exW ⟨by omega, by omega⟩ ⟨⟨j + 1, by omega, by omega, X5, fun i hi hij => ?_⟩, ?_⟩
    · rcases Nat.lt_or_ge i j with h3 | h3
      · exact hall i hi h3
      · have : i = j := by omega
        subst this
        rw [hd]
        simp only [debtOk, h1, decide_eq_true hcur, decide_eq_true hpos, h4, h5, decide_eq_false hne, Bool.and_self, Bool.not_false]
    · show n - ((j : Int) + 1).toNat < n - (j : Int).toNat
      omega
  · refine Ret.at (spec_CurKnown_c cur) ?_
    rintro v w1 ⟨hv, y1⟩
    subst hv
    have hlast : l.all (debtOk cur) = true := all_yes fun i hi => hall i hi (by omega)
    refine ⟨_, rfl, fun hk => ⟨?_, hx.trans y1⟩, fun hk => ⟨?_, hx.trans y1⟩⟩
    · unfold debtsOk
      rw [hlast, hk, Bool.and_true, Bool.true_and]
      exact congrArg Value.bool (decide_eq_decide.2 (by omega))
    · unfold debtsOk
      rw [hk, Bool.false_and, Bool.false_and]
theorem impl_DebtsOk_c {w : World} (cur : ByteArray) {p : Option Addr} {n c : Nat} {l : List (List D0)} (h : RowsR w 5 p n c l) (hc : ∀ x ∈ l, x.map D0.code = [.str, .str, .str, .bool, .ints]) (hn : n ≤ 1048576) (hb : ∀ x ∈ l, bulks x ≤ 1048576) (ht : Tab w) :
    Ret P n_impl_DebtsOk [.string cur, .slice p n c] w fun v w' => v = .bool (debtsOk cur l) ∧ Ext w w' := by
  have hz := h.1; have hcap := h.2.1; have hcm := h.2.2.1
  refine impl_DebtsOk_ret ?_
  unfold impl_DebtsOk
  refine Ret.at (impl_CurKnown_c ht cur) ?_
  rintro v w1 ⟨hv, y1⟩
  subst hv
  refine ⟨_, rfl, ifN (fun hno => ifT ⟨?_, y1⟩) (fun hcu => ifD (fun h20 => ⟨?_, y1⟩) (fun h20 => ?_))⟩
  · unfold debtsOk
    rw [hno, Bool.false_and, Bool.false_and]
  · unfold debtsOk
    rw [decide_eq_false (show ¬ l.length ≤ 20 by omega), Bool.and_false, Bool.false_and]
  unfold impl_DebtsOk_j0
  refine ⟨fun i wr => ∃ j : Nat, i = j ∧ j ≤ n ∧ Ext w wr ∧ ∀ i (hi : i < l.length), i < j → debtOk cur (l[i]'hi) = true, fun i _ => n - i.toNat, ⟨0, rfl, by omega, y1, fun i _ h => absurd h (by omega)⟩, ?_⟩
  intro junk wr i ⟨j, hij, hj, hx, hall⟩
  subst hij
  refine ifD (fun hlt => ?_) (fun hge => ?_)
  · have hjn : j < n := by omega
    have hjl : j < l.length := by omega
    obtain ⟨a, cs, hp, hk, hr, hl⟩ := (h.ext hx).at (P := P) (t := T_impl_Debt) (by kernel_rfl) hjn
    subst hp
    have hrr := hr; have hcode := hc _ (List.getElem_mem hjl); have hbj := hb _ (List.getElem_mem hjl)
    obtain ⟨a0, a1, a2, a3, a4p, a4n, a4c, a4z, rfl, hd, ha⟩ := open_Debt hr hcode
    rw [hd] at hbj
    simp only [bulks, D0.bulk, List.map_cons, List.map_nil, List.sum_cons, List.sum_nil] at hbj
    have bad : debtOk cur [.str a0, .str a1, .str a2, .bool a3, .ints a4z] = false → debtsOk cur l = false := fun h => by
      unfold debtsOk
      rw [all_no hjl (by rw [hd]; exact h), Bool.and_false]
    refine ⟨⟨by omega, by omega⟩, _, _, _, _, _, _, _, by simpa using hl, ?_⟩
    intro r w2 hn2
    obtain ⟨w3, st, hb3, y3⟩ := hn2.fill (P := P) (t := T_impl_Debt) hrr.cells1 (by kernel_rfl) rfl
    have hm : Reps w3 [.string a2, .bool a3, .slice a4p a4n a4c] [.str a2, .bool a3, .ints a4z] := ⟨rfl, rfl, ⟨_, _, _, rfl, ha.ext y3⟩, trivial⟩
    refine ⟨w3, st, _, _, _, _, _, hb3.loadAAt 2 [.string a2, .bool a3, .slice a4p a4n a4c] rfl (by kernel_rfl) rfl, ?_⟩
    refine Ret.at (impl_MoneyOk_c (ht.ext (hx.trans y3)) hm rfl) ?_
    rintro v w4 ⟨hv, y4⟩
    subst hv
    have X4 := (hx.trans y3).trans y4
    have hb4 := hb3.ext y4
    refine ⟨_, rfl, ifN (fun hno => ifT (ifT (ifT (ifT (ifT ⟨by rw [bad (by simp only [debtOk, hno, Bool.false_and])], X4⟩))))) (fun h1 => ?_)⟩
    have hio := moneyOk_int h1
    have henc := (intOk_enc hio).1
    refine ⟨_, hb4.loadAt 2 rfl (by kernel_rfl) rfl, ifD (fun hno => ifT (ifT (ifT (ifT ⟨by rw [bad (by simp only [debtOk, decide_eq_false hno, Bool.and_false, Bool.false_and])], X4⟩)))) (fun hcur => ?_)⟩
    have hcur : a2 = cur := by simpa using hcur
    have hs : Reps w4 [.bool a3, .slice a4p a4n a4c] (enc (ival [.bool a3, .ints a4z])) := by
      rw [← henc]
      exact ⟨rfl, ⟨_, _, _, rfl, (ha.ext y3).ext y4⟩, trivial⟩
    refine ⟨_, _, _, _, hb4.loadAAt 3 [.bool a3, .slice a4p a4n a4c] rfl (by kernel_rfl) rfl, ?_⟩
    refine Ret.at (impl_intSign_c hs) ?_
    rintro v w5 ⟨hv, y5⟩
    subst hv
    have X5 := X4.trans y5
    have hb5 := hb4.ext y5
    refine ⟨_, rfl, ?_⟩
    refine ifD (fun hno => ifT (ifT (ifT ⟨by rw [bad (by simp only [debtOk, decide_eq_false (sgn_le.1 hno), Bool.and_false, Bool.false_and])], X5⟩))) (fun hpos => ?_)
    have hpos : 0 < ival [.bool a3, .ints a4z] := Decidable.byContradiction fun hh => hpos (sgn_le.2 hh)
    refine ⟨_, hb5.loadAt 0 rfl (by kernel_rfl) rfl, ?_⟩
    refine Ret.at (impl_IsWord_c a0 (by omega) _) ?_
    rintro v w6 ⟨hv, hw⟩
    subst hv; subst hw
    refine ⟨_, rfl, ifN (fun hno => ifT (ifT ⟨by rw [bad (by simp only [debtOk, hno, Bool.and_false, Bool.false_and])], X5⟩)) (fun h4 => ?_)⟩
    refine ⟨_, hb5.loadAt 1 rfl (by kernel_rfl) rfl, ?_⟩
    refine Ret.at (impl_IsWord_c a1 (by omega) _) ?_
    rintro v w7 ⟨hv, hw⟩
    subst hv; subst hw
    refine ⟨_, rfl, ifN (fun hno => ifT ⟨by rw [bad (by simp only [debtOk, hno, Bool.and_false, Bool.false_and])], X5⟩) (fun h5 => ?_)⟩
    refine ⟨_, hb5.loadAt 0 rfl (by kernel_rfl) rfl, _, hb5.loadAt 1 rfl (by kernel_rfl) rfl, ifD (fun heq => ⟨by rw [bad (by simp only [debtOk, decide_eq_true heq, Bool.not_true, Bool.and_false])], X5⟩) (fun hne => ?_)⟩
    refine exW ⟨by omega, by omega⟩ ⟨⟨j + 1, by omega, by omega, X5, fun i hi hij => ?_⟩, ?_⟩
    · rcases Nat.lt_or_ge i j with h3 | h3
      · exact hall i hi h3
      · have : i = j := by omega
        subst this
        rw [hd]
        simp only [debtOk, h1, decide_eq_true hcur, decide_eq_true hpos, h4, h5, decide_eq_false hne, Bool.and_self, Bool.not_false]
    · show n - ((j : Int) + 1).toNat < n - (j : Int).toNat
      omega
  · refine ⟨?_, hx⟩
    unfold debtsOk
    rw [all_yes fun i hi => hall i hi (by omega), hcu, decide_eq_true (show l.length ≤ 20 by omega)]
    rfl
end Go.Proofs.YtdidocmbcfbjdaaDoor

namespace Go.Proofs.YtdidocmbcfbjdaaDoor
open Go Go.Proofs.YtdidocmbcfbjdaaDoor.Sx
set_option linter.unusedVariables false
set_option linter.unusedSimpArgs false
theorem digs_len : ∀ (k : Nat) {n : Nat}, n < 1000000000 ^ k → (digs n).length ≤ k
  | 0, n, h => by
    have : n = 0 := by simpa using h
    subst this; simp [digs_zero]
  | k + 1, n, h => by
    by_cases h0 : n = 0
    · subst h0; simp [digs_zero]
    · rw [digs_pos h0, List.length_cons]
      have := digs_len k (n := n / 1000000000) (Nat.div_lt_of_lt_mul (by rw [Nat.mul_comm, ← Nat.pow_succ]; exact h))
      omega
theorem icap_fit {z : Int} (h : (digs z.natAbs).length ≤ 50) : icap z = enc z := by
  unfold icap capL
  rw [if_pos h]
  simp only [mkS, enc, isEmpty_digs]
  by_cases h0 : z < 0
  · have : z.natAbs ≠ 0 := by omega
    simp [h0]; omega
  · simp [h0]
theorem spec_l04Make_c {w : World} {neg : Bool} {p : Option Addr} {n c : Nat} {z : List Int} (h : IntsR w p n c z) (hl : Limbs z) :
    Ret P n_spec_l04Make [.bool neg, .slice p n c] w fun v w' => ∃ b p n c, v = .agg ⟨[.bool b, .slice p n c]⟩ ∧ b = (neg && !(capL (digs (val z).toNat)).isEmpty) ∧ Own w' w.heap.size T_int 1 p n c ((capL (digs (val z).toNat)).map (Value.int .i64)) ∧ Ext w w' := by
  refine spec_l04Make_ret ?_
  unfold spec_l04Make
  intro r w1 hn1
  refine Ret.at (spec_l02Cap_c (h.ext hn1.ext)) ?_
  rintro v w2 ⟨p', n', c', hv, hw, hr⟩
  subst hv; subst hw
  rw [trimL_eq hl] at hr
  have hn' := hr.1
  have h50 : n' ≤ 50 := by
    have := (capL_canon (n := (val z).toNat)).2
    omega
  have e1 := hn1.r_eq
  refine ⟨_, _, _, rfl, fun e => ?_, fun e => ?_⟩
  all_goals
    intro r1 w3 hn3
    obtain ⟨p2, c2, w4, g1, g2, g3⟩ := Own.appendI (Own.fresh hn3) hn3.ext.le (hr.ext hn3.ext) (by omega)
    rw [Nat.zero_add] at g1 g2
    rw [List.nil_append] at g2
    have y4 : Ext w2 w4 := g3 w2 hn3.ext (Nat.le_refl _)
    refine ⟨_, _, _, _, g1, ?_⟩
  · obtain ⟨w5, st, hb5, ch, sz⟩ := (hn1.blk.ext y4).storeA0 (P := P) (t := T_impl_Signed) (xs := [.bool (decide ((0 : Int) < (n' : Nat))), .slice p2 n' c2]) (by kernel_rfl) rfl (by simp [Value.oneCell'])
    refine ⟨w5, st, _, _, _, _, hb5.loadA0 (by kernel_rfl), _, _, _, _, rfl, by rw [len_bool hn', e]; rfl, (g2.chg ch (fun q hq => ?_)).mono hn1.ext.le, (hn1.ext.trans y4).chg ch (by simp; omega)⟩
    have := (World.ownsRow.lt g2 q (by rw [← hq]; cases p2 <;> rfl)).1
    have := hn1.size
    simp; omega
  · obtain ⟨w5, st, hb5, ch, sz⟩ := (hn1.blk.ext y4).storeA0 (P := P) (t := T_impl_Signed) (xs := [.bool false, .slice p2 n' c2]) (by kernel_rfl) rfl (by simp [Value.oneCell'])
    refine ⟨w5, st, _, _, _, _, hb5.loadA0 (by kernel_rfl), _, _, _, _, rfl, by rw [e]; rfl, (g2.chg ch (fun q hq => ?_)).mono hn1.ext.le, (hn1.ext.trans y4).chg ch (by simp; omega)⟩
    have := (World.ownsRow.lt g2 q (by rw [← hq]; cases p2 <;> rfl)).1
    have := hn1.size
    simp; omega
theorem spec_l04Add_c {w : World} {xs ys : List Value} {x y : Int} (h : Reps w xs (enc x)) (k : Reps w ys (enc y)) (hx : (digs x.natAbs).length ≤ 1000000) (hy : (digs y.natAbs).length ≤ 1000000) :
    Ret P n_spec_l04Add [.agg ⟨xs⟩, .agg ⟨ys⟩] w fun v w' => ∃ vs' f, v = .agg ⟨vs'⟩ ∧ Owns w' w.heap.size vs' (icap (x + y)) f ∧ f.Nodup ∧ Ext w w' := by
  obtain ⟨a0, a1p, a1n, a1c, a1z, rfl, hd, ha⟩ := open_Signed h rfl
  obtain ⟨b0, b1p, b1n, b1c, b1z, rfl, he, hb⟩ := open_Signed k rfl
  simp only [enc, List.cons.injEq, D0.bool.injEq, D0.ints.injEq, and_true] at hd he
  obtain ⟨rfl, rfl⟩ := hd
  obtain ⟨rfl, rfl⟩ := he
  have la := ha.1; have lb := hb.1
  have ca := digs_canon x.natAbs; have cb := digs_canon y.natAbs
  have va := val_digs x.natAbs; have vb := val_digs y.natAbs
  refine spec_l04Add_ret ?_
  unfold spec_l04Add
  intro r w1 hn1 r1 w2 hn2 r2 w3 hn3
  have X := (hn1.ext.trans hn2.ext).trans hn3.ext
  have e1 := hn1.r_eq; have e2 := hn2.r_eq; have e3 := hn3.r_eq; have s1 := hn1.size; have s2 := hn2.size; have s3 := hn3.size
  have k0 := (hn1.blk.ext hn2.ext).ext hn3.ext; have k1 := hn2.blk.ext hn3.ext; have k2 := hn3.blk
  have fin : ∀ (W : World) (neg : Bool) (p : Option Addr) (n c : Nat) (z : List Int), IntsR W p n c z → Limbs z → Ext w3 W → (val z).toNat = (x + y).natAbs → ((val z).toNat ≠ 0 → neg = decide (x + y < 0)) →
      Calls P n_spec_l04Make ⟨[.bool neg, .slice p n c]⟩ W fun e_1 wv_7 => ∃ (t170 : Bool) (t171_p : Option Addr) (t171_n : Nat) (t171_c : Nat), e_1 = .returned (.agg #[(.bool t170), (.slice t171_p t171_n t171_c)]) ∧
        ∃ wv_8, Stores P T_impl_Signed ⟨r2, 0, none⟩ (.agg #[(.bool t170), (.slice t171_p t171_n t171_c)]) wv_7 wv_8 ∧
        ∃ (r0 : Bool) (r1_p : Option Addr) (r1_n : Nat) (r1_c : Nat), Loads P T_impl_Signed ⟨r2, 0, none⟩ (.agg #[(.bool r0), (.slice r1_p r1_n r1_c)]) wv_8 ∧ (fun (v : Value) (w' : World) => ∃ vs' f, v = .agg ⟨vs'⟩ ∧ Owns w' w.heap.size vs' (icap (x + y)) f ∧ f.Nodup ∧ Ext w w') (.agg #[(.bool r0), (.slice r1_p r1_n r1_c)]) wv_8 := by
    intro W neg p n c z hz hlz hW hm hs
    refine Ret.at (spec_l04Make_c hz hlz) ?_
    rintro v W2 ⟨b, q, qn, qc, hv, hbb, ho, y2⟩
    subst hv
    have hW0 := hW.le
    obtain ⟨W3, st, hb3, ch, sz⟩ := ((k2.ext hW).ext y2).storeA0 (P := P) (t := T_impl_Signed) (xs := [.bool b, .slice q qn qc]) (by kernel_rfl) rfl (by simp [Value.oneCell'])
    have ow := Owns.int2 (b := b) ho
    rw [hbb] at ow
    have ow2 : Owns W2 W.heap.size [.bool b, .slice q qn qc] (icap (x + y)) (q.map (·.block)).toList := by
      rw [← mkS_digs hm hs, hbb]; exact ow
    refine ⟨_, _, _, _, rfl, W3, st, _, _, _, _, hb3.loadA0 (by kernel_rfl), _, _, rfl, (ow2.chg1 ch (by omega)).mono (by have := X.le; omega), nodup_opt q, ((X.trans hW).trans y2).chg ch (by simp; omega)⟩
  refine ⟨_, k0.load (by kernel_rfl) rfl, _, k1.load (by kernel_rfl) rfl, fun es => ?_, fun es => ?_⟩
  · have es' : decide (x < 0) = decide (y < 0) := by simpa using es
    have D := Ext.drew w3
    refine ⟨_, fun W hW => (k0.ext (D.trans hW)).load (by kernel_rfl) rfl, _, _, _, fun W hW => (k0.ext (D.trans hW)).load (by kernel_rfl) rfl, _, _, _, fun W hW => (k1.ext (D.trans hW)).load (by kernel_rfl) rfl, ?_⟩
    refine Ret.at (spec_l02Add_c (ha.ext (X.trans D)) (hb.ext (X.trans D)) ca.1 cb.1 (by omega) (by omega)) ?_
    rintro v w4 ⟨p, n, c, o, hv, hr, hlo, hln, hvo, y4⟩
    subst hv
    rw [va, vb] at hvo
    refine ⟨_, _, _, rfl, y4, fin w4 _ p n c o hr hlo (D.trans y4) ?_ ?_⟩
    · by_cases hx0 : x < 0 <;> by_cases hy0 : y < 0 <;> simp [hx0, hy0] at es' <;> omega
    · intro h0
      by_cases hx0 : x < 0 <;> by_cases hy0 : y < 0 <;> simp [hx0, hy0] at es' ⊢ <;> omega
  · have es' : ¬ (decide (x < 0) = decide (y < 0)) := by simpa using es
    refine ⟨_, _, _, k0.load (by kernel_rfl) rfl, _, _, _, k1.load (by kernel_rfl) rfl, ?_⟩
    refine Ret.at (spec_l02Cmp_c (ha.ext X) (hb.ext X)) ?_
    rintro v w4 ⟨hv, y4⟩
    subst hv
    have cv := cmpL_val ca cb
    rw [va, vb] at cv
    have X4 := X.trans y4
    have k0 := k0.ext y4; have k1 := k1.ext y4
    have D := Ext.drew w4
    refine ⟨_, rfl, ifD (fun hge => ?_) (fun hlt => ?_)⟩
    · have hge' : y.natAbs ≤ x.natAbs := by
        rcases cv with h | h | h <;> omega
      refine ⟨_, fun W hW => (k0.ext (D.trans hW)).load (by kernel_rfl) rfl, _, _, _, fun W hW => (k0.ext (D.trans hW)).load (by kernel_rfl) rfl, _, _, _, fun W hW => (k1.ext (D.trans hW)).load (by kernel_rfl) rfl, ?_⟩
      have hll : b1n ≤ a1n := by
        rcases Nat.lt_or_ge a1n b1n with h | h
        · have := canon_len ca cb (by omega); omega
        · exact h
      refine Ret.at (spec_l02Sub_c (ha.ext (X4.trans D)) (hb.ext (X4.trans D)) ca.1 cb.1 (by omega) hll (by omega)) ?_
      rintro v w7 ⟨p, n, c, hv, hr, y7⟩
      subst hv
      rw [va, vb] at hr
      have vd := val_digs ((x.natAbs : Int) - y.natAbs).toNat
      refine ⟨_, _, _, rfl, y7, fin w7 _ p n c _ hr (digs_limbs _) ((y4.trans D).trans y7) ?_ ?_⟩
      · by_cases hx0 : x < 0 <;> by_cases hy0 : y < 0 <;> simp [hx0, hy0] at es' <;> omega
      · intro h0
        by_cases hx0 : x < 0 <;> by_cases hy0 : y < 0 <;> simp [hx0, hy0] at es' ⊢ <;> omega
    · have hlt' : x.natAbs < y.natAbs := by
        rcases cv with h | h | h <;> omega
      refine ⟨_, fun W hW => (k1.ext (D.trans hW)).load (by kernel_rfl) rfl, _, _, _, fun W hW => (k1.ext (D.trans hW)).load (by kernel_rfl) rfl, _, _, _, fun W hW => (k0.ext (D.trans hW)).load (by kernel_rfl) rfl, ?_⟩
      have hll : a1n ≤ b1n := by
        rcases Nat.lt_or_ge b1n a1n with h | h
        · have := canon_len cb ca (by omega); omega
        · exact h
      refine Ret.at (spec_l02Sub_c (hb.ext (X4.trans D)) (ha.ext (X4.trans D)) cb.1 ca.1 (by omega) hll (by omega)) ?_
      rintro v w7 ⟨p, n, c, hv, hr, y7⟩
      subst hv
      rw [va, vb] at hr
      have vd := val_digs ((y.natAbs : Int) - x.natAbs).toNat
      refine ⟨_, _, _, rfl, y7, fin w7 _ p n c _ hr (digs_limbs _) ((y4.trans D).trans y7) ?_ ?_⟩
      · by_cases hx0 : x < 0 <;> by_cases hy0 : y < 0 <;> simp [hx0, hy0] at es' <;> omega
      · intro h0
        by_cases hx0 : x < 0 <;> by_cases hy0 : y < 0 <;> simp [hx0, hy0] at es' ⊢ <;> omega
theorem spec_IntAdd_c {w : World} {xs ys : List Value} {dx dy : List D0} (h : Reps w xs dx) (k : Reps w ys dy) (hc : dx.map D0.code = [.bool, .ints]) (kc : dy.map D0.code = [.bool, .ints]) :
    Ret P n_spec_IntAdd [.agg ⟨xs⟩, .agg ⟨ys⟩] w fun v w' => ∃ vs' f, v = .agg ⟨vs'⟩ ∧ Owns w' w.heap.size vs' (iadd dx dy) f ∧ f.Nodup ∧ Ext w w' := by
  have hr := h; have kr := k
  obtain ⟨a0, a1p, a1n, a1c, a1z, rfl, hd, ha⟩ := open_Signed h hc
  obtain ⟨b0, b1p, b1n, b1c, b1z, rfl, he, hb⟩ := open_Signed k kc
  refine spec_IntAdd_ret ?_
  unfold spec_IntAdd
  intro r w1 hn1 r1 w2 hn2 r2 w3 hn3
  have X := (hn1.ext.trans hn2.ext).trans hn3.ext
  have e1 := hn1.r_eq; have e2 := hn2.r_eq; have e3 := hn3.r_eq; have s1 := hn1.size; have s2 := hn2.size; have s3 := hn3.size
  have k0 := (hn1.blk.ext hn2.ext).ext hn3.ext; have k1 := hn2.blk.ext hn3.ext; have k2 := hn3.blk
  have bad : ∀ W, Ext w3 W → (intOk dx && intOk dy) = false → ∃ wv_8, Stores P T_impl_Signed ⟨r2, 0, none⟩ (.agg #[(.bool false), (.slice none 0 0)]) W wv_8 ∧
      ∃ (r0 : Bool) (r1_p : Option Addr) (r1_n : Nat) (r1_c : Nat), Loads P T_impl_Signed ⟨r2, 0, none⟩ (.agg #[(.bool r0), (.slice r1_p r1_n r1_c)]) wv_8 ∧ (fun (v : Value) (w' : World) => ∃ vs' f, v = .agg ⟨vs'⟩ ∧ Owns w' w.heap.size vs' (iadd dx dy) f ∧ f.Nodup ∧ Ext w w') (.agg #[(.bool r0), (.slice r1_p r1_n r1_c)]) wv_8 := by
    intro W hW hno
    obtain ⟨w5, st, hb5, ch, sz⟩ := (k2.ext hW).storeA0 (P := P) (t := T_impl_Signed) (xs := [.bool false, .slice none 0 0]) (by kernel_rfl) rfl (by simp [Value.oneCell'])
    refine ⟨w5, st, _, _, _, _, hb5.loadA0 (by kernel_rfl), _, _, rfl, ?_, nodup_opt none, (X.trans hW).chg ch (by simp; omega)⟩
    have : iadd dx dy = [.bool false, .ints []] := by rw [iadd, hno, ← enc0]; rfl
    rw [this]
    exact Owns.int2 (z := []) (Own.nil w5 _ T_int 1 : Own w5 w.heap.size T_int 1 none 0 0 (([] : List Int).map (Value.int .i64)))
  refine ⟨_, _, _, _, k0.loadA0 (by kernel_rfl), ?_⟩
  refine Ret.at (spec_IntOk_c (hr.ext X) hc) ?_
  rintro v w4 ⟨hv, y4⟩
  subst hv
  refine ⟨_, rfl, ifN (fun hno => ifT (bad w4 y4 (by simp [hno]))) (fun hok1 => ?_)⟩
  refine ⟨_, _, _, _, (k1.ext y4).loadA0 (by kernel_rfl), ?_⟩
  refine Ret.at (spec_IntOk_c (kr.ext (X.trans y4)) kc) ?_
  rintro v w5 ⟨hv, y5⟩
  subst hv
  refine ⟨_, rfl, ifN (fun hno => bad w5 (y4.trans y5) (by simp [hno])) (fun hok2 => ?_)⟩
  have X5 := (X.trans y4).trans y5
  obtain ⟨ex, _, zx, hx1, cx, lx⟩ := intOk_enc hok1
  obtain ⟨ey, _, zy, hy1, cy, ly⟩ := intOk_enc hok2
  have lenx : (digs (ival dx).natAbs).length ≤ 50 := by
    rw [ex] at hx1
    simp only [enc, List.cons.injEq, D0.ints.injEq, and_true] at hx1
    rw [hx1.2]; exact lx
  have leny : (digs (ival dy).natAbs).length ≤ 50 := by
    rw [ey] at hy1
    simp only [enc, List.cons.injEq, D0.ints.injEq, and_true] at hy1
    rw [hy1.2]; exact ly
  refine ⟨_, _, _, _, ((k0.ext y4).ext y5).loadA0 (by kernel_rfl), _, _, _, _, ((k1.ext y4).ext y5).loadA0 (by kernel_rfl), ?_⟩
  refine Ret.at (spec_l04Add_c (x := ival dx) (y := ival dy) (by rw [← ex]; exact hr.ext X5) (by rw [← ey]; exact kr.ext X5) (by omega) (by omega)) ?_
  rintro v w6 ⟨vs', f, hv, ho, hnd, y6⟩
  subst hv
  obtain ⟨q0, q1p, q1n, q1c, q1z, rfl, hq, hqi⟩ := open_Signed ho.reps (icap_code _)
  have X6 := X5.trans y6
  have s4 := X5.le; have s34 := y4.le; have s35 := y5.le
  obtain ⟨w7, st, hb7, ch, sz⟩ := (((k2.ext y4).ext y5).ext y6).storeA0 (P := P) (t := T_impl_Signed) (xs := [.bool q0, .slice q1p q1n q1c]) (by kernel_rfl) rfl ho.reps.cells1
  refine ⟨_, _, _, _, rfl, w7, st, _, _, _, _, hb7.loadA0 (by kernel_rfl), _, f, rfl, ?_, hnd, X6.chg ch (by simp; omega)⟩
  have : iadd dx dy = icap (ival dx + ival dy) := by rw [iadd, hok1, hok2]; rfl
  rw [this]
  exact (ho.chg1 ch (by omega)).mono (by omega)
end Go.Proofs.YtdidocmbcfbjdaaDoor

namespace Go.Proofs.YtdidocmbcfbjdaaDoor
open Go Go.Proofs.YtdidocmbcfbjdaaDoor.Sx
set_option linter.unusedVariables false
set_option linter.unusedSimpArgs false
theorem laws_markIntS_c {w : World} {B : Nat} {p : Option Addr} {n c : Nat} {zs : List Int} {k : Int} (h : Own w B T_int 1 p n c (zs.map (Value.int .i64))) (h0 : 0 ≤ k) (h1 : k + n ≤ 9223372036854775807) :
    Ret P n_laws_markIntS [.slice p n c, .int .i64 k] w fun v w' => v = .int .i64 (k + n) ∧ Own w' B T_int 1 p n c ((mkI n k).map (Value.int .i64)) ∧ Chg (p.map (·.block)).toList w w' := by
  have hz : zs.length = n := by have := h.len; simpa using this
  have hcap := h.le
  refine laws_markIntS_ret ?_
  unfold laws_markIntS
  refine ⟨fun k1 i wr => ∃ j : Nat, i = j ∧ j ≤ n ∧ k1 = k + j ∧ Own wr B T_int 1 p n c ((mkI j k ++ zs.drop j).map (Value.int .i64)) ∧ Chg (p.map (·.block)).toList w wr, fun _ i _ => n - i.toNat, ⟨0, rfl, by omega, by omega, by simpa [mkI] using h, Chg.refl _ _⟩, ?_⟩
  intro junk wr k1 i ⟨j, hij, hj, hk1, ho, hch⟩
  subst hij; subst hk1
  refine ifD (fun hlt => ?_) (fun hge => ?_)
  · obtain ⟨b, w2, hp, st, ho2, ch2, sz2⟩ := ho.set (P := P) (t := T_int) (i := j) (v := .int .i64 (k + j)) (by simp [mkI_len]; omega) (by kernel_rfl) rfl
    subst hp
    refine ⟨⟨by omega, by omega⟩, w2, by simpa using st, exW ⟨by omega, by omega⟩ (exW ⟨by omega, by omega⟩ ⟨⟨j + 1, by omega, by omega, by omega, ?_, hch.trans ch2⟩, ?_⟩)⟩
    · have e : (mkI j k ++ zs.drop j).set j (k + (j : Nat)) = mkI (j + 1) k ++ zs.drop (j + 1) := by
        rw [List.set_append_right _ _ (by rw [mkI_len]; omega), mkI_len, Nat.sub_self, mkI_succ, List.drop_eq_getElem_cons (show j < zs.length by omega), List.set_cons_zero, List.append_assoc]
        rfl
      rw [← e, List.map_set]
      exact ho2
    · show n - ((j : Int) + 1).toNat < n - (j : Int).toNat
      omega
  · have hjn : j = n := by omega
    subst hjn
    rw [List.drop_of_length_le (by omega), List.append_nil] at ho
    exact ⟨rfl, ho, hch⟩
theorem laws_heldIntS_c {w : World} {p : Option Addr} {n c : Nat} {k : Int} (h : IntsR w p n c (mkI n k)) (h0 : 0 ≤ k) (h1 : k + n ≤ 9223372036854775807) :
    Ret P n_laws_heldIntS [.slice p n c, .int .i64 k] w fun v w' => v = .int .i64 (k + n) ∧ Ext w w' := by
  have hcap := h.2.1; have hcm := h.2.2.1
  refine laws_heldIntS_ret ?_
  unfold laws_heldIntS
  refine ⟨fun k1 i wr => ∃ j : Nat, i = j ∧ j ≤ n ∧ k1 = k + j ∧ Ext w wr, fun _ i _ => n - i.toNat, ⟨0, rfl, by omega, by omega, Ext.refl _⟩, ?_⟩
  intro junk wr k1 i ⟨j, hij, hj, hk1, hx⟩
  subst hij; subst hk1
  refine ifD (fun hlt => ?_) (fun hge => ?_)
  · have hjn : j < n := by omega
    obtain ⟨a, hpa, hl⟩ := (h.ext hx).at (P := P) (t := T_int) (by kernel_rfl) hjn
    subst hpa
    rw [mkI_get] at hl
    refine ⟨⟨by omega, by omega⟩, k + (j : Nat), by simpa using hl, ifD (fun hne => absurd rfl hne) (fun _ => exW ⟨by omega, by omega⟩ (exW ⟨by omega, by omega⟩ ⟨⟨j + 1, by omega, by omega, by omega, hx⟩, ?_⟩))⟩
    show n - ((j : Int) + 1).toNat < n - (j : Int).toNat
    omega
  · have hjn : j = n := by omega
    subst hjn
    exact ⟨rfl, hx⟩
theorem bne_no {a b : Bool} (e : a = b) : ¬ (!(a == b)) = true := by subst e; simp
theorem convs_bytes {w : World} {s e d ee : TypeId} {r : Nat} (xs : List Int) (hs : P.underlying s = some (.slice e)) (he : P.underlying e = some (.int .u8)) (hd : P.underlying d = some .string) (hb : Blk w r ee (xs.map (Value.int .u8))) :
    Convs P s d (.slice (some ⟨r, 0, none⟩) xs.length xs.length) (.string (strOfNums xs)) w :=
  run_convert_bytes_arg w s e hs he r 0 xs.length xs.length xs rfl (fun i hi => by
    have := hb.seg i (.int .u8 (xs.getD i 0)) (by simp [List.getD_eq_getElem?_getD, List.getElem?_eq_getElem hi])
    simpa using this) d hd
theorem laws_markText_c {k : Int} (hk : k ≤ 1000000000000000000) (w : World) : Ret P n_laws_markText [.int .i64 k] w fun v w' => v = .string (mtext k) ∧ Ext w w' := by
  refine laws_markText_ret ?_
  unfold laws_markText
  refine ifD (fun h => ⟨by rw [mtext, if_pos h], Ext.refl _⟩) (fun h => ?_)
  refine ⟨fun k1 out wr => 0 ≤ k1 ∧ k1 ≤ k ∧ out.size + k1 ≤ k ∧ mdig k1.toNat out = mdig k.toNat ByteArray.empty ∧ Ext w wr, fun k1 _ _ => k1.toNat, ⟨by omega, by omega, by show (0 : Int) + k ≤ k; omega, rfl, Ext.refl _⟩, ?_⟩
  intro junk wr k1 out ⟨h0, hle, hsz, hm, hx⟩
  refine ifD (fun hpos => ?_) (fun hz => ?_)
  · have ht : Int.tmod k1 10 = k1 % 10 := Int.tmod_eq_emod_of_nonneg h0
    have htd : Int.tdiv k1 10 = k1 / 10 := Int.tdiv_eq_ediv_of_nonneg h0
    refine ⟨by decide, _, rfl, ?_⟩
    rw [ht]
    refine exW ⟨by omega, by omega⟩ ⟨_, rfl, ?_⟩
    have wu : IntKind.wrap .u8 (48 + k1 % 10) = 48 + k1 % 10 := by
      simp only [IntKind.wrap, IntKind.bits, IntKind.signed]
      simp
      omega
    rw [wu]
    intro r w1 hn
    refine ⟨_, convs_bytes (ee := T_uint8) [48 + k1 % 10] (e := T_uint8) (by kernel_rfl) (by kernel_rfl) (by kernel_rfl) hn.blk, ?_, _, rfl, by decide, ?_⟩
    · rw [strOfNums_size]; simp; omega
    rw [htd]
    refine exW ⟨by omega, by omega⟩ ⟨⟨by omega, by omega, ?_, ?_, hx.trans hn.ext⟩, ?_⟩
    · rw [ByteArray.size_append, strOfNums_size]; simp; omega
    · rw [← hm, mdig_pos (k := k1.toNat) (by omega)]
      have e1 : (k1 / 10).toNat = k1.toNat / 10 := by omega
      have e2 : (48 + k1 % 10) = ((48 + k1.toNat % 10 : Nat) : Int) := by omega
      rw [e1, e2]
    · show (k1 / 10).toNat < k1.toNat
      omega
  · have : k1.toNat = 0 := by omega
    rw [this, mdig_zero] at hm
    refine ⟨?_, _, rfl, ?_, hx⟩
    · show 1 + out.size ≤ 9223372036854775807
      omega
    · rw [mtext, if_neg h, hm]
end Go.Proofs.YtdidocmbcfbjdaaDoor

namespace Go.Proofs.YtdidocmbcfbjdaaDoor
open Go Go.Proofs.YtdidocmbcfbjdaaDoor.Sx
set_option linter.unusedVariables false
set_option linter.unusedSimpArgs false
theorem cntL_nn {d : List (List D0)} {m : Int} (_ : cntL d ≤ m) : 0 ≤ cntL d := cntL_nonneg d
end Go.Proofs.YtdidocmbcfbjdaaDoor

namespace Go.Proofs.YtdidocmbcfbjdaaDoor
open Go Go.Proofs.YtdidocmbcfbjdaaDoor.Sx
set_option linter.unusedVariables false
set_option linter.unusedSimpArgs false
theorem digs_len_le {n : Nat} (h : n < 1000000000000000000000000000000000000000000000000000000) : (digs n).length ≤ 6 := digs_len 6 (by omega)
theorem money_bound {c : ByteArray} {b : Bool} {z : List Int} (h : moneyOk [.str c, .bool b, .ints z] = true) : (ival [.bool b, .ints z]).natAbs ≤ 1000000000000000000000000000000000000 := by
  have hi := moneyOk_int h
  simp only [moneyOk, Bool.and_eq_true, decide_eq_true_eq] at h
  obtain ⟨_, _, _, h1, hc, _⟩ := intOk_enc hi
  simp only [List.cons.injEq, D0.bool.injEq, D0.ints.injEq, and_true] at h1
  obtain ⟨rfl, rfl⟩ := h1
  have hv := val_nonneg hc.1
  have hlt := val_lt hc.1
  have h6 : (1000000000 : Nat) ^ z.length ≤ 1000000000 ^ 4 := Nat.pow_le_pow_right (by decide) h.2
  have h6' := Int.ofNat_le.2 h6
  rw [Int.natCast_pow, Int.natCast_pow] at h6'
  have h7 : val z < (1000000000 : Int) ^ 4 := Int.lt_of_lt_of_le hlt h6'
  have h8 : ((1000000000 : Int) ^ 4) = 1000000000000000000000000000000000000 := by decide
  rw [h8] at h7
  cases b <;> simp only [ival, if_true, Bool.false_eq_true, if_false] <;> omega
theorem enc_small {z : Int} (h : z.natAbs < 1000000000000000000000000000000000000000000000000000000) : intOk (enc z) = true := by
  have := digs_len_le h
  rw [← icap_fit (by omega)]; exact icap_ok z
theorem iadd_small {x y : Int} (hx : x.natAbs < 100000000000000000000000000000000000000000000000000000) (hy : y.natAbs < 100000000000000000000000000000000000000000000000000000) : iadd (enc x) (enc y) = enc (x + y) := by
  have h3 : (digs (x + y).natAbs).length ≤ 6 := digs_len_le (by omega)
  rw [iadd, enc_small (by omega), enc_small (by omega)]
  simp only [Bool.and_self, if_true]
  rw [ival_enc, ival_enc]
  exact icap_fit (by omega)
end Go.Proofs.YtdidocmbcfbjdaaDoor

namespace Go.Proofs.YtdidocmbcfbjdaaDoor
open Go Go.Proofs.YtdidocmbcfbjdaaDoor.Sx
set_option linter.unusedVariables false
set_option linter.unusedSimpArgs false
theorem spec_IntNeg_c {w : World} {xs : List Value} {z : Int} (h : Reps w xs (enc z)) (hok : intOk (enc z) = true) :
    Ret P n_spec_IntNeg [.agg ⟨xs⟩] w fun v w' => ∃ vs' f, v = .agg ⟨vs'⟩ ∧ Owns w' w.heap.size vs' (enc (-z)) f ∧ f.Nodup ∧ Ext w w' := by
  have hr := h
  obtain ⟨a0, a1p, a1n, a1c, a1z, rfl, hd, ha⟩ := open_Signed h (enc_code _)
  simp only [enc, List.cons.injEq, D0.bool.injEq, D0.ints.injEq, and_true] at hd
  obtain ⟨rfl, rfl⟩ := hd
  have hlen : (digs z.natAbs).length ≤ 50 := by
    obtain ⟨_, _, _, h1, hc, hl⟩ := intOk_enc hok
    simp only [enc, List.cons.injEq, D0.bool.injEq, D0.ints.injEq, and_true] at h1
    rw [h1.2]; exact hl
  refine spec_IntNeg_ret ?_
  unfold spec_IntNeg
  intro r w1 hn1 r1 w2 hn2
  have X := hn1.ext.trans hn2.ext
  have e1 := hn1.r_eq; have e2 := hn2.r_eq; have s1 := hn1.size; have s2 := hn2.size
  refine ⟨_, _, _, _, (hn1.blk.ext hn2.ext).loadA0 (by kernel_rfl), ?_⟩
  refine Ret.at (spec_IntOk_c (hr.ext X) rfl) ?_
  rintro v w3 ⟨hv, y3⟩
  subst hv
  refine ⟨_, rfl, ifN (fun hno => absurd (hno.symm.trans hok) (by simp)) (fun _ => ?_)⟩
  have k0 := (hn1.blk.ext hn2.ext).ext y3
  refine ⟨_, k0.loadAt 0 rfl (by kernel_rfl) rfl, _, _, _, k0.loadAt 1 rfl (by kernel_rfl) rfl, ?_⟩
  refine Ret.at (spec_l04Make_c (ha.ext (X.trans y3)) (digs_limbs _)) ?_
  rintro v w4 ⟨b, q, qn, qc, hv, hbb, ho, y4⟩
  subst hv
  have l3 := y3.le
  obtain ⟨w5, st, hb5, ch, sz⟩ := ((hn2.blk.ext y3).ext y4).storeA0 (P := P) (t := T_impl_Signed) (xs := [.bool b, .slice q qn qc]) (by kernel_rfl) rfl (by simp [Value.oneCell'])
  have ow := Owns.int2 (b := b) ho
  rw [hbb, val_digs, show (((z.natAbs : Nat) : Int)).toNat = z.natAbs from rfl] at ow
  have e : mkS (!decide (z < 0)) (capL (digs z.natAbs)) = enc (-z) := by
    rw [← icap_fit (z := -z) (by rw [Int.natAbs_neg]; exact hlen)]
    refine mkS_digs (by rw [Int.natAbs_neg]) fun h0 => ?_
    by_cases h1 : z < 0
    · simp [h1]; omega
    · simp [h1]; omega
  have ow2 : Owns w4 w3.heap.size [.bool b, .slice q qn qc] (enc (-z)) (q.map (·.block)).toList := by
    rw [← e, hbb, val_digs, show (((z.natAbs : Nat) : Int)).toNat = z.natAbs from rfl]; exact ow
  exact ⟨_, _, _, _, rfl, w5, st, _, _, _, _, hb5.loadA0 (by kernel_rfl), _, _, rfl, (ow2.chg1 ch (by omega)).mono (by omega), nodup_opt q, ((X.trans y3).trans y4).chg ch (by simp; omega)⟩
end Go.Proofs.YtdidocmbcfbjdaaDoor

namespace Go.Proofs.YtdidocmbcfbjdaaDoor
open Go Go.Proofs.YtdidocmbcfbjdaaDoor.Sx
set_option linter.unusedVariables false
set_option linter.unusedSimpArgs false
def moneyVal : List D0 → Int
  | [.str c, .bool b, .ints z] => ival [.bool b, .ints z]
  | _ => 0
def msOk (cur : ByteArray) : List D0 → Bool
  | [.str c, .bool b, .ints z] => moneyOk [.str c, .bool b, .ints z] && decide (c = cur)
  | _ => false
theorem val_bound {cur : ByteArray} {x : List D0} (h : msOk cur x = true) : (moneyVal x).natAbs ≤ 1000000000000000000000000000000000000 := by
  unfold msOk at h
  split at h
  · simp only [Bool.and_eq_true] at h
    exact money_bound h.1
  · cases h
end Go.Proofs.YtdidocmbcfbjdaaDoor

namespace Go.Proofs.YtdidocmbcfbjdaaDoor
open Go Go.Proofs.YtdidocmbcfbjdaaDoor.Sx
set_option linter.unusedVariables false
set_option linter.unusedSimpArgs false
/-- a text that leads -/
def strOf : List D0 → ByteArray
  | .str s :: _ => s
  | _ => S []
end Go.Proofs.YtdidocmbcfbjdaaDoor

namespace Go.Proofs.YtdidocmbcfbjdaaDoor
open Go Go.Proofs.YtdidocmbcfbjdaaDoor.Sx
set_option linter.unusedVariables false
set_option linter.unusedSimpArgs false
theorem sumAdd_bound {M N : Nat} : ∀ {s : List (ByteArray × Int)} {c : ByteArray} {u : Int}, (∀ x ∈ s, x.2.natAbs ≤ M) → u.natAbs ≤ N → ∀ x ∈ sumAdd s c u, x.2.natAbs ≤ M + N
  | [], c, u, _, hu, x, hx => by simp [sumAdd] at hx; subst hx; show u.natAbs ≤ M + N; omega
  | y :: r, c, u, h, hu, x, hx => by
    have hy := h y List.mem_cons_self
    have hr : ∀ x ∈ r, x.2.natAbs ≤ M := fun x hx => h x (List.mem_cons_of_mem _ hx)
    unfold sumAdd at hx
    split at hx
    · rcases List.mem_cons.1 hx with hx | hx
      · rw [hx]; omega
      · exact sumAdd_bound hr hu x hx
    · split at hx
      · rcases List.mem_cons.1 hx with hx | hx
        · rw [hx]; show (y.2 + u).natAbs ≤ M + N; omega
        · have := hr x hx; omega
      · rcases List.mem_cons.1 hx with hx | hx
        · rw [hx]; show u.natAbs ≤ M + N; omega
        · have := h x hx; omega
theorem money_abs {c : ByteArray} {b : Bool} {z : List Int} (h : moneyOk [.str c, .bool b, .ints z] = true) : ∃ u : Int, [D0.bool b, .ints z] = enc u ∧ u = ival [.bool b, .ints z] ∧ u.natAbs ≤ 1000000000000000000000000000000000000 := by
  have hi := moneyOk_int h
  refine ⟨_, (intOk_enc hi).1, rfl, ?_⟩
  have : msOk c [.str c, .bool b, .ints z] = true := by simp only [msOk, h, decide_true, Bool.and_self]
  exact val_bound this
end Go.Proofs.YtdidocmbcfbjdaaDoor

namespace Go.Proofs.YtdidocmbcfbjdaaDoor
open Go Go.Proofs.YtdidocmbcfbjdaaDoor.Sx
set_option linter.unusedVariables false
set_option linter.unusedSimpArgs false
/-- the first that is not less is the place -/
theorem posOf_unique : ∀ {s : List (ByteArray × Int)} {c : ByteArray} {k : Nat}, k ≤ s.length → (∀ j x, s[j]? = some x → j < k → bLess x.1 c = true) → (∀ x, s[k]? = some x → bLess x.1 c = false) → k = posOf s c
  | [], c, k, hk, _, _ => by simp at hk; subst hk; rfl
  | x :: r, c, 0, _, _, h2 => by
    have := h2 x rfl
    simp [posOf, this]
  | x :: r, c, k + 1, hk, h1, h2 => by
    have hx := h1 0 x rfl (by omega)
    have := posOf_unique (s := r) (c := c) (k := k) (by simpa using hk) (fun j y hy hj => h1 (j + 1) y (by simpa using hy) (by omega)) (fun y hy => h2 y (by simpa using hy))
    simp only [posOf, hx, if_true]
    omega
/-- append of any number of rows onto rows of one's own -/
theorem Sx.Own.pushM {w : World} {B : Nat} {t e : TypeId} {z : Value} {size bytes : Nat} {g n c m mc : Nat} {a : Addr} {xs news : List Value} (h : Sx.Own w B e size (some ⟨g, 0, none⟩) n c xs)
    (hT : sliceT P t e z size bytes) (hb : B ≤ w.heap.size) (hcells : ∀ j u, news[j]? = some u → w.cell? (a.add j) = some u) (hl : news.length = m * size) (h1 : ∀ u ∈ news, u.oneCell' = true)
    (hbytes : (n + m) * bytes ≤ 140737488355328) (hby : 1 ≤ bytes) :
    ∃ g' c' w', Appends P [t, t] [.slice (some ⟨g, 0, none⟩) n c, .slice (some a) m mc] (.slice (some ⟨g', 0, none⟩) (n + m) c') w w' ∧ Sx.Own w' B e size (some ⟨g', 0, none⟩) (n + m) c' (xs ++ news) ∧ Chg [g] w w' ∧ (g' = g ∨ w.heap.size ≤ g') := by
  rcases Nat.eq_zero_or_pos m with h0 | h0
  · subst h0
    have hn : news = [] := List.eq_nil_of_length_eq_zero (by simpa using hl)
    subst hn
    obtain ⟨hu, hi, hz, hs⟩ := hT
    cases hinf : P.info? e with
    | none => rw [hinf] at hi; cases hi
    | some i =>
      rw [hinf] at hi
      simp only [Option.map_some, Option.some.injEq, Prod.mk.injEq] at hi
      rcases h.2 with ⟨e1, e2⟩ | ⟨g2, cap, cur, e1, hB, hg, h3, h4, h5, h6⟩
      · simp at e1
      · simp only [Value.slice.injEq, Option.some.injEq, Addr.mk.injEq, and_true, true_and] at e1
        obtain ⟨rfl, rfl⟩ := e1
        have hsz : n * i.size + ([] : List Value).length ≤ cur.size := by
          have : n * size ≤ c * size := Nat.mul_le_mul_right _ h3
          simp only [List.length_nil, Nat.add_zero, hi.2.1, h5]
          exact this
        obtain ⟨v', w', hrun, hown, hgr, _⟩ := run_append_own (P := P) w B t 0 e i z size bytes hu hinf hi.1 hi.2.1 hi.2.2 hz hs (.slice (some ⟨g, 0, none⟩) n c) n xs h a 0 mc [] hl hcells h1 (by omega) (by simpa using hbytes) hb
        have hr := run_append_room (P := P) w t 0 e i hu hinf g n c cur hg a 0 mc [] (by simp) hcells h1 (by omega) hsz
        rw [hr] at hrun
        injection hrun with hv hw
        subst hv
        subst hw
        refine ⟨g, c, _, hr, hown, ⟨hgr.os, hgr.tape, hgr.output, hgr.size, fun k hk hn => hgr.block k hk ?_⟩, .inl rfl⟩
        intro e; simp [Value.ownBlock] at e; simp at hn; omega
  · obtain ⟨p', c', w', hA, hO, hC, hP⟩ := h.pushN (mc := mc) hT hb hcells hl h1 hbytes hby h0
    obtain ⟨g', ys, rfl, _⟩ := hO.blk (by omega)
    refine ⟨g', c', w', hA, hO, hC, ?_⟩
    rcases hP with ⟨hp, _⟩ | ⟨hp, _⟩
    · simp at hp; exact .inl hp
    · exact .inr (hp g' rfl)
end Go.Proofs.YtdidocmbcfbjdaaDoor

namespace Go.Proofs.YtdidocmbcfbjdaaDoor
open Go Go.Proofs.YtdidocmbcfbjdaaDoor.Sx
set_option linter.unusedVariables false
set_option linter.unusedSimpArgs false
theorem row_at {s : List (ByteArray × Int)} {j : Nat} (h : j < s.length) (h2 : j < (sumsRows s).length) : (sumsRows s)[j] = .str s[j].1 :: enc s[j].2 := by simp [sumsRows]
end Go.Proofs.YtdidocmbcfbjdaaDoor

namespace Go.Proofs.YtdidocmbcfbjdaaDoor
open Go Go.Proofs.YtdidocmbcfbjdaaDoor.Sx
set_option linter.unusedVariables false
set_option linter.unusedSimpArgs false
/-- two additions at two keys may change places -/
theorem sumAdd_comm {a b : ByteArray} (hab : a ≠ b) (u v : Int) : ∀ {s : List (ByteArray × Int)}, Ordered s → sumAdd (sumAdd s a u) b v = sumAdd (sumAdd s b v) a u
  | [], _ => by
    have hba : b ≠ a := fun e => hab e.symm
    by_cases h1 : bLess a b = true
    · have h2 : bLess b a = false := by
        cases h : bLess b a with
        | false => rfl
        | true => have := bLess_trans h1 h; rw [bLess_irrefl] at this; cases this
      simp [sumAdd, h1, h2, hba]
    · have h2 : bLess b a = true := by
        cases h : bLess b a with
        | true => rfl
        | false => exact absurd (bLess_tri (by simpa using h1) h) hab
      simp [sumAdd, h1, h2, hab]
  | x :: r, ho => by
    have hba : b ≠ a := fun e => hab e.symm
    have hr := (List.pairwise_cons.1 ho).2
    have ih := sumAdd_comm hab u v hr
    have tri : ∀ c, bLess x.1 c = true ∨ x.1 = c ∨ (bLess x.1 c = false ∧ x.1 ≠ c ∧ bLess c x.1 = true) := fun c => by
      cases h : bLess x.1 c with
      | true => exact .inl rfl
      | false =>
        by_cases e : x.1 = c
        · exact .inr (.inl e)
        · right; right
          refine ⟨rfl, e, ?_⟩
          cases h2 : bLess c x.1 with
          | true => rfl
          | false => exact absurd (bLess_tri h h2) e
    have asy : ∀ {c d : ByteArray}, bLess c d = true → bLess d c = false := fun {c d} h => by
      cases h2 : bLess d c with
      | false => rfl
      | true => have := bLess_trans h h2; rw [bLess_irrefl] at this; cases this
    rcases tri a with ha | ha | ⟨ha, hae, hal⟩
    · rcases tri b with hb | hb | ⟨hb, hbe, hbl⟩
      · simp [sumAdd, ha, hb, ih]
      · subst hb
        simp [sumAdd, ha, bLess_irrefl]
      · have hlt := bLess_trans hbl ha
        simp [sumAdd, ha, hb, hbe, hlt]
    · subst ha
      rcases tri b with hb | hb | ⟨hb, hbe, hbl⟩
      · simp [sumAdd, hb, bLess_irrefl]
      · exact absurd hb hab
      · simp [sumAdd, hb, hbe, bLess_irrefl, hbl]
    · rcases tri b with hb | hb | ⟨hb, hbe, hbl⟩
      · have hlt := bLess_trans hal hb
        simp [sumAdd, ha, hae, hb, hlt]
      · subst hb
        simp [sumAdd, ha, hae, bLess_irrefl, hal]
      · cases hlt : bLess a b with
        | true =>
          have h2 := asy hlt
          simp [sumAdd, ha, hae, hb, hbe, hlt, h2, hba]
        | false =>
          have h2 : bLess b a = true := by
            cases h : bLess b a with
            | true => rfl
            | false => exact absurd (bLess_tri hlt h) hab
          simp [sumAdd, ha, hae, hb, hbe, hlt, h2, hab]
def debtKV : List D0 → ByteArray × ByteArray × Int
  | [.str a, .str b, .str _, .bool s, .ints z] => (a, b, ival [.bool s, .ints z])
  | _ => (ByteArray.empty, ByteArray.empty, 0)
def posStep (s : List (ByteArray × Int)) (x : List D0) : List (ByteArray × Int) := sumAdd (sumAdd s (debtKV x).2.1 (debtKV x).2.2) (debtKV x).1 (-(debtKV x).2.2)
def posTo (l : List (List D0)) (j : Nat) : List (ByteArray × Int) := (l.take j).foldl posStep []
theorem posTo_succ {l : List (List D0)} {j : Nat} (h : j < l.length) : posTo l (j + 1) = posStep (posTo l j) l[j] := by
  unfold posTo
  rw [List.take_succ_eq_append_getElem h, List.foldl_append]
  rfl
theorem posTo_ordered (l : List (List D0)) : ∀ j, j ≤ l.length → Ordered (posTo l j)
  | 0, _ => List.Pairwise.nil
  | j + 1, h => by rw [posTo_succ (by omega)]; exact sumAdd_ordered (sumAdd_ordered (posTo_ordered l j (by omega)))
theorem posTo_len (l : List (List D0)) : ∀ j, j ≤ l.length → (posTo l j).length ≤ 2 * j
  | 0, _ => Nat.le_refl _
  | j + 1, h => by
    rw [posTo_succ (by omega)]
    unfold posStep
    have h1 := (sumAdd_len (sumAdd (posTo l j) (debtKV l[j]).2.1 (debtKV l[j]).2.2) (debtKV l[j]).1 (-(debtKV l[j]).2.2)).1
    have h2 := (sumAdd_len (posTo l j) (debtKV l[j]).2.1 (debtKV l[j]).2.2).1
    have := posTo_len l j (by omega)
    omega
theorem debt_facts {cur : ByteArray} {x : List D0} (hc : x.map D0.code = [.str, .str, .str, .bool, .ints]) (h : debtOk cur x = true) : ∃ a b c u, x = .str a :: .str b :: .str c :: enc u ∧ u.natAbs ≤ 1000000000000000000000000000000000000 ∧ debtKV x = (a, b, u) ∧ a ≠ b ∧ intOk (enc u) = true := by
  obtain ⟨a, es, he, c1⟩ := code_str hc
  obtain ⟨b, es2, he2, c2⟩ := code_str c1
  obtain ⟨c, es3, he3, c3⟩ := code_str c2
  obtain ⟨s, es4, he4, c4⟩ := code_bool c3
  obtain ⟨z, es5, he5, c5⟩ := code_ints c4
  have := code_nil c5
  subst this; subst he5; subst he4; subst he3; subst he2; subst he
  simp only [debtOk, Bool.and_eq_true, Bool.not_eq_true', decide_eq_false_iff_not] at h
  obtain ⟨u, h1, h2, h3⟩ := money_abs h.1.1.1.1.1
  have hi := moneyOk_int h.1.1.1.1.1
  rw [h1] at hi
  exact ⟨a, b, c, u, by rw [h1], h3, by rw [h2]; rfl, h.2, hi⟩
theorem debts_facts {cur : ByteArray} {l : List (List D0)} (h : debtsOk cur l = true) : l.length ≤ 20 ∧ ∀ x ∈ l, debtOk cur x = true := by
  simp only [debtsOk, Bool.and_eq_true, decide_eq_true_eq, List.all_eq_true] at h
  exact ⟨h.1.2, h.2⟩
theorem posTo_bound {cur : ByteArray} {l : List (List D0)} (hc : ∀ x ∈ l, x.map D0.code = [.str, .str, .str, .bool, .ints]) (hok : debtsOk cur l = true) : ∀ j, j ≤ l.length → ∀ x ∈ posTo l j, x.2.natAbs ≤ (2 * j) * 1000000000000000000000000000000000000
  | 0, _, x, hx => by simp [posTo] at hx
  | j + 1, h, x, hx => by
    rw [posTo_succ (by omega)] at hx
    have hm : l[j] ∈ l := List.getElem_mem (by omega)
    obtain ⟨a, b, c, u, he, hu, hk, _, _⟩ := debt_facts (hc _ hm) ((debts_facts hok).2 _ hm)
    unfold posStep at hx
    rw [hk] at hx
    have h1 := sumAdd_bound (c := b) (posTo_bound hc hok j (by omega)) hu
    have h2 := sumAdd_bound (N := 1000000000000000000000000000000000000) (c := a) h1 (by rw [Int.natAbs_neg]; exact hu) x hx
    rw [show 2 * (j + 1) = (2 * j + 1) + 1 by omega, Nat.succ_mul, Nat.succ_mul]
    exact h2
def posT (cur : ByteArray) (l : List (List D0)) : List (List D0) := if debtsOk cur l then sumsRows (posTo l l.length) else []
theorem posT_code (cur : ByteArray) (l : List (List D0)) : ∀ x ∈ posT cur l, x.map D0.code = [.str, .bool, .ints] := by
  unfold posT
  split
  · exact sumsRows_code
  · intro x hx; simp at hx
theorem cntL_small : ∀ (s : List (ByteArray × Int)), (∀ x ∈ s, x.2.natAbs ≤ 40000000000000000000000000000000000000) → cntL (sumsRows s) ≤ (s.length : Nat) * 8
  | [], _ => by simp [sumsRows, cntL]
  | x :: s, h => by
    have ih := cntL_small s (fun y hy => h y (List.mem_cons_of_mem _ hy))
    have hx := h x List.mem_cons_self
    have hl : (digs x.2.natAbs).length ≤ 6 := digs_len_le (by omega)
    have he : cntL (sumsRows (x :: s)) = cnts (.str x.1 :: enc x.2) + cntL (sumsRows s) := rfl
    rw [he]
    have hc : cnts (.str x.1 :: enc x.2) = 1 + (1 + (((digs x.2.natAbs).length : Nat) + 0)) := rfl
    rw [hc, List.length_cons]
    omega
theorem pos40 {cur : ByteArray} {l : List (List D0)} (hc : ∀ x ∈ l, x.map D0.code = [.str, .str, .str, .bool, .ints]) (hok : debtsOk cur l = true) {j : Nat} (hj : j ≤ l.length) : ∀ x ∈ posTo l j, x.2.natAbs ≤ 40000000000000000000000000000000000000 := fun x hx => by
  have h1 := posTo_bound hc hok j hj x hx
  have h2 := (debts_facts hok).1
  exact Nat.le_trans h1 (Nat.le_trans (Nat.mul_le_mul_right _ (show 2 * j ≤ 40 by omega)) (by decide))
theorem posT_cnt {cur : ByteArray} {l : List (List D0)} (hc : ∀ x ∈ l, x.map D0.code = [.str, .str, .str, .bool, .ints]) : cntL (posT cur l) ≤ 1000000000 := by
  unfold posT
  split
  · rename_i h
    have h1 := cntL_small (posTo l l.length) (pos40 hc h (Nat.le_refl _))
    have h3 := posTo_len l l.length (Nat.le_refl _)
    have h4 := (debts_facts h).1
    omega
  · decide
/-- what lies at a place, and what is put there -/
theorem bump {w5 : World} {B b n2 c2 : Nat} {s : List (ByteArray × Int)} {key : ByteArray} {f2 : List Nat} {e : TypeId} (ho5 : OwnRows w5 B e 3 (some ⟨b, 0, none⟩) n2 c2 (sumsRows (sumAdd s key 0)) f2) (ht : aggT P T_impl_Signed 2 = true) :
    ∃ (v : Int) (kp : Option Addr) (kn kc : Nat), B ≤ b ∧ b < w5.heap.size ∧ (sumAdd s key 0)[posOf s key]? = some (key, v) ∧ (∀ W, Ext w5 W → Loads P T_impl_Signed ((⟨b, posOf s key * 3, none⟩ : Addr).add 1) (.agg #[.bool (decide (v < 0)), .slice kp kn kc]) W) ∧
      Reps w5 [.bool (decide (v < 0)), .slice kp kn kc] (enc v) ∧
      ∀ (u : Int) (W8 : World) (b8 : Bool) (p8 : Option Addr) (n8 c8 : Nat) (f8 : List Nat), Ext w5 W8 → Owns W8 B [.bool b8, .slice p8 n8 c8] (enc (v + u)) f8 → f8.Nodup → (∀ q ∈ f8, w5.heap.size ≤ q) →
        ∃ w9 f9, Stores P T_impl_Signed ((⟨b, posOf s key * 3, none⟩ : Addr).add 1) (.agg #[.bool b8, .slice p8 n8 c8]) W8 w9 ∧ OwnRows w9 B e 3 (some ⟨b, 0, none⟩) n2 c2 (sumsRows (sumAdd s key u)) f9 ∧ Chg [b] W8 w9 ∧ w9.heap.size = W8.heap.size ∧ (∀ q ∈ f9, q ∈ f2 ∨ q ∈ f8) := by
  obtain ⟨v, hv1, _⟩ := sumAdd_two (s := s) (c := key) (u := 0)
  have hrow : (sumsRows (sumAdd s key 0))[posOf s key]? = some (.str key :: enc v) := by
    unfold sumsRows
    rw [List.getElem?_map, hv1]
    rfl
  obtain ⟨b', xs, cs5, zs, hpb, hbB, hbf, hxl, hcl, hblk, hrep, hput⟩ := ho5.put hrow
  simp only [Option.some.injEq, Addr.mk.injEq, and_true] at hpb
  obtain rfl := hpb
  obtain ⟨k0, k1, kp, kn, kc, kz, rfl, hkd, hki⟩ := open_Money hrep rfl
  simp only [enc, List.cons.injEq, D0.str.injEq, D0.bool.injEq, D0.ints.injEq, and_true] at hkd
  obtain ⟨rfl, rfl, rfl⟩ := hkd
  refine ⟨v, kp, kn, kc, hbB, hblk.lt, hv1, fun W hW => (hblk.ext hW).loadAAt (posOf s key * 3 + 1) [.bool (decide (v < 0)), .slice kp kn kc] (by rw [addr_add]) ht (by rw [← hxl, List.append_assoc, List.drop_length_add_append]; rfl), ⟨rfl, ⟨_, _, _, rfl, hki⟩, trivial⟩, ?_⟩
  intro u W8 b8 p8 n8 c8 f8 hx h8 hn8 hf8
  have hblk8 := hblk.ext hx
  have hpl : posOf s key * 3 + 3 ≤ (xs ++ [Value.string key, Value.bool (decide (v < 0)), Value.slice kp kn kc] ++ zs).length := by simp [hxl]
  obtain ⟨w9, st9, hb9, ch9, sz9⟩ := hblk8.storeA (P := P) (t := T_impl_Signed) (k := posOf s key * 3 + 1) (xs := [.bool b8, .slice p8 n8 c8]) ht (by simp only [List.length_cons, List.length_nil]; omega) (by simp [Value.oneCell'])
  have hnew : (xs ++ [Value.string key, Value.bool (decide (v < 0)), Value.slice kp kn kc] ++ zs).take (posOf s key * 3 + 1) ++ [Value.bool b8, .slice p8 n8 c8] ++ (xs ++ [Value.string key, Value.bool (decide (v < 0)), Value.slice kp kn kc] ++ zs).drop (posOf s key * 3 + 1 + [Value.bool b8, .slice p8 n8 c8].length) = xs ++ [Value.string key, Value.bool b8, .slice p8 n8 c8] ++ zs := by
    rw [← hxl, List.append_assoc xs, List.take_length_add_append, Nat.add_assoc, List.drop_length_add_append]
    simp
  rw [hnew] at hb9
  have hbl := hblk.lt
  have ho9 : Owns w9 B [.string key, .bool b8, .slice p8 n8 c8] (.str key :: enc (v + u)) f8 := Owns.append (Owns.str _ _ key) (h8.chg ch9 (fun k hk hm => by
    have := hf8 k hk
    simp at hm; omega))
  obtain ⟨f9, hor9, hf9⟩ := hput w9 _ _ f8 (hx.toChg.trans ch9) rfl hb9 ho9 hn8 (fun y hy hm => by have := hf8 y hy; have := (ho5.lt y hm).2; omega)
  refine ⟨w9, f9, ?_, ?_, ch9, sz9, hf9⟩
  · rw [addr_add] at st9 ⊢
    rw [Nat.zero_add] at st9
    exact st9
  · obtain ⟨v', hv1', hv2'⟩ := sumAdd_two (s := s) (c := key) (u := u)
    rw [hv1] at hv1'
    simp only [Option.some.injEq, Prod.mk.injEq, true_and] at hv1'
    subst hv1'
    have : sumsRows (sumAdd s key u) = (sumsRows (sumAdd s key 0)).set (posOf s key) (.str key :: enc (v + u)) := by
      rw [hv2']
      unfold sumsRows
      rw [List.map_set]
    rw [this]
    exact hor9
theorem impl_Positions_1_c {w : World} {xs ys : List Value} {a b : ByteArray} {d e : Bool} {z z2 : List Int} (h : Reps w xs [.str a, .bool d, .ints z]) (g : Reps w ys [.str b, .bool e, .ints z2]) :
    Ret P n_impl_Positions_1 [.agg ⟨xs⟩, .agg ⟨ys⟩] w fun v w' => v = .int .i64 (cmpS a b) ∧ Ext w w' := by
  obtain ⟨a0, a1, ap, an, ac, az, rfl, hd, _⟩ := open_Pos h rfl
  obtain ⟨b0, b1, bp, bn, bc, bz, rfl, he, _⟩ := open_Pos g rfl
  cases hd
  cases he
  refine impl_Positions_1_ret ?_
  unfold impl_Positions_1
  intro r w1 hn1 r1 w2 hn2
  have q0 := hn1.blk.ext hn2.ext; have q1 := hn2.blk
  have y := hn1.ext.trans hn2.ext
  refine ⟨_, q0.loadAt 0 rfl (by kernel_rfl) rfl, _, q1.loadAt 0 rfl (by kernel_rfl) rfl, fun h => ⟨?_, y⟩, fun h => ⟨_, q0.loadAt 0 rfl (by kernel_rfl) rfl, _, q1.loadAt 0 rfl (by kernel_rfl) rfl, fun g => ⟨?_, y⟩, fun g => ⟨?_, y⟩⟩⟩
  · unfold cmpS; rw [if_pos (show bLess a b = true from h)]
  · unfold cmpS
    rw [if_neg (show ¬ bLess a b = true by show ¬ Op.bytesLess _ _ = true; rw [h]; simp)]
    rw [h] at g
    simp at g
    rw [if_neg g]
  · unfold cmpS
    rw [if_neg (show ¬ bLess a b = true by show ¬ Op.bytesLess _ _ = true; rw [h]; simp)]
    rw [h] at g
    simp at g
    rw [if_pos g]
set_option maxHeartbeats 1000000 in
theorem impl_Positions_o {w : World} (cur : ByteArray) {p : Option Addr} {n c : Nat} {l : List (List D0)} (h : RowsR w 5 p n c l) (hc : ∀ x ∈ l, x.map D0.code = [.str, .str, .str, .bool, .ints]) (hn : n ≤ 1048576) (hb : ∀ x ∈ l, bulks x ≤ 1048576) (ht : Tab w) :
    Ret P n_impl_Positions [.string cur, .slice p n c] w fun v w' => ∃ p' n' c' f, v = .tuple #[.slice p' n' c', .bool (debtsOk cur l)] ∧ OwnRows w' w.heap.size T_impl_Pos 3 p' n' c' (posT cur l) f ∧ Ext w w' := by
  have hln := h.1
  refine impl_Positions_ret ?_
  unfold impl_Positions
  refine Ret.at (impl_DebtsOk_c cur h hc hn hb ht) ?_
  rintro v w0 ⟨hv, y0⟩
  subst hv
  refine ⟨_, rfl, ifN (fun hno => ⟨none, 0, 0, [], by rw [hno], ?_, y0⟩) (fun hok => ?_)⟩
  · have : posT cur l = [] := by unfold posT; rw [hno]; rfl
    rw [this]; exact ⟨rfl, [], [], trivial, Own.nil _ _ _ _, by simp, by simp⟩
  obtain ⟨hl20, hall⟩ := debts_facts hok
  have hlim : ∀ x : Int, x.natAbs ≤ 100 * 1000000000000000000000000000000000000 → (digs x.natAbs).length ≤ 10000000 := fun x hx => by have := digs_len_le (n := x.natAbs) (by omega); omega
  intro r w1 hn1
  have e1 := hn1.r_eq; have z1 := hn1.size
  obtain ⟨w2, st2, b2, y2⟩ := hn1.fill (P := P) (t := T_impl_ordered_loop_example_g00793_impl_Pos) (xs := [.slice none 0 0, .func (.func 51) ⟨[]⟩ ⟨[]⟩]) (by simp [Value.oneCell']) (by kernel_rfl) rfl
  have lb2 := b2.lt
  have ly0 := y0.le
  have hcf : ∀ (W : World) (cs ys : List Value) (a b : ByteArray) (d e : Bool) (z z2 : List Int) (w' : World), Ext W w' → Reps w' cs [.str a, .bool d, .ints z] → Reps w' ys [.str b, .bool e, .ints z2] → CallW P (.func (.func 51) ⟨[]⟩ ⟨[]⟩) [.agg ⟨cs⟩, .agg ⟨ys⟩] w' fun e w'' => e = .returned (.int .i64 (cmpS a b)) ∧ Ext w' w'' := by
    intro W cs ys a b d e z z2 w' _ h1 h2
    refine ⟨_, _, _, rfl, by kernel_rfl, ?_⟩
    refine Calls.mono (impl_Positions_1_c h1 h2) ?_
    rintro e w'' ⟨v, he, hv, y⟩
    subst hv
    exact ⟨he, y⟩
  refine ⟨w2, st2, fun i wr => ∃ (j : Nat) (p' : Option Addr) (n' c' : Nat) (f : List Nat), i = j ∧ j ≤ n ∧ Blk wr r T_impl_ordered_loop_example_g00793_impl_Pos [.slice p' n' c', .func (.func 51) ⟨[]⟩ ⟨[]⟩] ∧ OwnRows wr (r + 1) T_impl_Pos 3 p' n' c' (sumsRows (posTo l j)) f ∧ Ext w wr, fun i _ => n - i.toNat, ⟨0, none, 0, 0, [], rfl, Nat.zero_le _, b2, ⟨rfl, [], [], trivial, Own.nil _ _ _ _, by simp, by simp⟩, y0.trans y2⟩, ?_⟩
  intro junk wr i ⟨j, p', n', c', f, hij, hj, hbr, ho, hx⟩
  subst hij
  refine ifD (fun hlt => ?_) (fun hge => ?_)
  rotate_left
  · have hjn : j = n := by omega
    subst hjn
    refine ⟨_, _, _, hbr.loadAt 0 rfl (by kernel_rfl) rfl, _, _, _, f, by rw [hok], ?_, hx⟩
    have : posT cur l = sumsRows (posTo l j) := by unfold posT; rw [hok, if_pos rfl, hln]
    rw [this]
    exact ho.mono (by omega)
  have hjn : j < n := by omega
  have hjl : j < l.length := by omega
  have hrl := hbr.lt
  have hm : l[j] ∈ l := List.getElem_mem hjl
  obtain ⟨from_, to_, dc, u, he, hu, hkv, hab, _⟩ := debt_facts (hc _ hm) (hall _ hm)
  obtain ⟨bl, offl, hpl, hsl0⟩ := h.2.2.2 (by omega)
  subst hpl
  obtain ⟨cs, hk, hr0, hsg⟩ := hsl0 j _ (List.getElem?_eq_getElem hjl)
  rw [he] at hr0
  obtain ⟨s0, s1, s2, s3, sp, sn, sc, sz, rfl, hd, hsi⟩ := open_Debt hr0 rfl
  simp only [enc, List.cons.injEq, D0.str.injEq, D0.bool.injEq, D0.ints.injEq, and_true] at hd
  obtain ⟨rfl, rfl, rfl, rfl, rfl⟩ := hd
  have hru : ∀ W, Ext w W → Reps W [.bool (decide (u < 0)), .slice sp sn sc] (enc u) := fun W hW => ⟨rfl, ⟨_, _, _, rfl, hsi.ext hW⟩, trivial⟩
  have hld : Loads P T_impl_Debt ((⟨bl, offl, none⟩ : Addr).add (j * 5)) (.agg ⟨[.string from_, .string to_, .string dc, .bool (decide (u < 0)), .slice sp sn sc]⟩) wr := (hsg.ext hx).loadAAt 0 _ (by rw [addr_add]; rfl) (by kernel_rfl) rfl
  refine ⟨⟨by omega, by omega⟩, _, _, _, _, _, _, _, by rw [Int.toNat_natCast]; exact hld, ?_⟩
  intro r1 w3 hn3
  have e3 := hn3.r_eq
  obtain ⟨w4, st4, b4, y4⟩ := hn3.fill (P := P) (t := T_impl_Debt) (xs := [.string from_, .string to_, .string dc, .bool (decide (u < 0)), .slice sp sn sc]) (by simp [Value.oneCell']) (by kernel_rfl) rfl
  have lx := hx.le; have l4 := y4.le
  have hsl := ho.1
  rw [sumsRows_len] at hsl
  have hslen := posTo_len l j (by omega)
  have hsz := pos40 hc hok (j := j) (by omega)
  have lb4 := b4.lt
  refine ⟨w4, st4, _, b4.loadAt 1 rfl (by kernel_rfl) rfl, ?_⟩
  refine Ret.at (at_Pos_c (hbr.ext y4) (ho.ext y4) (posTo_ordered l j (by omega)) (fun hm => by have := (ho.lt r hm).1; omega) (by omega) (by omega) rfl (hcf w4) to_) ?_
  rintro v w5 ⟨b, n2, c2, f2, hv, hb5, ho5, hch5, hf5⟩
  subst hv
  have hpB : ∀ q ∈ (p'.map (·.block)).toList, q ∈ f := fun q hq => by obtain ⟨_, _, _, _, _, hf, _⟩ := ho; rw [hf]; exact List.mem_append_left _ hq
  have X5 : Ext w w5 := (hx.trans y4).chg hch5 (fun q hq => by
    rcases List.mem_cons.1 hq with hq | hq
    · omega
    · have := (ho.lt q (hpB q hq)).1; omega)
  have b4' : Blk w5 r1 T_impl_Debt [.string from_, .string to_, .string dc, .bool (decide (u < 0)), .slice sp sn sc] := b4.chg hch5 (fun hm => by
    rcases List.mem_cons.1 hm with hm | hm
    · omega
    · have := (ho.lt r1 (hpB r1 hm)).2; omega)
  have l5 := hch5.size
  obtain ⟨v, kp, kn, kc, hbB, hblt, hat, hld1, hrv, hbump⟩ := bump ho5 (by kernel_rfl)
  have hvb : v.natAbs ≤ 41 * 1000000000000000000000000000000000000 := by
    have := sumAdd_bound (N := 0) (c := to_) (u := 0) hsz (by simp) _ (List.mem_of_getElem? hat)
    exact Nat.le_trans this (by decide)
  have d5 := Ext.drew w5
  refine ⟨_, rfl, _, _, _, _, fun W hW => hld1 W (d5.trans hW), _, _, _, _, fun W hW => ((b4'.ext d5).ext hW).loadAAt 3 [.bool (decide (u < 0)), .slice sp sn sc] rfl (by kernel_rfl) rfl, ?_⟩
  refine Ret.at (impl_intAdd_c (hrv.ext d5) (hru _ (X5.trans d5)) (hlim v (Nat.le_trans hvb (Nat.mul_le_mul_right _ (by decide)))) (hlim u (Nat.le_trans hu (Nat.le_mul_of_pos_left _ (by decide))))) ?_
  rintro v8 w8 ⟨mp, mn, mc, hv8, hown8, y8⟩
  subst hv8
  have Y8 := d5.trans y8
  have lY8 := Y8.le
  obtain ⟨w9, f9, st9, ho9, ch9, sz9, hf9⟩ := hbump u w8 _ mp mn mc (mp.map (·.block)).toList Y8 ((Owns.int2 (b := decide (v + u < 0)) hown8).mono (by have := d5.le; omega)) (nodup_opt mp) (fun q hq => by
    have h1 := (World.ownsRow.lt hown8 q (by cases mp <;> simp_all [Value.ownBlock])).1
    have := d5.le; omega)
  have X9 : Ext w w9 := (X5.trans Y8).chg ch9 (by simp; omega)
  have hb9 : Blk w9 r T_impl_ordered_loop_example_g00793_impl_Pos [.slice (some ⟨b, 0, none⟩) n2 c2, .func (.func 51) ⟨[]⟩ ⟨[]⟩] := (hb5.ext Y8).chg ch9 (by simp; omega)
  have b49 : b ≠ r1 := fun e => by
    have hbin : b ∈ f2 := by obtain ⟨_, _, _, _, _, hf, _⟩ := ho5; rw [hf]; simp
    rcases hf5 b hbin with h1 | h1
    · have := (ho.lt b h1).2; omega
    · omega
  have b4'' := (b4'.ext Y8).chg ch9 (by simp; omega)
  have hs1 := sumAdd_ordered (c := to_) (u := u) (posTo_ordered l j (by omega))
  have hn2 := ho9.1
  rw [sumsRows_len] at hn2
  have hlen1 := (sumAdd_len (posTo l j) to_ u).1
  have hsz1 := sumAdd_bound (c := to_) hsz hu
  have hf9r : ∀ q ∈ f9, r + 1 ≤ q := fun q hq => (ho9.lt q hq).1
  refine ⟨_, _, _, _, rfl, w9, st9, _, b4''.loadAt 0 rfl (by kernel_rfl) rfl, ?_⟩
  refine Ret.at (at_Pos_c hb9 ho9 hs1 (fun hm => by have := hf9r r hm; omega) (by omega) (by omega) rfl (hcf w9) from_) ?_
  rintro v w10 ⟨b', n3, c3, f3, hv, hb10, ho10, hch10, hf10⟩
  subst hv
  have hbin9 : b ∈ f9 := by obtain ⟨_, _, _, _, _, hf, _⟩ := ho9; rw [hf]; simp
  have X10 : Ext w w10 := X9.chg hch10 (fun q hq => by
    rcases List.mem_cons.1 hq with hq | hq
    · omega
    · simp at hq; omega)
  have b410 : Blk w10 r1 T_impl_Debt [.string from_, .string to_, .string dc, .bool (decide (u < 0)), .slice sp sn sc] := b4''.chg hch10 (fun hm => by
    rcases List.mem_cons.1 hm with hm | hm
    · omega
    · simp at hm; omega)
  have l10 := hch10.size
  obtain ⟨v2, kp2, kn2, kc2, hbB2, hblt2, hat2, hld2, hrv2, hbump2⟩ := bump ho10 (by kernel_rfl)
  have hvb2 : v2.natAbs ≤ 42 * 1000000000000000000000000000000000000 := by
    have := sumAdd_bound (N := 0) (c := from_) (u := 0) hsz1 (by simp) _ (List.mem_of_getElem? hat2)
    exact Nat.le_trans this (by decide)
  have d10 := Ext.drew w10
  refine ⟨_, rfl, _, _, _, _, fun W hW => hld2 W (d10.trans hW), _, _, _, _, fun W hW => ((b410.ext d10).ext hW).loadAAt 3 [.bool (decide (u < 0)), .slice sp sn sc] rfl (by kernel_rfl) rfl, ?_⟩
  refine Ret.at (impl_intNeg_c (hru _ (X10.trans d10)) (hlim u (Nat.le_trans hu (Nat.le_mul_of_pos_left _ (by decide))))) ?_
  rintro v11 w11 ⟨vs11, f11, hv11, ho11, nd11, y11⟩
  subst hv11
  obtain ⟨g0, gp, gn, gc', gz, rfl, _, _⟩ := open_Signed ho11.reps (enc_code _)
  refine ⟨_, _, _, _, rfl, y11, ?_⟩
  refine Ret.at (impl_intAdd_c ((hrv2.ext d10).ext y11) ho11.reps (hlim v2 (Nat.le_trans hvb2 (Nat.mul_le_mul_right _ (by decide)))) (hlim (-u) (by rw [Int.natAbs_neg]; exact Nat.le_trans hu (Nat.le_mul_of_pos_left _ (by decide))))) ?_
  rintro v12 w12 ⟨mp2, mn2, mc2, hv12, hown12, y12⟩
  subst hv12
  have Y12 := (d10.trans y11).trans y12
  have lY12 := Y12.le
  have ly11 := (d10.trans y11).le
  obtain ⟨w13, f13, st13, ho13, ch13, sz13, hf13⟩ := hbump2 (-u) w12 _ mp2 mn2 mc2 (mp2.map (·.block)).toList Y12 ((Owns.int2 (b := decide (v2 + -u < 0)) hown12).mono (by omega)) (nodup_opt mp2) (fun q hq => by
    have h1 := (World.ownsRow.lt hown12 q (by cases mp2 <;> simp_all [Value.ownBlock])).1
    omega)
  have X13 : Ext w w13 := (X10.trans Y12).chg ch13 (by simp; omega)
  refine ⟨_, _, _, _, rfl, w13, st13, exW ⟨by omega, by omega⟩ ⟨⟨j + 1, _, _, _, f13, rfl, by omega, (hb10.ext Y12).chg ch13 (by simp; omega), ?_, X13⟩, by show n - ((j : Int) + 1).toNat < n - (j : Int).toNat; omega⟩⟩
  rw [posTo_succ hjl]
  unfold posStep
  rw [hkv]
  exact ho13
end Go.Proofs.YtdidocmbcfbjdaaDoor

namespace Go.Proofs.YtdidocmbcfbjdaaDoor
open Go Go.Proofs.YtdidocmbcfbjdaaDoor.Sx
set_option linter.unusedVariables false
set_option linter.unusedSimpArgs false
set_option maxHeartbeats 1000000 in
theorem spec_l16Add_c {w : World} {B b n c : Nat} {s : List (ByteArray × Int)} {f : List Nat} {xs0 : List Value} {u : Int} (ho : OwnRows w B T_impl_Pos 3 (some ⟨b, 0, none⟩) n c (sumsRows s) f) (hord : Ordered s) (hB : B ≤ w.heap.size) (hn : n ≤ 1000000) (hr : Reps w xs0 (enc u)) (hu : u.natAbs ≤ 1000000000000000000000000000000000000) (hsz : ∀ x ∈ s, x.2.natAbs ≤ 50 * 1000000000000000000000000000000000000) (who : ByteArray) :
    Ret P n_spec_l16Add [.slice (some ⟨b, 0, none⟩) n c, .string who, .agg ⟨xs0⟩] w fun v w' => ∃ b' n' c' f', v = .slice (some ⟨b', 0, none⟩) n' c' ∧ OwnRows w' B T_impl_Pos 3 (some ⟨b', 0, none⟩) n' c' (sumsRows (sumAdd s who u)) f' ∧ Chg [b] w w' := by
  have hsl := ho.1
  rw [sumsRows_len] at hsl
  have hrr := hr
  obtain ⟨s2, sp, sn, sc, sz, rfl, hd, hsi⟩ := open_Signed hr (enc_code _)
  refine spec_l16Add_ret ?_
  unfold spec_l16Add
  intro r w1 hn1
  have e1 := hn1.r_eq; have z1 := hn1.size
  have b1 := hn1.blk
  refine ⟨fun k wk => ∃ kk : Nat, k = kk ∧ kk ≤ n ∧ (∀ a x, s[a]? = some x → a < kk → bLess x.1 who = true) ∧ Ext w1 wk, fun k _ => n - k.toNat, ⟨0, rfl, Nat.zero_le _, fun a x _ ha => absurd ha (by omega), Ext.refl _⟩, ?_⟩
  intro junk wk k ⟨kk, hkk, hkn, hless, hxk⟩
  subst hkk
  have X1 := hn1.ext.trans hxk
  have lX := X1.le
  have found : kk = posOf s who → hasAt s who = true → spec_l16Add_j0 (some ⟨b, 0, none⟩) n c who r ((kk : Nat) : Int) true wk (fun v w' => ∃ b' n' c' f', v = .slice (some ⟨b', 0, none⟩) n' c' ∧ OwnRows w' B T_impl_Pos 3 (some ⟨b', 0, none⟩) n' c' (sumsRows (sumAdd s who u)) f' ∧ Chg [b] w w') := by
    intro hpos hhas
    obtain ⟨v0, hv1, hv2⟩ := sumAdd_has (u := 0) hhas
    have hs0 : sumAdd s who 0 = s := by
      rw [hv2, Int.add_zero]
      obtain ⟨h1, h2⟩ := List.getElem?_eq_some_iff.1 hv1
      rw [← h2, List.set_getElem_self]
    have hkl : kk < n := by have := (List.getElem?_eq_some_iff.1 hv1).1; omega
    have how := ho.ext X1
    rw [← hs0] at how
    obtain ⟨v, kp, kn, kc, hbB, hblt, hat, hld1, hrv, hbump⟩ := bump how (by kernel_rfl)
    rw [← hpos] at hld1
    have hvb := hsz _ (List.mem_of_getElem? (by rw [hs0] at hat; exact hat))
    have dk := Ext.drew wk
    unfold spec_l16Add_j0
    refine ⟨fun _ => ?_, fun hh => absurd hh (by simp)⟩
    rw [Int.toNat_natCast]
    refine ⟨⟨by omega, by omega⟩, _, _, _, _, fun W hW => by rw [addr_add, Nat.zero_add]; exact hld1 W (dk.trans hW), _, _, _, _, fun W hW => (b1.ext ((hxk.trans dk).trans hW)).loadA0 (by kernel_rfl), ?_⟩
    refine Ret.at (spec_IntAdd_c (hrv.ext dk) (hrr.ext (X1.trans dk)) (enc_code _) (enc_code _)) ?_
    rintro v8 w8 ⟨vs8, f8, hv8, ho8, nd8, y8⟩
    subst hv8
    rw [iadd_small (by omega) (by omega)] at ho8
    obtain ⟨m0, mp, mn, mc, mz, rfl, _, _⟩ := open_Signed ho8.reps (enc_code _)
    have ldk := dk.le
    obtain ⟨w9, f9, st9, ho9, ch9, sz9, _⟩ := hbump u w8 m0 mp mn mc f8 (dk.trans y8) (ho8.mono (by omega)) nd8 (fun q hq => by have := (ho8.lt q hq).1; omega)
    rw [← hpos] at st9
    refine ⟨_, _, _, _, rfl, ⟨by omega, by omega⟩, w9, by rw [addr_add, Nat.zero_add]; exact st9, b, n, c, f9, rfl, ho9, (X1.trans (dk.trans y8)).toChg.trans ch9⟩
  have new : kk = posOf s who → hasAt s who = false → spec_l16Add_j1 (some ⟨b, 0, none⟩) n c who r ((kk : Nat) : Int) wk (fun v w' => ∃ b' n' c' f', v = .slice (some ⟨b', 0, none⟩) n' c' ∧ OwnRows w' B T_impl_Pos 3 (some ⟨b', 0, none⟩) n' c' (sumsRows (sumAdd s who u)) f' ∧ Chg [b] w w') := by
    intro hpos hhas
    unfold spec_l16Add_j1
    intro r2 wa hna
    have hra := hna.r_eq; have hza := hna.size
    have how := ho.ext X1
    obtain ⟨xs, hown, h1, hins⟩ := how.ins (i := kk) hkn
    have hxl : xs.length = n * 3 := hown.len
    obtain ⟨cur, hBb, hcb, hcl, hnc, hcm, htk⟩ : ∃ ys, B ≤ b ∧ Blk wk b T_impl_Pos ys ∧ ys.length = c * 3 ∧ n ≤ c ∧ c ≤ maxLen ∧ ys.take (n * 3) = xs := by
      rcases hown.2 with ⟨e1, e2⟩ | ⟨g, cap, cu, e1, hB, hg, h3, h4, h5, h6⟩
      · simp at e1
      · simp only [Value.slice.injEq, Option.some.injEq, Addr.mk.injEq, and_true, true_and] at e1
        obtain ⟨rfl, rfl⟩ := e1
        exact ⟨cu.toList, hB, by cases cu; exact hg, by simpa using h5, h3, h4, h6⟩
    have hbl := hcb.lt
    have seg : ∀ W2, Ext wk W2 → Seg W2 b 0 xs := fun W2 hW2 => by
      have := ((hcb.ext hW2).seg).take (n * 3)
      rwa [htk] at this
    rw [Int.toNat_natCast, Nat.sub_zero, Nat.sub_zero, sub0g]
    have hT := ins_sliceT_Pos
    obtain ⟨g1, c1, w14, hA1, hO1, ch1, hg1⟩ := (Sx.Own.of_blk0 (base := B) (size := 3) (n := 0) hna.blk (by omega) (by simp) (by decide) : Sx.Own wa B T_impl_Pos 3 (some ⟨r2, 0, none⟩) 0 0 []).pushM (m := kk) (mc := c) (a := ⟨b, 0, none⟩) (news := xs.take (kk * 3)) hT (by omega) (fun j u hj => by
      have := ((seg wa hna.ext).take (kk * 3)) j u hj
      rw [addr_add]; exact this) (by simp; omega) (fun u hu => h1 u (List.mem_of_mem_take hu)) (by omega) (by decide)
    rw [Nat.zero_add, List.nil_append] at hO1
    rw [Nat.zero_add] at hA1
    have X14 : Ext wk w14 := hna.ext.chg ch1 (by simp; omega)
    have b14 := b1.ext (hxk.trans X14)
    refine ⟨⟨by omega, by omega⟩, _, _, _, w14, hA1, _, b14.loadAt 0 rfl (by kernel_rfl) rfl, _, _, _, b14.loadAt 1 rfl (by kernel_rfl) rfl, ?_⟩
    have hd' : s2 = decide (u < 0) ∧ sz = digs u.natAbs := by
      simp only [enc, List.cons.injEq, D0.bool.injEq, D0.ints.injEq, and_true] at hd
      exact ⟨hd.1.symm, hd.2.symm⟩
    obtain ⟨rfl, rfl⟩ := hd'
    refine Ret.at (spec_l04Make_c (neg := decide (u < 0)) (hsi.ext (X1.trans X14)) (digs_limbs _)) ?_
    rintro v w15 ⟨bq, mp, mn, mc, hv, hbq, own5, y15⟩
    subst hv
    have hcap : capL (digs (val (digs u.natAbs)).toNat) = digs u.natAbs := by
      rw [val_digs, Int.toNat_natCast]
      unfold capL
      rw [if_pos (by have := digs_len_le (n := u.natAbs) (by omega); omega)]
    rw [hcap] at own5 hbq
    have hbq' : bq = decide (u < 0) := by
      rw [hbq]
      by_cases hneg : u < 0
      · have hne : (digs u.natAbs).isEmpty = false := by
          cases hE : (digs u.natAbs).isEmpty with
          | false => rfl
          | true =>
            have h0 : digs u.natAbs = [] := List.isEmpty_iff.1 hE
            have h2 := val_digs u.natAbs
            rw [h0] at h2
            simp [val] at h2
            omega
        rw [hne]; simp
      · simp [hneg]
    subst hbq'
    have hox : Owns w15 w14.heap.size [.string who, .bool (decide (u < 0)), .slice mp mn mc] (.str who :: enc u) (mp.map (·.block)).toList := Owns.append (Owns.str _ _ who) (Owns.int2 own5)
    have ndx := nodup_opt mp
    refine ⟨_, _, _, _, rfl, ?_⟩
    intro r3 w16 hn16
    have e16 := hn16.r_eq; have z16 := hn16.size
    have l14 := X14.le; have l15 := y15.le
    have y16 := y15.trans hn16.ext
    have hg1l : g1 < w14.heap.size := by
      rcases hO1.2 with ⟨e1, e2⟩ | ⟨g, cap, cu, e1, hB, hg, h3, h4, h5, h6⟩
      · simp at e1
      · simp only [Value.slice.injEq, Option.some.injEq, Addr.mk.injEq, and_true, true_and] at e1
        obtain ⟨rfl, rfl⟩ := e1
        exact (Array.getElem?_eq_some_iff.1 hg).1
    obtain ⟨g2, c2, w17, hA2, hO2, ch2, hg2⟩ := (hO1.ext y16).pushM (m := 1) (mc := 1) (a := ⟨r3, 0, none⟩) (news := [.string who, .bool (decide (u < 0)), .slice mp mn mc]) hT (by omega) (fun j u hj => by rw [addr_add, Nat.zero_add, hn16.blk.cell, hj]) rfl (by simp [Value.oneCell']) (by omega) (by decide)
    have hg1B : wk.heap.size ≤ g1 := by rcases hg1 with h | h <;> omega
    have X17 : Ext wk w17 := (X14.trans y16).chg ch2 (by simp; omega)
    refine ⟨_, _, _, w17, hA2, ⟨by omega, by omega⟩, ?_⟩
    obtain ⟨g3, c3, w18, hA3, hO3, ch3, hg3⟩ := hO2.pushM (m := n - kk) (mc := c - kk) (a := if kk < c then ⟨b, kk * 3, none⟩ else ⟨b, 0, none⟩) (news := xs.drop (kk * 3)) hT (by have := X17.le; omega) (fun j u hj => by
      have hkc : kk < c := by
        have := (List.getElem?_eq_some_iff.1 hj).1
        simp at this; omega
      rw [if_pos hkc, addr_add]
      have := ((seg w17 X17).drop (kk * 3)) j u hj
      rwa [Nat.zero_add] at this) (by simp; omega) (fun u hu => h1 u (List.mem_of_mem_drop hu)) (by omega) (by decide)
    have hsub : Sx.sub (some ⟨b, 0, none⟩) kk c 3 = some (if kk < c then ⟨b, kk * 3, none⟩ else ⟨b, 0, none⟩) := by
      by_cases hk : kk < c
      · rw [if_pos hk, subS hk]
      · rw [if_neg hk]
        have : kk = c := by omega
        subst this
        simp [Sx.sub]
    have l16 := y16.le; have l17 := X17.le; have lc2 := ch2.size
    have hg2B : wk.heap.size ≤ g2 := by rcases hg2 with h | h <;> omega
    have X18 : Ext wk w18 := X17.chg ch3 (by simp; omega)
    have hfxl : ∀ q ∈ (mp.map (·.block)).toList, w14.heap.size ≤ q ∧ q < w15.heap.size := hox.lt
    have hg2n : ∀ q ∈ (mp.map (·.block)).toList, q ≠ g2 := fun q hq e => by
      have := hfxl q hq
      have := hn16.size
      rcases hg2 with h | h
      · omega
      · omega
    have hg3n : ∀ q ∈ (mp.map (·.block)).toList, q ≠ g3 := fun q hq e => by
      have h1 := hfxl q hq
      rcases hg3 with h | h
      · exact hg2n q hq (by omega)
      · omega
    have hox18 : Owns w18 B [.string who, .bool (decide (u < 0)), .slice mp mn mc] (.str who :: enc u) (mp.map (·.block)).toList := (((hox.ext hn16.ext).chg ch2 (fun k hk hm => by
      have := hfxl k hk
      simp at hm; omega)).chg ch3 (fun k hk hm => hg2n k hk (by simp at hm; exact hm))).mono (by omega)
    rw [show kk + 1 + (n - kk) = n + 1 by omega] at hA3 hO3
    obtain ⟨f', hor, _⟩ := hins w18 (some ⟨g3, 0, none⟩) c3 _ _ _ hO3 X18.toChg (.inr (fun q hq => by simp at hq; rcases hg3 with h | h <;> omega)) rfl hox18 ndx (fun q hq hm => by have h1 := hfxl q hq; have h2 := (how.lt q hm).2; omega) (fun q hq e => hg3n q hq (by simp at e; omega))
    refine ⟨_, _, _, w18, by rw [hsub]; exact hA3, g3, n + 1, c3, f', rfl, ?_, (X1.trans X18).toChg⟩
    rw [sumAdd_new hhas]
    have : sumsRows (s.take (posOf s who) ++ (who, u) :: s.drop (posOf s who)) = (sumsRows s).take kk ++ (.str who :: enc u) :: (sumsRows s).drop kk := by
      rw [hpos]
      simp [sumsRows, List.map_take, List.map_drop]
    rw [this]
    exact hor
  refine ifD (fun hlt2 => ?_) (fun hge2 => ⟨fun hh => absurd hh (by simp), fun _ => ⟨fun hh => absurd (of_decide_eq_true hh) hge2, fun _ => ?_⟩⟩)
  · have hkon : kk < n := by omega
    have hks : kk < s.length := by omega
    have how := ho.ext X1
    have hrow : (sumsRows s)[kk]? = some (.str s[kk].1 :: enc s[kk].2) := by
      rw [List.getElem?_eq_getElem (by rw [sumsRows_len]; exact hks), row_at hks]
    obtain ⟨b', xs, cs, zs, hpb, _, _, hxl, hcl, hblk, hrep, _⟩ := how.put hrow
    simp only [Option.some.injEq, Addr.mk.injEq, and_true] at hpb
    subst hpb
    obtain ⟨k0, k1, kp, kn, kc, kz, rfl, hkd, _⟩ := open_Pos hrep rfl
    have hk0 : s[kk].1 = k0 := by
      have := congrArg strOf hkd
      exact this
    have hld2 : Loads P T_string (((⟨b, 0, none⟩ : Addr).add (kk * 3)).add 0) (.string k0) wk := hblk.loadAt (kk * 3) (by rw [addr_add, addr_add, Nat.zero_add, Nat.add_zero]) (by kernel_rfl) (by rw [List.append_assoc, ← hxl, List.getElem?_append_right (Nat.le_refl _), Nat.sub_self]; rfl)
    rw [Int.toNat_natCast]
    refine ⟨⟨by omega, by omega⟩, _, hld2, fun hl => exW ⟨by omega, by omega⟩ ⟨⟨kk + 1, rfl, by omega, fun a y hy ha => ?_, hxk⟩, by show n - ((kk : Int) + 1).toNat < n - (kk : Int).toNat; omega⟩, fun hnl => ?_⟩
    · by_cases hak : a < kk
      · exact hless a y hy hak
      · have : a = kk := by omega
        subst this
        rw [List.getElem?_eq_getElem hks] at hy
        simp only [Option.some.injEq] at hy
        rw [← hy, hk0]
        exact hl
    · have hpos : kk = posOf s who := posOf_unique (by omega) hless (fun y hy => by
        rw [List.getElem?_eq_getElem hks] at hy
        simp only [Option.some.injEq] at hy
        rw [← hy, hk0]
        exact hnl)
      refine ⟨fun _ => ⟨⟨by omega, by omega⟩, _, hld2, ?_⟩, fun hh => absurd hkon (by have := of_decide_eq_false hh; omega)⟩
      have hhas : hasAt s who = decide (k0 = who) := by
        unfold hasAt
        rw [← hpos, List.getElem?_eq_getElem hks]
        show decide (s[kk].1 = who) = _
        rw [hk0]
      cases hh : decide (k0 = who) with
      | true => exact found hpos (hhas.trans hh)
      | false =>
        unfold spec_l16Add_j0
        exact ⟨fun h => absurd h (by simp), fun _ => new hpos (hhas.trans hh)⟩
  · have hkon : kk = n := by omega
    have hpos : kk = posOf s who := posOf_unique (by omega) hless (fun y hy => by
      rw [List.getElem?_eq_none (by omega)] at hy; cases hy)
    have hhas : hasAt s who = false := by
      unfold hasAt
      rw [← hpos, List.getElem?_eq_none (by omega)]
    unfold spec_l16Add_j2
    exact ⟨fun h => absurd h (by simp), fun _ => new hpos hhas⟩
theorem spec_Positions_o {w : World} (cur : ByteArray) {p : Option Addr} {n c : Nat} {l : List (List D0)} (h : RowsR w 5 p n c l) (hc : ∀ x ∈ l, x.map D0.code = [.str, .str, .str, .bool, .ints]) (hn : n ≤ 1048576) (hb : ∀ x ∈ l, bulks x ≤ 1048576) :
    Ret P n_spec_Positions [.string cur, .slice p n c] w fun v w' => ∃ p' n' c' f, v = .tuple #[.slice p' n' c', .bool (debtsOk cur l)] ∧ OwnRows w' w.heap.size T_impl_Pos 3 p' n' c' (posT cur l) f ∧ Ext w w' := by
  have hln := h.1
  refine spec_Positions_ret ?_
  unfold spec_Positions
  refine Ret.at (spec_DebtsOk_c cur h hc hn hb) ?_
  rintro v w0 ⟨hv, y0⟩
  subst hv
  refine ⟨_, rfl, ifN (fun hno => ⟨none, 0, 0, [], by rw [hno], ?_, y0⟩) (fun hok => ?_)⟩
  · have : posT cur l = [] := by unfold posT; rw [hno]; rfl
    rw [this]; exact ⟨rfl, [], [], trivial, Own.nil _ _ _ _, by simp, by simp⟩
  obtain ⟨hl20, hall⟩ := debts_facts hok
  intro r w1 hn1
  have e1 := hn1.r_eq; have z1 := hn1.size
  have ly0 := y0.le
  refine ⟨fun op on oc i wr => ∃ (j b : Nat) (f : List Nat), op = some ⟨b, 0, none⟩ ∧ i = j ∧ j ≤ n ∧ OwnRows wr w.heap.size T_impl_Pos 3 op on oc (sumsRows (posTo l j)) f ∧ Ext w wr, fun _ _ _ i _ => n - i.toNat, ⟨0, r, [r], rfl, rfl, Nat.zero_le _, OwnRows.fresh hn1 (by omega), y0.trans hn1.ext⟩, ?_⟩
  intro junk wr op on oc i ⟨j, b, f, hop, hij, hj, ho, hx⟩
  subst hij
  subst hop
  refine ifD (fun hlt => ?_) (fun hge => ?_)
  rotate_left
  · have hjn : j = n := by omega
    subst hjn
    refine ⟨_, _, _, f, by rw [hok], ?_, hx⟩
    have : posT cur l = sumsRows (posTo l j) := by unfold posT; rw [hok, if_pos rfl, hln]
    rw [this]
    exact ho
  have hjn : j < n := by omega
  have hjl : j < l.length := by omega
  have hm : l[j] ∈ l := List.getElem_mem hjl
  obtain ⟨from_, to_, dc, u, he, hu, hkv, hab, hiu⟩ := debt_facts (hc _ hm) (hall _ hm)
  obtain ⟨bl, offl, hpl, hsl0⟩ := h.2.2.2 (by omega)
  subst hpl
  obtain ⟨cs, hk, hr0, hsg⟩ := hsl0 j _ (List.getElem?_eq_getElem hjl)
  rw [he] at hr0
  obtain ⟨s0, s1, s2, s3, sp, sn, sc, sz, rfl, hd, hsi⟩ := open_Debt hr0 rfl
  simp only [enc, List.cons.injEq, D0.str.injEq, D0.bool.injEq, D0.ints.injEq, and_true] at hd
  obtain ⟨rfl, rfl, rfl, rfl, rfl⟩ := hd
  have hru : ∀ W, Ext w W → Reps W [.bool (decide (u < 0)), .slice sp sn sc] (enc u) := fun W hW => ⟨rfl, ⟨_, _, _, rfl, hsi.ext hW⟩, trivial⟩
  have hld : Loads P T_impl_Debt ((⟨bl, offl, none⟩ : Addr).add (j * 5)) (.agg ⟨[.string from_, .string to_, .string dc, .bool (decide (u < 0)), .slice sp sn sc]⟩) wr := (hsg.ext hx).loadAAt 0 _ (by rw [addr_add]; rfl) (by kernel_rfl) rfl
  refine ⟨⟨by omega, by omega⟩, _, _, _, _, _, _, _, by rw [Int.toNat_natCast]; exact hld, ?_⟩
  intro r1 w3 hn3
  have e3 := hn3.r_eq
  obtain ⟨w4, st4, b4, y4⟩ := hn3.fill (P := P) (t := T_impl_Debt) (xs := [.string from_, .string to_, .string dc, .bool (decide (u < 0)), .slice sp sn sc]) (by simp [Value.oneCell']) (by kernel_rfl) rfl
  have lx := hx.le; have l4 := y4.le
  have hsl := ho.1
  rw [sumsRows_len] at hsl
  have hslen := posTo_len l j (by omega)
  have hsz := pos40 hc hok (j := j) (by omega)
  have d4 := Ext.drew w4
  have X4 := (hx.trans y4).trans d4
  refine ⟨w4, st4, _, fun W hW => (b4.ext (d4.trans hW)).loadAt 0 rfl (by kernel_rfl) rfl, _, _, _, _, fun W hW => (b4.ext (d4.trans hW)).loadAAt 3 [.bool (decide (u < 0)), .slice sp sn sc] rfl (by kernel_rfl) rfl, ?_⟩
  refine Ret.at (spec_IntNeg_c (hru _ X4) hiu) ?_
  rintro v w5 ⟨vs5, f5, hv, ho5, nd5, y5⟩
  subst hv
  obtain ⟨g0, gp, gn, gc', gz, rfl, _, _⟩ := open_Signed ho5.reps (enc_code _)
  have X5 := X4.trans y5
  have Y5 := (y4.trans d4).trans y5
  have lY5 := Y5.le
  refine ⟨_, _, _, _, rfl, y5, ?_⟩
  have hBb : w.heap.size ≤ b ∧ b < wr.heap.size := ho.lt b (by obtain ⟨_, _, _, _, _, hf, _⟩ := ho; rw [hf]; simp)
  refine Ret.at (spec_l16Add_c (ho.ext Y5) (posTo_ordered l j (by omega)) (by omega) (by omega) ho5.reps (by rw [Int.natAbs_neg]; exact hu) (fun x hx => Nat.le_trans (hsz x hx) (by decide)) from_) ?_
  rintro v w6 ⟨b2, n2, c2, f2, hv, ho6, hch6⟩
  subst hv
  have X6 : Ext w w6 := X5.chg hch6 (by simp; omega)
  have lc6 := hch6.size
  have lb4 := b4.lt
  have b46 := (b4.ext (d4.trans y5)).chg hch6 (by simp; omega)
  have hs1 := sumAdd_ordered (c := from_) (u := -u) (posTo_ordered l j (by omega))
  have hn2 := ho6.1
  rw [sumsRows_len] at hn2
  have hlen1 := (sumAdd_len (posTo l j) from_ (-u)).1
  have hsz1 := sumAdd_bound (c := from_) (u := -u) (N := 1000000000000000000000000000000000000) hsz (by rw [Int.natAbs_neg]; exact hu)
  refine ⟨_, _, _, rfl, _, b46.loadAt 1 rfl (by kernel_rfl) rfl, _, _, _, _, b46.loadAAt 3 [.bool (decide (u < 0)), .slice sp sn sc] rfl (by kernel_rfl) rfl, ?_⟩
  refine Ret.at (spec_l16Add_c ho6 hs1 (by omega) (by omega) (hru _ X6) hu (fun x hx => Nat.le_trans (hsz1 x hx) (by decide)) to_) ?_
  rintro v w7 ⟨b3, n3, c3, f3, hv, ho7, hch7⟩
  subst hv
  have hB2 : w.heap.size ≤ b2 := (ho6.lt b2 (by obtain ⟨_, _, _, _, _, hf, _⟩ := ho6; rw [hf]; simp)).1
  refine ⟨_, _, _, rfl, exW ⟨by omega, by omega⟩ ⟨⟨j + 1, b3, f3, rfl, rfl, by omega, ?_, X6.chg hch7 (by simp; omega)⟩, by show n - ((j : Int) + 1).toNat < n - (j : Int).toNat; omega⟩⟩
  rw [posTo_succ hjl]
  unfold posStep
  rw [hkv]
  show OwnRows w7 _ _ _ _ _ _ (sumsRows (sumAdd (sumAdd (posTo l j) to_ u) from_ (-u))) f3
  rw [sumAdd_comm (fun e => hab e.symm) u (-u) (posTo_ordered l j (by omega))]
  exact ho7
theorem impl_Positions_c {w : World} (cur : ByteArray) {p : Option Addr} {n c : Nat} {l : List (List D0)} (h : RowsR w 5 p n c l) (hc : ∀ x ∈ l, x.map D0.code = [.str, .str, .str, .bool, .ints]) (hn : n ≤ 1048576) (hb : ∀ x ∈ l, bulks x ≤ 1048576) (ht : Tab w) :
    Ret P n_impl_Positions [.string cur, .slice p n c] w fun v w' => ∃ p' n' c' f, v = .tuple #[.slice p' n' c', .bool (debtsOk cur l)] ∧ OwnRows w' w.heap.size T_impl_Pos 3 p' n' c' (posT cur l) f ∧ (∀ x ∈ posT cur l, x.map D0.code = [.str, .bool, .ints]) ∧ cntL (posT cur l) ≤ 1000000000 ∧ Ext w w' :=
  (impl_Positions_o cur h hc hn hb ht).mono fun v w' ⟨p', n', c', f, hv, ho, hx⟩ => ⟨p', n', c', f, hv, ho, posT_code cur l, posT_cnt hc, hx⟩
theorem spec_Positions_c {w : World} (cur : ByteArray) {p : Option Addr} {n c : Nat} {l : List (List D0)} (h : RowsR w 5 p n c l) (hc : ∀ x ∈ l, x.map D0.code = [.str, .str, .str, .bool, .ints]) (hn : n ≤ 1048576) (hb : ∀ x ∈ l, bulks x ≤ 1048576) :
    Ret P n_spec_Positions [.string cur, .slice p n c] w fun v w' => ∃ p' n' c', v = .tuple #[.slice p' n' c', .bool (debtsOk cur l)] ∧ RowsR w' 3 p' n' c' (posT cur l) ∧ (∀ x ∈ posT cur l, x.map D0.code = [.str, .bool, .ints]) ∧ Ext w w' :=
  (spec_Positions_o cur h hc hn hb).mono fun v w' ⟨p', n', c', f, hv, ho, hx⟩ => ⟨p', n', c', hv, ho.rows, posT_code cur l, hx⟩
end Go.Proofs.YtdidocmbcfbjdaaDoor

namespace Go.Proofs.YtdidocmbcfbjdaaDoor.Sx
open Go Go.RowKit
set_option linter.unusedVariables false
set_option linter.unusedSimpArgs false
theorem Fl.trans {os : List Obj} {ss : List (Option Nat)} {w : World} {s1 : List (Option Nat)} {w1 : World} {s2 : List (Option Nat)} {w2 : World} (h : Fl os ss w s1 w1) (g : Fl os s1 w1 s2 w2) : Fl os ss w s2 w2 := by
  induction h with
  | refl => exact g
  | step h1 h2 _ ih => exact .step h1 h2 (ih g)
theorem Fl.old {os : List Obj} {ss : List (Option Nat)} {w : World} {s1 : List (Option Nat)} {w1 : World} (h : Fl os ss w s1 w1) {k r : Nat} (hk : s1[k]? = some (some r)) : ss[k]? = some (some r) ∨ w.heap.size ≤ r := by
  induction h with
  | refl => exact .inl hk
  | step h1 h2 h3 ih =>
    rename_i ss w k' o s' w'
    have hs : (w.alloc o).heap.size = w.heap.size + 1 := by simp
    rcases ih hk with h | h
    · by_cases e : k' = k
      · subst e
        have hl : k' < ss.length := by
          rcases Nat.lt_or_ge k' ss.length with h | h
          · exact h
          · rw [List.getElem?_eq_none h] at h1; cases h1
        rw [List.getElem?_set_self hl] at h
        simp at h
        exact .inr (by omega)
      · rw [List.getElem?_set_ne e] at h
        exact .inl h
    · exact .inr (by omega)
def FlS (os : List Obj) (w0 : World) (ss : List (Option Nat)) (w : World) : Prop :=
  Ext w0 w ∧ (∀ (k r : Nat), ss[k]? = some (some r) → w0.heap.size ≤ r ∧ r < w.heap.size ∧ w.heap[r]? = os[k]?) ∧ (∀ (k l r : Nat), ss[k]? = some (some r) → ss[l]? = some (some r) → k = l)
theorem FlS.ext {os : List Obj} {w0 w w' : World} {ss : List (Option Nat)} (h : FlS os w0 ss w) (y : Ext w w') : FlS os w0 ss w' :=
  ⟨h.1.trans y, fun k r hk => by
    obtain ⟨a, b, c⟩ := h.2.1 k r hk
    exact ⟨a, Nat.lt_of_lt_of_le b y.le, (y.block r b).trans c⟩, h.2.2⟩
theorem FlS.step {os : List Obj} {w0 w w' : World} {ss ss' : List (Option Nat)} (h : FlS os w0 ss w) (f : Fl os ss w ss' w') : FlS os w0 ss' w' := by
  induction f with
  | refl => exact h
  | step h1 h2 h3 ih =>
    rename_i ss w k' o s' w'
    refine ih ?_
    have y : Ext w (w.alloc o) := (Below.refl _ _).alloc (Nat.le_refl _) _
    have hs : (w.alloc o).heap.size = w.heap.size + 1 := by simp
    have hg : (w.alloc o).heap[w.heap.size]? = some o := heap_alloc_new w _
    have hl : k' < ss.length := by
      rcases Nat.lt_or_ge k' ss.length with h | h
      · exact h
      · rw [List.getElem?_eq_none h] at h1; cases h1
    have hx := h.ext y
    have hle := h.1.le
    refine ⟨hx.1, fun k r hk => ?_, fun k l r hk hl' => ?_⟩
    · by_cases e : k' = k
      · subst e
        rw [List.getElem?_set_self hl] at hk
        simp at hk
        subst hk
        exact ⟨hle, by omega, hg.trans h2.symm⟩
      · rw [List.getElem?_set_ne e] at hk
        exact hx.2.1 k r hk
    · by_cases e : k' = k
      · by_cases e2 : k' = l
        · omega
        · subst e
          rw [List.getElem?_set_self hl] at hk
          simp at hk
          subst hk
          rw [List.getElem?_set_ne e2] at hl'
          have := (h.2.1 l _ hl').2.1
          omega
      · rw [List.getElem?_set_ne e] at hk
        by_cases e2 : k' = l
        · subst e2
          rw [List.getElem?_set_self hl] at hl'
          simp at hl'
          subst hl'
          have := (h.2.1 k _ hk).2.1
          omega
        · rw [List.getElem?_set_ne e2] at hl'
          exact h.2.2 k l r hk hl'
theorem FlS.first {os : List Obj} {w0 w : World} {ss0 ss : List (Option Nat)} (f : Fl os ss0 w0 ss w) (h : ss0.all Option.isNone = true) : FlS os w0 ss w := by
  refine FlS.step ⟨Ext.refl _, fun k r hk => ?_, fun k l r hk _ => ?_⟩ f <;>
  · have hm := List.mem_of_getElem? hk
    have := List.all_eq_true.1 h _ hm
    simp at this
theorem FlS.blk {os : List Obj} {w0 w : World} {ss : List (Option Nat)} {k r : Nat} {cs : List Value} {e : TypeId} (h : FlS os w0 ss w) (hk : ss[k]? = some (some r)) (ho : os[k]? = some (.cells ⟨cs⟩ e (0, 0))) : w0.heap.size ≤ r ∧ r < w.heap.size ∧ Blk w r e cs := by
  obtain ⟨a, b, c⟩ := h.2.1 k r hk
  exact ⟨a, b, c.trans ho⟩
theorem FlS.ne {os : List Obj} {w0 w : World} {ss : List (Option Nat)} {k l r s : Nat} (h : FlS os w0 ss w) (hk : ss[k]? = some (some r)) (hl : ss[l]? = some (some s)) (e : k ≠ l) : r ≠ s := fun hh => e (h.2.2 k l r hk (hh ▸ hl))
theorem FlS.apart {os : List Obj} {w0 wc we w' : World} {ss ss' : List (Option Nat)} {k r : Nat} (h : FlS os w0 ss wc) (f : Fl os ss we ss' w') (hk : ss'[k]? = some (some r)) : r < wc.heap.size ∨ we.heap.size ≤ r := by
  rcases f.old hk with a | a
  · exact .inl (h.2.1 k r a).2.1
  · exact .inr a
end Go.Proofs.YtdidocmbcfbjdaaDoor.Sx

namespace Go.Proofs.YtdidocmbcfbjdaaDoor
open Go Go.Proofs.YtdidocmbcfbjdaaDoor.Sx
set_option linter.unusedVariables false
set_option linter.unusedSimpArgs false
theorem laws_markDebtS_c {w : World} {B : Nat} {e : TypeId} {p : Option Addr} {n c : Nat} {l : List (List D0)} {f : List Nat} {k : Int} (h : OwnRows w B e 5 p n c l f) (hc : ∀ x ∈ l, x.map D0.code = [.str, .str, .str, .bool, .ints]) (h0 : 0 ≤ k) (h1 : k + cntL l ≤ 1000000000000000000) :
    Ret P n_laws_markDebtS [.slice p n c, .int .i64 k] w fun v w' => v = .int .i64 (k + cntL l) ∧ OwnRows w' B e 5 p n c (markL l k) f ∧ Chg f w w' := by
  have hz := h.1; have hcap := h.rows.2.1; have hcm := h.rows.2.2.1
  refine laws_markDebtS_ret ?_
  unfold laws_markDebtS
  refine ⟨fun k1 i wr => ∃ j : Nat, i = j ∧ j ≤ n ∧ k1 = k + cntL (l.take j) ∧ OwnRows wr B e 5 p n c (markL (l.take j) k ++ l.drop j) f ∧ Chg f w wr, fun _ i _ => n - i.toNat, ⟨0, rfl, by omega, by simp [cntL], by simpa [markL] using h, Chg.refl _ _⟩, ?_⟩
  intro junk wr k1 i ⟨j, hij, hj, hk1, ho, hch⟩
  subst hij
  refine ifD (fun hlt => ?_) (fun hge => ?_)
  · have hjl : j < l.length := by omega
    obtain ⟨x, hxe⟩ : ∃ x, l[j]? = some x := ⟨_, List.getElem?_eq_getElem hjl⟩
    have hcode := hc x (List.mem_of_getElem? hxe)
    obtain ⟨hct, hcle⟩ := cntL_row hxe
    have hcn := cntL_nonneg (l.take j)
    obtain ⟨b, xs, cs, zs, fi, hp, hB, hA, hk, blk, ow, ndf, hbf, hbm, hfm, back⟩ := ho.focus (markL_at hxe)
    subst hp
    obtain ⟨a0, us, es, rfl, rfl, ow2, hcode2⟩ := ow.consStr hcode
    clear ow hcode; have ow := ow2; have hcode := hcode2; clear ow2 hcode2
    obtain ⟨a1, us, es, rfl, rfl, ow2, hcode2⟩ := ow.consStr hcode
    clear ow hcode; have ow := ow2; have hcode := hcode2; clear ow2 hcode2
    obtain ⟨a2, us, es, rfl, rfl, ow2, hcode2⟩ := ow.consStr hcode
    clear ow hcode; have ow := ow2; have hcode := hcode2; clear ow2 hcode2
    obtain ⟨a3, us, es, rfl, rfl, ow2, hcode2⟩ := ow.consBool hcode
    clear ow hcode; have ow := ow2; have hcode := hcode2; clear ow2 hcode2
    obtain ⟨a4p, a4n, a4c, a4z, us, es, f4, rfl, rfl, rfl, o4, ow2, hcode2⟩ := ow.consInts hcode
    clear ow hcode; have ow := ow2; have hcode := hcode2; clear ow2 hcode2
    obtain ⟨rfl, rfl, rfl⟩ := ow.done hcode
    simp only [cnts, D0.cnt] at hct hcle
    have z4 : a4z.length = a4n := by have := o4.len; simpa using this
    have m4 : ∀ q, a4p.map (·.block) = some q → q ∈ ((a4p.map (·.block)).toList ++ ([] : List Nat)) := fun q hq => List.mem_append_left _ (mem_opt hq)
    have u4 : ∀ {W : World} {W2 : World} {zs : List Value}, Own W B T_int 1 a4p a4n a4c zs → Chg [b] W W2 → Own W2 B T_int 1 a4p a4n a4c zs := fun o ch => o.chg ch (fun q hq hm => hbf (List.mem_singleton.1 hm ▸ m4 q hq))
    have chT : Chg (b :: ((a4p.map (·.block)).toList ++ ([] : List Nat))) wr wr := Chg.refl _ _
    have sub1 : ∀ q ∈ [b], q ∈ b :: ((a4p.map (·.block)).toList ++ ([] : List Nat)) := fun q hq => by rw [List.mem_singleton.1 hq]; exact List.mem_cons_self
    refine Ret.at (laws_markText_c (by omega) _) ?_
    rintro v w1 ⟨hv, y⟩
    subst hv
    have blk := blk.ext y; have chT := chT.trans y.toChg
    have o4 := o4.ext y
    obtain ⟨w2, st, blk2, ch, sz⟩ := blk.storeMid (P := P) (t := T_string) (v := .string (mtext (k1))) hA 0 (by simp) (by kernel_rfl) rfl rfl
    have blk : Blk w2 b e (xs ++ [.string (mtext (k1)), .string a1, .string a2, .bool a3, .slice a4p a4n a4c] ++ zs) := blk2; clear blk2
    have chT := chT.trans (ch.mono sub1)
    have o4 := u4 o4 ch
    refine ⟨_, rfl, ⟨by omega, by omega⟩, w2, (by simp only [addr_add, Int.toNat_natCast, Nat.zero_add, Nat.add_zero]; exact st), exW ⟨by omega, by omega⟩ ?_⟩
    refine Ret.at (laws_markText_c (by omega) _) ?_
    rintro v w3 ⟨hv, y⟩
    subst hv
    have blk := blk.ext y; have chT := chT.trans y.toChg
    have o4 := o4.ext y
    obtain ⟨w4, st, blk2, ch, sz⟩ := blk.storeMid (P := P) (t := T_string) (v := .string (mtext (k1 + 1))) hA 1 (by simp) (by kernel_rfl) rfl rfl
    have blk : Blk w4 b e (xs ++ [.string (mtext (k1)), .string (mtext (k1 + 1)), .string a2, .bool a3, .slice a4p a4n a4c] ++ zs) := blk2; clear blk2
    have chT := chT.trans (ch.mono sub1)
    have o4 := u4 o4 ch
    refine ⟨_, rfl, ⟨by omega, by omega⟩, w4, (by simp only [addr_add, Int.toNat_natCast, Nat.zero_add, Nat.add_zero]; exact st), exW ⟨by omega, by omega⟩ ?_⟩
    refine Ret.at (laws_markText_c (by omega) _) ?_
    rintro v w5 ⟨hv, y⟩
    subst hv
    have blk := blk.ext y; have chT := chT.trans y.toChg
    have o4 := o4.ext y
    obtain ⟨w6, st, blk2, ch, sz⟩ := blk.storeMid (P := P) (t := T_string) (v := .string (mtext (k1 + 1 + 1))) hA 2 (by simp) (by kernel_rfl) rfl rfl
    have blk : Blk w6 b e (xs ++ [.string (mtext (k1)), .string (mtext (k1 + 1)), .string (mtext (k1 + 1 + 1)), .bool a3, .slice a4p a4n a4c] ++ zs) := blk2; clear blk2
    have chT := chT.trans (ch.mono sub1)
    have o4 := u4 o4 ch
    refine ⟨_, rfl, ⟨by omega, by omega⟩, w6, (by simp only [addr_add, Int.toNat_natCast, Nat.zero_add, Nat.add_zero]; exact st), exW ⟨by omega, by omega⟩ ?_⟩
    refine ⟨by decide, _, rfl, ⟨by omega, by omega⟩, ?_⟩
    rw [Int.tmod_eq_emod_of_nonneg (show (0 : Int) ≤ k1 + 1 + 1 + 1 by omega)]
    obtain ⟨w7, st, blk2, ch, sz⟩ := blk.storeMid (P := P) (t := T_bool) (v := .bool (decide ((k1 + 1 + 1 + 1) % 3 = 0))) hA 3 (by simp) (by kernel_rfl) rfl rfl
    have blk : Blk w7 b e (xs ++ [.string (mtext (k1)), .string (mtext (k1 + 1)), .string (mtext (k1 + 1 + 1)), .bool (decide ((k1 + 1 + 1 + 1) % 3 = 0)), .slice a4p a4n a4c] ++ zs) := blk2; clear blk2
    have chT := chT.trans (ch.mono sub1)
    have o4 := u4 o4 ch
    refine ⟨w7, (by simp only [addr_add, Int.toNat_natCast, Nat.zero_add, Nat.add_zero]; exact st), exW ⟨by omega, by omega⟩ ?_⟩
    refine ⟨⟨by omega, by omega⟩, _, _, _, (by simp only [addr_add, Int.toNat_natCast, Nat.zero_add, Nat.add_zero]; exact (blk.segMid hA).loadAt 4 rfl (by kernel_rfl) rfl), ?_⟩
    refine Ret.at (laws_markIntS_c o4 (by omega) (by omega)) ?_
    rintro v w8 ⟨hv, on, ch⟩
    subst hv
    have blk := blk.chg ch (fun hm => hbf (m4 _ (opt_mem hm)))
    have chT := chT.trans (ch.mono (fun q hq => List.mem_cons_of_mem _ (m4 q (opt_mem hq))))
    have o4 := on; clear on
    refine ⟨_, rfl, ?_⟩
    refine exW ⟨by omega, by omega⟩ ⟨⟨j + 1, by omega, by omega, by omega, ?_, hch.trans (chT.mono (fun q hq => ?_))⟩, ?_⟩
    · rw [← markL_set hxe, ← hk1]
      have e : marks [.str a0, .str a1, .str a2, .bool a3, .ints a4z] k1 = [.str (mtext (k1)), .str (mtext (k1 + 1)), .str (mtext (k1 + 1 + 1)), .bool (decide ((k1 + 1 + 1 + 1) % 3 = 0)), .ints (mkI a4n (k1 + 1 + 1 + 1 + 1))] := by simp only [marks, D0.mark, D0.cnt, z4] <;> rfl
      rw [e]
      exact back _ [.string (mtext (k1)), .string (mtext (k1 + 1)), .string (mtext (k1 + 1 + 1)), .bool (decide ((k1 + 1 + 1 + 1) % 3 = 0)), .slice a4p a4n a4c] _ chT rfl blk (Owns.append (Owns.str _ _ _) (Owns.append (Owns.str _ _ _) (Owns.append (Owns.str _ _ _) (Owns.append (Owns.bool _ _ _) (Owns.append (Owns.ints o4) (Owns.nil _ _))))))
    · rcases List.mem_cons.1 hq with h | h
      · rw [h]; exact hbm
      · exact hfm q h
    · show n - ((j : Int) + 1).toNat < n - (j : Int).toNat
      omega
  · have hjn : j = n := by omega
    subst hjn
    rw [List.take_of_length_le (by omega), List.drop_of_length_le (by omega), List.append_nil] at ho
    rw [List.take_of_length_le (by omega)] at hk1
    exact ⟨by rw [hk1], ho, hch⟩
theorem laws_markPosS_c {w : World} {B : Nat} {e : TypeId} {p : Option Addr} {n c : Nat} {l : List (List D0)} {f : List Nat} {k : Int} (h : OwnRows w B e 3 p n c l f) (hc : ∀ x ∈ l, x.map D0.code = [.str, .bool, .ints]) (h0 : 0 ≤ k) (h1 : k + cntL l ≤ 1000000000000000000) :
    Ret P n_laws_markPosS [.slice p n c, .int .i64 k] w fun v w' => v = .int .i64 (k + cntL l) ∧ OwnRows w' B e 3 p n c (markL l k) f ∧ Chg f w w' := by
  have hz := h.1; have hcap := h.rows.2.1; have hcm := h.rows.2.2.1
  refine laws_markPosS_ret ?_
  unfold laws_markPosS
  refine ⟨fun k1 i wr => ∃ j : Nat, i = j ∧ j ≤ n ∧ k1 = k + cntL (l.take j) ∧ OwnRows wr B e 3 p n c (markL (l.take j) k ++ l.drop j) f ∧ Chg f w wr, fun _ i _ => n - i.toNat, ⟨0, rfl, by omega, by simp [cntL], by simpa [markL] using h, Chg.refl _ _⟩, ?_⟩
  intro junk wr k1 i ⟨j, hij, hj, hk1, ho, hch⟩
  subst hij
  refine ifD (fun hlt => ?_) (fun hge => ?_)
  · have hjl : j < l.length := by omega
    obtain ⟨x, hxe⟩ : ∃ x, l[j]? = some x := ⟨_, List.getElem?_eq_getElem hjl⟩
    have hcode := hc x (List.mem_of_getElem? hxe)
    obtain ⟨hct, hcle⟩ := cntL_row hxe
    have hcn := cntL_nonneg (l.take j)
    obtain ⟨b, xs, cs, zs, fi, hp, hB, hA, hk, blk, ow, ndf, hbf, hbm, hfm, back⟩ := ho.focus (markL_at hxe)
    subst hp
    obtain ⟨a0, us, es, rfl, rfl, ow2, hcode2⟩ := ow.consStr hcode
    clear ow hcode; have ow := ow2; have hcode := hcode2; clear ow2 hcode2
    obtain ⟨a1, us, es, rfl, rfl, ow2, hcode2⟩ := ow.consBool hcode
    clear ow hcode; have ow := ow2; have hcode := hcode2; clear ow2 hcode2
    obtain ⟨a2p, a2n, a2c, a2z, us, es, f2, rfl, rfl, rfl, o2, ow2, hcode2⟩ := ow.consInts hcode
    clear ow hcode; have ow := ow2; have hcode := hcode2; clear ow2 hcode2
    obtain ⟨rfl, rfl, rfl⟩ := ow.done hcode
    simp only [cnts, D0.cnt] at hct hcle
    have z2 : a2z.length = a2n := by have := o2.len; simpa using this
    have m2 : ∀ q, a2p.map (·.block) = some q → q ∈ ((a2p.map (·.block)).toList ++ ([] : List Nat)) := fun q hq => List.mem_append_left _ (mem_opt hq)
    have u2 : ∀ {W : World} {W2 : World} {zs : List Value}, Own W B T_int 1 a2p a2n a2c zs → Chg [b] W W2 → Own W2 B T_int 1 a2p a2n a2c zs := fun o ch => o.chg ch (fun q hq hm => hbf (List.mem_singleton.1 hm ▸ m2 q hq))
    have chT : Chg (b :: ((a2p.map (·.block)).toList ++ ([] : List Nat))) wr wr := Chg.refl _ _
    have sub1 : ∀ q ∈ [b], q ∈ b :: ((a2p.map (·.block)).toList ++ ([] : List Nat)) := fun q hq => by rw [List.mem_singleton.1 hq]; exact List.mem_cons_self
    refine Ret.at (laws_markText_c (by omega) _) ?_
    rintro v w1 ⟨hv, y⟩
    subst hv
    have blk := blk.ext y; have chT := chT.trans y.toChg
    have o2 := o2.ext y
    obtain ⟨w2, st, blk2, ch, sz⟩ := blk.storeMid (P := P) (t := T_string) (v := .string (mtext (k1))) hA 0 (by simp) (by kernel_rfl) rfl rfl
    have blk : Blk w2 b e (xs ++ [.string (mtext (k1)), .bool a1, .slice a2p a2n a2c] ++ zs) := blk2; clear blk2
    have chT := chT.trans (ch.mono sub1)
    have o2 := u2 o2 ch
    refine ⟨_, rfl, ⟨by omega, by omega⟩, w2, (by simp only [addr_add, Int.toNat_natCast, Nat.zero_add, Nat.add_zero]; exact st), exW ⟨by omega, by omega⟩ ?_⟩
    refine ⟨by decide, _, rfl, ⟨by omega, by omega⟩, ?_⟩
    rw [Int.tmod_eq_emod_of_nonneg (show (0 : Int) ≤ k1 + 1 by omega)]
    obtain ⟨w3, st, blk2, ch, sz⟩ := blk.storeMid (P := P) (t := T_bool) (v := .bool (decide ((k1 + 1) % 3 = 0))) hA 1 (by simp) (by kernel_rfl) rfl rfl
    have blk : Blk w3 b e (xs ++ [.string (mtext (k1)), .bool (decide ((k1 + 1) % 3 = 0)), .slice a2p a2n a2c] ++ zs) := blk2; clear blk2
    have chT := chT.trans (ch.mono sub1)
    have o2 := u2 o2 ch
    refine ⟨w3, (by simp only [addr_add, Int.toNat_natCast, Nat.zero_add, Nat.add_zero]; exact st), exW ⟨by omega, by omega⟩ ?_⟩
    refine ⟨⟨by omega, by omega⟩, _, _, _, (by simp only [addr_add, Int.toNat_natCast, Nat.zero_add, Nat.add_zero]; exact (blk.segMid hA).loadAt 2 rfl (by kernel_rfl) rfl), ?_⟩
    refine Ret.at (laws_markIntS_c o2 (by omega) (by omega)) ?_
    rintro v w4 ⟨hv, on, ch⟩
    subst hv
    have blk := blk.chg ch (fun hm => hbf (m2 _ (opt_mem hm)))
    have chT := chT.trans (ch.mono (fun q hq => List.mem_cons_of_mem _ (m2 q (opt_mem hq))))
    have o2 := on; clear on
    refine ⟨_, rfl, ?_⟩
    refine exW ⟨by omega, by omega⟩ ⟨⟨j + 1, by omega, by omega, by omega, ?_, hch.trans (chT.mono (fun q hq => ?_))⟩, ?_⟩
    · rw [← markL_set hxe, ← hk1]
      have e : marks [.str a0, .bool a1, .ints a2z] k1 = [.str (mtext (k1)), .bool (decide ((k1 + 1) % 3 = 0)), .ints (mkI a2n (k1 + 1 + 1))] := by simp only [marks, D0.mark, D0.cnt, z2] <;> rfl
      rw [e]
      exact back _ [.string (mtext (k1)), .bool (decide ((k1 + 1) % 3 = 0)), .slice a2p a2n a2c] _ chT rfl blk (Owns.append (Owns.str _ _ _) (Owns.append (Owns.bool _ _ _) (Owns.append (Owns.ints o2) (Owns.nil _ _))))
    · rcases List.mem_cons.1 hq with h | h
      · rw [h]; exact hbm
      · exact hfm q h
    · show n - ((j : Int) + 1).toNat < n - (j : Int).toNat
      omega
  · have hjn : j = n := by omega
    subst hjn
    rw [List.take_of_length_le (by omega), List.drop_of_length_le (by omega), List.append_nil] at ho
    rw [List.take_of_length_le (by omega)] at hk1
    exact ⟨by rw [hk1], ho, hch⟩
theorem laws_heldPosS_c {w : World} {p : Option Addr} {n c : Nat} {l : List (List D0)} {k : Int} (h : RowsR w 3 p n c (markL l k)) (hc : ∀ x ∈ l, x.map D0.code = [.str, .bool, .ints]) (h0 : 0 ≤ k) (h1 : k + cntL l ≤ 1000000000000000000) :
    Ret P n_laws_heldPosS [.slice p n c, .int .i64 k] w fun v w' => v = .int .i64 (k + cntL l) ∧ Ext w w' := by
  have hz : l.length = n := by have := h.1; rwa [markL_len] at this
  have hcap := h.2.1; have hcm := h.2.2.1
  refine laws_heldPosS_ret ?_
  unfold laws_heldPosS
  refine ⟨fun k1 i wr => ∃ j : Nat, i = j ∧ j ≤ n ∧ k1 = k + cntL (l.take j) ∧ Ext w wr, fun _ i _ => n - i.toNat, ⟨0, rfl, by omega, by simp [cntL], Ext.refl _⟩, ?_⟩
  intro junk wr k1 i ⟨j, hij, hj, hk1, hx⟩
  subst hij
  refine ifD (fun hlt => ?_) (fun hge => ?_)
  · have hjl : j < l.length := by omega
    obtain ⟨x, hxe⟩ : ∃ x, l[j]? = some x := ⟨_, List.getElem?_eq_getElem hjl⟩
    have hcode := hc x (List.mem_of_getElem? hxe)
    obtain ⟨hct, hcle⟩ := cntL_row hxe
    have hcn := cntL_nonneg (l.take j)
    obtain ⟨b, off, hp, hs⟩ := (h.ext hx).2.2.2 (by omega)
    subst hp
    obtain ⟨cs, hk, hr, hsg⟩ := hs j _ (markL_get l k j x hxe)
    rw [← hk1] at hr
    obtain ⟨s0, es, rfl, hcode2⟩ := code_str hcode
    clear hcode; have hcode := hcode2; clear hcode2
    obtain ⟨s1, es, rfl, hcode2⟩ := code_bool hcode
    clear hcode; have hcode := hcode2; clear hcode2
    obtain ⟨z2, es, rfl, hcode2⟩ := code_ints hcode
    clear hcode; have hcode := hcode2; clear hcode2
    have hn := code_nil hcode; subst hn
    simp only [marks, D0.mark, D0.cnt] at hr
    simp only [cnts, D0.cnt] at hct hcle
    obtain ⟨a0, us, es, rfl, hd, hr2, hc2⟩ := hr.str rfl
    cases hd
    clear hr hc2; have hr := hr2; clear hr2
    obtain ⟨a1, us, es, rfl, hd, hr2, hc2⟩ := hr.bool rfl
    cases hd
    clear hr hc2; have hr := hr2; clear hr2
    obtain ⟨a2p, a2n, a2c, a2z, us, es, rfl, hd, g2, hr2, hc2⟩ := hr.ints rfl
    cases hd
    clear hr hc2; have hr := hr2; clear hr2
    obtain ⟨hv, _⟩ := hr.done rfl
    subst hv
    have y2 : z2.length = a2n := by have := g2.1; rwa [mkI_len] at this
    rw [y2] at g2
    have X : Ext wr wr := Ext.refl _
    have D := Ext.drew wr; have X := X.trans D
    refine ⟨⟨by omega, by omega⟩, _, fun W' hW => (by simp only [addr_add, Int.toNat_natCast, Nat.zero_add, Nat.add_zero]; exact (hsg.ext (X.trans hW)).loadAt 0 rfl (by kernel_rfl) rfl), ?_⟩
    refine Ret.at (laws_markText_c (by omega) _) ?_
    rintro v w1 ⟨hv, y⟩
    subst hv
    have X := X.trans y
    refine ⟨_, rfl, y, ifD (fun hne => absurd rfl hne) (fun _ => exW ⟨by omega, by omega⟩ ?_)⟩
    refine ⟨⟨by omega, by omega⟩, _, (by simp only [addr_add, Int.toNat_natCast, Nat.zero_add, Nat.add_zero]; exact (hsg.ext X).loadAt 1 rfl (by kernel_rfl) rfl), by decide, _, rfl, ?_⟩
    rw [Int.tmod_eq_emod_of_nonneg (show (0 : Int) ≤ k1 + 1 by omega)]
    refine ⟨fun h => absurd h (bne_no rfl), fun _ => exW ⟨by omega, by omega⟩ ?_⟩
    refine ⟨⟨by omega, by omega⟩, _, _, _, (by simp only [addr_add, Int.toNat_natCast, Nat.zero_add, Nat.add_zero]; exact (hsg.ext X).loadAt 2 rfl (by kernel_rfl) rfl), ?_⟩
    refine Ret.at (laws_heldIntS_c (n := a2n) (k := k1 + 1 + 1) (by have := g2.ext X;  exact this) (by omega) (by omega)) ?_
    rintro v w2 ⟨hv, y⟩
    subst hv
    have X := X.trans y
    refine ⟨_, rfl, ifD (fun h => absurd h (by omega)) (fun _ => ?_)⟩
    refine exW ⟨by omega, by omega⟩ ⟨⟨j + 1, by omega, by omega, by omega, hx.trans X⟩, ?_⟩
    show n - ((j : Int) + 1).toNat < n - (j : Int).toNat
    omega
  · have hjn : j = n := by omega
    subst hjn
    rw [List.take_of_length_le (by omega)] at hk1
    exact ⟨by rw [hk1], hx⟩
end Go.Proofs.YtdidocmbcfbjdaaDoor

namespace Go.Proofs.YtdidocmbcfbjdaaDoor
open Go Go.Proofs.YtdidocmbcfbjdaaDoor.Sx
set_option linter.unusedVariables false
set_option linter.unusedSimpArgs false
set_option maxHeartbeats 4000000
theorem laws_FnExactPositions_c {w : World} (a0 : ByteArray) {p1 : Option Addr} {n1 c1 : Nat} {l1 : List (List D0)} (h1 : RowsR w 5 p1 n1 c1 l1) (hc1 : ∀ x ∈ l1, x.map D0.code = [.str, .str, .str, .bool, .ints]) (hk1 : ∀ x ∈ l1, ∀ d ∈ x, d.ok) (ht : Tab w) :
    Ret P n_laws_FnExactPositions [.string a0, .slice p1 n1 c1] w fun v w' => v = .bool true ∧ Ext w w' := by
  refine laws_FnExactPositions_ret ?_
  unfold laws_FnExactPositions
  have x : Ext w w := Ext.refl w
  refine ifD (fun _ => ⟨rfl, x⟩) (fun hs0 => ?_)
  refine Ret.at (laws_szDebtS_c (h1.ext x) hc1 hk1 (by omega) (by omega)) ?_
  rintro v W1 ⟨k1, hv, hs1, hm1, y⟩
  subst hv
  replace x := x.trans y
  have ll1 := y.le
  refine ⟨_, rfl, ifD (fun _ => ⟨rfl, x⟩) (fun hp1 => ?_)⟩
  have hs1 := hs1 (by omega)
  have hb1 : ∀ y ∈ l1, bulks y ≤ 1048576 := fun y hy => by have := bulks_le hy; omega
  have hz1 : n1 ≤ 1048576 := by omega
  have hsum1 : (l1.map bulks).sum ≤ 1048576 := by omega
  refine Ret.at (laws_toDebtS_c (h1.ext x) hc1 hz1 hb1) ?_
  rintro v W2 ⟨p_s1, c_s1, f_s1, hv, o_s1, y⟩
  subst hv
  have lt_o_s1 : ∀ k ∈ f_s1, W1.heap.size ≤ k ∧ k < W2.heap.size := o_s1.lt
  have yy := y
  replace x := x.trans y
  have ll2 := y.le
  refine ⟨_, _, _, rfl, ?_⟩
  refine Ret.at (spec_Positions_c a0 o_s1.rows hc1 hz1 hb1) ?_
  rintro v W3 ⟨p_w0, m_w0, c_w0, hv, o_w0, co_w0, y⟩
  subst hv
  replace x := x.trans y
  have ll3 := y.le
  have xS := Ext.refl W3
  refine ⟨_, _, _, _, rfl, ?_⟩
  refine Ret.at (laws_toDebtS_c (h1.ext x) hc1 hz1 hb1) ?_
  rintro v W4 ⟨p_x1, c_x1, f_x1, hv, o_x1, y⟩
  subst hv
  have lt_o_x1 : ∀ k ∈ f_x1, W3.heap.size ≤ k ∧ k < W4.heap.size := o_x1.lt
  replace x := x.trans y
  replace xS := xS.trans y
  have ll4 := y.le
  refine ⟨_, _, _, rfl, ?_⟩
  refine Ret.at (impl_Positions_c a0 o_x1.rows hc1 hz1 hb1 (ht.ext x)) ?_
  rintro v W5 ⟨p_g0, m_g0, c_g0, f_g0, hv, o_g0, co_g0, ct_g0, y⟩
  subst hv
  have tn_g0 := cntL_nn ct_g0
  have lt_o_g0 : ∀ k ∈ f_g0, W4.heap.size ≤ k ∧ k < W5.heap.size := o_g0.lt
  replace x := x.trans y
  replace xS := xS.trans y
  replace o_x1 := o_x1.ext y
  have ll5 := y.le
  refine ⟨_, _, _, _, rfl, ?_⟩
  refine Ret.at (laws_eqPosS_c o_g0.rows (o_w0.ext xS) co_g0 co_w0) ?_
  rintro v W6 ⟨hv, y⟩
  subst hv
  replace x := x.trans y
  replace xS := xS.trans y
  replace o_x1 := o_x1.ext y
  replace o_g0 := o_g0.ext y
  have ll6 := y.le
  refine ⟨_, rfl, ifN (fun h => absurd h (by simp)) (fun _ => ?_)⟩
  refine ⟨fun h => absurd h (bne_no rfl), fun _ => ?_⟩
  unfold laws_FnExactPositions_j0
  refine Ret.at (laws_toDebtS_c (h1.ext x) hc1 hz1 hb1) ?_
  rintro v W7 ⟨p_y1, c_y1, f_y1, hv, o_y1, y⟩
  subst hv
  have lt_o_y1 : ∀ k ∈ f_y1, W6.heap.size ≤ k ∧ k < W7.heap.size := o_y1.lt
  have y2 := y
  replace x := x.trans y
  replace xS := xS.trans y
  replace o_x1 := o_x1.ext y
  replace o_g0 := o_g0.ext y
  have ll7 := y.le
  refine ⟨_, _, _, rfl, ?_⟩
  refine Ret.at (laws_eqDebtS_c o_x1.rows o_y1.rows hc1 hc1) ?_
  rintro v W8 ⟨hv, y⟩
  subst hv
  replace x := x.trans y
  replace xS := xS.trans y
  replace o_x1 := o_x1.ext y
  replace o_g0 := o_g0.ext y
  have ll8 := y.le
  refine ⟨_, rfl, ifN (fun h => absurd h (by simp)) (fun _ => ?_)⟩
  have cn1 := cntL_nonneg l1; have cb1 := cntL_le l1 (m := 5) (fun y hy => by rw [code_len (hc1 y hy)]; decide)
  have cl1 : cntL l1 ≤ 100000000 := by have := h1.1; omega
  refine Ret.at (laws_markDebtS_c o_x1 hc1 (by omega) (by omega)) ?_
  rintro v W9 ⟨hv, on, ch⟩
  subst hv
  replace x := x.chg ch (fun k hk => by have := lt_o_x1 k hk; omega)
  replace xS := xS.chg ch (fun k hk => by have := lt_o_x1 k hk; omega)
  replace o_g0 := o_g0.chg ch (fun k hk hm => by have h1 := lt_o_g0 k hk; have h2 := lt_o_x1 k hm; omega)
  have ll9 := ch.size
  replace o_x1 := on; clear on
  refine ⟨_, rfl, ?_⟩
  refine ifD (fun h => absurd h (by omega)) (fun _ => ?_)
  refine Ret.at (laws_eqPosS_c o_g0.rows (o_w0.ext xS) co_g0 co_w0) ?_
  rintro v W10 ⟨hv, y⟩
  subst hv
  replace x := x.trans y
  replace xS := xS.trans y
  replace o_x1 := o_x1.ext y
  replace o_g0 := o_g0.ext y
  have ll10 := y.le
  refine ⟨_, rfl, ifN (fun h => absurd h (by simp)) (fun _ => ?_)⟩
  refine ⟨fun h => absurd h (bne_no rfl), fun _ => ?_⟩
  unfold laws_FnExactPositions_j1
  refine Ret.at (laws_markPosS_c o_g0 co_g0 (by omega) (by omega)) ?_
  rintro v W11 ⟨hv, on, ch⟩
  subst hv
  replace x := x.chg ch (fun k hk => by have := lt_o_g0 k hk; omega)
  replace xS := xS.chg ch (fun k hk => by have := lt_o_g0 k hk; omega)
  replace o_x1 := o_x1.chg ch (fun k hk hm => by have h1 := lt_o_x1 k hk; have h2 := lt_o_g0 k hm; omega)
  have ll11 := ch.size
  replace o_g0 := on; clear on
  refine ⟨_, rfl, ?_⟩
  refine Ret.at (laws_heldPosS_c o_g0.rows co_g0 (by omega) (by omega)) ?_
  rintro v W12 ⟨hv, y⟩
  subst hv
  replace x := x.trans y
  replace xS := xS.trans y
  replace o_x1 := o_x1.ext y
  replace o_g0 := o_g0.ext y
  have ll12 := y.le
  refine ⟨_, rfl, ifD (fun h => absurd h (by omega)) (fun _ => ?_)⟩
  refine ifD (fun h => absurd rfl h) (fun _ => ?_)
  refine Ret.at (laws_toDebtS_c (h1.ext x) hc1 hz1 hb1) ?_
  rintro v W13 ⟨p_h1, c_h1, f_h1, hv, o_h1, y⟩
  subst hv
  have lt_o_h1 : ∀ k ∈ f_h1, W12.heap.size ≤ k ∧ k < W13.heap.size := o_h1.lt
  have yy := y
  replace x := x.trans y
  replace xS := xS.trans y
  replace o_x1 := o_x1.ext y
  replace o_g0 := o_g0.ext y
  have ll13 := y.le
  refine ⟨_, _, _, rfl, ?_⟩
  refine Ret.at (impl_Positions_c a0 o_h1.rows hc1 hz1 hb1 (ht.ext x)) ?_
  rintro v W14 ⟨p_h0, m_h0, c_h0, f_h0, hv, o_h0, co_h0, ct_h0, y⟩
  subst hv
  have tn_h0 := cntL_nn ct_h0
  have lt_o_h0 : ∀ k ∈ f_h0, W13.heap.size ≤ k ∧ k < W14.heap.size := o_h0.lt
  replace x := x.trans y
  replace xS := xS.trans y
  replace o_x1 := o_x1.ext y
  replace o_g0 := o_g0.ext y
  have ll14 := y.le
  refine ⟨_, _, _, _, rfl, ?_⟩
  refine Ret.at (laws_eqPosS_c o_h0.rows (o_w0.ext xS) co_h0 co_w0) ?_
  rintro v W15 ⟨hv, y⟩
  subst hv
  replace x := x.trans y
  replace xS := xS.trans y
  replace o_x1 := o_x1.ext y
  replace o_g0 := o_g0.ext y
  replace o_h0 := o_h0.ext y
  have ll15 := y.le
  refine ⟨_, rfl, ifN (fun h => absurd h (by simp)) (fun _ => ?_)⟩
  refine ⟨fun h => absurd h (bne_no rfl), fun _ => ?_⟩
  unfold laws_FnExactPositions_j2
  refine Ret.at (laws_heldPosS_c o_g0.rows co_g0 (by omega) (by omega)) ?_
  rintro v W16 ⟨hv, y⟩
  subst hv
  replace x := x.trans y
  replace xS := xS.trans y
  replace o_x1 := o_x1.ext y
  replace o_g0 := o_g0.ext y
  replace o_h0 := o_h0.ext y
  have ll16 := y.le
  refine ⟨_, rfl, ifD (fun h => absurd h (by omega)) (fun _ => ?_)⟩
  refine ifD (fun h => absurd rfl h) (fun _ => ?_)
  exact ⟨rfl, x⟩
end Go.Proofs.YtdidocmbcfbjdaaDoor

namespace Go.Proofs.YtdidocmbcfbjdaaDoor.Sx
open Go Go.RowKit Go.ChangeShapes Go.WideShapes
set_option linter.unusedVariables false
set_option linter.unusedSimpArgs false
/-- each named variable's type can be read and is a row of the table -/
def rowedV (P : Program) (ns : List String) : Bool := ns.all fun n => ((P.globalNamed n).bind (P.globals[·]?)).all fun gl => P.readableRec gl.type && decide (gl.type < P.types.size)
section
variable {H : Type} {enc : TypeId × Value → H} {P : Program}
theorem trodAll_ext (hl : laidOutB P = true) {W W' : World} (hb : Ext W W') (sp' : Nat → Bool) : ∀ {ts : List TypeId} {vs : List Value} {ds : List (DataW H)} {ps : List MemPlace},
    (∀ t ∈ ts, P.readableRec t = true ∧ t < P.types.size) → (∀ p ∈ ps, p.block < W.heap.size) → (∀ p ∈ ps, sp' p.block = true) →
    DataW.TrodAll enc P W 0 (fun _ => true) true ts vs ds ps → DataW.TrodAll enc P W' 0 sp' true ts vs ds ps
  | [], _, _, _, _, _, _, h => by
    obtain ⟨rfl, rfl, rfl⟩ := trodAll_nil h
    exact rfl
  | t :: ts, _, _, _, hr, hlt, hsp, h => by
    obtain ⟨v, vs1, d, ds1, a, b, rfl, rfl, rfl, h1, h2⟩ := trodAll_cons h
    have hrt := hr t (by simp)
    exact ⟨a, b, WideElems.Trod_stays hl hrt.1 hrt.2 h1 (fun x hx => Below.same hb (hlt x (by simp [hx]))) (fun x hx => hsp x (by simp [hx])),
      trodAll_ext hl hb sp' (fun u hu => hr u (by simp [hu])) (fun x hx => hlt x (by simp [hx])) (fun x hx => hsp x (by simp [hx])) h2, rfl⟩
theorem trodVars_sp (hl : laidOutB P = true) {W W' : World} (hb : Ext W W') (sp' : Nat → Bool) :
    ∀ {ns : List String} {gs : List (DataW H)} {ps : List MemPlace}, rowedV P ns = true → (∀ p ∈ ps, sp' p.block = true) → DataW.TrodVars enc P W (fun _ => true) ns gs ps → DataW.TrodVars enc P W' sp' ns gs ps
  | [], [], _, _, _, h => h
  | [], _ :: _, _, _, _, h => h.elim
  | _ :: _, [], _, _, _, h => h.elim
  | n :: ns, d :: ds, ps, hv, hsp, h => by
    have hlt := h.lt
    obtain ⟨g, t, cs, fuel, p, q, h1, h2, h3, h4, hs, e⟩ := h
    simp only [rowedV, List.all_cons, Bool.and_eq_true] at hv
    have ht : P.readableRec t = true ∧ t < P.types.size := by
      have := hv.1
      rw [h1] at this
      cases hg : P.globals[g]? with
      | none => rw [hg] at h2; cases h2
      | some gl =>
        rw [hg] at h2
        obtain rfl : gl.type = t := Option.some.inj h2
        simpa [hg] using this
    have hp : ∀ x ∈ p, x.block < W.heap.size := fun x hx => hlt x (by rw [e]; simp [hx])
    have h3' : W'.var? P n = some cs := by
      unfold World.var? at h3 ⊢
      rw [h1] at h3 ⊢
      simp only [Option.bind_some] at h3 ⊢
      have hg : g < W.heap.size := by
        cases hh : W.heap[g]? with
        | none => rw [hh] at h3; cases h3
        | some o => exact (Array.getElem?_eq_some_iff.1 hh).1
      rw [hb.block g hg]; exact h3
    exact ⟨g, t, cs, fuel, p, q, h1, h2, h3', DataW.trod_stays (kids_book hl ht.1) (book_sized ht.1) (fun h => by cases h) ⟨ht.2, book_self t⟩ h4 (fun x hx => Below.same hb (hp x hx)) (fun x hx => hsp x (by rw [e]; simp [hx])),
      trodVars_sp hl hb sp' (by simpa [rowedV] using hv.2) (fun x hx => hsp x (by rw [e]; simp [hx])) hs, e⟩
/-- what the row asks of a law that answered true in a world with more behind it -/
theorem post_of_ext {f : Func} {s : ChangeSpec} {apart fresh handsOn again : Bool} {W W' : World} {args : Array Value} {ds gs : List (DataW H)} {before : List MemPlace} {tb : TypeId}
    (hl : laidOutB P = true) (hpar : ∀ t ∈ f.params.toList, P.readableRec t = true ∧ t < P.types.size) (hvr : rowedV P s.vars = true)
    (hrt : f.resultTypes = #[tb]) (htb : P.underlying tb = some .bool)
    (hW : DataW.Whole enc P f.params.toList s.vars apart W args.toList ds gs before) (hx : Ext W W')
    (hfn : s.fn H (ds ++ gs) = { results := [.lit (.bool true)], args := ds, vars := gs }) :
    s.post enc P f apart fresh handsOn again W args (.bool true) W' := by
  have hW0 := hW
  have hlt : ∀ p ∈ before, p.block < W.heap.size := hW.lt
  obtain ⟨pa, pv, hA, hV, rfl, hz, hn⟩ := hW
  have hlta : ∀ p ∈ pa, p.block < W.heap.size := fun p hp => hlt p (by simp [hp])
  have hltv : ∀ p ∈ pv, p.block < W.heap.size := fun p hp => hlt p (by simp [hp])
  have hr : (Value.bool true).resultList f.resultTypes.size = [Value.bool true] := by rw [hrt]; rfl
  refine ⟨ds, gs, pa ++ pv, [], pa, pv, hW0, ?_, ?_, ?_, Below.frame hx _, fun _ => ?_⟩
  · rw [hfn, hr, hrt]
    exact trodAll_mk1 (shut_bool htb _)
  · rw [hfn]
    exact trodAll_ext hl hx _ hpar hlta (fun p hp => by simpa using hlta p hp) hA
  · rw [hfn]
    exact trodVars_sp hl hx _ hvr (fun p hp => by simpa using hltv p hp) hV
  · refine ⟨?_, (.lit (.bool true)) :: ds, gs, pa ++ pv, ⟨[] ++ pa, pv, ?_, ?_, by simp, ?_, ?_⟩, fun p hp _ => hp⟩
    · rw [hr, hrt]
      exact ok_one (f := { f with resultTypes := #[tb] }) rfl rfl (okWide_bool_mk htb _)
    · rw [hr, hrt]
      exact trodAll_append (trodAll_ext hl hx _ hpar hlta (fun _ _ => rfl) hA) (trodAll_mk1 (shut_bool htb _))
    · exact trodVars_sp hl hx _ hvr (fun _ _ => rfl) hV
    · intro b off hp
      have := hlt _ hp
      rw [Below.frozen hx (p := ⟨b, off, none⟩) this]
      exact hz b off hp
    · exact hn
end
end Go.Proofs.YtdidocmbcfbjdaaDoor.Sx

namespace Go.Proofs.YtdidocmbcfbjdaaDoor.Sx
open Go Go.RowKit Go.ChangeShapes Go.WideShapes
set_option linter.unusedVariables false
set_option linter.unusedSimpArgs false
/-- the cells of a struct's fields, one behind the other -/
def flatF (P : Program) (g : TypeId → Option (List C0)) : Nat → List Field → Option (List C0)
  | _, [] => some []
  | o, f :: r => match Nat.beq f.offset o, g f.type with
    | true, some a => match Nat.beq (P.cellsOf f.type) a.length, flatF P g (o + a.length) r with
      | true, some b => some (a ++ b)
      | _, _ => none
    | _, _ => none
/-- the cells of a type -/
def flatC (P : Program) : Nat → TypeId → Option (List C0)
  | 0, _ => none
  | n + 1, t => match P.underlying t with
    | some .bool => some [.bool]
    | some (.int .i64) => some [.int]
    | some .string => some [.str]
    | some (.slice e) => match P.underlying e, P.cellsOf e with
      | some (.int .i64), 1 => some [.ints]
      | _, _ => none
    | some (.struct fs) => match flatF P (flatC P n) 0 fs.toList with
      | some a => if Nat.beq (P.cellsOf t) a.length then some a else none
      | none => none
    | _ => none
section
variable {H : Type} {enc : TypeId × Value → H} {P : Program} {w : World}
theorem seg_of_cells {b off n : Nat} {sp : Option Nat} {cs : List Value} (h : w.cells? 0 ⟨b, off, none⟩ n = some cs) : cs.length = n ∧ Seg w b off cs := by
  obtain ⟨_, hl, hc⟩ := World.cells?_some h
  refine ⟨hl, fun j v hj => ?_⟩
  have hjl : j < n := by rw [← hl]; exact (List.getElem?_eq_some_iff.1 hj).1
  rw [← addr_add, hc j hjl, hj]
theorem spot_none {a : Addr} {v : Value} (h : w.cell? a = some v) : a = ⟨a.block, a.off, none⟩ := by
  obtain ⟨b, o, spot⟩ := a
  have : spot = none := by simpa using World.cell?_spot h
  subst this; rfl
theorem ints_of_trod {t e : TypeId} {fuel : Nat} {sp : Nat → Bool} {hd : Bool} {cs : List Value} {x : DataW H × List MemPlace} (ht : P.underlying t = some (.slice e)) (he : P.underlying e = some (.int .i64)) (hc : P.cellsOf e = 1)
    (h : DataW.trod enc P w 0 sp hd fuel t cs = some x) : ∃ p n c zs, cs = [.slice p n c] ∧ IntsR w p n c zs ∧ zs.length ≤ 9223372036854775807 := by
  rcases Go.ChangeShapes.open_ints ht he hc h with ⟨rfl, _⟩ | ⟨a, len, cap, zs, rfl, _, hl, hm, hz, _, hcell, _⟩
  · exact ⟨none, 0, 0, [], rfl, ⟨rfl, Nat.le_refl _, by omega, fun h => absurd h (by omega)⟩, by simp⟩
  · have hlz : len ≤ zs.length := by rw [hz]; split <;> omega
    refine ⟨some a, len, cap, zs.take len, rfl, ⟨by simp; omega, hl, by simpa [maxLen] using hm, fun hpos => ?_⟩, by simp only [maxLen] at hm; simp; omega⟩
    have h0 := hcell 0 (by omega)
    have hs := spot_none h0
    have ha : a = ⟨a.block, a.off, none⟩ := by
      obtain ⟨b, o, s⟩ := a
      simp [Addr.add] at hs
      simp [hs]
    refine ⟨a.block, a.off, by rw [← ha], fun j v hj => ?_⟩
    simp only [List.getElem?_map, List.getElem?_take] at hj
    split at hj
    · rename_i hjl
      have hjz : j < zs.length := by omega
      have := hcell j hjz
      rw [ha, addr_add] at this
      rw [this]
      rw [List.getElem?_eq_getElem hjz] at hj
      simp at hj
      rw [← hj]
      simp [hjz]
    · simp at hj
theorem flatF_open {g : TypeId → Option (List C0)} {n : Nat} {sp : Nat → Bool} {hd : Bool}
    (ih : ∀ {t : TypeId} {ks : List C0} {cs : List Value} {x : DataW H × List MemPlace}, g t = some ks → DataW.trod enc P w 0 sp hd n t cs = some x → ∃ ds, Reps w cs ds ∧ ds.map D0.code = ks ∧ ∀ d ∈ ds, d.ok) :
    ∀ (fs : List Field) (o : Nat) (ks : List C0) (cs : List Value), flatF P g o fs = some ks → cs.length = o + ks.length →
      (∀ f ∈ fs, ∃ x, DataW.trod enc P w 0 sp hd n f.type ((cs.drop f.offset).take (P.cellsOf f.type)) = some x) → ∃ ds, Reps w (cs.drop o) ds ∧ ds.map D0.code = ks ∧ ∀ d ∈ ds, d.ok
  | [], o, ks, cs, hf, hl, _ => by
    simp only [flatF, Option.some.injEq] at hf
    subst hf
    rw [List.drop_of_length_le (by simp at hl; omega)]
    exact ⟨[], trivial, rfl, by simp⟩
  | f :: r, o, ks, cs, hf, hl, hx => by
    simp only [flatF] at hf
    split at hf
    · rename_i a h1 h2
      split at hf
      · rename_i b h3 h4
        have h1' := Nat.eq_of_beq_eq_true h1
        have h3' := Nat.eq_of_beq_eq_true h3
        cases hf
        rw [List.length_append] at hl
        obtain ⟨x, hx0⟩ := hx f (by simp)
        obtain ⟨ds, r1, c1, k1⟩ := ih h2 hx0
        obtain ⟨es, r2, c2, k2⟩ := flatF_open ih r (o + a.length) b cs h4 (by omega) (fun f' hf' => hx f' (by simp [hf']))
        refine ⟨ds ++ es, ?_, by simp [c1, c2], fun d hd => ?_⟩
        · rw [h1', h3'] at r1
          have : cs.drop o = (cs.drop o).take a.length ++ cs.drop (o + a.length) := by
            rw [← List.drop_drop, List.take_append_drop]
          rw [this]
          exact r1.append r2
        · rcases List.mem_append.1 hd with h | h
          · exact k1 d h
          · exact k2 d h
      · cases hf
    · cases hf
theorem flat_open {sp : Nat → Bool} {hd : Bool} : ∀ (m : Nat) {fuel : Nat} {t : TypeId} {ks : List C0} {cs : List Value} {x : DataW H × List MemPlace}, flatC P m t = some ks → DataW.trod enc P w 0 sp hd fuel t cs = some x →
    ∃ ds, Reps w cs ds ∧ ds.map D0.code = ks ∧ ∀ d ∈ ds, d.ok
  | 0, _, _, _, _, _, h, _ => by cases h
  | m + 1, fuel, t, ks, cs, x, h, ht => by
    simp only [flatC] at h
    split at h
    · rename_i hu
      obtain ⟨b, rfl, _⟩ := DataW.trod_bool hu ht
      cases h
      exact ⟨[.bool b], ⟨rfl, trivial⟩, rfl, by simp [D0.ok]⟩
    · rename_i hu
      obtain ⟨b, rfl, _, hw⟩ := DataW.trod_int hu ht
      cases h
      refine ⟨[.int b], ⟨rfl, trivial⟩, rfl, ?_⟩
      simp only [List.mem_singleton, forall_eq, D0.ok]
      simp [Lit.wf, IntKind.min, IntKind.max, IntKind.bits, IntKind.signed] at hw
      omega
    · rename_i hu
      obtain ⟨s, rfl, _, hw⟩ := DataW.trod_string hu ht
      cases h
      exact ⟨[.str s], ⟨rfl, trivial⟩, rfl, by simpa [D0.ok, maxLen] using hw⟩
    · rename_i e hu
      split at h
      · rename_i he hc
        cases h
        obtain ⟨p, n, c, zs, rfl, hr, hz⟩ := ints_of_trod hu he hc ht
        exact ⟨[.ints zs], ⟨⟨p, n, c, rfl, hr⟩, trivial⟩, rfl, by simpa [D0.ok] using hz⟩
      · cases h
    · rename_i fs hu
      split at h
      · rename_i a hf
        split at h
        · rename_i hsz
          cases h
          obtain ⟨xs, n, rfl, _, hlen, hxl, hfs⟩ := DataW.trod_struct hu ht
          have hsz' := Nat.eq_of_beq_eq_true hsz
          have := flatF_open (fun h1 h2 => flat_open m h1 h2) fs.toList 0 ks cs hf (by omega) (fun f hf => by
            obtain ⟨i, hi⟩ := List.getElem?_of_mem hf
            have hil : i < fs.size := by simpa using (List.getElem?_eq_some_iff.1 hi).1
            have := hfs i f (by simpa using hi)
            rw [List.getElem?_eq_getElem (by omega)] at this
            exact ⟨_, this⟩)
          simpa using this
        · cases h
      · cases h
    · cases h
theorem rows_open {sp : Nat → Bool} {hd : Bool} {m fuel : Nat} {t e : TypeId} {ks : List C0} {cs : List Value} {x : DataW H × List MemPlace} (hu : P.underlying t = some (.slice e)) (hk : flatC P m e = some ks) (hc : P.cellsOf e = ks.length) (hpos : 0 < ks.length)
    (ht : DataW.trod enc P w 0 sp hd fuel t cs = some x) : ∃ p n c l, cs = [.slice p n c] ∧ RowsR w ks.length p n c l ∧ (∀ y ∈ l, y.map D0.code = ks) ∧ ∀ y ∈ l, ∀ d ∈ y, d.ok := by
  rcases Go.Deep.open_slice hu ht with ⟨rfl, _⟩ | ⟨a, len, cap, mm, n, D, Pl, rfl, _, hl, hm, hmm, _, hx⟩
  · exact ⟨none, 0, 0, [], rfl, RowsR.nil _ _ _ (by omega), by simp, by simp⟩
  · have hlm : len ≤ mm := by rw [hmm]; split <;> omega
    have hex : ∀ i, i < len → ∃ ds : List D0, (∃ cs', cs'.length = ks.length ∧ Reps w cs' ds ∧ w.cells? 0 (a.add (i * ks.length)) ks.length = some cs') ∧ ds.map D0.code = ks ∧ ∀ d ∈ ds, d.ok := fun i hi => by
      obtain ⟨cs', h1, h2⟩ := hx i (by omega)
      obtain ⟨ds, r, c, k⟩ := flat_open m hk h2
      rw [hc] at h1
      exact ⟨ds, ⟨cs', (World.cells?_some h1).2.1, r, h1⟩, c, k⟩
    obtain ⟨F, hF⟩ := Go.Deep.choose_lt hex
    refine ⟨some a, len, cap, (List.range len).map F, rfl, ⟨by simp, hl, by simpa [maxLen] using hm, fun hn => ?_⟩, ?_, ?_⟩
    · obtain ⟨⟨cs', _, _, h1⟩, _⟩ := hF 0 hn
      have h0 := (World.cells?_some h1).2.2 0 hpos
      have hlen := (World.cells?_some h1).2.1
      rw [List.getElem?_eq_getElem (by omega)] at h0
      have hs := spot_none h0
      have ha : a = ⟨a.block, a.off, none⟩ := by
        obtain ⟨b, o, s⟩ := a
        simp [Addr.add] at hs
        simp [hs]
      refine ⟨a.block, a.off, by rw [← ha], fun i y hy => ?_⟩
      have hil : i < len := by
        have := (List.getElem?_eq_some_iff.1 hy).1
        simpa using this
      obtain ⟨⟨cs', q1, q2, q3⟩, _⟩ := hF i hil
      have : y = F i := by simpa [hil] using hy.symm
      subst this
      rw [ha, addr_add] at q3
      exact ⟨cs', q1, q2, (seg_of_cells (sp := none) q3).2⟩
    · intro y hy
      obtain ⟨i, hi, rfl⟩ := List.mem_map.1 hy
      exact (hF i (by simpa using hi)).2.1
    · intro y hy
      obtain ⟨i, hi, rfl⟩ := List.mem_map.1 hy
      exact (hF i (by simpa using hi)).2.2
end
end Go.Proofs.YtdidocmbcfbjdaaDoor.Sx

namespace Go.Proofs.YtdidocmbcfbjdaaDoor
open Go Go.Proofs.YtdidocmbcfbjdaaDoor.Sx
set_option linter.unusedVariables false
set_option linter.unusedSimpArgs false
def curData {H : Type} (r : CurRow) : DataW H := .agg [.lit (.string r.1.data.toList), .lit (.string r.2.1.data.toList), .lit (.int .i64 r.2.2.1), .lit (.int .i64 r.2.2.2)]
theorem bytes_eq {a b : ByteArray} (h : a.data.toList = b.data.toList) : a = b := by
  obtain ⟨⟨x⟩⟩ := a; obtain ⟨⟨y⟩⟩ := b
  simp at h; subst h; rfl
set_option maxRecDepth 100000 in
theorem cur_cells {H : Type} {enc : TypeId × Value → H} {w : World} {sp : Nat → Bool} {hd : Bool} {fuel : Nat} {cs : List Value} {r : CurRow} {p : List MemPlace}
    (h : DataW.trod enc P w 0 sp hd fuel T_impl_currency cs = some (curData r, p)) : cs = curCells r := by
  obtain ⟨fs, hu, hsz, ⟨f0, e0, t0, o0⟩, ⟨f1, e1, t1, o1⟩, ⟨f2, e2, t2, o2⟩, ⟨f3, e3, t3, o3⟩⟩ := cur_fields
  have hu : P.underlying T_impl_currency = some (.struct fs) := hu
  have hs : P.underlying T_string = some .string := by kernel_rfl
  have hi : P.underlying T_int = some (.int .i64) := by kernel_rfl
  have cS : P.cellsOf T_string = 1 := by kernel_rfl
  have cI : P.cellsOf T_int = 1 := by kernel_rfl
  have cC : P.cellsOf T_impl_currency = 4 := by kernel_rfl
  obtain ⟨xs, n, rfl, hx, hlen, hxl, hf⟩ := DataW.trod_struct hu h
  rw [cC] at hlen
  rw [hsz] at hxl
  have h0 := hf 0 f0 e0; have h1 := hf 1 f1 e1; have h2 := hf 2 f2 e2; have h3 := hf 3 f3 e3
  rw [t0, o0, cS] at h0; rw [t1, o1, cS] at h1; rw [t2, o2, cI] at h2; rw [t3, o3, cI] at h3
  match cs, hlen, xs, hxl, hx, h0, h1, h2, h3 with
  | [c0, c1, c2, c3], _, [x0, x1, x2, x3], _, hx, h0, h1, h2, h3 =>
    simp only [List.drop_succ_cons, List.drop_zero, List.take_succ_cons, List.take_zero, List.getElem?_cons_zero, List.getElem?_cons_succ] at h0 h1 h2 h3
    obtain ⟨s0, a0, b0, _⟩ := DataW.trod_string hs h0
    obtain ⟨s1, a1, b1, _⟩ := DataW.trod_string hs h1
    obtain ⟨z2, a2, b2, _⟩ := DataW.trod_int hi h2
    obtain ⟨z3, a3, b3, _⟩ := DataW.trod_int hi h3
    simp only [Prod.mk.injEq, curData, DataW.agg.injEq, List.map_cons, List.map_nil, List.cons.injEq, b0, b1, b2, b3, DataW.lit.injEq, Lit.string.injEq, Lit.int.injEq, true_and, and_true] at hx
    simp only [List.cons.injEq, and_true] at a0 a1 a2 a3
    obtain ⟨⟨q0, q1, q2, q3⟩, _⟩ := hx
    rw [a0, a1, a2, a3, ← bytes_eq q0, ← bytes_eq q1, ← q2, ← q3]
    rfl
theorem flat_of_rows : ∀ (l : List CurRow) (cs : List Value), cs.length = l.length * 4 → (∀ i (hi : i < l.length), (cs.drop (i * 4)).take 4 = curCells (l[i]'hi)) → cs = l.flatMap curCells
  | [], cs, h, _ => by simpa using h
  | r :: l, cs, h, hr => by
    have h0 := hr 0 (by simp)
    simp only [Nat.zero_mul, List.drop_zero, List.getElem_cons_zero] at h0
    rw [List.flatMap_cons, ← h0, ← flat_of_rows l (cs.drop 4) (by simp at h ⊢; omega) (fun i hi => by
      have := hr (i + 1) (by simpa using hi)
      rw [List.drop_drop, show 4 + i * 4 = (i + 1) * 4 by omega]
      simpa using this), List.take_append_drop]
def curVar : String := "loop.example/g00793/impl.currencies"
set_option maxRecDepth 100000 in
theorem tab_of_head {W : World} {rest : List (String × DataW Unit)} (h : laidMet P ((curVar, Rows.laid_loop_example_g00793_impl_currencies) :: rest) W) : Tab W := by
  obtain ⟨ps, ⟨g, t, cs, fuel, p, q, hg, ht, hvar, hd, _, _⟩, _⟩ := h
  have hg0 : P.globalNamed curVar = some 0 := by kernel_rfl
  have ht0 : (P.globals[0]?).map (·.type) = some T_20_impl_currency := by kernel_rfl
  obtain rfl := Option.some.inj (hg0.symm.trans hg)
  obtain rfl := Option.some.inj (ht0.symm.trans ht)
  have hu : P.underlying T_20_impl_currency = some (.array 20 T_impl_currency) := und_T_20_impl_currency
  have cC : P.cellsOf T_impl_currency = 4 := by kernel_rfl
  have cA : P.cellsOf T_20_impl_currency = 80 := by kernel_rfl
  obtain ⟨xs, m, rfl, hx, hlen, hxl, hf⟩ := DataW.trod_array hu hd
  rw [cA] at hlen
  have hdat : (Rows.laid_loop_example_g00793_impl_currencies : DataW Unit) = .agg (implTab.map curData) := by rfl
  rw [hdat] at hx
  simp only [Prod.mk.injEq, DataW.agg.injEq] at hx
  have hl := impl_length
  have hcs : cs.toList = implTab.flatMap curCells := by
    refine flat_of_rows implTab _ (by omega) fun i hi => ?_
    have h1 := hf i (by omega)
    rw [cC] at h1
    have h2 : (xs.map (·.1))[i]? = some (curData (implTab[i]'hi)) := by rw [← hx.1]; simp [hi]
    rw [List.getElem?_map] at h2
    cases h3 : xs[i]? with
    | none => rw [h3] at h2; cases h2
    | some x =>
      rw [h3] at h1 h2
      simp only [Option.map_some, Option.some.injEq] at h2
      obtain ⟨d, pp⟩ := x
      simp only at h2
      subst h2
      exact cur_cells h1
  intro i v hv
  have := World.var?_cell hg0 hvar i
  rw [Nat.zero_add, this, ← hv, ← hcs]
  simp
theorem tab_of_laid {W : World} (h : laidMetH P [(curVar, Rows.laid_loop_example_g00793_impl_currencies)] W) : Tab W := tab_of_head (rest := []) h
/-- a world for the witness: the settled one, the table laid in its variable -/
noncomputable def laidWorld (os : Os) (args : Array Value) : World :=
  { World.holding P os ⟨#[], args, []⟩ with heap := (World.holding P os ⟨#[], args, []⟩).heap.modify 0 fun
      | .cells _ t frozen => .cells ⟨implTab.flatMap curCells⟩ t frozen
      | o => o }
theorem trodVars_one {H : Type} {enc : TypeId × Value → H} {w : World} {sp : Nat → Bool} {n : String} {gs : List (DataW H)} {ps : List MemPlace} (h : DataW.TrodVars enc P w sp [n] gs ps) : ∃ g, gs = [g] := by
  match gs, h with
  | [g], _ => exact ⟨g, rfl⟩
  | g :: g2 :: r, h =>
    obtain ⟨_, _, _, _, _, _, _, _, _, _, h2, _⟩ := h
    exact h2.elim
end Go.Proofs.YtdidocmbcfbjdaaDoor
