/-
  Parts of the proof of nextRow_holds: CNextRow, SxFlS, WNextRow, SxRow, SxOpen, CTab.
  Conditions: none.
-/
import Derived.ProofKit
import Derived.Deep.Slices
import Derived.Test.YtfemmmbkhhemaaaGreatDoorRows
import Derived.OpenShut
import Derived.Lib.LaidTab
import Derived.Test.YtfemmmbkhhemaaaGreatDoorNRo6

namespace Go.Proofs.YtfemmmbkhhemaaaGreatDoor
open Go Go.Proofs.YtfemmmbkhhemaaaGreatDoor.Sx
set_option linter.unusedVariables false
set_option linter.unusedSimpArgs false
def row0 : List D0 := [.str ByteArray.empty, .bool false, .ints [], .str ByteArray.empty, .bool false, .ints [], .str ByteArray.empty, .bool false, .ints []]
def rowOf (c : ByteArray) (i p l : Int) : List D0 := (.str c :: enc i) ++ ((.str c :: enc p) ++ (.str c :: enc l))
def lesser (d p : Int) : Int := if d < p then d else p
def nextT : List D0 → List D0 → List D0 → Int → Bool × List D0
  | [.str c, .bool b, .ints z], dr, [.str c2, .bool b2, .ints z2], mode =>
    if alk [.str c, .bool b, .ints z] [.str c2, .bool b2, .ints z2] && (!b && !b2) && ((taxOnT [.str c, .bool b, .ints z] dr mode).1 && moneyOk (.str c :: enc (ival [.bool b, .ints z] + moneyVal (taxOnT [.str c, .bool b, .ints z] dr mode).2.1))) then
      (true, rowOf c (moneyVal (taxOnT [.str c, .bool b, .ints z] dr mode).2.1) (lesser (ival [.bool b, .ints z] + moneyVal (taxOnT [.str c, .bool b, .ints z] dr mode).2.1) (ival [.bool b2, .ints z2])) (ival [.bool b, .ints z] + moneyVal (taxOnT [.str c, .bool b, .ints z] dr mode).2.1 - lesser (ival [.bool b, .ints z] + moneyVal (taxOnT [.str c, .bool b, .ints z] dr mode).2.1) (ival [.bool b2, .ints z2])))
    else (false, row0)
  | _, _, _, _ => (false, row0)
theorem own_row0 (W : World) (B : Nat) : Owns W B [.string ByteArray.empty, .bool false, .slice none 0 0, .string ByteArray.empty, .bool false, .slice none 0 0, .string ByteArray.empty, .bool false, .slice none 0 0] row0 [] :=
  Owns.append (own_money0 W B) (Owns.append (own_money0 W B) (own_money0 W B))
theorem moneyc (c : ByteArray) (i : Int) : (D0.str c :: enc i).map D0.code = [.str, .bool, .ints] := rfl
theorem sgn_neg {z : Int} : sgn z < 0 ↔ z < 0 := by unfold sgn; split <;> (try split) <;> omega
theorem lesser_lt {d p : Int} (h : d < p) : lesser d p = d := if_pos h
theorem lesser_ge {d p : Int} (h : ¬ d < p) : lesser d p = p := if_neg h
theorem alk_enc {c : ByteArray} {d p : Int} (h : moneyOk (.str c :: enc d) = true) (g : moneyOk (.str c :: enc p) = true) : alk (.str c :: enc d) (.str c :: enc p) = true := by
  have h' : moneyOk [.str c, .bool (decide (d < 0)), .ints (digs d.natAbs)] = true := h
  have g' : moneyOk [.str c, .bool (decide (p < 0)), .ints (digs p.natAbs)] = true := g
  show (moneyOk [.str c, .bool (decide (d < 0)), .ints (digs d.natAbs)] && (moneyOk [.str c, .bool (decide (p < 0)), .ints (digs p.natAbs)] && decide (c = c))) = true
  rw [h', g', decide_eq_true rfl]; rfl
theorem money_lim {c : ByteArray} {d : Int} (h : moneyOk (.str c :: enc d) = true) : d.natAbs ≤ 1000000000000000000000000000000000000 := by
  have := money_bound (c := c) (b := decide (d < 0)) (z := digs d.natAbs) h
  rwa [show ival [.bool (decide (d < 0)), .ints (digs d.natAbs)] = d from ival_enc d] at this
theorem money_len {c : ByteArray} {d : Int} (h : moneyOk (.str c :: enc d) = true) : (digs d.natAbs).length ≤ 4 := by
  have h' : (curKnown c && intOk (enc d) && decide ((digs d.natAbs).length ≤ 4)) = true := h
  rw [Bool.and_eq_true, decide_eq_true_eq] at h'
  exact h'.2
theorem money_cur {c : ByteArray} {d : Int} (h : moneyOk (.str c :: enc d) = true) : curKnown c = true := by
  have h' : (curKnown c && intOk (enc d) && decide ((digs d.natAbs).length ≤ 4)) = true := h
  rw [Bool.and_eq_true, Bool.and_eq_true] at h'
  exact h'.1.1
theorem money_str {c : ByteArray} {d : Int} (h : moneyOk (.str c :: enc d) = true) : c.size ≤ 50 := by
  have h1 : (implTab.all fun r => decide (r.1.size ≤ 50)) = true := by decide +kernel
  have h2 := money_cur h
  unfold curKnown curIn at h2
  rw [List.any_eq_true] at h2
  obtain ⟨r, hr, he⟩ := h2
  rw [List.all_eq_true] at h1
  have := of_decide_eq_true (h1 r hr)
  rwa [of_decide_eq_true he] at this
theorem money_less {c : ByteArray} {d e : Int} (h : moneyOk (.str c :: enc d) = true) (he : e.natAbs ≤ d.natAbs) : moneyOk (.str c :: enc e) = true := by
  have hl := digs_mono_len he
  have h4 := money_len h
  have h3 : (digs e.natAbs).length ≤ 4 := Nat.le_trans hl h4
  have h5 : intOk (enc e) = true := enc_ok (by omega)
  have h6 : curKnown c = true := money_cur h
  show (curKnown c && intOk (enc e) && decide ((digs e.natAbs).length ≤ 4)) = true
  rw [h5, h6, decide_eq_true h3]; rfl
theorem taxOnT_no {d0 d1 : List D0} {m : Int} : (taxOnT d0 d1 m).1 = false → (taxOnT d0 d1 m).2.1 = zeroMoney := by
  unfold taxOnT
  split
  · split
    · intro h
      show rmMoney _ _ _ _ = _
      unfold rmMoney
      rw [show rmOk _ _ _ _ = false from h]; rfl
    · intro _; rfl
  · intro _; rfl
theorem redN_nn {n : Int} {d : Nat} (h : 0 ≤ n) : 0 ≤ redN n d := by unfold redN; rw [if_neg (by omega)]; exact Int.natCast_nonneg _
theorem taxOnT_yes {c : ByteArray} {b : Bool} {z : List Int} {d1 : List D0} {m : Int} (h : (taxOnT [.str c, .bool b, .ints z] d1 m).1 = true) (hb : b = false) : (taxOnT [.str c, .bool b, .ints z] d1 m).2.1 = .str c :: enc (moneyVal (taxOnT [.str c, .bool b, .ints z] d1 m).2.1) ∧ moneyOk (.str c :: enc (moneyVal (taxOnT [.str c, .bool b, .ints z] d1 m).2.1)) = true ∧ 0 ≤ moneyVal (taxOnT [.str c, .bool b, .ints z] d1 m).2.1 := by
  subst hb
  match d1, h with
  | [.bool b2, .ints z2, .int s], h =>
    have hh : (moneyOk [.str c, .bool false, .ints z] && taxOk [.bool b2, .ints z2, .int s]) = true := by
      rcases hq : (moneyOk [.str c, .bool false, .ints z] && taxOk [.bool b2, .ints z2, .int s]) with _ | _
      · simp only [taxOnT, hq, Bool.false_eq_true, if_false] at h
      · rfl
    have hok : moneyOk [.str c, .bool false, .ints z] = true := by rw [Bool.and_eq_true] at hh; exact hh.1
    obtain ⟨_, b', z', he, hcan, _⟩ := intOk_enc (moneyOk_int hok)
    simp only [List.cons.injEq, D0.bool.injEq, D0.ints.injEq, and_true] at he
    obtain ⟨rfl, rfl⟩ := he
    have hv : 0 ≤ ival [.bool false, .ints z] := by
      show 0 ≤ (if (false : Bool) = true then -(val z) else val z)
      exact val_nonneg hcan.1
    simp only [taxOnT, hh, if_true] at h ⊢
    have hm : rmMoney c (exN (ival [.bool false, .ints z]) (val z2).toNat s.toNat) (exD (ival [.bool false, .ints z]) (val z2).toNat s.toNat) m = .str c :: enc (rround (exN (ival [.bool false, .ints z]) (val z2).toNat s.toNat) (exD (ival [.bool false, .ints z]) (val z2).toNat s.toNat) m) := by unfold rmMoney; rw [h]; rfl
    have hn : 0 ≤ exN (ival [.bool false, .ints z]) (val z2).toNat s.toNat := redN_nn (Int.mul_nonneg hv (redN_nn (by omega)))
    rw [hm]
    have e : moneyVal (.str c :: enc (rround (exN (ival [.bool false, .ints z]) (val z2).toNat s.toNat) (exD (ival [.bool false, .ints z]) (val z2).toNat s.toNat) m)) = rround (exN (ival [.bool false, .ints z]) (val z2).toNat s.toNat) (exD (ival [.bool false, .ints z]) (val z2).toNat s.toNat) m := ival_enc _
    rw [e]
    simp only [rmOk, Bool.and_eq_true] at h
    refine ⟨rfl, h.2, ?_⟩
    unfold rround
    rw [if_neg (by omega)]
    omega
theorem impl_MoneyAdd_e {w : World} {xs ys : List Value} {c : ByteArray} {d p : Int} (h : Reps w xs (.str c :: enc d)) (g : Reps w ys (.str c :: enc p)) (okd : moneyOk (.str c :: enc d) = true) (okp : moneyOk (.str c :: enc p) = true) (ht : Tab w) :
    Ret P n_impl_MoneyAdd [.agg ⟨xs⟩, .agg ⟨ys⟩] w fun v w' => ∃ vs f, v = .tuple #[.agg ⟨vs⟩, .bool (moneyOk (.str c :: enc (d + p)))] ∧ Owns w' w.heap.size vs (moneyMk c (d + p)) f ∧ f.Nodup ∧ Ext w w' := by
  have k := impl_MoneyAdd_n h g ht
  change Ret P _ _ _ (fun v w' => ∃ vs f, v = .tuple #[.agg ⟨vs⟩, .bool (mres (alk (.str c :: enc d) (.str c :: enc p)) c (ival (enc d) + ival (enc p))).1] ∧ Owns w' w.heap.size vs (mres (alk (.str c :: enc d) (.str c :: enc p)) c (ival (enc d) + ival (enc p))).2 f ∧ f.Nodup ∧ Ext w w') at k
  rw [alk_enc okd okp, ival_enc, ival_enc] at k
  exact k
theorem spec_MoneyAdd_e {w : World} {xs ys : List Value} {c : ByteArray} {d p : Int} (h : Reps w xs (.str c :: enc d)) (g : Reps w ys (.str c :: enc p)) (okd : moneyOk (.str c :: enc d) = true) (okp : moneyOk (.str c :: enc p) = true) :
    Ret P n_spec_MoneyAdd [.agg ⟨xs⟩, .agg ⟨ys⟩] w fun v w' => ∃ vs f, v = .tuple #[.agg ⟨vs⟩, .bool (moneyOk (.str c :: enc (d + p)))] ∧ Owns w' w.heap.size vs (moneyMk c (d + p)) f ∧ f.Nodup ∧ Ext w w' := by
  have k := spec_MoneyAdd_n h g
  change Ret P _ _ _ (fun v w' => ∃ vs f, v = .tuple #[.agg ⟨vs⟩, .bool (mres (alk (.str c :: enc d) (.str c :: enc p)) c (ival (enc d) + ival (enc p))).1] ∧ Owns w' w.heap.size vs (mres (alk (.str c :: enc d) (.str c :: enc p)) c (ival (enc d) + ival (enc p))).2 f ∧ f.Nodup ∧ Ext w w') at k
  rw [alk_enc okd okp, ival_enc, ival_enc] at k
  exact k
theorem impl_MoneySub_e {w : World} {xs ys : List Value} {c : ByteArray} {d p : Int} (h : Reps w xs (.str c :: enc d)) (g : Reps w ys (.str c :: enc p)) (okd : moneyOk (.str c :: enc d) = true) (okp : moneyOk (.str c :: enc p) = true) (ht : Tab w) :
    Ret P n_impl_MoneySub [.agg ⟨xs⟩, .agg ⟨ys⟩] w fun v w' => ∃ vs f, v = .tuple #[.agg ⟨vs⟩, .bool (moneyOk (.str c :: enc (d - p)))] ∧ Owns w' w.heap.size vs (moneyMk c (d - p)) f ∧ f.Nodup ∧ Ext w w' := by
  have k := impl_MoneySub_n h g ht
  change Ret P _ _ _ (fun v w' => ∃ vs f, v = .tuple #[.agg ⟨vs⟩, .bool (mres (alk (.str c :: enc d) (.str c :: enc p)) c (ival (enc d) - ival (enc p))).1] ∧ Owns w' w.heap.size vs (mres (alk (.str c :: enc d) (.str c :: enc p)) c (ival (enc d) - ival (enc p))).2 f ∧ f.Nodup ∧ Ext w w') at k
  rw [alk_enc okd okp, ival_enc, ival_enc] at k
  exact k
theorem spec_MoneySub_e {w : World} {xs ys : List Value} {c : ByteArray} {d p : Int} (h : Reps w xs (.str c :: enc d)) (g : Reps w ys (.str c :: enc p)) (okd : moneyOk (.str c :: enc d) = true) (okp : moneyOk (.str c :: enc p) = true) :
    Ret P n_spec_MoneySub [.agg ⟨xs⟩, .agg ⟨ys⟩] w fun v w' => ∃ vs f, v = .tuple #[.agg ⟨vs⟩, .bool (moneyOk (.str c :: enc (d - p)))] ∧ Owns w' w.heap.size vs (moneyMk c (d - p)) f ∧ f.Nodup ∧ Ext w w' := by
  have k := spec_MoneySub_n h g
  change Ret P _ _ _ (fun v w' => ∃ vs f, v = .tuple #[.agg ⟨vs⟩, .bool (mres (alk (.str c :: enc d) (.str c :: enc p)) c (ival (enc d) - ival (enc p))).1] ∧ Owns w' w.heap.size vs (mres (alk (.str c :: enc d) (.str c :: enc p)) c (ival (enc d) - ival (enc p))).2 f ∧ f.Nodup ∧ Ext w w') at k
  rw [alk_enc okd okp, ival_enc, ival_enc] at k
  exact k
theorem impl_NextRow_j1_n {w W : World} {B r2 r3 r4 r6 : Nat} {vi vd vp : List Value} {c : ByteArray} {i d p : Int} {fi : List Nat} (X : Ext w W) (h2 : Blk W r2 T_impl_Money vp) (h3 : Blk W r3 T_impl_Row [.string ByteArray.empty, .bool false, .slice none 0 0, .string ByteArray.empty, .bool false, .slice none 0 0, .string ByteArray.empty, .bool false, .slice none 0 0]) (h4 : Blk W r4 T_impl_Money vi) (h6 : Blk W r6 T_impl_Money vd) (oi : Owns W B vi (.str c :: enc i) fi) (ndi : fi.Nodup) (hd : Reps W vd (.str c :: enc d)) (hp : Reps W vp (.str c :: enc p)) (okd : moneyOk (.str c :: enc d) = true) (okp : moneyOk (.str c :: enc p) = true) (okr : moneyOk (.str c :: enc (d - p)) = true) (hp0 : 0 ≤ p) (hr3 : w.heap.size ≤ r3) (hrB : r3 < B) (hB : B ≤ W.heap.size) (ht : Tab W) :
    impl_NextRow_j1 r2 r3 r4 r6 W (fun v w' => ∃ vs f, v = .tuple #[.agg ⟨vs⟩, .bool true] ∧ Owns w' w.heap.size vs (rowOf c i p (d - p)) f ∧ f.Nodup ∧ Ext w w') := by
  have hpr := hp
  obtain ⟨i0, i1, ip, in_, ic, iz, rfl, _, _⟩ := open_Money oi.reps (moneyc c i)
  obtain ⟨d0, d1, dp, dn, dc, dz, rfl, _, _⟩ := open_Money hd (moneyc c d)
  obtain ⟨p0, p1, pp, pn, pc, pz, rfl, hpd, hpi⟩ := open_Money hp (moneyc c p)
  have l3 := h3.lt
  unfold impl_NextRow_j1
  refine ⟨_, _, _, _, _, h6.loadA0 (by kernel_rfl), _, _, _, _, _, h2.loadA0 (by kernel_rfl), ?_⟩
  refine Ret.at (impl_MoneySub_e hd hp okd okp ht) ?_
  rintro v w1 ⟨vs1, f1, hv, o1, nd1, y1⟩
  subst hv
  have l1 := y1.le
  have hmk : moneyMk c (d - p) = .str c :: enc (d - p) := by rw [moneyMk, if_pos okr]
  rw [hmk] at o1
  rw [okr]
  obtain ⟨m0, m1, mp, mn, mc, mz, rfl, _, _⟩ := open_Money o1.reps (moneyc c (d - p))
  refine ⟨_, _, _, _, _, _, rfl, ?_⟩
  intro r7 w2 hn2
  have e2 := hn2.r_eq; have s2 := hn2.size
  obtain ⟨w3, st3, hb3, y3⟩ := hn2.fill (P := P) (t := T_impl_Money) o1.reps.cells1 (by kernel_rfl) rfl
  have Y := (y1.trans y3).trans (Ext.drew w3)
  have lY := Y.le; have l3' := y3.le
  have D := Ext.drew w3
  refine ⟨w3, st3, ifN (fun hh => absurd hh (by simp)) (fun _ => ⟨_, _, _, _, _, fun W hW => ((h4.ext Y).ext hW).loadA0 (by kernel_rfl), _, _, _, _, _, fun W hW => ((h2.ext Y).ext hW).loadA0 (by kernel_rfl), ?_⟩)⟩
  refine Ret.at (impl_moneyCopy_c (hpr.ext Y) rfl (by
    have := money_len okp
    simp only [bulks, enc, D0.bulk, List.map_cons, List.map_nil, List.sum_cons, List.sum_nil]
    have hs := money_str okp
    omega)) ?_
  rintro v w5 ⟨vs5, f5, hv, o5, nd5, y5⟩
  subst hv
  obtain ⟨q0, q1, qp, qn, qc, qz, rfl, _, _⟩ := open_Money o5.reps (moneyc c p)
  refine ⟨_, _, _, _, _, rfl, y5, _, _, _, _, _, fun W hW => ((hb3.ext D).ext hW).loadA0 (by kernel_rfl), ?_⟩
  have o1' := (o1.ext ((y3.trans D).trans y5))
  have oi' := oi.ext (Y.trans y5)
  have all : Owns w5 B _ (rowOf c i p (d - p)) (fi ++ (f5 ++ f1)) := Owns.append oi' (Owns.append (o5.mono (by omega)) (o1'.mono (by omega)))
  have l5 := y5.le
  obtain ⟨W', st', ld', ow', xx', _, _⟩ := agg_end (t := T_impl_Row) ((h3.ext Y).ext y5) ((X.trans Y).trans y5) hr3 all (by kernel_rfl) rfl hrB (by omega)
  refine ⟨W', st', _, _, _, _, _, _, _, _, _, _, _, _, _, _, _, ld', _, _, rfl, ow', ?_, xx'⟩
  refine nodup_append ndi ?_ (m := W.heap.size) (fun k hk => (oi.lt k hk).2) (fun k hk => ?_)
  · have hh := nodup_append nd1 nd5 (m := w1.heap.size) (fun k hk => (o1.lt k hk).2) (fun k hk => by have := (o5.lt k hk).1; have := y3.le; have := D.le; omega)
    exact (List.perm_append_comm.nodup_iff).1 hh
  · rcases List.mem_append.1 hk with hk | hk
    · have := (o5.lt k hk).1; omega
    · have := (o1.lt k hk).1; omega
theorem spec_NextRow_j2_n {w W : World} {B r2 r3 r4 r6 : Nat} {vi vd vp : List Value} {c : ByteArray} {i d p : Int} {fi : List Nat} (X : Ext w W) (h2 : Blk W r2 T_impl_Money vp) (h3 : Blk W r3 T_impl_Row [.string ByteArray.empty, .bool false, .slice none 0 0, .string ByteArray.empty, .bool false, .slice none 0 0, .string ByteArray.empty, .bool false, .slice none 0 0]) (h4 : Blk W r4 T_impl_Money vi) (h6 : Blk W r6 T_impl_Money vd) (oi : Owns W B vi (.str c :: enc i) fi) (ndi : fi.Nodup) (hd : Reps W vd (.str c :: enc d)) (hp : Reps W vp (.str c :: enc p)) (okd : moneyOk (.str c :: enc d) = true) (okp : moneyOk (.str c :: enc p) = true) (okr : moneyOk (.str c :: enc (d - p)) = true) (hp0 : 0 ≤ p) (hr3 : w.heap.size ≤ r3) (hrB : r3 < B) (hB : B ≤ W.heap.size) :
    spec_NextRow_j2 r3 r4 r6 r2 W (fun v w' => ∃ vs f, v = .tuple #[.agg ⟨vs⟩, .bool true] ∧ Owns w' w.heap.size vs (rowOf c i p (d - p)) f ∧ f.Nodup ∧ Ext w w') := by
  have hpr := hp
  obtain ⟨i0, i1, ip, in_, ic, iz, rfl, _, _⟩ := open_Money oi.reps (moneyc c i)
  obtain ⟨d0, d1, dp, dn, dc, dz, rfl, _, _⟩ := open_Money hd (moneyc c d)
  obtain ⟨p0, p1, pp, pn, pc, pz, rfl, hpd, hpi⟩ := open_Money hp (moneyc c p)
  have l3 := h3.lt
  unfold spec_NextRow_j2
  refine ⟨_, _, _, _, _, h6.loadA0 (by kernel_rfl), _, _, _, _, _, h2.loadA0 (by kernel_rfl), ?_⟩
  refine Ret.at (spec_MoneySub_e hd hp okd okp) ?_
  rintro v w1 ⟨vs1, f1, hv, o1, nd1, y1⟩
  subst hv
  have l1 := y1.le
  have hmk : moneyMk c (d - p) = .str c :: enc (d - p) := by rw [moneyMk, if_pos okr]
  rw [hmk] at o1
  rw [okr]
  obtain ⟨m0, m1, mp, mn, mc, mz, rfl, _, _⟩ := open_Money o1.reps (moneyc c (d - p))
  refine ⟨_, _, _, _, _, _, rfl, ?_⟩
  intro r7 w2 hn2
  have e2 := hn2.r_eq; have s2 := hn2.size
  obtain ⟨w3, st3, hb3, y3⟩ := hn2.fill (P := P) (t := T_impl_Money) o1.reps.cells1 (by kernel_rfl) rfl
  have Y := (y1.trans y3).trans (Ext.drew w3)
  have lY := Y.le; have l3' := y3.le
  have D := Ext.drew w3
  refine ⟨w3, st3, ⟨_, _, _, _, _, fun W hW => ((h4.ext Y).ext hW).loadA0 (by kernel_rfl), _, fun W hW => ((h2.ext Y).ext hW).loadAt 0 rfl (by kernel_rfl) rfl, _, _, _, fun W hW => ((h2.ext Y).ext hW).loadAt 2 rfl (by kernel_rfl) rfl, ?_⟩⟩
  simp only [enc, List.cons.injEq, D0.str.injEq, D0.bool.injEq, D0.ints.injEq, and_true] at hpd
  obtain ⟨rfl, _, rfl⟩ := hpd
  have h4' := money_len okp
  refine Ret.at (spec_l04Make_c (hpi.ext Y) (digs_limbs _)) ?_
  rintro v w5 ⟨bq, p5, n5, c5, hv, hbq, own5, y5⟩
  subst hv
  have hcap : capL (digs (val (digs p.natAbs)).toNat) = digs p.natAbs := by
    rw [val_digs, Int.toNat_natCast]
    unfold capL
    rw [if_pos (by omega)]
  rw [hcap] at own5
  have hbq' : bq = decide (p < 0) := by rw [hbq, Bool.false_and, decide_eq_false (by omega)]
  subst hbq'
  have o5 : Owns w5 w3.drew.heap.size [.string c, .bool (decide (p < 0)), .slice p5 n5 c5] (.str c :: enc p) (p5.map (·.block)).toList := by
    have := Owns.append (Owns.str w5 w3.drew.heap.size c) (Owns.int2 (b := decide (p < 0)) own5)
    exact this
  obtain ⟨f5, hf5⟩ : ∃ f5, f5 = (p5.map (·.block)).toList := ⟨_, rfl⟩
  have nd5 : f5.Nodup := by rw [hf5]; exact nodup_opt p5
  rw [← hf5] at o5
  refine ⟨_, _, _, _, rfl, y5, _, _, _, _, _, fun W hW => ((hb3.ext D).ext hW).loadA0 (by kernel_rfl), ?_⟩
  have o1' := (o1.ext ((y3.trans D).trans y5))
  have oi' := oi.ext (Y.trans y5)
  have all : Owns w5 B _ (rowOf c i p (d - p)) (fi ++ (f5 ++ f1)) := Owns.append oi' (Owns.append (o5.mono (by omega)) (o1'.mono (by omega)))
  have l5 := y5.le
  obtain ⟨W', st', ld', ow', xx', _, _⟩ := agg_end (t := T_impl_Row) ((h3.ext Y).ext y5) ((X.trans Y).trans y5) hr3 all (by kernel_rfl) rfl hrB (by omega)
  refine ⟨W', st', _, _, _, _, _, _, _, _, _, _, _, _, _, _, _, ld', _, _, rfl, ow', ?_, xx'⟩
  refine nodup_append ndi ?_ (m := W.heap.size) (fun k hk => (oi.lt k hk).2) (fun k hk => ?_)
  · have hh := nodup_append nd1 nd5 (m := w1.heap.size) (fun k hk => (o1.lt k hk).2) (fun k hk => by have := (o5.lt k hk).1; have := y3.le; have := D.le; omega)
    exact (List.perm_append_comm.nodup_iff).1 hh
  · rcases List.mem_append.1 hk with hk | hk
    · have := (o5.lt k hk).1; omega
    · have := (o1.lt k hk).1; omega
theorem impl_NextRow_o {w : World} {xs ys zs : List Value} {dx dr dp : List D0} (h : Reps w xs dx) (hc : dx.map D0.code = [.str, .bool, .ints]) (g : Reps w ys dr) (gc : dr.map D0.code = [.bool, .ints, .int]) (k : Reps w zs dp) (kc : dp.map D0.code = [.str, .bool, .ints]) (mode : Int) (ht : Tab w) :
    Ret P n_impl_NextRow [.agg ⟨xs⟩, .agg ⟨ys⟩, .agg ⟨zs⟩, .int .i64 mode] w fun v w' => ∃ vs f, v = .tuple #[.agg ⟨vs⟩, .bool (nextT dx dr dp mode).1] ∧ Owns w' w.heap.size vs (nextT dx dr dp mode).2 f ∧ f.Nodup ∧ Ext w w' := by
  have hr := h; have gr := g; have kr := k
  obtain ⟨c, b, ap, an, ac, z, rfl, rfl, ha⟩ := open_Money h hc
  obtain ⟨d0, dp', dn, dc, dz, ds, rfl, rfl, hd⟩ := open_Dec g gc
  obtain ⟨c2, b2, bp, bn, bc, z2, rfl, rfl, hb⟩ := open_Money k kc
  refine impl_NextRow_ret ?_
  unfold impl_NextRow
  intro r w1 hn1 r1 w2 hn2 r2 w3 hn3 r3 w4 hn4
  have e1 := hn1.r_eq; have e2 := hn2.r_eq; have e3 := hn3.r_eq; have e4 := hn4.r_eq; have s1 := hn1.size; have s2 := hn2.size; have s3 := hn3.size; have s4 := hn4.size
  have X := ((hn1.ext.trans hn2.ext).trans hn3.ext).trans hn4.ext
  have q0 := ((hn1.blk.ext hn2.ext).ext hn3.ext).ext hn4.ext; have q1 := (hn2.blk.ext hn3.ext).ext hn4.ext; have q2 := hn3.blk.ext hn4.ext; have q3 := hn4.blk
  generalize hdr : [D0.bool d0, D0.ints dz, D0.int ds] = dr at gr gc ⊢
  have zero : ∀ W, Ext w W → Blk W r3 T_impl_Row [.string ByteArray.empty, .bool false, .slice none 0 0, .string ByteArray.empty, .bool false, .slice none 0 0, .string ByteArray.empty, .bool false, .slice none 0 0] → nextT [.str c, .bool b, .ints z] dr [.str c2, .bool b2, .ints z2] mode = (false, row0) → ∃ W', Stores P T_impl_Row ⟨r3, 0, none⟩ (.agg ⟨[.string ByteArray.empty, .bool false, .slice none 0 0, .string ByteArray.empty, .bool false, .slice none 0 0, .string ByteArray.empty, .bool false, .slice none 0 0]⟩) W W' ∧ ∃ (zsx : ByteArray) (zbx : Bool) (zpx : Option Addr) (znx : Nat) (zcx : Nat) (zsy : ByteArray) (zby : Bool) (zpy : Option Addr) (zny : Nat) (zcy : Nat) (zsz : ByteArray) (zbz : Bool) (zpz : Option Addr) (znz : Nat) (zcz : Nat), Loads P T_impl_Row ⟨r3, 0, none⟩ (.agg #[.string zsx, .bool zbx, .slice zpx znx zcx, .string zsy, .bool zby, .slice zpy zny zcy, .string zsz, .bool zbz, .slice zpz znz zcz]) W' ∧ (fun (v : Value) (w' : World) => ∃ vs f, v = .tuple #[.agg ⟨vs⟩, .bool (nextT [.str c, .bool b, .ints z] dr [.str c2, .bool b2, .ints z2] mode).1] ∧ Owns w' w.heap.size vs (nextT [.str c, .bool b, .ints z] dr [.str c2, .bool b2, .ints z2] mode).2 f ∧ f.Nodup ∧ Ext w w') (.tuple #[.agg #[.string zsx, .bool zbx, .slice zpx znx zcx, .string zsy, .bool zby, .slice zpy zny zcy, .string zsz, .bool zbz, .slice zpz znz zcz], .bool false]) W' := by
    intro W hW hq hres
    have lW := hW.le
    obtain ⟨W', st', ld', ow', xx', _, _⟩ := agg_end (t := T_impl_Row) hq hW (by omega) (own_row0 W (r3 + 1)) (by kernel_rfl) rfl (by omega) (by omega)
    rw [hres]
    exact ⟨W', st', _, _, _, _, _, _, _, _, _, _, _, _, _, _, _, ld', _, [], rfl, ow', List.nodup_nil, xx'⟩
  refine ⟨_, _, _, _, _, q0.loadA0 (by kernel_rfl), _, _, _, _, _, q2.loadA0 (by kernel_rfl), ?_⟩
  refine Ret.at (impl_alike_c (hr.ext X) (kr.ext X) (ht.ext X)) ?_
  rintro v w5 ⟨hv, y5⟩
  subst hv
  have l5 := y5.le
  have X5 := X.trans y5
  have q0 := q0.ext y5; have q1 := q1.ext y5; have q2 := q2.ext y5; have q3 := q3.ext y5
  have bad : nextT [.str c, .bool b, .ints z] dr [.str c2, .bool b2, .ints z2] mode ≠ (false, row0) → alk [.str c, .bool b, .ints z] [.str c2, .bool b2, .ints z2] = true ∧ b = false ∧ b2 = false := by
    intro hne
    rcases hq : (alk [.str c, .bool b, .ints z] [.str c2, .bool b2, .ints z2] && (!b && !b2)) with _ | _
    · exact absurd (by simp only [nextT, hq, Bool.false_and, Bool.false_eq_true, if_false]) hne
    · simpa using hq
  refine ⟨_, rfl, ifN (fun hno => ifT (ifT (zero _ X5 q3 (Classical.byContradiction fun hne => by have := (bad hne).1; rw [hno] at this; cases this)))) (fun hal => ⟨_, q0.loadAt 1 rfl (by kernel_rfl) rfl, fun hb1 => ifT (zero _ X5 q3 (Classical.byContradiction fun hne => by have := (bad hne).2.1; rw [hb1] at this; cases this)), fun hb1 => ⟨_, q2.loadAt 1 rfl (by kernel_rfl) rfl, fun hb2 => zero _ X5 q3 (Classical.byContradiction fun hne => by have := (bad hne).2.2; rw [hb2] at this; cases this), fun hb2 => ?_⟩⟩)⟩
  obtain ⟨m1, m2, rfl⟩ := alk_parts hal
  subst hb1; subst hb2
  obtain ⟨En, _⟩ := intOk_enc (moneyOk_int m1); obtain ⟨Ep, _⟩ := intOk_enc (moneyOk_int m2)
  have hcomp : nextT [.str c, .bool false, .ints z] dr [.str c, .bool false, .ints z2] mode = if (taxOnT [.str c, .bool false, .ints z] dr mode).1 && moneyOk (.str c :: enc (ival [.bool false, .ints z] + moneyVal (taxOnT [.str c, .bool false, .ints z] dr mode).2.1)) then
      (true, rowOf c (moneyVal (taxOnT [.str c, .bool false, .ints z] dr mode).2.1) (lesser (ival [.bool false, .ints z] + moneyVal (taxOnT [.str c, .bool false, .ints z] dr mode).2.1) (ival [.bool false, .ints z2])) (ival [.bool false, .ints z] + moneyVal (taxOnT [.str c, .bool false, .ints z] dr mode).2.1 - lesser (ival [.bool false, .ints z] + moneyVal (taxOnT [.str c, .bool false, .ints z] dr mode).2.1) (ival [.bool false, .ints z2])))
    else (false, row0) := by
    simp only [nextT, hal, Bool.not_false, Bool.true_and, Bool.and_self]
  have En0 : 0 ≤ ival [.bool false, .ints z] := by
    obtain ⟨_, b', z', he, hcan, _⟩ := intOk_enc (moneyOk_int m1)
    simp only [List.cons.injEq, D0.bool.injEq, D0.ints.injEq, and_true] at he
    obtain ⟨rfl, rfl⟩ := he
    exact val_nonneg hcan.1
  have Ep0 : 0 ≤ ival [.bool false, .ints z2] := by
    obtain ⟨_, b', z', he, hcan, _⟩ := intOk_enc (moneyOk_int m2)
    simp only [List.cons.injEq, D0.bool.injEq, D0.ints.injEq, and_true] at he
    obtain ⟨rfl, rfl⟩ := he
    exact val_nonneg hcan.1
  have Mn : moneyOk (.str c :: enc (ival [.bool false, .ints z])) = true := by rw [← En]; exact m1
  have Mp : moneyOk (.str c :: enc (ival [.bool false, .ints z2])) = true := by rw [← Ep]; exact m2
  have hl : Reps w5 [.string c, .bool false, .slice ap an ac] (.str c :: enc (ival [.bool false, .ints z])) := by rw [← En]; exact hr.ext X5
  have hp : Reps w5 [.string c, .bool false, .slice bp bn bc] (.str c :: enc (ival [.bool false, .ints z2])) := by rw [← Ep]; exact kr.ext X5
  unfold impl_NextRow_j0
  refine ⟨_, _, _, _, _, q0.loadA0 (by kernel_rfl), _, _, _, _, _, q1.loadA0 (by kernel_rfl), ?_⟩
  refine Ret.at (impl_TaxOn_o (hr.ext X5) (gr.ext X5) rfl gc mode (ht.ext X5)) ?_
  have hno := @taxOnT_no [.str c, .bool false, .ints z] dr mode
  have hyes := @taxOnT_yes c false z dr mode
  have hfacts := taxOnT_facts [.str c, .bool false, .ints z] dr mode
  generalize taxOnT [.str c, .bool false, .ints z] dr mode = T at hno hyes hfacts hcomp
  rintro v w6 ⟨vs0, f0, vs1, f1, hv, o0, nd0, o1, _, _, y6⟩
  subst hv
  have l6 := y6.le
  obtain ⟨i0, i1, ip, in_, ic, iz, rfl, hT, _⟩ := open_Money o0.reps hfacts.1
  obtain ⟨u0, up, un, uc, uz, up2, un2, uc2, uz2, rfl, _, _, _⟩ := open_Rat o1.reps hfacts.2.2.1
  refine ⟨_, _, _, _, _, _, _, _, _, _, _, _, _, rfl, ?_⟩
  intro r4 w7 hn7 r5 w8 hn8
  have e7 := hn7.r_eq; have e8 := hn8.r_eq; have s7 := hn7.size; have s8 := hn8.size
  obtain ⟨w9, st9, b4, ch9, z9⟩ := (hn7.blk.ext hn8.ext).storeA0 (P := P) (t := T_impl_Money) (xs := [.string i0, .bool i1, .slice ip in_ ic]) (by kernel_rfl) rfl o0.reps.cells1
  obtain ⟨w10, st10, b5, ch10, z10⟩ := (hn8.blk.chg ch9 (by simp; omega)).storeA0 (P := P) (t := T_impl_Rat) (xs := [.bool u0, .slice up un uc, .slice up2 un2 uc2]) (by kernel_rfl) rfl o1.reps.cells1
  have Y10 : Ext w6 w10 := ((hn7.ext.trans hn8.ext).chg ch9 (by simp; omega)).chg ch10 (by simp; omega)
  have Y := y6.trans Y10
  have b4 := b4.chg ch10 (by simp; omega)
  have X10 := X5.trans Y
  have q0 := q0.ext Y; have q2 := q2.ext Y; have q3 := q3.ext Y
  have oi := o0.ext Y10
  have lY := Y.le
  refine ⟨w9, st9, w10, st10, ?_⟩
  refine ifN (fun hno1 => zero _ X10 q3 (by rw [hcomp]; simp only [hno1, Bool.false_and, Bool.and_false, Bool.false_eq_true, if_false])) (fun hyes1 => ?_)
  obtain ⟨EI, MI, hi0⟩ := hyes hyes1 rfl
  rw [EI] at oi
  generalize moneyVal T.2.1 = i at EI MI hi0 hcomp oi
  refine ⟨_, _, _, _, _, q0.loadA0 (by kernel_rfl), _, _, _, _, _, b4.loadA0 (by kernel_rfl), ?_⟩
  refine Ret.at (impl_MoneyAdd_e (hl.ext Y) oi.reps Mn MI (ht.ext X10)) ?_
  generalize ival [.bool false, .ints z] = N at hcomp Mn hl En0
  generalize ival [.bool false, .ints z2] = Q at hcomp Mp hp Ep0
  rintro v w11 ⟨vs2, f2, hv, o2, nd2, y11⟩
  subst hv
  have l11 := y11.le
  obtain ⟨m0, m1', mp, mn, mc, mz, rfl, _, _⟩ := open_Money o2.reps (moneyMk_code _ _)
  refine ⟨_, _, _, _, _, _, rfl, ?_⟩
  intro r6 w12 hn12
  have e12 := hn12.r_eq; have s12 := hn12.size
  obtain ⟨w13, st13, b6, y13⟩ := hn12.fill (P := P) (t := T_impl_Money) o2.reps.cells1 (by kernel_rfl) rfl
  have l13 := y13.le; have lb6 := b6.lt
  have Y13 := y11.trans y13
  have lY13 := Y13.le
  have X13 := X10.trans Y13
  have q2 := q2.ext Y13; have q3 := q3.ext Y13; have b4 := b4.ext Y13
  have oi := oi.ext Y13
  refine ⟨w13, st13, ifN (fun hno2 => zero _ X13 q3 (by rw [hcomp]; simp only [hno2, Bool.false_and, Bool.and_false, Bool.false_eq_true, if_false])) (fun hyes2 => ?_)⟩
  have hmk : moneyMk c (N + i) = .str c :: enc (N + i) := by rw [moneyMk, if_pos hyes2]
  rw [hmk] at o2
  have od := o2.ext y13
  have hp := hp.ext (Y.trans Y13)
  have hcomp : nextT [.str c, .bool false, .ints z] dr [.str c, .bool false, .ints z2] mode = (true, rowOf c i (lesser (N + i) Q) (N + i - lesser (N + i) Q)) := by
    rw [hcomp, hyes1, hyes2]; rfl
  rw [hcomp]
  have LD := money_lim hyes2; have LP := money_lim Mp
  have DD := money_len hyes2; have DP := money_len Mp
  refine ⟨_, _, _, _, b6.loadAAt 1 [.bool m1', .slice mp mn mc] rfl (by kernel_rfl) rfl, _, _, _, _, q2.loadAAt 1 [.bool false, .slice bp bn bc] rfl (by kernel_rfl) rfl, ?_⟩
  refine Ret.at (impl_intCmp_c od.reps.2 hp.2 (by omega) (by omega)) ?_
  rintro v w14 ⟨hv, y14⟩
  subst hv
  have l14 := y14.le
  have X14 := X13.trans y14
  have q2 := q2.ext y14; have q3 := q3.ext y14; have b4 := b4.ext y14; have b6 := b6.ext y14
  have oi := oi.ext y14; have od := od.ext y14; have hp := hp.ext y14
  refine ⟨_, rfl, ifD (fun hlt => ?_) (fun hge => ?_)⟩
  · have hlt' : N + i < Q := by have := sgn_neg.1 hlt; omega
    rw [lesser_lt hlt']
    obtain ⟨w15, st15, b2', ch15, z15⟩ := q2.storeA0 (P := P) (t := T_impl_Money) (xs := [.string m0, .bool m1', .slice mp mn mc]) (by kernel_rfl) rfl od.reps.cells1
    refine ⟨_, _, _, _, _, b6.loadA0 (by kernel_rfl), w15, st15, ?_⟩
    have X15 := X14.chg ch15 (by simp; omega)
    have od' := od.chg1 ch15 (by omega)
    exact impl_NextRow_j1_n X15 b2' (q3.chg ch15 (by simp; omega)) (b4.chg ch15 (by simp; omega)) (b6.chg ch15 (by simp; omega)) (oi.chg1 ch15 (by omega)) nd0 od'.reps od'.reps hyes2 hyes2 (money_less hyes2 (by omega)) (by omega) (by omega) (by omega) (by omega) (ht.ext X15)
  · have hge' : ¬ N + i < Q := by have := mt sgn_neg.2 hge; omega
    rw [lesser_ge hge']
    exact impl_NextRow_j1_n X14 q2 q3 b4 b6 oi nd0 od.reps hp hyes2 Mp (money_less hyes2 (by omega)) (by omega) (by omega) (by omega) (by omega) (ht.ext X14)
theorem spec_NextRow_o {w : World} {xs ys zs : List Value} {dx dr dp : List D0} (h : Reps w xs dx) (hc : dx.map D0.code = [.str, .bool, .ints]) (g : Reps w ys dr) (gc : dr.map D0.code = [.bool, .ints, .int]) (k : Reps w zs dp) (kc : dp.map D0.code = [.str, .bool, .ints]) (mode : Int) :
    Ret P n_spec_NextRow [.agg ⟨xs⟩, .agg ⟨ys⟩, .agg ⟨zs⟩, .int .i64 mode] w fun v w' => ∃ vs f, v = .tuple #[.agg ⟨vs⟩, .bool (nextT dx dr dp mode).1] ∧ Owns w' w.heap.size vs (nextT dx dr dp mode).2 f ∧ f.Nodup ∧ Ext w w' := by
  have hr := h; have gr := g; have kr := k
  obtain ⟨c, b, ap, an, ac, z, rfl, rfl, ha⟩ := open_Money h hc
  obtain ⟨d0, dp', dn, dc, dz, ds, rfl, rfl, hd⟩ := open_Dec g gc
  obtain ⟨c2, b2, bp, bn, bc, z2, rfl, rfl, hb⟩ := open_Money k kc
  refine spec_NextRow_ret ?_
  unfold spec_NextRow
  intro r w1 hn1 r1 w2 hn2 r2 w3 hn3 r3 w4 hn4
  have e1 := hn1.r_eq; have e2 := hn2.r_eq; have e3 := hn3.r_eq; have e4 := hn4.r_eq; have s1 := hn1.size; have s2 := hn2.size; have s3 := hn3.size; have s4 := hn4.size
  have X := ((hn1.ext.trans hn2.ext).trans hn3.ext).trans hn4.ext
  have q0 := ((hn1.blk.ext hn2.ext).ext hn3.ext).ext hn4.ext; have q1 := (hn2.blk.ext hn3.ext).ext hn4.ext; have q2 := hn3.blk.ext hn4.ext; have q3 := hn4.blk
  generalize hdr : [D0.bool d0, D0.ints dz, D0.int ds] = dr at gr gc ⊢
  have zero : ∀ W, Ext w W → Blk W r3 T_impl_Row [.string ByteArray.empty, .bool false, .slice none 0 0, .string ByteArray.empty, .bool false, .slice none 0 0, .string ByteArray.empty, .bool false, .slice none 0 0] → nextT [.str c, .bool b, .ints z] dr [.str c2, .bool b2, .ints z2] mode = (false, row0) → ∃ W', Stores P T_impl_Row ⟨r3, 0, none⟩ (.agg ⟨[.string ByteArray.empty, .bool false, .slice none 0 0, .string ByteArray.empty, .bool false, .slice none 0 0, .string ByteArray.empty, .bool false, .slice none 0 0]⟩) W W' ∧ ∃ (zsx : ByteArray) (zbx : Bool) (zpx : Option Addr) (znx : Nat) (zcx : Nat) (zsy : ByteArray) (zby : Bool) (zpy : Option Addr) (zny : Nat) (zcy : Nat) (zsz : ByteArray) (zbz : Bool) (zpz : Option Addr) (znz : Nat) (zcz : Nat), Loads P T_impl_Row ⟨r3, 0, none⟩ (.agg #[.string zsx, .bool zbx, .slice zpx znx zcx, .string zsy, .bool zby, .slice zpy zny zcy, .string zsz, .bool zbz, .slice zpz znz zcz]) W' ∧ (fun (v : Value) (w' : World) => ∃ vs f, v = .tuple #[.agg ⟨vs⟩, .bool (nextT [.str c, .bool b, .ints z] dr [.str c2, .bool b2, .ints z2] mode).1] ∧ Owns w' w.heap.size vs (nextT [.str c, .bool b, .ints z] dr [.str c2, .bool b2, .ints z2] mode).2 f ∧ f.Nodup ∧ Ext w w') (.tuple #[.agg #[.string zsx, .bool zbx, .slice zpx znx zcx, .string zsy, .bool zby, .slice zpy zny zcy, .string zsz, .bool zbz, .slice zpz znz zcz], .bool false]) W' := by
    intro W hW hq hres
    have lW := hW.le
    obtain ⟨W', st', ld', ow', xx', _, _⟩ := agg_end (t := T_impl_Row) hq hW (by omega) (own_row0 W (r3 + 1)) (by kernel_rfl) rfl (by omega) (by omega)
    rw [hres]
    exact ⟨W', st', _, _, _, _, _, _, _, _, _, _, _, _, _, _, _, ld', _, [], rfl, ow', List.nodup_nil, xx'⟩
  refine ⟨_, _, _, _, _, q0.loadA0 (by kernel_rfl), _, _, _, _, _, q2.loadA0 (by kernel_rfl), ?_⟩
  refine Ret.at (spec_l09Both_c (hr.ext X) (kr.ext X)) ?_
  rintro v w5 ⟨hv, y5⟩
  subst hv
  have l5 := y5.le
  have X5 := X.trans y5
  have q0 := q0.ext y5; have q1 := q1.ext y5; have q2 := q2.ext y5; have q3 := q3.ext y5
  have bad : nextT [.str c, .bool b, .ints z] dr [.str c2, .bool b2, .ints z2] mode ≠ (false, row0) → alk [.str c, .bool b, .ints z] [.str c2, .bool b2, .ints z2] = true ∧ b = false ∧ b2 = false := by
    intro hne
    rcases hq : (alk [.str c, .bool b, .ints z] [.str c2, .bool b2, .ints z2] && (!b && !b2)) with _ | _
    · exact absurd (by simp only [nextT, hq, Bool.false_and, Bool.false_eq_true, if_false]) hne
    · simpa using hq
  refine ⟨_, rfl, ifN (fun hno => ifT (ifT (zero _ X5 q3 (Classical.byContradiction fun hne => by have := (bad hne).1; rw [hno] at this; cases this)))) (fun hal => ⟨_, q0.loadAt 1 rfl (by kernel_rfl) rfl, fun hb1 => ifT (zero _ X5 q3 (Classical.byContradiction fun hne => by have := (bad hne).2.1; rw [hb1] at this; cases this)), fun hb1 => ⟨_, q2.loadAt 1 rfl (by kernel_rfl) rfl, fun hb2 => zero _ X5 q3 (Classical.byContradiction fun hne => by have := (bad hne).2.2; rw [hb2] at this; cases this), fun hb2 => ?_⟩⟩)⟩
  obtain ⟨m1, m2, rfl⟩ := alk_parts hal
  subst hb1; subst hb2
  obtain ⟨En, _⟩ := intOk_enc (moneyOk_int m1); obtain ⟨Ep, _⟩ := intOk_enc (moneyOk_int m2)
  have hcomp : nextT [.str c, .bool false, .ints z] dr [.str c, .bool false, .ints z2] mode = if (taxOnT [.str c, .bool false, .ints z] dr mode).1 && moneyOk (.str c :: enc (ival [.bool false, .ints z] + moneyVal (taxOnT [.str c, .bool false, .ints z] dr mode).2.1)) then
      (true, rowOf c (moneyVal (taxOnT [.str c, .bool false, .ints z] dr mode).2.1) (lesser (ival [.bool false, .ints z] + moneyVal (taxOnT [.str c, .bool false, .ints z] dr mode).2.1) (ival [.bool false, .ints z2])) (ival [.bool false, .ints z] + moneyVal (taxOnT [.str c, .bool false, .ints z] dr mode).2.1 - lesser (ival [.bool false, .ints z] + moneyVal (taxOnT [.str c, .bool false, .ints z] dr mode).2.1) (ival [.bool false, .ints z2])))
    else (false, row0) := by
    simp only [nextT, hal, Bool.not_false, Bool.true_and, Bool.and_self]
  have En0 : 0 ≤ ival [.bool false, .ints z] := by
    obtain ⟨_, b', z', he, hcan, _⟩ := intOk_enc (moneyOk_int m1)
    simp only [List.cons.injEq, D0.bool.injEq, D0.ints.injEq, and_true] at he
    obtain ⟨rfl, rfl⟩ := he
    exact val_nonneg hcan.1
  have Ep0 : 0 ≤ ival [.bool false, .ints z2] := by
    obtain ⟨_, b', z', he, hcan, _⟩ := intOk_enc (moneyOk_int m2)
    simp only [List.cons.injEq, D0.bool.injEq, D0.ints.injEq, and_true] at he
    obtain ⟨rfl, rfl⟩ := he
    exact val_nonneg hcan.1
  have Mn : moneyOk (.str c :: enc (ival [.bool false, .ints z])) = true := by rw [← En]; exact m1
  have Mp : moneyOk (.str c :: enc (ival [.bool false, .ints z2])) = true := by rw [← Ep]; exact m2
  have hl : Reps w5 [.string c, .bool false, .slice ap an ac] (.str c :: enc (ival [.bool false, .ints z])) := by rw [← En]; exact hr.ext X5
  have hp : Reps w5 [.string c, .bool false, .slice bp bn bc] (.str c :: enc (ival [.bool false, .ints z2])) := by rw [← Ep]; exact kr.ext X5
  unfold spec_NextRow_j0
  refine ⟨_, _, _, _, _, q0.loadA0 (by kernel_rfl), _, _, _, _, _, q1.loadA0 (by kernel_rfl), ?_⟩
  refine Ret.at (spec_TaxOn_o (hr.ext X5) (gr.ext X5) rfl gc mode) ?_
  have hno := @taxOnT_no [.str c, .bool false, .ints z] dr mode
  have hyes := @taxOnT_yes c false z dr mode
  have hfacts := taxOnT_facts [.str c, .bool false, .ints z] dr mode
  generalize taxOnT [.str c, .bool false, .ints z] dr mode = T at hno hyes hfacts hcomp
  rintro v w6 ⟨vs0, f0, vs1, f1, hv, o0, nd0, o1, _, _, y6⟩
  subst hv
  have l6 := y6.le
  obtain ⟨i0, i1, ip, in_, ic, iz, rfl, hT, _⟩ := open_Money o0.reps hfacts.1
  obtain ⟨u0, up, un, uc, uz, up2, un2, uc2, uz2, rfl, _, _, _⟩ := open_Rat o1.reps hfacts.2.2.1
  refine ⟨_, _, _, _, _, _, _, _, _, _, _, _, _, rfl, ?_⟩
  intro r4 w7 hn7 r5 w8 hn8
  have e7 := hn7.r_eq; have e8 := hn8.r_eq; have s7 := hn7.size; have s8 := hn8.size
  obtain ⟨w9, st9, b4, ch9, z9⟩ := (hn7.blk.ext hn8.ext).storeA0 (P := P) (t := T_impl_Money) (xs := [.string i0, .bool i1, .slice ip in_ ic]) (by kernel_rfl) rfl o0.reps.cells1
  obtain ⟨w10, st10, b5, ch10, z10⟩ := (hn8.blk.chg ch9 (by simp; omega)).storeA0 (P := P) (t := T_impl_Rat) (xs := [.bool u0, .slice up un uc, .slice up2 un2 uc2]) (by kernel_rfl) rfl o1.reps.cells1
  have Y10 : Ext w6 w10 := ((hn7.ext.trans hn8.ext).chg ch9 (by simp; omega)).chg ch10 (by simp; omega)
  have Y := y6.trans Y10
  have b4 := b4.chg ch10 (by simp; omega)
  have X10 := X5.trans Y
  have q0 := q0.ext Y; have q2 := q2.ext Y; have q3 := q3.ext Y
  have oi := o0.ext Y10
  have lY := Y.le
  refine ⟨w9, st9, w10, st10, ?_⟩
  rcases hT1 : T.1 with _ | _
  · refine ⟨_, _, _, _, _, q0.loadA0 (by kernel_rfl), _, _, _, _, _, b4.loadA0 (by kernel_rfl), ?_⟩
    rw [hT] at oi
    refine Ret.at (spec_MoneyAdd_n (hr.ext X10) oi.reps) ?_
    rintro v w11 ⟨vs2, f2, hv, o2, nd2, y11⟩
    subst hv
    obtain ⟨m0, m1', mp, mn, mc, mz, rfl, _, _⟩ := open_Money o2.reps (mres_code _ _ _)
    refine ⟨_, _, _, _, _, _, rfl, ?_⟩
    intro r6 w12 hn12
    obtain ⟨w13, st13, b6, y13⟩ := hn12.fill (P := P) (t := T_impl_Money) o2.reps.cells1 (by kernel_rfl) rfl
    have Y13 := y11.trans y13
    refine ⟨w13, st13, ifN (fun _ => ifT (zero _ (X10.trans Y13) (q3.ext Y13) (by rw [hcomp]; simp only [hT1, Bool.false_and, Bool.and_false, Bool.false_eq_true, if_false]))) (fun hh => absurd hh (by simp))⟩
  have hyes1 := hT1
  obtain ⟨EI, MI, hi0⟩ := hyes hyes1 rfl
  rw [EI] at oi
  generalize moneyVal T.2.1 = i at EI MI hi0 hcomp oi
  refine ⟨_, _, _, _, _, q0.loadA0 (by kernel_rfl), _, _, _, _, _, b4.loadA0 (by kernel_rfl), ?_⟩
  refine Ret.at (spec_MoneyAdd_e (hl.ext Y) oi.reps Mn MI) ?_
  generalize ival [.bool false, .ints z] = N at hcomp Mn hl En0
  generalize ival [.bool false, .ints z2] = Q at hcomp Mp hp Ep0
  rintro v w11 ⟨vs2, f2, hv, o2, nd2, y11⟩
  subst hv
  have l11 := y11.le
  obtain ⟨m0, m1', mp, mn, mc, mz, rfl, _, _⟩ := open_Money o2.reps (moneyMk_code _ _)
  refine ⟨_, _, _, _, _, _, rfl, ?_⟩
  intro r6 w12 hn12
  have e12 := hn12.r_eq; have s12 := hn12.size
  obtain ⟨w13, st13, b6, y13⟩ := hn12.fill (P := P) (t := T_impl_Money) o2.reps.cells1 (by kernel_rfl) rfl
  have l13 := y13.le; have lb6 := b6.lt
  have Y13 := y11.trans y13
  have lY13 := Y13.le
  have X13 := X10.trans Y13
  have q2 := q2.ext Y13; have q3 := q3.ext Y13; have b4 := b4.ext Y13
  have oi := oi.ext Y13
  refine ⟨w13, st13, ifN (fun hh => absurd hh (by simp)) (fun _ => ifN (fun hno2 => zero _ X13 q3 (by rw [hcomp]; simp only [hno2, Bool.false_and, Bool.and_false, Bool.false_eq_true, if_false])) (fun hyes2 => ?_))⟩
  have hmk : moneyMk c (N + i) = .str c :: enc (N + i) := by rw [moneyMk, if_pos hyes2]
  rw [hmk] at o2
  have od := o2.ext y13
  have hp := hp.ext (Y.trans Y13)
  have hcomp : nextT [.str c, .bool false, .ints z] dr [.str c, .bool false, .ints z2] mode = (true, rowOf c i (lesser (N + i) Q) (N + i - lesser (N + i) Q)) := by
    rw [hcomp, hyes1, hyes2]; rfl
  rw [hcomp]
  have LD := money_lim hyes2; have LP := money_lim Mp
  have DD := money_len hyes2; have DP := money_len Mp
  unfold spec_NextRow_j1
  refine ⟨_, _, _, _, _, q2.loadA0 (by kernel_rfl), ?_⟩
  intro r7 w17 hn17
  have e17 := hn17.r_eq; have s17 := hn17.size
  obtain ⟨w18, st18, b7, y18⟩ := hn17.fill (P := P) (t := T_impl_Money) hp.cells1 (by kernel_rfl) rfl
  have l18 := y18.le
  refine ⟨w18, st18, _, _, _, _, (b6.ext y18).loadAAt 1 [.bool m1', .slice mp mn mc] rfl (by kernel_rfl) rfl, _, _, _, _, (q2.ext y18).loadAAt 1 [.bool false, .slice bp bn bc] rfl (by kernel_rfl) rfl, ?_⟩
  refine Ret.at (spec_IntCmp_c (od.ext y18).reps.2 (hp.ext y18).2 (enc_code _) (enc_code _)) ?_
  rw [icmp_enc (enc_small (show (N + i).natAbs < _ by omega)) (enc_small (show Q.natAbs < _ by omega))]
  rintro v w14 ⟨hv, y14⟩
  subst hv
  have l14 := y14.le
  have y14 := y18.trans y14
  have l14' := y14.le
  have X14 := X13.trans y14
  have b7 := b7.ext (show Ext w18 w14 by assumption); have q3 := q3.ext y14; have b4 := b4.ext y14; have b6 := b6.ext y14
  have oi := oi.ext y14; have od := od.ext y14; have hp := hp.ext y14
  refine ⟨_, rfl, ifD (fun hlt => ?_) (fun hge => ?_)⟩
  · have hlt' : N + i < Q := by have := sgn_neg.1 hlt; omega
    rw [lesser_lt hlt']
    obtain ⟨w15, st15, b2', ch15, z15⟩ := b7.storeA0 (P := P) (t := T_impl_Money) (xs := [.string m0, .bool m1', .slice mp mn mc]) (by kernel_rfl) rfl od.reps.cells1
    refine ⟨_, _, _, _, _, b6.loadA0 (by kernel_rfl), w15, st15, ?_⟩
    have X15 := X14.chg ch15 (by simp; omega)
    have od' := od.chg ch15 (fun k hk hm => by have h1 := (o2.lt k hk).2; simp at hm; omega)
    have oi' := oi.chg ch15 (fun k hk hm => by have h1 := (o0.lt k hk).2; simp at hm; omega)
    exact spec_NextRow_j2_n X15 b2' (q3.chg ch15 (by simp; omega)) (b4.chg ch15 (by simp; omega)) (b6.chg ch15 (by simp; omega)) oi' nd0 od'.reps od'.reps hyes2 hyes2 (money_less hyes2 (by omega)) (by omega) (by omega) (by omega) (by omega)
  · have hge' : ¬ N + i < Q := by have := mt sgn_neg.2 hge; omega
    rw [lesser_ge hge']
    exact spec_NextRow_j2_n X14 b7 q3 b4 b6 oi nd0 od.reps hp hyes2 Mp (money_less hyes2 (by omega)) (by omega) (by omega) (by omega) (by omega)
theorem rowOf_code (c : ByteArray) (i p l : Int) : (rowOf c i p l).map D0.code = [.str, .bool, .ints, .str, .bool, .ints, .str, .bool, .ints] := rfl
theorem nextT_code (dx dr dp : List D0) (m : Int) : (nextT dx dr dp m).2.map D0.code = [.str, .bool, .ints, .str, .bool, .ints, .str, .bool, .ints] := by
  unfold nextT
  split
  · split
    · exact rowOf_code _ _ _ _
    · rfl
  · rfl
theorem nextT_cnt (dx dr dp : List D0) (m : Int) : tcnts (nextT dx dr dp m).2 ≤ 1000000000 := by
  unfold nextT
  split
  · split
    · rename_i c b z c2 b2 z2 h
      simp only [Bool.and_eq_true, Bool.not_eq_true'] at h
      obtain ⟨⟨hal, hb, hb2⟩, ht, hm⟩ := h
      have h1 := (taxOnT_yes ht hb).2.1
      obtain ⟨m1, m2, _⟩ := alk_parts hal
      have h1 := money_len h1; have h3 := money_len hm
      have g2 : (digs (ival [.bool b2, .ints z2]).natAbs).length ≤ 4 := by
        have := (intOk_enc (moneyOk_int m2)).1
        have hh := m2
        rw [this] at hh
        exact money_len hh
      have LD := money_lim hm
      have LQ := money_bound m2
      subst hb2
      generalize ival [.bool b, .ints z] + moneyVal (taxOnT [.str c, .bool b, .ints z] dr m).2.1 = N at *
      generalize ival [.bool false, .ints z2] = Q at *
      have hs : (digs (lesser N Q).natAbs).length ≤ 6 ∧ (digs (N - lesser N Q).natAbs).length ≤ 6 := by
        unfold lesser
        split <;> exact ⟨digs_len_le (by omega), digs_len_le (by omega)⟩
      show tcnts (rowOf _ _ _ _) ≤ _
      simp only [rowOf, enc, tcnts, List.cons_append, List.nil_append]
      omega
    · decide
  · decide
theorem impl_NextRow_c {w : World} {xs ys zs : List Value} {dx dr dp : List D0} (h : Reps w xs dx) (hc : dx.map D0.code = [.str, .bool, .ints]) (g : Reps w ys dr) (gc : dr.map D0.code = [.bool, .ints, .int]) (k : Reps w zs dp) (kc : dp.map D0.code = [.str, .bool, .ints]) (mode : Int) (ht : Tab w) :
    Ret P n_impl_NextRow [.agg ⟨xs⟩, .agg ⟨ys⟩, .agg ⟨zs⟩, .int .i64 mode] w fun v w' => ∃ vs f, v = .tuple #[.agg ⟨vs⟩, .bool (nextT dx dr dp mode).1] ∧ Owns w' w.heap.size vs (nextT dx dr dp mode).2 f ∧ f.Nodup ∧ (nextT dx dr dp mode).2.map D0.code = [.str, .bool, .ints, .str, .bool, .ints, .str, .bool, .ints] ∧ tcnts (nextT dx dr dp mode).2 ≤ 1000000000 ∧ Ext w w' :=
  (impl_NextRow_o h hc g gc k kc mode ht).mono fun v w' ⟨vs, f, hv, ho, hn, hx⟩ => ⟨vs, f, hv, ho, hn, nextT_code dx dr dp mode, nextT_cnt dx dr dp mode, hx⟩
theorem spec_NextRow_c {w : World} {xs ys zs : List Value} {dx dr dp : List D0} (h : Reps w xs dx) (hc : dx.map D0.code = [.str, .bool, .ints]) (g : Reps w ys dr) (gc : dr.map D0.code = [.bool, .ints, .int]) (k : Reps w zs dp) (kc : dp.map D0.code = [.str, .bool, .ints]) (mode : Int) :
    Ret P n_spec_NextRow [.agg ⟨xs⟩, .agg ⟨ys⟩, .agg ⟨zs⟩, .int .i64 mode] w fun v w' => ∃ vs f, v = .tuple #[.agg ⟨vs⟩, .bool (nextT dx dr dp mode).1] ∧ Owns w' w.heap.size vs (nextT dx dr dp mode).2 f ∧ f.Nodup ∧ (nextT dx dr dp mode).2.map D0.code = [.str, .bool, .ints, .str, .bool, .ints, .str, .bool, .ints] ∧ tcnts (nextT dx dr dp mode).2 ≤ 1000000000 ∧ Ext w w' :=
  (spec_NextRow_o h hc g gc k kc mode).mono fun v w' ⟨vs, f, hv, ho, hn, hx⟩ => ⟨vs, f, hv, ho, hn, nextT_code dx dr dp mode, nextT_cnt dx dr dp mode, hx⟩
end Go.Proofs.YtfemmmbkhhemaaaGreatDoor

namespace Go.Proofs.YtfemmmbkhhemaaaGreatDoor.Sx
open Go Go.RowKit
set_option linter.unusedVariables false
set_option linter.unusedSimpArgs false
theorem Fl.trans {os : List Obj} {ss : List (Option Nat)} {w : World} {s1 : List (Option Nat)} {w1 : World} {s2 : List (Option Nat)} {w2 : World} (h : Fl os ss w s1 w1) (g : Fl os s1 w1 s2 w2) : Fl os ss w s2 w2 := by
  induction h with
  | refl => exact g
  | step h1 h2 _ ih => exact .step h1 h2 (ih g)
theorem Fl.old {os : List Obj} {ss : List (Option Nat)} {w : World} {s1 : List (Option Nat)} {w1 : World} (h : Fl os ss w s1 w1) {k r : Nat} (hk : s1[k]? = some (some r)) : ss[k]? = some (some r) ∨ w.heap.size ≤ r := by
  induction h with
  | refl => exact .inl hk
  | step h1 h2 h3 ih =>
    rename_i ss w k' o s' w'
    have hs : (w.alloc o).heap.size = w.heap.size + 1 := by simp
    rcases ih hk with h | h
    · by_cases e : k' = k
      · subst e
        have hl : k' < ss.length := by
          rcases Nat.lt_or_ge k' ss.length with h | h
          · exact h
          · rw [List.getElem?_eq_none h] at h1; cases h1
        rw [List.getElem?_set_self hl] at h
        simp at h
        exact .inr (by omega)
      · rw [List.getElem?_set_ne e] at h
        exact .inl h
    · exact .inr (by omega)
def FlS (os : List Obj) (w0 : World) (ss : List (Option Nat)) (w : World) : Prop :=
  Ext w0 w ∧ (∀ (k r : Nat), ss[k]? = some (some r) → w0.heap.size ≤ r ∧ r < w.heap.size ∧ w.heap[r]? = os[k]?) ∧ (∀ (k l r : Nat), ss[k]? = some (some r) → ss[l]? = some (some r) → k = l)
theorem FlS.ext {os : List Obj} {w0 w w' : World} {ss : List (Option Nat)} (h : FlS os w0 ss w) (y : Ext w w') : FlS os w0 ss w' :=
  ⟨h.1.trans y, fun k r hk => by
    obtain ⟨a, b, c⟩ := h.2.1 k r hk
    exact ⟨a, Nat.lt_of_lt_of_le b y.le, (y.block r b).trans c⟩, h.2.2⟩
theorem FlS.step {os : List Obj} {w0 w w' : World} {ss ss' : List (Option Nat)} (h : FlS os w0 ss w) (f : Fl os ss w ss' w') : FlS os w0 ss' w' := by
  induction f with
  | refl => exact h
  | step h1 h2 h3 ih =>
    rename_i ss w k' o s' w'
    refine ih ?_
    have y : Ext w (w.alloc o) := (Below.refl _ _).alloc (Nat.le_refl _) _
    have hs : (w.alloc o).heap.size = w.heap.size + 1 := by simp
    have hg : (w.alloc o).heap[w.heap.size]? = some o := heap_alloc_new w _
    have hl : k' < ss.length := by
      rcases Nat.lt_or_ge k' ss.length with h | h
      · exact h
      · rw [List.getElem?_eq_none h] at h1; cases h1
    have hx := h.ext y
    have hle := h.1.le
    refine ⟨hx.1, fun k r hk => ?_, fun k l r hk hl' => ?_⟩
    · by_cases e : k' = k
      · subst e
        rw [List.getElem?_set_self hl] at hk
        simp at hk
        subst hk
        exact ⟨hle, by omega, hg.trans h2.symm⟩
      · rw [List.getElem?_set_ne e] at hk
        exact hx.2.1 k r hk
    · by_cases e : k' = k
      · by_cases e2 : k' = l
        · omega
        · subst e
          rw [List.getElem?_set_self hl] at hk
          simp at hk
          subst hk
          rw [List.getElem?_set_ne e2] at hl'
          have := (h.2.1 l _ hl').2.1
          omega
      · rw [List.getElem?_set_ne e] at hk
        by_cases e2 : k' = l
        · subst e2
          rw [List.getElem?_set_self hl] at hl'
          simp at hl'
          subst hl'
          have := (h.2.1 k _ hk).2.1
          omega
        · rw [List.getElem?_set_ne e2] at hl'
          exact h.2.2 k l r hk hl'
theorem FlS.first {os : List Obj} {w0 w : World} {ss0 ss : List (Option Nat)} (f : Fl os ss0 w0 ss w) (h : ss0.all Option.isNone = true) : FlS os w0 ss w := by
  refine FlS.step ⟨Ext.refl _, fun k r hk => ?_, fun k l r hk _ => ?_⟩ f <;>
  · have hm := List.mem_of_getElem? hk
    have := List.all_eq_true.1 h _ hm
    simp at this
theorem FlS.blk {os : List Obj} {w0 w : World} {ss : List (Option Nat)} {k r : Nat} {cs : List Value} {e : TypeId} (h : FlS os w0 ss w) (hk : ss[k]? = some (some r)) (ho : os[k]? = some (.cells ⟨cs⟩ e (0, 0))) : w0.heap.size ≤ r ∧ r < w.heap.size ∧ Blk w r e cs := by
  obtain ⟨a, b, c⟩ := h.2.1 k r hk
  exact ⟨a, b, c.trans ho⟩
theorem FlS.ne {os : List Obj} {w0 w : World} {ss : List (Option Nat)} {k l r s : Nat} (h : FlS os w0 ss w) (hk : ss[k]? = some (some r)) (hl : ss[l]? = some (some s)) (e : k ≠ l) : r ≠ s := fun hh => e (h.2.2 k l r hk (hh ▸ hl))
theorem FlS.apart {os : List Obj} {w0 wc we w' : World} {ss ss' : List (Option Nat)} {k r : Nat} (h : FlS os w0 ss wc) (f : Fl os ss we ss' w') (hk : ss'[k]? = some (some r)) : r < wc.heap.size ∨ we.heap.size ≤ r := by
  rcases f.old hk with a | a
  · exact .inl (h.2.1 k r a).2.1
  · exact .inr a
end Go.Proofs.YtfemmmbkhhemaaaGreatDoor.Sx

namespace Go.Proofs.YtfemmmbkhhemaaaGreatDoor
open Go Go.Proofs.YtfemmmbkhhemaaaGreatDoor.Sx
set_option linter.unusedVariables false
set_option linter.unusedSimpArgs false
set_option maxHeartbeats 4000000
theorem laws_FnExactNextRow_c {w : World} {vs0 : List Value} {d0 : List D0} (h0 : Reps w vs0 d0) (hc0 : d0.map D0.code = [.str, .bool, .ints]) (hk0 : ∀ x ∈ d0, x.ok) {vs1 : List Value} {d1 : List D0} (h1 : Reps w vs1 d1) (hc1 : d1.map D0.code = [.bool, .ints, .int]) (hk1 : ∀ x ∈ d1, x.ok) {vs2 : List Value} {d2 : List D0} (h2 : Reps w vs2 d2) (hc2 : d2.map D0.code = [.str, .bool, .ints]) (hk2 : ∀ x ∈ d2, x.ok) (a3 : Int) (ht : Tab w) :
    Ret P n_laws_FnExactNextRow [.agg ⟨vs0⟩, .agg ⟨vs1⟩, .agg ⟨vs2⟩, .int .i64 a3] w fun v w' => v = .bool true ∧ Ext w w' := by
  have hr0 := h0
  obtain ⟨u00, u01, u02p, u02n, u02c, u02z, rfl, rfl, u02h⟩ := open_Money h0 hc0
  have hr1 := h1
  obtain ⟨u10, u11p, u11n, u11c, u11z, u12, rfl, rfl, u11h⟩ := open_Dec h1 hc1
  have hr2 := h2
  obtain ⟨u20, u21, u22p, u22n, u22c, u22z, rfl, rfl, u22h⟩ := open_Money h2 hc2
  refine laws_FnExactNextRow_ret ?_
  unfold laws_FnExactNextRow
  have x : Ext w w := Ext.refl w
  intro r_a0 W1 hn
  have er_a0 := hn.r_eq; have sr_a0 := hn.size
  have y := hn.ext
  replace x := x.trans y
  have ll1 := y.le
  have bk_a0 := hn.blk; clear hn
  intro r_a1 W2 hn
  have er_a1 := hn.r_eq; have sr_a1 := hn.size
  have y := hn.ext
  replace x := x.trans y
  replace bk_a0 := bk_a0.ext y
  have ll2 := y.le
  have bk_a1 := hn.blk; clear hn
  intro r_a2 W3 hn
  have er_a2 := hn.r_eq; have sr_a2 := hn.size
  have y := hn.ext
  replace x := x.trans y
  replace bk_a0 := bk_a0.ext y
  replace bk_a1 := bk_a1.ext y
  have ll3 := y.le
  have bk_a2 := hn.blk; clear hn
  refine ⟨_, _, _, _, _, bk_a0.loadA0 (by kernel_rfl), ?_⟩
  refine Ret.at (laws_szMoney_c (hr0.ext x) rfl hk0 (by omega) (by omega)) ?_
  rintro v W4 ⟨k0, hv, hs0, hm0, y⟩
  subst hv
  replace x := x.trans y
  replace bk_a0 := bk_a0.ext y
  replace bk_a1 := bk_a1.ext y
  replace bk_a2 := bk_a2.ext y
  have ll4 := y.le
  refine ⟨_, rfl, ifD (fun _ => ⟨rfl, x⟩) (fun hp0 => ?_)⟩
  refine ⟨_, _, _, _, _, bk_a1.loadA0 (by kernel_rfl), ?_⟩
  refine Ret.at (laws_szDec_c (hr1.ext x) rfl hk1 (by omega) (by omega)) ?_
  rintro v W5 ⟨k1, hv, hs1, hm1, y⟩
  subst hv
  replace x := x.trans y
  replace bk_a0 := bk_a0.ext y
  replace bk_a1 := bk_a1.ext y
  replace bk_a2 := bk_a2.ext y
  have ll5 := y.le
  refine ⟨_, rfl, ifD (fun _ => ⟨rfl, x⟩) (fun hp1 => ?_)⟩
  refine ⟨_, _, _, _, _, bk_a2.loadA0 (by kernel_rfl), ?_⟩
  refine Ret.at (laws_szMoney_c (hr2.ext x) rfl hk2 (by omega) (by omega)) ?_
  rintro v W6 ⟨k2, hv, hs2, hm2, y⟩
  subst hv
  replace x := x.trans y
  replace bk_a0 := bk_a0.ext y
  replace bk_a1 := bk_a1.ext y
  replace bk_a2 := bk_a2.ext y
  have ll6 := y.le
  refine ⟨_, rfl, ifD (fun _ => ⟨rfl, x⟩) (fun hp2 => ?_)⟩
  have hs0 := hs0 (by omega)
  have hs1 := hs1 (by omega)
  have hs2 := hs2 (by omega)
  simp only [bulks, D0.bulk, List.map_cons, List.map_nil, List.sum_cons, List.sum_nil] at hs0
  simp only [bulks, D0.bulk, List.map_cons, List.map_nil, List.sum_cons, List.sum_nil] at hs1
  simp only [bulks, D0.bulk, List.map_cons, List.map_nil, List.sum_cons, List.sum_nil] at hs2
  have y := Ext.drew W6
  replace x := x.trans y
  replace bk_a0 := bk_a0.ext y
  replace bk_a1 := bk_a1.ext y
  replace bk_a2 := bk_a2.ext y
  have ll7 := y.le
  have bd0 := bk_a0
  have bd1 := bk_a1
  have bd2 := bk_a2
  refine ⟨_, _, _, _, _, fun W' hW => (bd0.ext hW).loadA0 (by kernel_rfl), ?_⟩
  intro ssx W7 F
  have S := FlS.first F rfl
  have y := F.ext
  replace x := x.trans y
  replace bk_a0 := bk_a0.ext y
  replace bk_a1 := bk_a1.ext y
  replace bk_a2 := bk_a2.ext y
  have ll8 := y.le
  refine Ret.at (laws_toMoney_c (hr0.ext x) rfl (by simp only [bulks, D0.bulk, List.map_cons, List.map_nil, List.sum_cons, List.sum_nil]; omega)) ?_
  rintro v W8 ⟨vs, f_s0, hv, o_s0, nd_s0, y⟩
  subst hv
  obtain ⟨ts00, ts01, ts02p, ts02n, ts02c, ts02z, rfl, hds0, ts02h⟩ := open_Money o_s0.reps rfl
  have lt_o_s0 : ∀ k ∈ f_s0, W7.heap.size ≤ k ∧ k < W8.heap.size := o_s0.lt
  have yy := y
  replace x := x.trans y
  replace bk_a0 := bk_a0.ext y
  replace bk_a1 := bk_a1.ext y
  replace bk_a2 := bk_a2.ext y
  replace S := S.ext y
  have ll9 := y.le
  refine ⟨_, _, _, _, _, rfl, yy, ?_⟩
  refine ⟨_, _, _, _, _, fun W' hW => (bd1.ext hW).loadA0 (by kernel_rfl), ?_⟩
  intro ssx W9 F
  have S := S.step F
  have y := F.ext
  replace x := x.trans y
  replace bk_a0 := bk_a0.ext y
  replace bk_a1 := bk_a1.ext y
  replace bk_a2 := bk_a2.ext y
  replace o_s0 := o_s0.ext y
  have ll10 := y.le
  refine Ret.at (laws_toDec_c (hr1.ext x) rfl (by simp only [bulks, D0.bulk, List.map_cons, List.map_nil, List.sum_cons, List.sum_nil]; omega)) ?_
  rintro v W10 ⟨vs, f_s1, hv, o_s1, nd_s1, y⟩
  subst hv
  obtain ⟨ts10, ts11p, ts11n, ts11c, ts11z, ts12, rfl, hds1, ts11h⟩ := open_Dec o_s1.reps rfl
  have lt_o_s1 : ∀ k ∈ f_s1, W9.heap.size ≤ k ∧ k < W10.heap.size := o_s1.lt
  have yy := y
  replace x := x.trans y
  replace bk_a0 := bk_a0.ext y
  replace bk_a1 := bk_a1.ext y
  replace bk_a2 := bk_a2.ext y
  replace o_s0 := o_s0.ext y
  replace S := S.ext y
  have ll11 := y.le
  refine ⟨_, _, _, _, _, rfl, yy, ?_⟩
  refine ⟨_, _, _, _, _, fun W' hW => (bd2.ext hW).loadA0 (by kernel_rfl), ?_⟩
  intro ssx W11 F
  have S := S.step F
  have y := F.ext
  replace x := x.trans y
  replace bk_a0 := bk_a0.ext y
  replace bk_a1 := bk_a1.ext y
  replace bk_a2 := bk_a2.ext y
  replace o_s0 := o_s0.ext y
  replace o_s1 := o_s1.ext y
  have ll12 := y.le
  refine Ret.at (laws_toMoney_c (hr2.ext x) rfl (by simp only [bulks, D0.bulk, List.map_cons, List.map_nil, List.sum_cons, List.sum_nil]; omega)) ?_
  rintro v W12 ⟨vs, f_s2, hv, o_s2, nd_s2, y⟩
  subst hv
  obtain ⟨ts20, ts21, ts22p, ts22n, ts22c, ts22z, rfl, hds2, ts22h⟩ := open_Money o_s2.reps rfl
  have lt_o_s2 : ∀ k ∈ f_s2, W11.heap.size ≤ k ∧ k < W12.heap.size := o_s2.lt
  have yy := y
  replace x := x.trans y
  replace bk_a0 := bk_a0.ext y
  replace bk_a1 := bk_a1.ext y
  replace bk_a2 := bk_a2.ext y
  replace o_s0 := o_s0.ext y
  replace o_s1 := o_s1.ext y
  replace S := S.ext y
  have ll13 := y.le
  refine ⟨_, _, _, _, _, rfl, ?_⟩
  intro ssx W13 F
  have S := S.step F
  have y := F.ext
  replace x := x.trans y
  replace bk_a0 := bk_a0.ext y
  replace bk_a1 := bk_a1.ext y
  replace bk_a2 := bk_a2.ext y
  replace o_s0 := o_s0.ext y
  replace o_s1 := o_s1.ext y
  replace o_s2 := o_s2.ext y
  have ll14 := y.le
  have Sc := S
  refine Ret.at (spec_NextRow_c o_s0.reps rfl o_s1.reps rfl o_s2.reps rfl a3) ?_
  rintro v W14 ⟨vs_w0, f_w0, hv, o_w0, nd_w0, co_w0, ct_w0, y⟩
  subst hv
  have tn_w0 := tcnts_nn ct_w0
  have lt_o_w0 : ∀ k ∈ f_w0, W13.heap.size ≤ k ∧ k < W14.heap.size := o_w0.lt
  replace x := x.trans y
  replace bk_a0 := bk_a0.ext y
  replace bk_a1 := bk_a1.ext y
  replace bk_a2 := bk_a2.ext y
  replace S := S.ext y
  have ll15 := y.le
  obtain ⟨gw00, gw01, gw02p, gw02n, gw02c, gw02z, gw03, gw04, gw05p, gw05n, gw05c, gw05z, gw06, gw07, gw08p, gw08n, gw08c, gw08z, rfl, hd_w0, gw02h, gw05h, gw08h⟩ := open_Row o_w0.reps co_w0
  refine ⟨_, _, _, _, _, _, _, _, _, _, _, _, _, _, _, _, rfl, ?_⟩
  intro ssx W15 r_w0 F G_w0
  have S := S.step F
  have y := F.ext
  replace x := x.trans y
  replace bk_a0 := bk_a0.ext y
  replace bk_a1 := bk_a1.ext y
  replace bk_a2 := bk_a2.ext y
  replace o_w0 := o_w0.ext y
  have ll16 := y.le
  have FF := F
  obtain ⟨sr_w0, lr_w0, bk_w0⟩ := S.blk G_w0 rfl
  have ap_w0 := Sc.apart FF G_w0
  obtain ⟨W16, st, bq, ch, sz⟩ := bk_w0.storeA0 (P := P) (t := T_impl_Row) (xs := [.string gw00, .bool gw01, .slice gw02p gw02n gw02c, .string gw03, .bool gw04, .slice gw05p gw05n gw05c, .string gw06, .bool gw07, .slice gw08p gw08n gw08c]) (by kernel_rfl) rfl o_w0.reps.cells1
  replace x := x.chg ch (by simp; omega)
  replace bk_a0 := bk_a0.chg ch (by simp; omega)
  replace bk_a1 := bk_a1.chg ch (by simp; omega)
  replace bk_a2 := bk_a2.chg ch (by simp; omega)
  replace o_w0 := o_w0.chg ch (fun k hk hm => by have h1 := lt_o_w0 k hk; simp at hm; omega)
  have bk_w0 := bq; clear bq
  have ll17 := ch.size
  refine ⟨_, st, ?_⟩
  refine ⟨_, _, _, _, _, bk_a0.loadA0 (by kernel_rfl), ?_⟩
  refine Ret.at (laws_toMoney_c (hr0.ext x) rfl (by simp only [bulks, D0.bulk, List.map_cons, List.map_nil, List.sum_cons, List.sum_nil]; omega)) ?_
  rintro v W17 ⟨vs, f_x0, hv, o_x0, nd_x0, y⟩
  subst hv
  obtain ⟨tx00, tx01, tx02p, tx02n, tx02c, tx02z, rfl, hdx0, tx02h⟩ := open_Money o_x0.reps rfl
  have lt_o_x0 : ∀ k ∈ f_x0, W16.heap.size ≤ k ∧ k < W17.heap.size := o_x0.lt
  replace x := x.trans y
  replace bk_a0 := bk_a0.ext y
  replace bk_a1 := bk_a1.ext y
  replace bk_a2 := bk_a2.ext y
  replace bk_w0 := bk_w0.ext y
  replace o_w0 := o_w0.ext y
  have ll18 := y.le
  refine ⟨_, _, _, _, _, rfl, ?_⟩
  intro r_x0 W18 hn
  have er_x0 := hn.r_eq; have sr_x0 := hn.size
  have y := hn.ext
  replace x := x.trans y
  replace bk_a0 := bk_a0.ext y
  replace bk_a1 := bk_a1.ext y
  replace bk_a2 := bk_a2.ext y
  replace bk_w0 := bk_w0.ext y
  replace o_w0 := o_w0.ext y
  replace o_x0 := o_x0.ext y
  have ll19 := y.le
  have bk_x0 := hn.blk; clear hn
  obtain ⟨W19, st, bq, ch, sz⟩ := bk_x0.storeA0 (P := P) (t := T_impl_Money) (xs := [.string tx00, .bool tx01, .slice tx02p tx02n tx02c]) (by kernel_rfl) rfl o_x0.reps.cells1
  replace x := x.chg ch (by simp; omega)
  replace bk_a0 := bk_a0.chg ch (by simp; omega)
  replace bk_a1 := bk_a1.chg ch (by simp; omega)
  replace bk_a2 := bk_a2.chg ch (by simp; omega)
  replace bk_w0 := bk_w0.chg ch (by simp; omega)
  replace o_w0 := o_w0.chg ch (fun k hk hm => by have h1 := lt_o_w0 k hk; simp at hm; omega)
  replace o_x0 := o_x0.chg ch (fun k hk hm => by have h1 := lt_o_x0 k hk; simp at hm; omega)
  have bk_x0 := bq; clear bq
  have ll20 := ch.size
  refine ⟨_, st, ?_⟩
  refine ⟨_, _, _, _, _, bk_a1.loadA0 (by kernel_rfl), ?_⟩
  refine Ret.at (laws_toDec_c (hr1.ext x) rfl (by simp only [bulks, D0.bulk, List.map_cons, List.map_nil, List.sum_cons, List.sum_nil]; omega)) ?_
  rintro v W20 ⟨vs, f_x1, hv, o_x1, nd_x1, y⟩
  subst hv
  obtain ⟨tx10, tx11p, tx11n, tx11c, tx11z, tx12, rfl, hdx1, tx11h⟩ := open_Dec o_x1.reps rfl
  have lt_o_x1 : ∀ k ∈ f_x1, W19.heap.size ≤ k ∧ k < W20.heap.size := o_x1.lt
  replace x := x.trans y
  replace bk_a0 := bk_a0.ext y
  replace bk_a1 := bk_a1.ext y
  replace bk_a2 := bk_a2.ext y
  replace bk_w0 := bk_w0.ext y
  replace bk_x0 := bk_x0.ext y
  replace o_w0 := o_w0.ext y
  replace o_x0 := o_x0.ext y
  have ll21 := y.le
  refine ⟨_, _, _, _, _, rfl, ?_⟩
  intro r_x1 W21 hn
  have er_x1 := hn.r_eq; have sr_x1 := hn.size
  have y := hn.ext
  replace x := x.trans y
  replace bk_a0 := bk_a0.ext y
  replace bk_a1 := bk_a1.ext y
  replace bk_a2 := bk_a2.ext y
  replace bk_w0 := bk_w0.ext y
  replace bk_x0 := bk_x0.ext y
  replace o_w0 := o_w0.ext y
  replace o_x0 := o_x0.ext y
  replace o_x1 := o_x1.ext y
  have ll22 := y.le
  have bk_x1 := hn.blk; clear hn
  obtain ⟨W22, st, bq, ch, sz⟩ := bk_x1.storeA0 (P := P) (t := T_impl_Dec) (xs := [.bool tx10, .slice tx11p tx11n tx11c, .int .i64 tx12]) (by kernel_rfl) rfl o_x1.reps.cells1
  replace x := x.chg ch (by simp; omega)
  replace bk_a0 := bk_a0.chg ch (by simp; omega)
  replace bk_a1 := bk_a1.chg ch (by simp; omega)
  replace bk_a2 := bk_a2.chg ch (by simp; omega)
  replace bk_w0 := bk_w0.chg ch (by simp; omega)
  replace bk_x0 := bk_x0.chg ch (by simp; omega)
  replace o_w0 := o_w0.chg ch (fun k hk hm => by have h1 := lt_o_w0 k hk; simp at hm; omega)
  replace o_x0 := o_x0.chg ch (fun k hk hm => by have h1 := lt_o_x0 k hk; simp at hm; omega)
  replace o_x1 := o_x1.chg ch (fun k hk hm => by have h1 := lt_o_x1 k hk; simp at hm; omega)
  have bk_x1 := bq; clear bq
  have ll23 := ch.size
  refine ⟨_, st, ?_⟩
  refine ⟨_, _, _, _, _, bk_a2.loadA0 (by kernel_rfl), ?_⟩
  refine Ret.at (laws_toMoney_c (hr2.ext x) rfl (by simp only [bulks, D0.bulk, List.map_cons, List.map_nil, List.sum_cons, List.sum_nil]; omega)) ?_
  rintro v W23 ⟨vs, f_x2, hv, o_x2, nd_x2, y⟩
  subst hv
  obtain ⟨tx20, tx21, tx22p, tx22n, tx22c, tx22z, rfl, hdx2, tx22h⟩ := open_Money o_x2.reps rfl
  have lt_o_x2 : ∀ k ∈ f_x2, W22.heap.size ≤ k ∧ k < W23.heap.size := o_x2.lt
  replace x := x.trans y
  replace bk_a0 := bk_a0.ext y
  replace bk_a1 := bk_a1.ext y
  replace bk_a2 := bk_a2.ext y
  replace bk_w0 := bk_w0.ext y
  replace bk_x0 := bk_x0.ext y
  replace bk_x1 := bk_x1.ext y
  replace o_w0 := o_w0.ext y
  replace o_x0 := o_x0.ext y
  replace o_x1 := o_x1.ext y
  have ll24 := y.le
  refine ⟨_, _, _, _, _, rfl, ?_⟩
  intro r_x2 W24 hn
  have er_x2 := hn.r_eq; have sr_x2 := hn.size
  have y := hn.ext
  replace x := x.trans y
  replace bk_a0 := bk_a0.ext y
  replace bk_a1 := bk_a1.ext y
  replace bk_a2 := bk_a2.ext y
  replace bk_w0 := bk_w0.ext y
  replace bk_x0 := bk_x0.ext y
  replace bk_x1 := bk_x1.ext y
  replace o_w0 := o_w0.ext y
  replace o_x0 := o_x0.ext y
  replace o_x1 := o_x1.ext y
  replace o_x2 := o_x2.ext y
  have ll25 := y.le
  have bk_x2 := hn.blk; clear hn
  obtain ⟨W25, st, bq, ch, sz⟩ := bk_x2.storeA0 (P := P) (t := T_impl_Money) (xs := [.string tx20, .bool tx21, .slice tx22p tx22n tx22c]) (by kernel_rfl) rfl o_x2.reps.cells1
  replace x := x.chg ch (by simp; omega)
  replace bk_a0 := bk_a0.chg ch (by simp; omega)
  replace bk_a1 := bk_a1.chg ch (by simp; omega)
  replace bk_a2 := bk_a2.chg ch (by simp; omega)
  replace bk_w0 := bk_w0.chg ch (by simp; omega)
  replace bk_x0 := bk_x0.chg ch (by simp; omega)
  replace bk_x1 := bk_x1.chg ch (by simp; omega)
  replace o_w0 := o_w0.chg ch (fun k hk hm => by have h1 := lt_o_w0 k hk; simp at hm; omega)
  replace o_x0 := o_x0.chg ch (fun k hk hm => by have h1 := lt_o_x0 k hk; simp at hm; omega)
  replace o_x1 := o_x1.chg ch (fun k hk hm => by have h1 := lt_o_x1 k hk; simp at hm; omega)
  replace o_x2 := o_x2.chg ch (fun k hk hm => by have h1 := lt_o_x2 k hk; simp at hm; omega)
  have bk_x2 := bq; clear bq
  have ll26 := ch.size
  refine ⟨_, st, ?_⟩
  refine ⟨_, _, _, _, _, bk_x0.loadA0 (by kernel_rfl), ?_⟩
  refine ⟨_, _, _, _, _, bk_x1.loadA0 (by kernel_rfl), ?_⟩
  refine ⟨_, _, _, _, _, bk_x2.loadA0 (by kernel_rfl), ?_⟩
  refine Ret.at (impl_NextRow_c o_x0.reps rfl o_x1.reps rfl o_x2.reps rfl a3 (ht.ext x)) ?_
  rintro v W26 ⟨vs_g0, f_g0, hv, o_g0, nd_g0, co_g0, ct_g0, y⟩
  subst hv
  have tn_g0 := tcnts_nn ct_g0
  have lt_o_g0 : ∀ k ∈ f_g0, W25.heap.size ≤ k ∧ k < W26.heap.size := o_g0.lt
  replace x := x.trans y
  replace bk_a0 := bk_a0.ext y
  replace bk_a1 := bk_a1.ext y
  replace bk_a2 := bk_a2.ext y
  replace bk_w0 := bk_w0.ext y
  replace bk_x0 := bk_x0.ext y
  replace bk_x1 := bk_x1.ext y
  replace bk_x2 := bk_x2.ext y
  replace o_w0 := o_w0.ext y
  replace o_x0 := o_x0.ext y
  replace o_x1 := o_x1.ext y
  replace o_x2 := o_x2.ext y
  have ll27 := y.le
  obtain ⟨gg00, gg01, gg02p, gg02n, gg02c, gg02z, gg03, gg04, gg05p, gg05n, gg05c, gg05z, gg06, gg07, gg08p, gg08n, gg08c, gg08z, rfl, hd_g0, gg02h, gg05h, gg08h⟩ := open_Row o_g0.reps co_g0
  refine ⟨_, _, _, _, _, _, _, _, _, _, _, _, _, _, _, _, rfl, ?_⟩
  intro r_g0 W27 hn
  have er_g0 := hn.r_eq; have sr_g0 := hn.size
  have y := hn.ext
  replace x := x.trans y
  replace bk_a0 := bk_a0.ext y
  replace bk_a1 := bk_a1.ext y
  replace bk_a2 := bk_a2.ext y
  replace bk_w0 := bk_w0.ext y
  replace bk_x0 := bk_x0.ext y
  replace bk_x1 := bk_x1.ext y
  replace bk_x2 := bk_x2.ext y
  replace o_w0 := o_w0.ext y
  replace o_x0 := o_x0.ext y
  replace o_x1 := o_x1.ext y
  replace o_x2 := o_x2.ext y
  replace o_g0 := o_g0.ext y
  have ll28 := y.le
  have bk_g0 := hn.blk; clear hn
  obtain ⟨W28, st, bq, ch, sz⟩ := bk_g0.storeA0 (P := P) (t := T_impl_Row) (xs := [.string gg00, .bool gg01, .slice gg02p gg02n gg02c, .string gg03, .bool gg04, .slice gg05p gg05n gg05c, .string gg06, .bool gg07, .slice gg08p gg08n gg08c]) (by kernel_rfl) rfl o_g0.reps.cells1
  replace x := x.chg ch (by simp; omega)
  replace bk_a0 := bk_a0.chg ch (by simp; omega)
  replace bk_a1 := bk_a1.chg ch (by simp; omega)
  replace bk_a2 := bk_a2.chg ch (by simp; omega)
  replace bk_w0 := bk_w0.chg ch (by simp; omega)
  replace bk_x0 := bk_x0.chg ch (by simp; omega)
  replace bk_x1 := bk_x1.chg ch (by simp; omega)
  replace bk_x2 := bk_x2.chg ch (by simp; omega)
  replace o_w0 := o_w0.chg ch (fun k hk hm => by have h1 := lt_o_w0 k hk; simp at hm; omega)
  replace o_x0 := o_x0.chg ch (fun k hk hm => by have h1 := lt_o_x0 k hk; simp at hm; omega)
  replace o_x1 := o_x1.chg ch (fun k hk hm => by have h1 := lt_o_x1 k hk; simp at hm; omega)
  replace o_x2 := o_x2.chg ch (fun k hk hm => by have h1 := lt_o_x2 k hk; simp at hm; omega)
  replace o_g0 := o_g0.chg ch (fun k hk hm => by have h1 := lt_o_g0 k hk; simp at hm; omega)
  have bk_g0 := bq; clear bq
  have ll29 := ch.size
  refine ⟨_, st, ?_⟩
  refine ⟨_, _, _, _, _, _, _, _, _, _, _, _, _, _, _, bk_g0.loadA0 (by kernel_rfl), _, _, _, _, _, _, _, _, _, _, _, _, _, _, _, bk_w0.loadA0 (by kernel_rfl), ?_⟩
  refine Ret.at (laws_eqRow_c o_g0.reps o_w0.reps co_g0 co_w0) ?_
  rintro v W29 ⟨hv, y⟩
  subst hv
  replace x := x.trans y
  replace bk_a0 := bk_a0.ext y
  replace bk_a1 := bk_a1.ext y
  replace bk_a2 := bk_a2.ext y
  replace bk_w0 := bk_w0.ext y
  replace bk_x0 := bk_x0.ext y
  replace bk_x1 := bk_x1.ext y
  replace bk_x2 := bk_x2.ext y
  replace bk_g0 := bk_g0.ext y
  replace o_w0 := o_w0.ext y
  replace o_x0 := o_x0.ext y
  replace o_x1 := o_x1.ext y
  replace o_x2 := o_x2.ext y
  replace o_g0 := o_g0.ext y
  have ll30 := y.le
  refine ⟨_, rfl, ifN (fun h => absurd h (by simp)) (fun _ => ?_)⟩
  refine ⟨fun h => absurd h (bne_no rfl), fun _ => ?_⟩
  unfold laws_FnExactNextRow_j0
  refine ⟨_, _, _, _, _, fun W' hW => (bk_x0.ext ((Ext.drew _).trans hW)).loadA0 (by kernel_rfl), _, _, _, _, _, fun W' hW => (bk_a0.ext ((Ext.drew _).trans hW)).loadA0 (by kernel_rfl), ?_⟩
  have y := Ext.drew W29
  replace x := x.trans y
  replace bk_a0 := bk_a0.ext y
  replace bk_a1 := bk_a1.ext y
  replace bk_a2 := bk_a2.ext y
  replace bk_w0 := bk_w0.ext y
  replace bk_x0 := bk_x0.ext y
  replace bk_x1 := bk_x1.ext y
  replace bk_x2 := bk_x2.ext y
  replace bk_g0 := bk_g0.ext y
  replace o_w0 := o_w0.ext y
  replace o_x0 := o_x0.ext y
  replace o_x1 := o_x1.ext y
  replace o_x2 := o_x2.ext y
  replace o_g0 := o_g0.ext y
  have ll31 := y.le
  refine Ret.at (laws_toMoney_c (hr0.ext x) rfl (by simp only [bulks, D0.bulk, List.map_cons, List.map_nil, List.sum_cons, List.sum_nil]; omega)) ?_
  rintro v W30 ⟨vs, f_y0, hv, o_y0, nd_y0, y⟩
  subst hv
  obtain ⟨ty00, ty01, ty02p, ty02n, ty02c, ty02z, rfl, hdy0, ty02h⟩ := open_Money o_y0.reps rfl
  have lt_o_y0 : ∀ k ∈ f_y0, W29.heap.size ≤ k ∧ k < W30.heap.size := o_y0.lt
  have y2 := y
  replace x := x.trans y
  replace bk_a0 := bk_a0.ext y
  replace bk_a1 := bk_a1.ext y
  replace bk_a2 := bk_a2.ext y
  replace bk_w0 := bk_w0.ext y
  replace bk_x0 := bk_x0.ext y
  replace bk_x1 := bk_x1.ext y
  replace bk_x2 := bk_x2.ext y
  replace bk_g0 := bk_g0.ext y
  replace o_w0 := o_w0.ext y
  replace o_x0 := o_x0.ext y
  replace o_x1 := o_x1.ext y
  replace o_x2 := o_x2.ext y
  replace o_g0 := o_g0.ext y
  have ll32 := y.le
  refine ⟨_, _, _, _, _, rfl, y, ?_⟩
  refine Ret.at (laws_eqMoney_c o_x0.reps o_y0.reps rfl rfl) ?_
  rintro v W31 ⟨hv, y⟩
  subst hv
  replace x := x.trans y
  replace bk_a0 := bk_a0.ext y
  replace bk_a1 := bk_a1.ext y
  replace bk_a2 := bk_a2.ext y
  replace bk_w0 := bk_w0.ext y
  replace bk_x0 := bk_x0.ext y
  replace bk_x1 := bk_x1.ext y
  replace bk_x2 := bk_x2.ext y
  replace bk_g0 := bk_g0.ext y
  replace o_w0 := o_w0.ext y
  replace o_x0 := o_x0.ext y
  replace o_x1 := o_x1.ext y
  replace o_x2 := o_x2.ext y
  replace o_g0 := o_g0.ext y
  have ll33 := y.le
  refine ⟨_, rfl, ifN (fun h => absurd h (by simp)) (fun _ => ?_)⟩
  refine ⟨_, _, _, _, _, fun W' hW => (bk_x1.ext ((Ext.drew _).trans hW)).loadA0 (by kernel_rfl), _, _, _, _, _, fun W' hW => (bk_a1.ext ((Ext.drew _).trans hW)).loadA0 (by kernel_rfl), ?_⟩
  have y := Ext.drew W31
  replace x := x.trans y
  replace bk_a0 := bk_a0.ext y
  replace bk_a1 := bk_a1.ext y
  replace bk_a2 := bk_a2.ext y
  replace bk_w0 := bk_w0.ext y
  replace bk_x0 := bk_x0.ext y
  replace bk_x1 := bk_x1.ext y
  replace bk_x2 := bk_x2.ext y
  replace bk_g0 := bk_g0.ext y
  replace o_w0 := o_w0.ext y
  replace o_x0 := o_x0.ext y
  replace o_x1 := o_x1.ext y
  replace o_x2 := o_x2.ext y
  replace o_g0 := o_g0.ext y
  have ll34 := y.le
  refine Ret.at (laws_toDec_c (hr1.ext x) rfl (by simp only [bulks, D0.bulk, List.map_cons, List.map_nil, List.sum_cons, List.sum_nil]; omega)) ?_
  rintro v W32 ⟨vs, f_y1, hv, o_y1, nd_y1, y⟩
  subst hv
  obtain ⟨ty10, ty11p, ty11n, ty11c, ty11z, ty12, rfl, hdy1, ty11h⟩ := open_Dec o_y1.reps rfl
  have lt_o_y1 : ∀ k ∈ f_y1, W31.heap.size ≤ k ∧ k < W32.heap.size := o_y1.lt
  have y2 := y
  replace x := x.trans y
  replace bk_a0 := bk_a0.ext y
  replace bk_a1 := bk_a1.ext y
  replace bk_a2 := bk_a2.ext y
  replace bk_w0 := bk_w0.ext y
  replace bk_x0 := bk_x0.ext y
  replace bk_x1 := bk_x1.ext y
  replace bk_x2 := bk_x2.ext y
  replace bk_g0 := bk_g0.ext y
  replace o_w0 := o_w0.ext y
  replace o_x0 := o_x0.ext y
  replace o_x1 := o_x1.ext y
  replace o_x2 := o_x2.ext y
  replace o_g0 := o_g0.ext y
  have ll35 := y.le
  refine ⟨_, _, _, _, _, rfl, y, ?_⟩
  refine Ret.at (laws_eqDec_c o_x1.reps o_y1.reps rfl rfl) ?_
  rintro v W33 ⟨hv, y⟩
  subst hv
  replace x := x.trans y
  replace bk_a0 := bk_a0.ext y
  replace bk_a1 := bk_a1.ext y
  replace bk_a2 := bk_a2.ext y
  replace bk_w0 := bk_w0.ext y
  replace bk_x0 := bk_x0.ext y
  replace bk_x1 := bk_x1.ext y
  replace bk_x2 := bk_x2.ext y
  replace bk_g0 := bk_g0.ext y
  replace o_w0 := o_w0.ext y
  replace o_x0 := o_x0.ext y
  replace o_x1 := o_x1.ext y
  replace o_x2 := o_x2.ext y
  replace o_g0 := o_g0.ext y
  have ll36 := y.le
  refine ⟨_, rfl, ifN (fun h => absurd h (by simp)) (fun _ => ?_)⟩
  refine ⟨_, _, _, _, _, fun W' hW => (bk_x2.ext ((Ext.drew _).trans hW)).loadA0 (by kernel_rfl), _, _, _, _, _, fun W' hW => (bk_a2.ext ((Ext.drew _).trans hW)).loadA0 (by kernel_rfl), ?_⟩
  have y := Ext.drew W33
  replace x := x.trans y
  replace bk_a0 := bk_a0.ext y
  replace bk_a1 := bk_a1.ext y
  replace bk_a2 := bk_a2.ext y
  replace bk_w0 := bk_w0.ext y
  replace bk_x0 := bk_x0.ext y
  replace bk_x1 := bk_x1.ext y
  replace bk_x2 := bk_x2.ext y
  replace bk_g0 := bk_g0.ext y
  replace o_w0 := o_w0.ext y
  replace o_x0 := o_x0.ext y
  replace o_x1 := o_x1.ext y
  replace o_x2 := o_x2.ext y
  replace o_g0 := o_g0.ext y
  have ll37 := y.le
  refine Ret.at (laws_toMoney_c (hr2.ext x) rfl (by simp only [bulks, D0.bulk, List.map_cons, List.map_nil, List.sum_cons, List.sum_nil]; omega)) ?_
  rintro v W34 ⟨vs, f_y2, hv, o_y2, nd_y2, y⟩
  subst hv
  obtain ⟨ty20, ty21, ty22p, ty22n, ty22c, ty22z, rfl, hdy2, ty22h⟩ := open_Money o_y2.reps rfl
  have lt_o_y2 : ∀ k ∈ f_y2, W33.heap.size ≤ k ∧ k < W34.heap.size := o_y2.lt
  have y2 := y
  replace x := x.trans y
  replace bk_a0 := bk_a0.ext y
  replace bk_a1 := bk_a1.ext y
  replace bk_a2 := bk_a2.ext y
  replace bk_w0 := bk_w0.ext y
  replace bk_x0 := bk_x0.ext y
  replace bk_x1 := bk_x1.ext y
  replace bk_x2 := bk_x2.ext y
  replace bk_g0 := bk_g0.ext y
  replace o_w0 := o_w0.ext y
  replace o_x0 := o_x0.ext y
  replace o_x1 := o_x1.ext y
  replace o_x2 := o_x2.ext y
  replace o_g0 := o_g0.ext y
  have ll38 := y.le
  refine ⟨_, _, _, _, _, rfl, y, ?_⟩
  refine Ret.at (laws_eqMoney_c o_x2.reps o_y2.reps rfl rfl) ?_
  rintro v W35 ⟨hv, y⟩
  subst hv
  replace x := x.trans y
  replace bk_a0 := bk_a0.ext y
  replace bk_a1 := bk_a1.ext y
  replace bk_a2 := bk_a2.ext y
  replace bk_w0 := bk_w0.ext y
  replace bk_x0 := bk_x0.ext y
  replace bk_x1 := bk_x1.ext y
  replace bk_x2 := bk_x2.ext y
  replace bk_g0 := bk_g0.ext y
  replace o_w0 := o_w0.ext y
  replace o_x0 := o_x0.ext y
  replace o_x1 := o_x1.ext y
  replace o_x2 := o_x2.ext y
  replace o_g0 := o_g0.ext y
  have ll39 := y.le
  refine ⟨_, rfl, ifN (fun h => absurd h (by simp)) (fun _ => ?_)⟩
  refine ⟨_, _, _, _, _, bk_x0.loadA0 (by kernel_rfl), ?_⟩
  refine Ret.at (laws_markMoney_c o_x0 nd_x0 rfl (by first | omega | (simp only [tcnts]; omega)) (by simp only [tcnts]; omega)) ?_
  rintro v W36 ⟨hv, on, ch⟩
  simp only [tcnts] at hv
  subst hv
  replace x := x.chg ch (fun k hk => by have := lt_o_x0 k hk; omega)
  replace bk_a0 := bk_a0.chg ch (fun hm => by have := lt_o_x0 _ hm; omega)
  replace bk_a1 := bk_a1.chg ch (fun hm => by have := lt_o_x0 _ hm; omega)
  replace bk_a2 := bk_a2.chg ch (fun hm => by have := lt_o_x0 _ hm; omega)
  replace bk_w0 := bk_w0.chg ch (fun hm => by have := lt_o_x0 _ hm; omega)
  replace bk_x0 := bk_x0.chg ch (fun hm => by have := lt_o_x0 _ hm; omega)
  replace bk_x1 := bk_x1.chg ch (fun hm => by have := lt_o_x0 _ hm; omega)
  replace bk_x2 := bk_x2.chg ch (fun hm => by have := lt_o_x0 _ hm; omega)
  replace bk_g0 := bk_g0.chg ch (fun hm => by have := lt_o_x0 _ hm; omega)
  replace o_w0 := o_w0.chg ch (fun k hk hm => by have h1 := lt_o_w0 k hk; have h2 := lt_o_x0 k hm; omega)
  replace o_x1 := o_x1.chg ch (fun k hk hm => by have h1 := lt_o_x1 k hk; have h2 := lt_o_x0 k hm; omega)
  replace o_x2 := o_x2.chg ch (fun k hk hm => by have h1 := lt_o_x2 k hk; have h2 := lt_o_x0 k hm; omega)
  replace o_g0 := o_g0.chg ch (fun k hk hm => by have h1 := lt_o_g0 k hk; have h2 := lt_o_x0 k hm; omega)
  have ll40 := ch.size
  replace o_x0 := on; clear on
  refine ⟨_, rfl, ?_⟩
  refine ⟨_, _, _, _, _, bk_x1.loadA0 (by kernel_rfl), ?_⟩
  refine Ret.at (laws_markDec_c o_x1 nd_x1 rfl (by first | omega | (simp only [tcnts]; omega)) (by simp only [tcnts]; omega)) ?_
  rintro v W37 ⟨hv, on, ch⟩
  simp only [tcnts] at hv
  subst hv
  replace x := x.chg ch (fun k hk => by have := lt_o_x1 k hk; omega)
  replace bk_a0 := bk_a0.chg ch (fun hm => by have := lt_o_x1 _ hm; omega)
  replace bk_a1 := bk_a1.chg ch (fun hm => by have := lt_o_x1 _ hm; omega)
  replace bk_a2 := bk_a2.chg ch (fun hm => by have := lt_o_x1 _ hm; omega)
  replace bk_w0 := bk_w0.chg ch (fun hm => by have := lt_o_x1 _ hm; omega)
  replace bk_x0 := bk_x0.chg ch (fun hm => by have := lt_o_x1 _ hm; omega)
  replace bk_x1 := bk_x1.chg ch (fun hm => by have := lt_o_x1 _ hm; omega)
  replace bk_x2 := bk_x2.chg ch (fun hm => by have := lt_o_x1 _ hm; omega)
  replace bk_g0 := bk_g0.chg ch (fun hm => by have := lt_o_x1 _ hm; omega)
  replace o_w0 := o_w0.chg ch (fun k hk hm => by have h1 := lt_o_w0 k hk; have h2 := lt_o_x1 k hm; omega)
  replace o_x0 := o_x0.chg ch (fun k hk hm => by have h1 := lt_o_x0 k hk; have h2 := lt_o_x1 k hm; omega)
  replace o_x2 := o_x2.chg ch (fun k hk hm => by have h1 := lt_o_x2 k hk; have h2 := lt_o_x1 k hm; omega)
  replace o_g0 := o_g0.chg ch (fun k hk hm => by have h1 := lt_o_g0 k hk; have h2 := lt_o_x1 k hm; omega)
  have ll41 := ch.size
  replace o_x1 := on; clear on
  refine ⟨_, rfl, ?_⟩
  refine ⟨_, _, _, _, _, bk_x2.loadA0 (by kernel_rfl), ?_⟩
  refine Ret.at (laws_markMoney_c o_x2 nd_x2 rfl (by first | omega | (simp only [tcnts]; omega)) (by simp only [tcnts]; omega)) ?_
  rintro v W38 ⟨hv, on, ch⟩
  simp only [tcnts] at hv
  subst hv
  replace x := x.chg ch (fun k hk => by have := lt_o_x2 k hk; omega)
  replace bk_a0 := bk_a0.chg ch (fun hm => by have := lt_o_x2 _ hm; omega)
  replace bk_a1 := bk_a1.chg ch (fun hm => by have := lt_o_x2 _ hm; omega)
  replace bk_a2 := bk_a2.chg ch (fun hm => by have := lt_o_x2 _ hm; omega)
  replace bk_w0 := bk_w0.chg ch (fun hm => by have := lt_o_x2 _ hm; omega)
  replace bk_x0 := bk_x0.chg ch (fun hm => by have := lt_o_x2 _ hm; omega)
  replace bk_x1 := bk_x1.chg ch (fun hm => by have := lt_o_x2 _ hm; omega)
  replace bk_x2 := bk_x2.chg ch (fun hm => by have := lt_o_x2 _ hm; omega)
  replace bk_g0 := bk_g0.chg ch (fun hm => by have := lt_o_x2 _ hm; omega)
  replace o_w0 := o_w0.chg ch (fun k hk hm => by have h1 := lt_o_w0 k hk; have h2 := lt_o_x2 k hm; omega)
  replace o_x0 := o_x0.chg ch (fun k hk hm => by have h1 := lt_o_x0 k hk; have h2 := lt_o_x2 k hm; omega)
  replace o_x1 := o_x1.chg ch (fun k hk hm => by have h1 := lt_o_x1 k hk; have h2 := lt_o_x2 k hm; omega)
  replace o_g0 := o_g0.chg ch (fun k hk hm => by have h1 := lt_o_g0 k hk; have h2 := lt_o_x2 k hm; omega)
  have ll42 := ch.size
  replace o_x2 := on; clear on
  refine ⟨_, rfl, ?_⟩
  refine ifD (fun h => absurd h (by omega)) (fun _ => ?_)
  refine ⟨_, _, _, _, _, _, _, _, _, _, _, _, _, _, _, bk_g0.loadA0 (by kernel_rfl), _, _, _, _, _, _, _, _, _, _, _, _, _, _, _, bk_w0.loadA0 (by kernel_rfl), ?_⟩
  refine Ret.at (laws_eqRow_c o_g0.reps o_w0.reps co_g0 co_w0) ?_
  rintro v W39 ⟨hv, y⟩
  subst hv
  replace x := x.trans y
  replace bk_a0 := bk_a0.ext y
  replace bk_a1 := bk_a1.ext y
  replace bk_a2 := bk_a2.ext y
  replace bk_w0 := bk_w0.ext y
  replace bk_x0 := bk_x0.ext y
  replace bk_x1 := bk_x1.ext y
  replace bk_x2 := bk_x2.ext y
  replace bk_g0 := bk_g0.ext y
  replace o_w0 := o_w0.ext y
  replace o_x0 := o_x0.ext y
  replace o_x1 := o_x1.ext y
  replace o_x2 := o_x2.ext y
  replace o_g0 := o_g0.ext y
  have ll43 := y.le
  refine ⟨_, rfl, ifN (fun h => absurd h (by simp)) (fun _ => ?_)⟩
  refine ⟨fun h => absurd h (bne_no rfl), fun _ => ?_⟩
  unfold laws_FnExactNextRow_j1
  refine ⟨_, _, _, _, _, _, _, _, _, _, _, _, _, _, _, bk_g0.loadA0 (by kernel_rfl), ?_⟩
  refine Ret.at (laws_markRow_c o_g0 nd_g0 co_g0 (by omega) (by omega)) ?_
  rintro v W40 ⟨hv, on, ch⟩
  subst hv
  replace x := x.chg ch (fun k hk => by have := lt_o_g0 k hk; omega)
  replace bk_a0 := bk_a0.chg ch (fun hm => by have := lt_o_g0 _ hm; omega)
  replace bk_a1 := bk_a1.chg ch (fun hm => by have := lt_o_g0 _ hm; omega)
  replace bk_a2 := bk_a2.chg ch (fun hm => by have := lt_o_g0 _ hm; omega)
  replace bk_w0 := bk_w0.chg ch (fun hm => by have := lt_o_g0 _ hm; omega)
  replace bk_x0 := bk_x0.chg ch (fun hm => by have := lt_o_g0 _ hm; omega)
  replace bk_x1 := bk_x1.chg ch (fun hm => by have := lt_o_g0 _ hm; omega)
  replace bk_x2 := bk_x2.chg ch (fun hm => by have := lt_o_g0 _ hm; omega)
  replace bk_g0 := bk_g0.chg ch (fun hm => by have := lt_o_g0 _ hm; omega)
  replace o_w0 := o_w0.chg ch (fun k hk hm => by have h1 := lt_o_w0 k hk; have h2 := lt_o_g0 k hm; omega)
  replace o_x0 := o_x0.chg ch (fun k hk hm => by have h1 := lt_o_x0 k hk; have h2 := lt_o_g0 k hm; omega)
  replace o_x1 := o_x1.chg ch (fun k hk hm => by have h1 := lt_o_x1 k hk; have h2 := lt_o_g0 k hm; omega)
  replace o_x2 := o_x2.chg ch (fun k hk hm => by have h1 := lt_o_x2 k hk; have h2 := lt_o_g0 k hm; omega)
  have ll44 := ch.size
  replace o_g0 := on; clear on
  refine ⟨_, rfl, ?_⟩
  refine ⟨_, _, _, _, _, _, _, _, _, _, _, _, _, _, _, bk_g0.loadA0 (by kernel_rfl), ?_⟩
  refine Ret.at (laws_heldRow_c o_g0.reps co_g0 (by omega) (by omega)) ?_
  rintro v W41 ⟨hv, y⟩
  subst hv
  replace x := x.trans y
  replace bk_a0 := bk_a0.ext y
  replace bk_a1 := bk_a1.ext y
  replace bk_a2 := bk_a2.ext y
  replace bk_w0 := bk_w0.ext y
  replace bk_x0 := bk_x0.ext y
  replace bk_x1 := bk_x1.ext y
  replace bk_x2 := bk_x2.ext y
  replace bk_g0 := bk_g0.ext y
  replace o_w0 := o_w0.ext y
  replace o_x0 := o_x0.ext y
  replace o_x1 := o_x1.ext y
  replace o_x2 := o_x2.ext y
  replace o_g0 := o_g0.ext y
  have ll45 := y.le
  refine ⟨_, rfl, ifD (fun h => absurd h (by omega)) (fun _ => ?_)⟩
  refine ifD (fun h => absurd rfl h) (fun _ => ?_)
  have y := Ext.drew W41
  replace x := x.trans y
  replace bk_a0 := bk_a0.ext y
  replace bk_a1 := bk_a1.ext y
  replace bk_a2 := bk_a2.ext y
  replace bk_w0 := bk_w0.ext y
  replace bk_x0 := bk_x0.ext y
  replace bk_x1 := bk_x1.ext y
  replace bk_x2 := bk_x2.ext y
  replace bk_g0 := bk_g0.ext y
  replace o_w0 := o_w0.ext y
  replace o_x0 := o_x0.ext y
  replace o_x1 := o_x1.ext y
  replace o_x2 := o_x2.ext y
  replace o_g0 := o_g0.ext y
  have ll46 := y.le
  have bd0 := bk_a0
  have bd1 := bk_a1
  have bd2 := bk_a2
  refine ⟨_, _, _, _, _, fun W' hW => (bd0.ext hW).loadA0 (by kernel_rfl), ?_⟩
  intro ssx W42 F
  have S := FlS.first F rfl
  have y := F.ext
  replace x := x.trans y
  replace bk_a0 := bk_a0.ext y
  replace bk_a1 := bk_a1.ext y
  replace bk_a2 := bk_a2.ext y
  replace bk_w0 := bk_w0.ext y
  replace bk_x0 := bk_x0.ext y
  replace bk_x1 := bk_x1.ext y
  replace bk_x2 := bk_x2.ext y
  replace bk_g0 := bk_g0.ext y
  replace o_w0 := o_w0.ext y
  replace o_x0 := o_x0.ext y
  replace o_x1 := o_x1.ext y
  replace o_x2 := o_x2.ext y
  replace o_g0 := o_g0.ext y
  have ll47 := y.le
  refine Ret.at (laws_toMoney_c (hr0.ext x) rfl (by simp only [bulks, D0.bulk, List.map_cons, List.map_nil, List.sum_cons, List.sum_nil]; omega)) ?_
  rintro v W43 ⟨vs, f_h0, hv, o_h0, nd_h0, y⟩
  subst hv
  obtain ⟨th00, th01, th02p, th02n, th02c, th02z, rfl, hdh0, th02h⟩ := open_Money o_h0.reps rfl
  have lt_o_h0 : ∀ k ∈ f_h0, W42.heap.size ≤ k ∧ k < W43.heap.size := o_h0.lt
  have yy := y
  replace x := x.trans y
  replace bk_a0 := bk_a0.ext y
  replace bk_a1 := bk_a1.ext y
  replace bk_a2 := bk_a2.ext y
  replace bk_w0 := bk_w0.ext y
  replace bk_x0 := bk_x0.ext y
  replace bk_x1 := bk_x1.ext y
  replace bk_x2 := bk_x2.ext y
  replace bk_g0 := bk_g0.ext y
  replace o_w0 := o_w0.ext y
  replace o_x0 := o_x0.ext y
  replace o_x1 := o_x1.ext y
  replace o_x2 := o_x2.ext y
  replace o_g0 := o_g0.ext y
  replace S := S.ext y
  have ll48 := y.le
  refine ⟨_, _, _, _, _, rfl, yy, ?_⟩
  refine ⟨_, _, _, _, _, fun W' hW => (bd1.ext hW).loadA0 (by kernel_rfl), ?_⟩
  intro ssx W44 F
  have S := S.step F
  have y := F.ext
  replace x := x.trans y
  replace bk_a0 := bk_a0.ext y
  replace bk_a1 := bk_a1.ext y
  replace bk_a2 := bk_a2.ext y
  replace bk_w0 := bk_w0.ext y
  replace bk_x0 := bk_x0.ext y
  replace bk_x1 := bk_x1.ext y
  replace bk_x2 := bk_x2.ext y
  replace bk_g0 := bk_g0.ext y
  replace o_w0 := o_w0.ext y
  replace o_x0 := o_x0.ext y
  replace o_x1 := o_x1.ext y
  replace o_x2 := o_x2.ext y
  replace o_g0 := o_g0.ext y
  replace o_h0 := o_h0.ext y
  have ll49 := y.le
  refine Ret.at (laws_toDec_c (hr1.ext x) rfl (by simp only [bulks, D0.bulk, List.map_cons, List.map_nil, List.sum_cons, List.sum_nil]; omega)) ?_
  rintro v W45 ⟨vs, f_h1, hv, o_h1, nd_h1, y⟩
  subst hv
  obtain ⟨th10, th11p, th11n, th11c, th11z, th12, rfl, hdh1, th11h⟩ := open_Dec o_h1.reps rfl
  have lt_o_h1 : ∀ k ∈ f_h1, W44.heap.size ≤ k ∧ k < W45.heap.size := o_h1.lt
  have yy := y
  replace x := x.trans y
  replace bk_a0 := bk_a0.ext y
  replace bk_a1 := bk_a1.ext y
  replace bk_a2 := bk_a2.ext y
  replace bk_w0 := bk_w0.ext y
  replace bk_x0 := bk_x0.ext y
  replace bk_x1 := bk_x1.ext y
  replace bk_x2 := bk_x2.ext y
  replace bk_g0 := bk_g0.ext y
  replace o_w0 := o_w0.ext y
  replace o_x0 := o_x0.ext y
  replace o_x1 := o_x1.ext y
  replace o_x2 := o_x2.ext y
  replace o_g0 := o_g0.ext y
  replace o_h0 := o_h0.ext y
  replace S := S.ext y
  have ll50 := y.le
  refine ⟨_, _, _, _, _, rfl, yy, ?_⟩
  refine ⟨_, _, _, _, _, fun W' hW => (bd2.ext hW).loadA0 (by kernel_rfl), ?_⟩
  intro ssx W46 F
  have S := S.step F
  have y := F.ext
  replace x := x.trans y
  replace bk_a0 := bk_a0.ext y
  replace bk_a1 := bk_a1.ext y
  replace bk_a2 := bk_a2.ext y
  replace bk_w0 := bk_w0.ext y
  replace bk_x0 := bk_x0.ext y
  replace bk_x1 := bk_x1.ext y
  replace bk_x2 := bk_x2.ext y
  replace bk_g0 := bk_g0.ext y
  replace o_w0 := o_w0.ext y
  replace o_x0 := o_x0.ext y
  replace o_x1 := o_x1.ext y
  replace o_x2 := o_x2.ext y
  replace o_g0 := o_g0.ext y
  replace o_h0 := o_h0.ext y
  replace o_h1 := o_h1.ext y
  have ll51 := y.le
  refine Ret.at (laws_toMoney_c (hr2.ext x) rfl (by simp only [bulks, D0.bulk, List.map_cons, List.map_nil, List.sum_cons, List.sum_nil]; omega)) ?_
  rintro v W47 ⟨vs, f_h2, hv, o_h2, nd_h2, y⟩
  subst hv
  obtain ⟨th20, th21, th22p, th22n, th22c, th22z, rfl, hdh2, th22h⟩ := open_Money o_h2.reps rfl
  have lt_o_h2 : ∀ k ∈ f_h2, W46.heap.size ≤ k ∧ k < W47.heap.size := o_h2.lt
  have yy := y
  replace x := x.trans y
  replace bk_a0 := bk_a0.ext y
  replace bk_a1 := bk_a1.ext y
  replace bk_a2 := bk_a2.ext y
  replace bk_w0 := bk_w0.ext y
  replace bk_x0 := bk_x0.ext y
  replace bk_x1 := bk_x1.ext y
  replace bk_x2 := bk_x2.ext y
  replace bk_g0 := bk_g0.ext y
  replace o_w0 := o_w0.ext y
  replace o_x0 := o_x0.ext y
  replace o_x1 := o_x1.ext y
  replace o_x2 := o_x2.ext y
  replace o_g0 := o_g0.ext y
  replace o_h0 := o_h0.ext y
  replace o_h1 := o_h1.ext y
  replace S := S.ext y
  have ll52 := y.le
  refine ⟨_, _, _, _, _, rfl, ?_⟩
  intro ssx W48 F
  have S := S.step F
  have y := F.ext
  replace x := x.trans y
  replace bk_a0 := bk_a0.ext y
  replace bk_a1 := bk_a1.ext y
  replace bk_a2 := bk_a2.ext y
  replace bk_w0 := bk_w0.ext y
  replace bk_x0 := bk_x0.ext y
  replace bk_x1 := bk_x1.ext y
  replace bk_x2 := bk_x2.ext y
  replace bk_g0 := bk_g0.ext y
  replace o_w0 := o_w0.ext y
  replace o_x0 := o_x0.ext y
  replace o_x1 := o_x1.ext y
  replace o_x2 := o_x2.ext y
  replace o_g0 := o_g0.ext y
  replace o_h0 := o_h0.ext y
  replace o_h1 := o_h1.ext y
  replace o_h2 := o_h2.ext y
  have ll53 := y.le
  have Sc := S
  refine Ret.at (impl_NextRow_c o_h0.reps rfl o_h1.reps rfl o_h2.reps rfl a3 (ht.ext x)) ?_
  rintro v W49 ⟨vs_h0, f_h0, hv, o_h0, nd_h0, co_h0, ct_h0, y⟩
  subst hv
  have tn_h0 := tcnts_nn ct_h0
  have lt_o_h0 : ∀ k ∈ f_h0, W48.heap.size ≤ k ∧ k < W49.heap.size := o_h0.lt
  replace x := x.trans y
  replace bk_a0 := bk_a0.ext y
  replace bk_a1 := bk_a1.ext y
  replace bk_a2 := bk_a2.ext y
  replace bk_w0 := bk_w0.ext y
  replace bk_x0 := bk_x0.ext y
  replace bk_x1 := bk_x1.ext y
  replace bk_x2 := bk_x2.ext y
  replace bk_g0 := bk_g0.ext y
  replace o_w0 := o_w0.ext y
  replace o_x0 := o_x0.ext y
  replace o_x1 := o_x1.ext y
  replace o_x2 := o_x2.ext y
  replace o_g0 := o_g0.ext y
  replace S := S.ext y
  have ll54 := y.le
  obtain ⟨gh00, gh01, gh02p, gh02n, gh02c, gh02z, gh03, gh04, gh05p, gh05n, gh05c, gh05z, gh06, gh07, gh08p, gh08n, gh08c, gh08z, rfl, hd_h0, gh02h, gh05h, gh08h⟩ := open_Row o_h0.reps co_h0
  refine ⟨_, _, _, _, _, _, _, _, _, _, _, _, _, _, _, _, rfl, ?_⟩
  intro ssx W50 r_h0 F G_h0
  have S := S.step F
  have y := F.ext
  replace x := x.trans y
  replace bk_a0 := bk_a0.ext y
  replace bk_a1 := bk_a1.ext y
  replace bk_a2 := bk_a2.ext y
  replace bk_w0 := bk_w0.ext y
  replace bk_x0 := bk_x0.ext y
  replace bk_x1 := bk_x1.ext y
  replace bk_x2 := bk_x2.ext y
  replace bk_g0 := bk_g0.ext y
  replace o_w0 := o_w0.ext y
  replace o_x0 := o_x0.ext y
  replace o_x1 := o_x1.ext y
  replace o_x2 := o_x2.ext y
  replace o_g0 := o_g0.ext y
  replace o_h0 := o_h0.ext y
  have ll55 := y.le
  have FF := F
  obtain ⟨sr_h0, lr_h0, bk_h0⟩ := S.blk G_h0 rfl
  have ap_h0 := Sc.apart FF G_h0
  obtain ⟨W51, st, bq, ch, sz⟩ := bk_h0.storeA0 (P := P) (t := T_impl_Row) (xs := [.string gh00, .bool gh01, .slice gh02p gh02n gh02c, .string gh03, .bool gh04, .slice gh05p gh05n gh05c, .string gh06, .bool gh07, .slice gh08p gh08n gh08c]) (by kernel_rfl) rfl o_h0.reps.cells1
  replace x := x.chg ch (by simp; omega)
  replace bk_a0 := bk_a0.chg ch (by simp; omega)
  replace bk_a1 := bk_a1.chg ch (by simp; omega)
  replace bk_a2 := bk_a2.chg ch (by simp; omega)
  replace bk_w0 := bk_w0.chg ch (by simp; omega)
  replace bk_x0 := bk_x0.chg ch (by simp; omega)
  replace bk_x1 := bk_x1.chg ch (by simp; omega)
  replace bk_x2 := bk_x2.chg ch (by simp; omega)
  replace bk_g0 := bk_g0.chg ch (by simp; omega)
  replace o_w0 := o_w0.chg ch (fun k hk hm => by have h1 := lt_o_w0 k hk; simp at hm; omega)
  replace o_x0 := o_x0.chg ch (fun k hk hm => by have h1 := lt_o_x0 k hk; simp at hm; omega)
  replace o_x1 := o_x1.chg ch (fun k hk hm => by have h1 := lt_o_x1 k hk; simp at hm; omega)
  replace o_x2 := o_x2.chg ch (fun k hk hm => by have h1 := lt_o_x2 k hk; simp at hm; omega)
  replace o_g0 := o_g0.chg ch (fun k hk hm => by have h1 := lt_o_g0 k hk; simp at hm; omega)
  replace o_h0 := o_h0.chg ch (fun k hk hm => by have h1 := lt_o_h0 k hk; simp at hm; omega)
  have bk_h0 := bq; clear bq
  have ll56 := ch.size
  refine ⟨_, st, ?_⟩
  refine ⟨_, _, _, _, _, _, _, _, _, _, _, _, _, _, _, bk_h0.loadA0 (by kernel_rfl), _, _, _, _, _, _, _, _, _, _, _, _, _, _, _, bk_w0.loadA0 (by kernel_rfl), ?_⟩
  refine Ret.at (laws_eqRow_c o_h0.reps o_w0.reps co_h0 co_w0) ?_
  rintro v W52 ⟨hv, y⟩
  subst hv
  replace x := x.trans y
  replace bk_a0 := bk_a0.ext y
  replace bk_a1 := bk_a1.ext y
  replace bk_a2 := bk_a2.ext y
  replace bk_w0 := bk_w0.ext y
  replace bk_x0 := bk_x0.ext y
  replace bk_x1 := bk_x1.ext y
  replace bk_x2 := bk_x2.ext y
  replace bk_g0 := bk_g0.ext y
  replace bk_h0 := bk_h0.ext y
  replace o_w0 := o_w0.ext y
  replace o_x0 := o_x0.ext y
  replace o_x1 := o_x1.ext y
  replace o_x2 := o_x2.ext y
  replace o_g0 := o_g0.ext y
  replace o_h0 := o_h0.ext y
  have ll57 := y.le
  refine ⟨_, rfl, ifN (fun h => absurd h (by simp)) (fun _ => ?_)⟩
  refine ⟨fun h => absurd h (bne_no rfl), fun _ => ?_⟩
  unfold laws_FnExactNextRow_j2
  refine ⟨_, _, _, _, _, _, _, _, _, _, _, _, _, _, _, bk_g0.loadA0 (by kernel_rfl), ?_⟩
  refine Ret.at (laws_heldRow_c o_g0.reps co_g0 (by omega) (by omega)) ?_
  rintro v W53 ⟨hv, y⟩
  subst hv
  replace x := x.trans y
  replace bk_a0 := bk_a0.ext y
  replace bk_a1 := bk_a1.ext y
  replace bk_a2 := bk_a2.ext y
  replace bk_w0 := bk_w0.ext y
  replace bk_x0 := bk_x0.ext y
  replace bk_x1 := bk_x1.ext y
  replace bk_x2 := bk_x2.ext y
  replace bk_g0 := bk_g0.ext y
  replace bk_h0 := bk_h0.ext y
  replace o_w0 := o_w0.ext y
  replace o_x0 := o_x0.ext y
  replace o_x1 := o_x1.ext y
  replace o_x2 := o_x2.ext y
  replace o_g0 := o_g0.ext y
  replace o_h0 := o_h0.ext y
  have ll58 := y.le
  refine ⟨_, rfl, ifD (fun h => absurd h (by omega)) (fun _ => ?_)⟩
  refine ifD (fun h => absurd rfl h) (fun _ => ?_)
  exact ⟨rfl, x⟩
end Go.Proofs.YtfemmmbkhhemaaaGreatDoor

namespace Go.Proofs.YtfemmmbkhhemaaaGreatDoor.Sx
open Go Go.RowKit Go.ChangeShapes Go.WideShapes
set_option linter.unusedVariables false
set_option linter.unusedSimpArgs false
/-- each named variable's type can be read and is a row of the table -/
def rowedV (P : Program) (ns : List String) : Bool := ns.all fun n => ((P.globalNamed n).bind (P.globals[·]?)).all fun gl => P.readableRec gl.type && decide (gl.type < P.types.size)
section
variable {H : Type} {enc : TypeId × Value → H} {P : Program}
theorem trodAll_ext (hl : laidOutB P = true) {W W' : World} (hb : Ext W W') (sp' : Nat → Bool) : ∀ {ts : List TypeId} {vs : List Value} {ds : List (DataW H)} {ps : List MemPlace},
    (∀ t ∈ ts, P.readableRec t = true ∧ t < P.types.size) → (∀ p ∈ ps, p.block < W.heap.size) → (∀ p ∈ ps, sp' p.block = true) →
    DataW.TrodAll enc P W 0 (fun _ => true) true ts vs ds ps → DataW.TrodAll enc P W' 0 sp' true ts vs ds ps
  | [], _, _, _, _, _, _, h => by
    obtain ⟨rfl, rfl, rfl⟩ := trodAll_nil h
    exact rfl
  | t :: ts, _, _, _, hr, hlt, hsp, h => by
    obtain ⟨v, vs1, d, ds1, a, b, rfl, rfl, rfl, h1, h2⟩ := trodAll_cons h
    have hrt := hr t (by simp)
    exact ⟨a, b, WideElems.Trod_stays hl hrt.1 hrt.2 h1 (fun x hx => Below.same hb (hlt x (by simp [hx]))) (fun x hx => hsp x (by simp [hx])),
      trodAll_ext hl hb sp' (fun u hu => hr u (by simp [hu])) (fun x hx => hlt x (by simp [hx])) (fun x hx => hsp x (by simp [hx])) h2, rfl⟩
theorem trodVars_sp (hl : laidOutB P = true) {W W' : World} (hb : Ext W W') (sp' : Nat → Bool) :
    ∀ {ns : List String} {gs : List (DataW H)} {ps : List MemPlace}, rowedV P ns = true → (∀ p ∈ ps, sp' p.block = true) → DataW.TrodVars enc P W (fun _ => true) ns gs ps → DataW.TrodVars enc P W' sp' ns gs ps
  | [], [], _, _, _, h => h
  | [], _ :: _, _, _, _, h => h.elim
  | _ :: _, [], _, _, _, h => h.elim
  | n :: ns, d :: ds, ps, hv, hsp, h => by
    have hlt := h.lt
    obtain ⟨g, t, cs, fuel, p, q, h1, h2, h3, h4, hs, e⟩ := h
    simp only [rowedV, List.all_cons, Bool.and_eq_true] at hv
    have ht : P.readableRec t = true ∧ t < P.types.size := by
      have := hv.1
      rw [h1] at this
      cases hg : P.globals[g]? with
      | none => rw [hg] at h2; cases h2
      | some gl =>
        rw [hg] at h2
        obtain rfl : gl.type = t := Option.some.inj h2
        simpa [hg] using this
    have hp : ∀ x ∈ p, x.block < W.heap.size := fun x hx => hlt x (by rw [e]; simp [hx])
    have h3' : W'.var? P n = some cs := by
      unfold World.var? at h3 ⊢
      rw [h1] at h3 ⊢
      simp only [Option.bind_some] at h3 ⊢
      have hg : g < W.heap.size := by
        cases hh : W.heap[g]? with
        | none => rw [hh] at h3; cases h3
        | some o => exact (Array.getElem?_eq_some_iff.1 hh).1
      rw [hb.block g hg]; exact h3
    exact ⟨g, t, cs, fuel, p, q, h1, h2, h3', DataW.trod_stays (kids_book hl ht.1) (book_sized ht.1) (fun h => by cases h) ⟨ht.2, book_self t⟩ h4 (fun x hx => Below.same hb (hp x hx)) (fun x hx => hsp x (by rw [e]; simp [hx])),
      trodVars_sp hl hb sp' (by simpa [rowedV] using hv.2) (fun x hx => hsp x (by rw [e]; simp [hx])) hs, e⟩
/-- what the row asks of a law that answered true in a world with more behind it -/
theorem post_of_ext {f : Func} {s : ChangeSpec} {apart fresh handsOn again : Bool} {W W' : World} {args : Array Value} {ds gs : List (DataW H)} {before : List MemPlace} {tb : TypeId}
    (hl : laidOutB P = true) (hpar : ∀ t ∈ f.params.toList, P.readableRec t = true ∧ t < P.types.size) (hvr : rowedV P s.vars = true)
    (hrt : f.resultTypes = #[tb]) (htb : P.underlying tb = some .bool)
    (hW : DataW.Whole enc P f.params.toList s.vars apart W args.toList ds gs before) (hx : Ext W W')
    (hfn : s.fn H (ds ++ gs) = { results := [.lit (.bool true)], args := ds, vars := gs }) :
    s.post enc P f apart fresh handsOn again W args (.bool true) W' := by
  have hW0 := hW
  have hlt : ∀ p ∈ before, p.block < W.heap.size := hW.lt
  obtain ⟨pa, pv, hA, hV, rfl, hz, hn⟩ := hW
  have hlta : ∀ p ∈ pa, p.block < W.heap.size := fun p hp => hlt p (by simp [hp])
  have hltv : ∀ p ∈ pv, p.block < W.heap.size := fun p hp => hlt p (by simp [hp])
  have hr : (Value.bool true).resultList f.resultTypes.size = [Value.bool true] := by rw [hrt]; rfl
  refine ⟨ds, gs, pa ++ pv, [], pa, pv, hW0, ?_, ?_, ?_, Below.frame hx _, fun _ => ?_⟩
  · rw [hfn, hr, hrt]
    exact trodAll_mk1 (shut_bool htb _)
  · rw [hfn]
    exact trodAll_ext hl hx _ hpar hlta (fun p hp => by simpa using hlta p hp) hA
  · rw [hfn]
    exact trodVars_sp hl hx _ hvr (fun p hp => by simpa using hltv p hp) hV
  · refine ⟨?_, (.lit (.bool true)) :: ds, gs, pa ++ pv, ⟨[] ++ pa, pv, ?_, ?_, by simp, ?_, ?_⟩, fun p hp _ => hp⟩
    · rw [hr, hrt]
      exact ok_one (f := { f with resultTypes := #[tb] }) rfl rfl (okWide_bool_mk htb _)
    · rw [hr, hrt]
      exact trodAll_append (trodAll_ext hl hx _ hpar hlta (fun _ _ => rfl) hA) (trodAll_mk1 (shut_bool htb _))
    · exact trodVars_sp hl hx _ hvr (fun _ _ => rfl) hV
    · intro b off hp
      have := hlt _ hp
      rw [Below.frozen hx (p := ⟨b, off, none⟩) this]
      exact hz b off hp
    · exact hn
end
end Go.Proofs.YtfemmmbkhhemaaaGreatDoor.Sx

namespace Go.Proofs.YtfemmmbkhhemaaaGreatDoor.Sx
open Go Go.RowKit Go.ChangeShapes Go.WideShapes
set_option linter.unusedVariables false
set_option linter.unusedSimpArgs false
/-- the cells of a struct's fields, one behind the other -/
def flatF (P : Program) (g : TypeId → Option (List C0)) : Nat → List Field → Option (List C0)
  | _, [] => some []
  | o, f :: r => match Nat.beq f.offset o, g f.type with
    | true, some a => match Nat.beq (P.cellsOf f.type) a.length, flatF P g (o + a.length) r with
      | true, some b => some (a ++ b)
      | _, _ => none
    | _, _ => none
/-- the cells of a type -/
def flatC (P : Program) : Nat → TypeId → Option (List C0)
  | 0, _ => none
  | n + 1, t => match P.underlying t with
    | some .bool => some [.bool]
    | some (.int .i64) => some [.int]
    | some .string => some [.str]
    | some (.slice e) => match P.underlying e, P.cellsOf e with
      | some (.int .i64), 1 => some [.ints]
      | _, _ => none
    | some (.struct fs) => match flatF P (flatC P n) 0 fs.toList with
      | some a => if Nat.beq (P.cellsOf t) a.length then some a else none
      | none => none
    | _ => none
section
variable {H : Type} {enc : TypeId × Value → H} {P : Program} {w : World}
theorem spot_none {a : Addr} {v : Value} (h : w.cell? a = some v) : a = ⟨a.block, a.off, none⟩ := by
  obtain ⟨b, o, spot⟩ := a
  have : spot = none := by simpa using World.cell?_spot h
  subst this; rfl
theorem ints_of_trod {t e : TypeId} {fuel : Nat} {sp : Nat → Bool} {hd : Bool} {cs : List Value} {x : DataW H × List MemPlace} (ht : P.underlying t = some (.slice e)) (he : P.underlying e = some (.int .i64)) (hc : P.cellsOf e = 1)
    (h : DataW.trod enc P w 0 sp hd fuel t cs = some x) : ∃ p n c zs, cs = [.slice p n c] ∧ IntsR w p n c zs ∧ zs.length ≤ 9223372036854775807 := by
  rcases Go.ChangeShapes.open_ints ht he hc h with ⟨rfl, _⟩ | ⟨a, len, cap, zs, rfl, _, hl, hm, hz, _, hcell, _⟩
  · exact ⟨none, 0, 0, [], rfl, ⟨rfl, Nat.le_refl _, by omega, fun h => absurd h (by omega)⟩, by simp⟩
  · have hlz : len ≤ zs.length := by rw [hz]; split <;> omega
    refine ⟨some a, len, cap, zs.take len, rfl, ⟨by simp; omega, hl, by simpa [maxLen] using hm, fun hpos => ?_⟩, by simp only [maxLen] at hm; simp; omega⟩
    have h0 := hcell 0 (by omega)
    have hs := spot_none h0
    have ha : a = ⟨a.block, a.off, none⟩ := by
      obtain ⟨b, o, s⟩ := a
      simp [Addr.add] at hs
      simp [hs]
    refine ⟨a.block, a.off, by rw [← ha], fun j v hj => ?_⟩
    simp only [List.getElem?_map, List.getElem?_take] at hj
    split at hj
    · rename_i hjl
      have hjz : j < zs.length := by omega
      have := hcell j hjz
      rw [ha, addr_add] at this
      rw [this]
      rw [List.getElem?_eq_getElem hjz] at hj
      simp at hj
      rw [← hj]
      simp [hjz]
    · simp at hj
theorem flatF_open {g : TypeId → Option (List C0)} {n : Nat} {sp : Nat → Bool} {hd : Bool}
    (ih : ∀ {t : TypeId} {ks : List C0} {cs : List Value} {x : DataW H × List MemPlace}, g t = some ks → DataW.trod enc P w 0 sp hd n t cs = some x → ∃ ds, Reps w cs ds ∧ ds.map D0.code = ks ∧ ∀ d ∈ ds, d.ok) :
    ∀ (fs : List Field) (o : Nat) (ks : List C0) (cs : List Value), flatF P g o fs = some ks → cs.length = o + ks.length →
      (∀ f ∈ fs, ∃ x, DataW.trod enc P w 0 sp hd n f.type ((cs.drop f.offset).take (P.cellsOf f.type)) = some x) → ∃ ds, Reps w (cs.drop o) ds ∧ ds.map D0.code = ks ∧ ∀ d ∈ ds, d.ok
  | [], o, ks, cs, hf, hl, _ => by
    simp only [flatF, Option.some.injEq] at hf
    subst hf
    rw [List.drop_of_length_le (by simp at hl; omega)]
    exact ⟨[], trivial, rfl, by simp⟩
  | f :: r, o, ks, cs, hf, hl, hx => by
    simp only [flatF] at hf
    split at hf
    · rename_i a h1 h2
      split at hf
      · rename_i b h3 h4
        have h1' := Nat.eq_of_beq_eq_true h1
        have h3' := Nat.eq_of_beq_eq_true h3
        cases hf
        rw [List.length_append] at hl
        obtain ⟨x, hx0⟩ := hx f (by simp)
        obtain ⟨ds, r1, c1, k1⟩ := ih h2 hx0
        obtain ⟨es, r2, c2, k2⟩ := flatF_open ih r (o + a.length) b cs h4 (by omega) (fun f' hf' => hx f' (by simp [hf']))
        refine ⟨ds ++ es, ?_, by simp [c1, c2], fun d hd => ?_⟩
        · rw [h1', h3'] at r1
          have : cs.drop o = (cs.drop o).take a.length ++ cs.drop (o + a.length) := by
            rw [← List.drop_drop, List.take_append_drop]
          rw [this]
          exact r1.append r2
        · rcases List.mem_append.1 hd with h | h
          · exact k1 d h
          · exact k2 d h
      · cases hf
    · cases hf
theorem flat_open {sp : Nat → Bool} {hd : Bool} : ∀ (m : Nat) {fuel : Nat} {t : TypeId} {ks : List C0} {cs : List Value} {x : DataW H × List MemPlace}, flatC P m t = some ks → DataW.trod enc P w 0 sp hd fuel t cs = some x →
    ∃ ds, Reps w cs ds ∧ ds.map D0.code = ks ∧ ∀ d ∈ ds, d.ok
  | 0, _, _, _, _, _, h, _ => by cases h
  | m + 1, fuel, t, ks, cs, x, h, ht => by
    simp only [flatC] at h
    split at h
    · rename_i hu
      obtain ⟨b, rfl, _⟩ := DataW.trod_bool hu ht
      cases h
      exact ⟨[.bool b], ⟨rfl, trivial⟩, rfl, by simp [D0.ok]⟩
    · rename_i hu
      obtain ⟨b, rfl, _, hw⟩ := DataW.trod_int hu ht
      cases h
      refine ⟨[.int b], ⟨rfl, trivial⟩, rfl, ?_⟩
      simp only [List.mem_singleton, forall_eq, D0.ok]
      simp [Lit.wf, IntKind.min, IntKind.max, IntKind.bits, IntKind.signed] at hw
      omega
    · rename_i hu
      obtain ⟨s, rfl, _, hw⟩ := DataW.trod_string hu ht
      cases h
      exact ⟨[.str s], ⟨rfl, trivial⟩, rfl, by simpa [D0.ok, maxLen] using hw⟩
    · rename_i e hu
      split at h
      · rename_i he hc
        cases h
        obtain ⟨p, n, c, zs, rfl, hr, hz⟩ := ints_of_trod hu he hc ht
        exact ⟨[.ints zs], ⟨⟨p, n, c, rfl, hr⟩, trivial⟩, rfl, by simpa [D0.ok] using hz⟩
      · cases h
    · rename_i fs hu
      split at h
      · rename_i a hf
        split at h
        · rename_i hsz
          cases h
          obtain ⟨xs, n, rfl, _, hlen, hxl, hfs⟩ := DataW.trod_struct hu ht
          have hsz' := Nat.eq_of_beq_eq_true hsz
          have := flatF_open (fun h1 h2 => flat_open m h1 h2) fs.toList 0 ks cs hf (by omega) (fun f hf => by
            obtain ⟨i, hi⟩ := List.getElem?_of_mem hf
            have hil : i < fs.size := by simpa using (List.getElem?_eq_some_iff.1 hi).1
            have := hfs i f (by simpa using hi)
            rw [List.getElem?_eq_getElem (by omega)] at this
            exact ⟨_, this⟩)
          simpa using this
        · cases h
      · cases h
    · cases h
end
end Go.Proofs.YtfemmmbkhhemaaaGreatDoor.Sx

namespace Go.Proofs.YtfemmmbkhhemaaaGreatDoor
open Go Go.Proofs.YtfemmmbkhhemaaaGreatDoor.Sx
set_option linter.unusedVariables false
set_option linter.unusedSimpArgs false
def curData {H : Type} (r : CurRow) : DataW H := .agg [.lit (.string r.1.data.toList), .lit (.string r.2.1.data.toList), .lit (.int .i64 r.2.2.1), .lit (.int .i64 r.2.2.2)]
theorem bytes_eq {a b : ByteArray} (h : a.data.toList = b.data.toList) : a = b := by
  obtain ⟨⟨x⟩⟩ := a; obtain ⟨⟨y⟩⟩ := b
  simp at h; subst h; rfl
set_option maxRecDepth 100000 in
theorem cur_cells {H : Type} {enc : TypeId × Value → H} {w : World} {sp : Nat → Bool} {hd : Bool} {fuel : Nat} {cs : List Value} {r : CurRow} {p : List MemPlace}
    (h : DataW.trod enc P w 0 sp hd fuel T_impl_currency cs = some (curData r, p)) : cs = curCells r := by
  obtain ⟨fs, hu, hsz, ⟨f0, e0, t0, o0⟩, ⟨f1, e1, t1, o1⟩, ⟨f2, e2, t2, o2⟩, ⟨f3, e3, t3, o3⟩⟩ := cur_fields
  have hu : P.underlying T_impl_currency = some (.struct fs) := hu
  have hs : P.underlying T_string = some .string := by kernel_rfl
  have hi : P.underlying T_int = some (.int .i64) := by kernel_rfl
  have cS : P.cellsOf T_string = 1 := by kernel_rfl
  have cI : P.cellsOf T_int = 1 := by kernel_rfl
  have cC : P.cellsOf T_impl_currency = 4 := by kernel_rfl
  obtain ⟨xs, n, rfl, hx, hlen, hxl, hf⟩ := DataW.trod_struct hu h
  rw [cC] at hlen
  rw [hsz] at hxl
  have h0 := hf 0 f0 e0; have h1 := hf 1 f1 e1; have h2 := hf 2 f2 e2; have h3 := hf 3 f3 e3
  rw [t0, o0, cS] at h0; rw [t1, o1, cS] at h1; rw [t2, o2, cI] at h2; rw [t3, o3, cI] at h3
  match cs, hlen, xs, hxl, hx, h0, h1, h2, h3 with
  | [c0, c1, c2, c3], _, [x0, x1, x2, x3], _, hx, h0, h1, h2, h3 =>
    simp only [List.drop_succ_cons, List.drop_zero, List.take_succ_cons, List.take_zero, List.getElem?_cons_zero, List.getElem?_cons_succ] at h0 h1 h2 h3
    obtain ⟨s0, a0, b0, _⟩ := DataW.trod_string hs h0
    obtain ⟨s1, a1, b1, _⟩ := DataW.trod_string hs h1
    obtain ⟨z2, a2, b2, _⟩ := DataW.trod_int hi h2
    obtain ⟨z3, a3, b3, _⟩ := DataW.trod_int hi h3
    simp only [Prod.mk.injEq, curData, DataW.agg.injEq, List.map_cons, List.map_nil, List.cons.injEq, b0, b1, b2, b3, DataW.lit.injEq, Lit.string.injEq, Lit.int.injEq, true_and, and_true] at hx
    simp only [List.cons.injEq, and_true] at a0 a1 a2 a3
    obtain ⟨⟨q0, q1, q2, q3⟩, _⟩ := hx
    rw [a0, a1, a2, a3, ← bytes_eq q0, ← bytes_eq q1, ← q2, ← q3]
    rfl
theorem flat_of_rows : ∀ (l : List CurRow) (cs : List Value), cs.length = l.length * 4 → (∀ i (hi : i < l.length), (cs.drop (i * 4)).take 4 = curCells (l[i]'hi)) → cs = l.flatMap curCells
  | [], cs, h, _ => by simpa using h
  | r :: l, cs, h, hr => by
    have h0 := hr 0 (by simp)
    simp only [Nat.zero_mul, List.drop_zero, List.getElem_cons_zero] at h0
    rw [List.flatMap_cons, ← h0, ← flat_of_rows l (cs.drop 4) (by simp at h ⊢; omega) (fun i hi => by
      have := hr (i + 1) (by simpa using hi)
      rw [List.drop_drop, show 4 + i * 4 = (i + 1) * 4 by omega]
      simpa using this), List.take_append_drop]
def curVar : String := "loop.example/g00793/impl.currencies"
set_option maxRecDepth 100000 in
theorem tab_of_head {W : World} {rest : List (String × DataW Unit)} (h : laidMet P ((curVar, Rows.laid_loop_example_g00793_impl_currencies) :: rest) W) : Tab W := by
  obtain ⟨ps, ⟨g, t, cs, fuel, p, q, hg, ht, hvar, hd, _, _⟩, _⟩ := h
  have hg0 : P.globalNamed curVar = some 0 := by kernel_rfl
  have ht0 : (P.globals[0]?).map (·.type) = some T_20_impl_currency := by kernel_rfl
  obtain rfl := Option.some.inj (hg0.symm.trans hg)
  obtain rfl := Option.some.inj (ht0.symm.trans ht)
  have hu : P.underlying T_20_impl_currency = some (.array 20 T_impl_currency) := und_T_20_impl_currency
  have cC : P.cellsOf T_impl_currency = 4 := by kernel_rfl
  have cA : P.cellsOf T_20_impl_currency = 80 := by kernel_rfl
  obtain ⟨xs, m, rfl, hx, hlen, hxl, hf⟩ := DataW.trod_array hu hd
  rw [cA] at hlen
  have hdat : (Rows.laid_loop_example_g00793_impl_currencies : DataW Unit) = .agg (implTab.map curData) := by rfl
  rw [hdat] at hx
  simp only [Prod.mk.injEq, DataW.agg.injEq] at hx
  have hl := impl_length
  have hcs : cs.toList = implTab.flatMap curCells := by
    refine flat_of_rows implTab _ (by omega) fun i hi => ?_
    have h1 := hf i (by omega)
    rw [cC] at h1
    have h2 : (xs.map (·.1))[i]? = some (curData (implTab[i]'hi)) := by rw [← hx.1]; simp [hi]
    rw [List.getElem?_map] at h2
    cases h3 : xs[i]? with
    | none => rw [h3] at h2; cases h2
    | some x =>
      rw [h3] at h1 h2
      simp only [Option.map_some, Option.some.injEq] at h2
      obtain ⟨d, pp⟩ := x
      simp only at h2
      subst h2
      exact cur_cells h1
  intro i v hv
  have := World.var?_cell hg0 hvar i
  rw [Nat.zero_add, this, ← hv, ← hcs]
  simp
theorem tab_of_laid {W : World} (h : laidMetH P [(curVar, Rows.laid_loop_example_g00793_impl_currencies)] W) : Tab W := tab_of_head (rest := []) h
/-- a world for the witness: the settled one, the table laid in its variable -/
noncomputable def laidWorld (os : Os) (args : Array Value) : World :=
  { World.holding P os ⟨#[], args, []⟩ with heap := (World.holding P os ⟨#[], args, []⟩).heap.modify 0 fun
      | .cells _ t frozen => .cells ⟨implTab.flatMap curCells⟩ t frozen
      | o => o }
theorem trodVars_one {H : Type} {enc : TypeId × Value → H} {w : World} {sp : Nat → Bool} {n : String} {gs : List (DataW H)} {ps : List MemPlace} (h : DataW.TrodVars enc P w sp [n] gs ps) : ∃ g, gs = [g] := by
  match gs, h with
  | [g], _ => exact ⟨g, rfl⟩
  | g :: g2 :: r, h =>
    obtain ⟨_, _, _, _, _, _, _, _, _, _, h2, _⟩ := h
    exact h2.elim
end Go.Proofs.YtfemmmbkhhemaaaGreatDoor
