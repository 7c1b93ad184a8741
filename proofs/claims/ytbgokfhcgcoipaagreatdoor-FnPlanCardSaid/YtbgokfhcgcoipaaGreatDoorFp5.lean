/-
  Parts of the proof of fnPlan_holds: CNextRow, CPlanDone, CPushF, SxChan, GC, CPlanP, CRowX, CPlan, CPlanL, CLeastL, SxFlS, CLeastS, CDrawL, CFlat, CPlanSums, CFnPlanL, CMoneyOf, LY, CTextN, CText, CJoin, CRowText, CSame, SxRow, SxOpen, CByR, CRowAt, CKeep, CFnPlan, CTab, CTabP, CTabX.
  Conditions: none.
-/
import Derived.Conc.LoneCalls
import Derived.Shelf.Strings.Repeat
import Derived.Shelf.Strings.BuilderX
import Derived.Shelf.Strings.OnBuilder
import Derived.Shelf.Strconv.Itoa3
import Derived.Lib.SmallJoins
import Derived.Lib.AppendIntMem
import Derived.ProofKit
import Derived.Deep.Slices
import Derived.Test.YtbgokfhcgcoipaaGreatDoorRows
import Derived.OpenShut
import Derived.Lib.LaidTab
import Derived.Test.YtbgokfhcgcoipaaGreatDoorFp4
set_option linter.unusedVariables false
set_option linter.unusedSimpArgs false
namespace Go.ChangeShapes
end Go.ChangeShapes
namespace Go.Conc
end Go.Conc
namespace Go.RowKit
end Go.RowKit
namespace Go.Shelf
end Go.Shelf
namespace Go.WideShapes
end Go.WideShapes

namespace Go.Proofs.YtbgokfhcgcoipaaGreatDoor
open Go Go.Proofs.YtbgokfhcgcoipaaGreatDoor.Sx
def row0 : List D0 := [.str ByteArray.empty, .bool false, .ints [], .str ByteArray.empty, .bool false, .ints [], .str ByteArray.empty, .bool false, .ints []]
def rowOf (c : ByteArray) (i p l : Int) : List D0 := (.str c :: enc i) ++ ((.str c :: enc p) ++ (.str c :: enc l))
def lesser (d p : Int) : Int := if d < p then d else p
def nextT : List D0 -> List D0 -> List D0 -> Int -> Bool × List D0
  | [.str c, .bool b, .ints z], dr, [.str c2, .bool b2, .ints z2], mode =>
    if alk [.str c, .bool b, .ints z] [.str c2, .bool b2, .ints z2] && (!b && !b2) && ((taxOnT [.str c, .bool b, .ints z] dr mode).1 && moneyOk (.str c :: enc (ival [.bool b, .ints z] + moneyVal (taxOnT [.str c, .bool b, .ints z] dr mode).2.1))) then
      (true, rowOf c (moneyVal (taxOnT [.str c, .bool b, .ints z] dr mode).2.1) (lesser (ival [.bool b, .ints z] + moneyVal (taxOnT [.str c, .bool b, .ints z] dr mode).2.1) (ival [.bool b2, .ints z2])) (ival [.bool b, .ints z] + moneyVal (taxOnT [.str c, .bool b, .ints z] dr mode).2.1 - lesser (ival [.bool b, .ints z] + moneyVal (taxOnT [.str c, .bool b, .ints z] dr mode).2.1) (ival [.bool b2, .ints z2])))
    else (false, row0)
  | _, _, _, _ => (false, row0)
theorem own_row0 (W : World) (B : Nat) : Owns W B [.string ByteArray.empty, .bool false, .slice none 0 0, .string ByteArray.empty, .bool false, .slice none 0 0, .string ByteArray.empty, .bool false, .slice none 0 0] row0 [] :=
  Owns.append (own_money0 W B) (Owns.append (own_money0 W B) (own_money0 W B))
theorem moneyc (c : ByteArray) (i : Int) : (D0.str c :: enc i).map D0.code = [.str, .bool, .ints] := rfl
theorem sgn_neg {z : Int} : sgn z < 0 ↔ z < 0 := by unfold sgn; split <;> (try split) <;> omega
theorem lesser_lt {d p : Int} (h : d < p) : lesser d p = d := if_pos h
theorem lesser_ge {d p : Int} (h : ¬ d < p) : lesser d p = p := if_neg h
theorem alk_enc {c : ByteArray} {d p : Int} (h : moneyOk (.str c :: enc d) = true) (g : moneyOk (.str c :: enc p) = true) : alk (.str c :: enc d) (.str c :: enc p) = true := by
  have h' : moneyOk [.str c, .bool (decide (d < 0)), .ints (digs d.natAbs)] = true := h
  have g' : moneyOk [.str c, .bool (decide (p < 0)), .ints (digs p.natAbs)] = true := g
  show (moneyOk [.str c, .bool (decide (d < 0)), .ints (digs d.natAbs)] && (moneyOk [.str c, .bool (decide (p < 0)), .ints (digs p.natAbs)] && decide (c = c))) = true
  rw [h', g', decide_eq_true rfl]; rfl
theorem money_lim {c : ByteArray} {d : Int} (h : moneyOk (.str c :: enc d) = true) : d.natAbs <= 1000000000000000000000000000000000000 := by
  have := money_bound (c := c) (b := decide (d < 0)) (z := digs d.natAbs) h
  rwa [show ival [.bool (decide (d < 0)), .ints (digs d.natAbs)] = d from ival_enc d] at this
theorem money_len {c : ByteArray} {d : Int} (h : moneyOk (.str c :: enc d) = true) : (digs d.natAbs).length <= 4 := by
  have h' : (curKnown c && intOk (enc d) && decide ((digs d.natAbs).length <= 4)) = true := h
  rw [Bool.and_eq_true, decide_eq_true_eq] at h'
  exact h'.2
theorem money_cur {c : ByteArray} {d : Int} (h : moneyOk (.str c :: enc d) = true) : curKnown c = true := by
  have h' : (curKnown c && intOk (enc d) && decide ((digs d.natAbs).length <= 4)) = true := h
  rw [Bool.and_eq_true, Bool.and_eq_true] at h'
  exact h'.1.1
theorem money_str {c : ByteArray} {d : Int} (h : moneyOk (.str c :: enc d) = true) : c.size <= 50 := by
  have h1 : (implTab.all fun r => decide (r.1.size <= 50)) = true := by decide +kernel
  have h2 := money_cur h
  unfold curKnown curIn at h2
  rw [List.any_eq_true] at h2
  obtain ⟨r, hr, he⟩ := h2
  rw [List.all_eq_true] at h1
  have := of_decide_eq_true (h1 r hr)
  rwa [of_decide_eq_true he] at this
theorem money_less {c : ByteArray} {d e : Int} (h : moneyOk (.str c :: enc d) = true) (he : e.natAbs <= d.natAbs) : moneyOk (.str c :: enc e) = true := by
  have hl := digs_mono_len he
  have h4 := money_len h
  have h3 : (digs e.natAbs).length <= 4 := Nat.le_trans hl h4
  have h5 : intOk (enc e) = true := enc_ok (by omega)
  have h6 : curKnown c = true := money_cur h
  show (curKnown c && intOk (enc e) && decide ((digs e.natAbs).length <= 4)) = true
  rw [h5, h6, decide_eq_true h3]; rfl
theorem taxOnT_no {d0 d1 : List D0} {m : Int} : (taxOnT d0 d1 m).1 = false -> (taxOnT d0 d1 m).2.1 = zeroMoney := by
  unfold taxOnT
  split
  · split
    · intro h
      show rmMoney _ _ _ _ = _
      unfold rmMoney
      rw [show rmOk _ _ _ _ = false from h]; rfl
    · intro _; rfl
  · intro _; rfl
theorem redN_nn {n : Int} {d : Nat} (h : 0 <= n) : 0 <= redN n d := by unfold redN; rw [if_neg (by omega)]; exact Int.natCast_nonneg _
theorem taxOnT_yes {c : ByteArray} {b : Bool} {z : List Int} {d1 : List D0} {m : Int} (h : (taxOnT [.str c, .bool b, .ints z] d1 m).1 = true) (hb : b = false) : (taxOnT [.str c, .bool b, .ints z] d1 m).2.1 = .str c :: enc (moneyVal (taxOnT [.str c, .bool b, .ints z] d1 m).2.1) /\ moneyOk (.str c :: enc (moneyVal (taxOnT [.str c, .bool b, .ints z] d1 m).2.1)) = true /\ 0 <= moneyVal (taxOnT [.str c, .bool b, .ints z] d1 m).2.1 := by
  subst hb
  match d1, h with
  | [.bool b2, .ints z2, .int s], h =>
    have hh : (moneyOk [.str c, .bool false, .ints z] && taxOk [.bool b2, .ints z2, .int s]) = true := by
      rcases hq : (moneyOk [.str c, .bool false, .ints z] && taxOk [.bool b2, .ints z2, .int s]) with _ | _
      · simp only [taxOnT, hq, Bool.false_eq_true, if_false] at h
      · rfl
    have hok : moneyOk [.str c, .bool false, .ints z] = true := by rw [Bool.and_eq_true] at hh; exact hh.1
    obtain ⟨_, b', z', he, hcan, _⟩ := intOk_enc (moneyOk_int hok)
    simp only [List.cons.injEq, D0.bool.injEq, D0.ints.injEq, and_true] at he
    obtain ⟨rfl, rfl⟩ := he
    have hv : 0 <= ival [.bool false, .ints z] := by
      show 0 <= (if (false : Bool) = true then -(val z) else val z)
      exact val_nonneg hcan.1
    simp only [taxOnT, hh, if_true] at h ⊢
    have hm : rmMoney c (exN (ival [.bool false, .ints z]) (val z2).toNat s.toNat) (exD (ival [.bool false, .ints z]) (val z2).toNat s.toNat) m = .str c :: enc (rround (exN (ival [.bool false, .ints z]) (val z2).toNat s.toNat) (exD (ival [.bool false, .ints z]) (val z2).toNat s.toNat) m) := by unfold rmMoney; rw [h]; rfl
    have hn : 0 <= exN (ival [.bool false, .ints z]) (val z2).toNat s.toNat := redN_nn (Int.mul_nonneg hv (redN_nn (by omega)))
    rw [hm]
    have e : moneyVal (.str c :: enc (rround (exN (ival [.bool false, .ints z]) (val z2).toNat s.toNat) (exD (ival [.bool false, .ints z]) (val z2).toNat s.toNat) m)) = rround (exN (ival [.bool false, .ints z]) (val z2).toNat s.toNat) (exD (ival [.bool false, .ints z]) (val z2).toNat s.toNat) m := ival_enc _
    rw [e]
    simp only [rmOk, Bool.and_eq_true] at h
    refine ⟨rfl, h.2, ?_⟩
    unfold rround
    rw [if_neg (by omega)]
    omega
theorem impl_MoneyAdd_e {w : World} {xs ys : List Value} {c : ByteArray} {d p : Int} (h : Reps w xs (.str c :: enc d)) (g : Reps w ys (.str c :: enc p)) (okd : moneyOk (.str c :: enc d) = true) (okp : moneyOk (.str c :: enc p) = true) (ht : Tab w) :
    Ret P n_impl_MoneyAdd [.agg ⟨xs⟩, .agg ⟨ys⟩] w fun v w' => ∃ vs f, v = .tuple #[.agg ⟨vs⟩, .bool (moneyOk (.str c :: enc (d + p)))] /\ Owns w' w.heap.size vs (moneyMk c (d + p)) f /\ f.Nodup /\ Ext w w' := by
  have k := impl_MoneyAdd_n h g ht
  change Ret P _ _ _ (fun v w' => ∃ vs f, v = .tuple #[.agg ⟨vs⟩, .bool (mres (alk (.str c :: enc d) (.str c :: enc p)) c (ival (enc d) + ival (enc p))).1] /\ Owns w' w.heap.size vs (mres (alk (.str c :: enc d) (.str c :: enc p)) c (ival (enc d) + ival (enc p))).2 f /\ f.Nodup /\ Ext w w') at k
  rw [alk_enc okd okp, ival_enc, ival_enc] at k
  exact k
theorem impl_MoneySub_e {w : World} {xs ys : List Value} {c : ByteArray} {d p : Int} (h : Reps w xs (.str c :: enc d)) (g : Reps w ys (.str c :: enc p)) (okd : moneyOk (.str c :: enc d) = true) (okp : moneyOk (.str c :: enc p) = true) (ht : Tab w) :
    Ret P n_impl_MoneySub [.agg ⟨xs⟩, .agg ⟨ys⟩] w fun v w' => ∃ vs f, v = .tuple #[.agg ⟨vs⟩, .bool (moneyOk (.str c :: enc (d - p)))] /\ Owns w' w.heap.size vs (moneyMk c (d - p)) f /\ f.Nodup /\ Ext w w' := by
  have k := impl_MoneySub_n h g ht
  change Ret P _ _ _ (fun v w' => ∃ vs f, v = .tuple #[.agg ⟨vs⟩, .bool (mres (alk (.str c :: enc d) (.str c :: enc p)) c (ival (enc d) - ival (enc p))).1] /\ Owns w' w.heap.size vs (mres (alk (.str c :: enc d) (.str c :: enc p)) c (ival (enc d) - ival (enc p))).2 f /\ f.Nodup /\ Ext w w') at k
  rw [alk_enc okd okp, ival_enc, ival_enc] at k
  exact k
theorem impl_NextRow_j1_n {w W : World} {B r2 r3 r4 r6 : Nat} {vi vd vp : List Value} {c : ByteArray} {i d p : Int} {fi : List Nat} (X : Ext w W) (h2 : Blk W r2 T_impl_Money vp) (h3 : Blk W r3 T_impl_Row [.string ByteArray.empty, .bool false, .slice none 0 0, .string ByteArray.empty, .bool false, .slice none 0 0, .string ByteArray.empty, .bool false, .slice none 0 0]) (h4 : Blk W r4 T_impl_Money vi) (h6 : Blk W r6 T_impl_Money vd) (oi : Owns W B vi (.str c :: enc i) fi) (ndi : fi.Nodup) (hd : Reps W vd (.str c :: enc d)) (hp : Reps W vp (.str c :: enc p)) (okd : moneyOk (.str c :: enc d) = true) (okp : moneyOk (.str c :: enc p) = true) (okr : moneyOk (.str c :: enc (d - p)) = true) (hp0 : 0 <= p) (hr3 : w.heap.size <= r3) (hrB : r3 < B) (hB : B <= W.heap.size) (ht : Tab W) :
    impl_NextRow_j1 r2 r3 r4 r6 W (fun v w' => ∃ vs f, v = .tuple #[.agg ⟨vs⟩, .bool true] /\ Owns w' w.heap.size vs (rowOf c i p (d - p)) f /\ f.Nodup /\ Ext w w') := by
  have hpr := hp
  obtain ⟨i0, i1, ip, in_, ic, iz, rfl, _, _⟩ := open_Money oi.reps (moneyc c i)
  obtain ⟨d0, d1, dp, dn, dc, dz, rfl, _, _⟩ := open_Money hd (moneyc c d)
  obtain ⟨p0, p1, pp, pn, pc, pz, rfl, hpd, hpi⟩ := open_Money hp (moneyc c p)
  have l3 := h3.lt
  unfold impl_NextRow_j1
  refine ⟨_, _, _, _, _, h6.loadA0 (by kernel_rfl), _, _, _, _, _, h2.loadA0 (by kernel_rfl), ?_⟩
  refine Ret.at (impl_MoneySub_e hd hp okd okp ht) ?_
  rintro v w1 ⟨vs1, f1, hv, o1, nd1, y1⟩
  subst hv
  have l1 := y1.le
  have hmk : moneyMk c (d - p) = .str c :: enc (d - p) := by rw [moneyMk, if_pos okr]
  rw [hmk] at o1
  rw [okr]
  obtain ⟨m0, m1, mp, mn, mc, mz, rfl, _, _⟩ := open_Money o1.reps (moneyc c (d - p))
  refine ⟨_, _, _, _, _, _, rfl, ?_⟩
  intro r7 w2 hn2
  have e2 := hn2.r_eq; have s2 := hn2.size
  obtain ⟨w3, st3, hb3, y3⟩ := hn2.fill (P := P) (t := T_impl_Money) o1.reps.cells1 (by kernel_rfl) rfl
  have Y := (y1.trans y3).trans (Ext.drew w3)
  have lY := Y.le; have l3' := y3.le
  have D := Ext.drew w3
  refine ⟨w3, st3, ifN (fun hh => absurd hh (by simp)) (fun _ => ⟨_, _, _, _, _, fun W hW => ((h4.ext Y).ext hW).loadA0 (by kernel_rfl), _, _, _, _, _, fun W hW => ((h2.ext Y).ext hW).loadA0 (by kernel_rfl), ?_⟩)⟩
  refine Ret.at (impl_moneyCopy_c (hpr.ext Y) rfl (by
    have := money_len okp
    simp only [bulks, enc, D0.bulk, List.map_cons, List.map_nil, List.sum_cons, List.sum_nil]
    have hs := money_str okp
    omega)) ?_
  rintro v w5 ⟨vs5, f5, hv, o5, nd5, y5⟩
  subst hv
  obtain ⟨q0, q1, qp, qn, qc, qz, rfl, _, _⟩ := open_Money o5.reps (moneyc c p)
  refine ⟨_, _, _, _, _, rfl, y5, _, _, _, _, _, fun W hW => ((hb3.ext D).ext hW).loadA0 (by kernel_rfl), ?_⟩
  have o1' := (o1.ext ((y3.trans D).trans y5))
  have oi' := oi.ext (Y.trans y5)
  have all : Owns w5 B _ (rowOf c i p (d - p)) (fi ++ (f5 ++ f1)) := Owns.append oi' (Owns.append (o5.mono (by omega)) (o1'.mono (by omega)))
  have l5 := y5.le
  obtain ⟨W', st', ld', ow', xx', _, _⟩ := agg_end (t := T_impl_Row) ((h3.ext Y).ext y5) ((X.trans Y).trans y5) hr3 all (by kernel_rfl) rfl hrB (by omega)
  refine ⟨W', st', _, _, _, _, _, _, _, _, _, _, _, _, _, _, _, ld', _, _, rfl, ow', ?_, xx'⟩
  refine nodup_append ndi ?_ (m := W.heap.size) (fun k hk => (oi.lt k hk).2) (fun k hk => ?_)
  · have hh := nodup_append nd1 nd5 (m := w1.heap.size) (fun k hk => (o1.lt k hk).2) (fun k hk => by have := (o5.lt k hk).1; have := y3.le; have := D.le; omega)
    exact (List.perm_append_comm.nodup_iff).1 hh
  · rcases List.mem_append.1 hk with hk | hk
    · have := (o5.lt k hk).1; omega
    · have := (o1.lt k hk).1; omega
theorem impl_NextRow_o {w : World} {xs ys zs : List Value} {dx dr dp : List D0} (h : Reps w xs dx) (hc : dx.map D0.code = [.str, .bool, .ints]) (g : Reps w ys dr) (gc : dr.map D0.code = [.bool, .ints, .int]) (k : Reps w zs dp) (kc : dp.map D0.code = [.str, .bool, .ints]) (mode : Int) (ht : Tab w) :
    Ret P n_impl_NextRow [.agg ⟨xs⟩, .agg ⟨ys⟩, .agg ⟨zs⟩, .int .i64 mode] w fun v w' => ∃ vs f, v = .tuple #[.agg ⟨vs⟩, .bool (nextT dx dr dp mode).1] /\ Owns w' w.heap.size vs (nextT dx dr dp mode).2 f /\ f.Nodup /\ Ext w w' := by
  have hr := h; have gr := g; have kr := k
  obtain ⟨c, b, ap, an, ac, z, rfl, rfl, ha⟩ := open_Money h hc
  obtain ⟨d0, dp', dn, dc, dz, ds, rfl, rfl, hd⟩ := open_Dec g gc
  obtain ⟨c2, b2, bp, bn, bc, z2, rfl, rfl, hb⟩ := open_Money k kc
  refine impl_NextRow_ret ?_
  unfold impl_NextRow
  intro r w1 hn1 r1 w2 hn2 r2 w3 hn3 r3 w4 hn4
  have e1 := hn1.r_eq; have e2 := hn2.r_eq; have e3 := hn3.r_eq; have e4 := hn4.r_eq; have s1 := hn1.size; have s2 := hn2.size; have s3 := hn3.size; have s4 := hn4.size
  have X := ((hn1.ext.trans hn2.ext).trans hn3.ext).trans hn4.ext
  have q0 := ((hn1.blk.ext hn2.ext).ext hn3.ext).ext hn4.ext; have q1 := (hn2.blk.ext hn3.ext).ext hn4.ext; have q2 := hn3.blk.ext hn4.ext; have q3 := hn4.blk
  generalize hdr : [D0.bool d0, D0.ints dz, D0.int ds] = dr at gr gc ⊢
  have zero : ∀ W, Ext w W -> Blk W r3 T_impl_Row [.string ByteArray.empty, .bool false, .slice none 0 0, .string ByteArray.empty, .bool false, .slice none 0 0, .string ByteArray.empty, .bool false, .slice none 0 0] -> nextT [.str c, .bool b, .ints z] dr [.str c2, .bool b2, .ints z2] mode = (false, row0) -> ∃ W', Stores P T_impl_Row ⟨r3, 0, none⟩ (.agg ⟨[.string ByteArray.empty, .bool false, .slice none 0 0, .string ByteArray.empty, .bool false, .slice none 0 0, .string ByteArray.empty, .bool false, .slice none 0 0]⟩) W W' /\ ∃ (zsx : ByteArray) (zbx : Bool) (zpx : Option Addr) (znx : Nat) (zcx : Nat) (zsy : ByteArray) (zby : Bool) (zpy : Option Addr) (zny : Nat) (zcy : Nat) (zsz : ByteArray) (zbz : Bool) (zpz : Option Addr) (znz : Nat) (zcz : Nat), Loads P T_impl_Row ⟨r3, 0, none⟩ (.agg #[.string zsx, .bool zbx, .slice zpx znx zcx, .string zsy, .bool zby, .slice zpy zny zcy, .string zsz, .bool zbz, .slice zpz znz zcz]) W' /\ (fun (v : Value) (w' : World) => ∃ vs f, v = .tuple #[.agg ⟨vs⟩, .bool (nextT [.str c, .bool b, .ints z] dr [.str c2, .bool b2, .ints z2] mode).1] /\ Owns w' w.heap.size vs (nextT [.str c, .bool b, .ints z] dr [.str c2, .bool b2, .ints z2] mode).2 f /\ f.Nodup /\ Ext w w') (.tuple #[.agg #[.string zsx, .bool zbx, .slice zpx znx zcx, .string zsy, .bool zby, .slice zpy zny zcy, .string zsz, .bool zbz, .slice zpz znz zcz], .bool false]) W' := by
    intro W hW hq hres
    have lW := hW.le
    obtain ⟨W', st', ld', ow', xx', _, _⟩ := agg_end (t := T_impl_Row) hq hW (by omega) (own_row0 W (r3 + 1)) (by kernel_rfl) rfl (by omega) (by omega)
    rw [hres]
    exact ⟨W', st', _, _, _, _, _, _, _, _, _, _, _, _, _, _, _, ld', _, [], rfl, ow', List.nodup_nil, xx'⟩
  refine ⟨_, _, _, _, _, q0.loadA0 (by kernel_rfl), _, _, _, _, _, q2.loadA0 (by kernel_rfl), ?_⟩
  refine Ret.at (impl_alike_c (hr.ext X) (kr.ext X) (ht.ext X)) ?_
  rintro v w5 ⟨hv, y5⟩
  subst hv
  have l5 := y5.le
  have X5 := X.trans y5
  have q0 := q0.ext y5; have q1 := q1.ext y5; have q2 := q2.ext y5; have q3 := q3.ext y5
  have bad : nextT [.str c, .bool b, .ints z] dr [.str c2, .bool b2, .ints z2] mode ≠ (false, row0) -> alk [.str c, .bool b, .ints z] [.str c2, .bool b2, .ints z2] = true /\ b = false /\ b2 = false := by
    intro hne
    rcases hq : (alk [.str c, .bool b, .ints z] [.str c2, .bool b2, .ints z2] && (!b && !b2)) with _ | _
    · exact absurd (by simp only [nextT, hq, Bool.false_and, Bool.false_eq_true, if_false]) hne
    · simpa using hq
  refine ⟨_, rfl, ifN (fun hno => ifT (ifT (zero _ X5 q3 (Classical.byContradiction fun hne => by have := (bad hne).1; rw [hno] at this; cases this)))) (fun hal => ⟨_, q0.loadAt 1 rfl (by kernel_rfl) rfl, fun hb1 => ifT (zero _ X5 q3 (Classical.byContradiction fun hne => by have := (bad hne).2.1; rw [hb1] at this; cases this)), fun hb1 => ⟨_, q2.loadAt 1 rfl (by kernel_rfl) rfl, fun hb2 => zero _ X5 q3 (Classical.byContradiction fun hne => by have := (bad hne).2.2; rw [hb2] at this; cases this), fun hb2 => ?_⟩⟩)⟩
  obtain ⟨m1, m2, rfl⟩ := alk_parts hal
  subst hb1; subst hb2
  obtain ⟨En, _⟩ := intOk_enc (moneyOk_int m1); obtain ⟨Ep, _⟩ := intOk_enc (moneyOk_int m2)
  have hcomp : nextT [.str c, .bool false, .ints z] dr [.str c, .bool false, .ints z2] mode = if (taxOnT [.str c, .bool false, .ints z] dr mode).1 && moneyOk (.str c :: enc (ival [.bool false, .ints z] + moneyVal (taxOnT [.str c, .bool false, .ints z] dr mode).2.1)) then
      (true, rowOf c (moneyVal (taxOnT [.str c, .bool false, .ints z] dr mode).2.1) (lesser (ival [.bool false, .ints z] + moneyVal (taxOnT [.str c, .bool false, .ints z] dr mode).2.1) (ival [.bool false, .ints z2])) (ival [.bool false, .ints z] + moneyVal (taxOnT [.str c, .bool false, .ints z] dr mode).2.1 - lesser (ival [.bool false, .ints z] + moneyVal (taxOnT [.str c, .bool false, .ints z] dr mode).2.1) (ival [.bool false, .ints z2])))
    else (false, row0) := by
    simp only [nextT, hal, Bool.not_false, Bool.true_and, Bool.and_self]
  have En0 : 0 <= ival [.bool false, .ints z] := by
    obtain ⟨_, b', z', he, hcan, _⟩ := intOk_enc (moneyOk_int m1)
    simp only [List.cons.injEq, D0.bool.injEq, D0.ints.injEq, and_true] at he
    obtain ⟨rfl, rfl⟩ := he
    exact val_nonneg hcan.1
  have Ep0 : 0 <= ival [.bool false, .ints z2] := by
    obtain ⟨_, b', z', he, hcan, _⟩ := intOk_enc (moneyOk_int m2)
    simp only [List.cons.injEq, D0.bool.injEq, D0.ints.injEq, and_true] at he
    obtain ⟨rfl, rfl⟩ := he
    exact val_nonneg hcan.1
  have Mn : moneyOk (.str c :: enc (ival [.bool false, .ints z])) = true := by rw [<- En]; exact m1
  have Mp : moneyOk (.str c :: enc (ival [.bool false, .ints z2])) = true := by rw [<- Ep]; exact m2
  have hl : Reps w5 [.string c, .bool false, .slice ap an ac] (.str c :: enc (ival [.bool false, .ints z])) := by rw [<- En]; exact hr.ext X5
  have hp : Reps w5 [.string c, .bool false, .slice bp bn bc] (.str c :: enc (ival [.bool false, .ints z2])) := by rw [<- Ep]; exact kr.ext X5
  unfold impl_NextRow_j0
  refine ⟨_, _, _, _, _, q0.loadA0 (by kernel_rfl), _, _, _, _, _, q1.loadA0 (by kernel_rfl), ?_⟩
  refine Ret.at (impl_TaxOn_o (hr.ext X5) (gr.ext X5) rfl gc mode (ht.ext X5)) ?_
  have hno := @taxOnT_no [.str c, .bool false, .ints z] dr mode
  have hyes := @taxOnT_yes c false z dr mode
  have hfacts := taxOnT_facts [.str c, .bool false, .ints z] dr mode
  generalize taxOnT [.str c, .bool false, .ints z] dr mode = T at hno hyes hfacts hcomp
  rintro v w6 ⟨vs0, f0, vs1, f1, hv, o0, nd0, o1, _, _, y6⟩
  subst hv
  have l6 := y6.le
  obtain ⟨i0, i1, ip, in_, ic, iz, rfl, hT, _⟩ := open_Money o0.reps hfacts.1
  obtain ⟨u0, up, un, uc, uz, up2, un2, uc2, uz2, rfl, _, _, _⟩ := open_Rat o1.reps hfacts.2.2.1
  refine ⟨_, _, _, _, _, _, _, _, _, _, _, _, _, rfl, ?_⟩
  intro r4 w7 hn7 r5 w8 hn8
  have e7 := hn7.r_eq; have e8 := hn8.r_eq; have s7 := hn7.size; have s8 := hn8.size
  obtain ⟨w9, st9, b4, ch9, z9⟩ := (hn7.blk.ext hn8.ext).storeA0 (P := P) (t := T_impl_Money) (xs := [.string i0, .bool i1, .slice ip in_ ic]) (by kernel_rfl) rfl o0.reps.cells1
  obtain ⟨w10, st10, b5, ch10, z10⟩ := (hn8.blk.chg ch9 (by simp; omega)).storeA0 (P := P) (t := T_impl_Rat) (xs := [.bool u0, .slice up un uc, .slice up2 un2 uc2]) (by kernel_rfl) rfl o1.reps.cells1
  have Y10 : Ext w6 w10 := ((hn7.ext.trans hn8.ext).chg ch9 (by simp; omega)).chg ch10 (by simp; omega)
  have Y := y6.trans Y10
  have b4 := b4.chg ch10 (by simp; omega)
  have X10 := X5.trans Y
  have q0 := q0.ext Y; have q2 := q2.ext Y; have q3 := q3.ext Y
  have oi := o0.ext Y10
  have lY := Y.le
  refine ⟨w9, st9, w10, st10, ?_⟩
  refine ifN (fun hno1 => zero _ X10 q3 (by rw [hcomp]; simp only [hno1, Bool.false_and, Bool.and_false, Bool.false_eq_true, if_false])) (fun hyes1 => ?_)
  obtain ⟨EI, MI, hi0⟩ := hyes hyes1 rfl
  rw [EI] at oi
  generalize moneyVal T.2.1 = i at EI MI hi0 hcomp oi
  refine ⟨_, _, _, _, _, q0.loadA0 (by kernel_rfl), _, _, _, _, _, b4.loadA0 (by kernel_rfl), ?_⟩
  refine Ret.at (impl_MoneyAdd_e (hl.ext Y) oi.reps Mn MI (ht.ext X10)) ?_
  generalize ival [.bool false, .ints z] = N at hcomp Mn hl En0
  generalize ival [.bool false, .ints z2] = Q at hcomp Mp hp Ep0
  rintro v w11 ⟨vs2, f2, hv, o2, nd2, y11⟩
  subst hv
  have l11 := y11.le
  obtain ⟨m0, m1', mp, mn, mc, mz, rfl, _, _⟩ := open_Money o2.reps (moneyMk_code _ _)
  refine ⟨_, _, _, _, _, _, rfl, ?_⟩
  intro r6 w12 hn12
  have e12 := hn12.r_eq; have s12 := hn12.size
  obtain ⟨w13, st13, b6, y13⟩ := hn12.fill (P := P) (t := T_impl_Money) o2.reps.cells1 (by kernel_rfl) rfl
  have l13 := y13.le; have lb6 := b6.lt
  have Y13 := y11.trans y13
  have lY13 := Y13.le
  have X13 := X10.trans Y13
  have q2 := q2.ext Y13; have q3 := q3.ext Y13; have b4 := b4.ext Y13
  have oi := oi.ext Y13
  refine ⟨w13, st13, ifN (fun hno2 => zero _ X13 q3 (by rw [hcomp]; simp only [hno2, Bool.false_and, Bool.and_false, Bool.false_eq_true, if_false])) (fun hyes2 => ?_)⟩
  have hmk : moneyMk c (N + i) = .str c :: enc (N + i) := by rw [moneyMk, if_pos hyes2]
  rw [hmk] at o2
  have od := o2.ext y13
  have hp := hp.ext (Y.trans Y13)
  have hcomp : nextT [.str c, .bool false, .ints z] dr [.str c, .bool false, .ints z2] mode = (true, rowOf c i (lesser (N + i) Q) (N + i - lesser (N + i) Q)) := by
    rw [hcomp, hyes1, hyes2]; rfl
  rw [hcomp]
  have LD := money_lim hyes2; have LP := money_lim Mp
  have DD := money_len hyes2; have DP := money_len Mp
  refine ⟨_, _, _, _, b6.loadAAt 1 [.bool m1', .slice mp mn mc] rfl (by kernel_rfl) rfl, _, _, _, _, q2.loadAAt 1 [.bool false, .slice bp bn bc] rfl (by kernel_rfl) rfl, ?_⟩
  refine Ret.at (impl_intCmp_c od.reps.2 hp.2 (by omega) (by omega)) ?_
  rintro v w14 ⟨hv, y14⟩
  subst hv
  have l14 := y14.le
  have X14 := X13.trans y14
  have q2 := q2.ext y14; have q3 := q3.ext y14; have b4 := b4.ext y14; have b6 := b6.ext y14
  have oi := oi.ext y14; have od := od.ext y14; have hp := hp.ext y14
  refine ⟨_, rfl, ifD (fun hlt => ?_) (fun hge => ?_)⟩
  · have hlt' : N + i < Q := by have := sgn_neg.1 hlt; omega
    rw [lesser_lt hlt']
    obtain ⟨w15, st15, b2', ch15, z15⟩ := q2.storeA0 (P := P) (t := T_impl_Money) (xs := [.string m0, .bool m1', .slice mp mn mc]) (by kernel_rfl) rfl od.reps.cells1
    refine ⟨_, _, _, _, _, b6.loadA0 (by kernel_rfl), w15, st15, ?_⟩
    have X15 := X14.chg ch15 (by simp; omega)
    have od' := od.chg1 ch15 (by omega)
    exact impl_NextRow_j1_n X15 b2' (q3.chg ch15 (by simp; omega)) (b4.chg ch15 (by simp; omega)) (b6.chg ch15 (by simp; omega)) (oi.chg1 ch15 (by omega)) nd0 od'.reps od'.reps hyes2 hyes2 (money_less hyes2 (by omega)) (by omega) (by omega) (by omega) (by omega) (ht.ext X15)
  · have hge' : ¬ N + i < Q := by have := mt sgn_neg.2 hge; omega
    rw [lesser_ge hge']
    exact impl_NextRow_j1_n X14 q2 q3 b4 b6 oi nd0 od.reps hp hyes2 Mp (money_less hyes2 (by omega)) (by omega) (by omega) (by omega) (by omega) (ht.ext X14)
theorem rowOf_code (c : ByteArray) (i p l : Int) : (rowOf c i p l).map D0.code = [.str, .bool, .ints, .str, .bool, .ints, .str, .bool, .ints] := rfl
theorem nextT_code (dx dr dp : List D0) (m : Int) : (nextT dx dr dp m).2.map D0.code = [.str, .bool, .ints, .str, .bool, .ints, .str, .bool, .ints] := by
  unfold nextT
  split
  · split
    · exact rowOf_code _ _ _ _
    · rfl
  · rfl
theorem nextT_cnt (dx dr dp : List D0) (m : Int) : tcnts (nextT dx dr dp m).2 <= 1000000000 := by
  unfold nextT
  split
  · split
    · rename_i c b z c2 b2 z2 h
      simp only [Bool.and_eq_true, Bool.not_eq_true'] at h
      obtain ⟨⟨hal, hb, hb2⟩, ht, hm⟩ := h
      have h1 := (taxOnT_yes ht hb).2.1
      obtain ⟨m1, m2, _⟩ := alk_parts hal
      have h1 := money_len h1; have h3 := money_len hm
      have g2 : (digs (ival [.bool b2, .ints z2]).natAbs).length <= 4 := by
        have := (intOk_enc (moneyOk_int m2)).1
        have hh := m2
        rw [this] at hh
        exact money_len hh
      have LD := money_lim hm
      have LQ := money_bound m2
      subst hb2
      generalize ival [.bool b, .ints z] + moneyVal (taxOnT [.str c, .bool b, .ints z] dr m).2.1 = N at *
      generalize ival [.bool false, .ints z2] = Q at *
      have hs : (digs (lesser N Q).natAbs).length <= 6 /\ (digs (N - lesser N Q).natAbs).length <= 6 := by
        unfold lesser
        split <;> exact ⟨digs_len_le (by omega), digs_len_le (by omega)⟩
      show tcnts (rowOf _ _ _ _) <= _
      simp only [rowOf, enc, tcnts, List.cons_append, List.nil_append]
      omega
    · decide
  · decide
theorem impl_NextRow_c {w : World} {xs ys zs : List Value} {dx dr dp : List D0} (h : Reps w xs dx) (hc : dx.map D0.code = [.str, .bool, .ints]) (g : Reps w ys dr) (gc : dr.map D0.code = [.bool, .ints, .int]) (k : Reps w zs dp) (kc : dp.map D0.code = [.str, .bool, .ints]) (mode : Int) (ht : Tab w) :
    Ret P n_impl_NextRow [.agg ⟨xs⟩, .agg ⟨ys⟩, .agg ⟨zs⟩, .int .i64 mode] w fun v w' => ∃ vs f, v = .tuple #[.agg ⟨vs⟩, .bool (nextT dx dr dp mode).1] /\ Owns w' w.heap.size vs (nextT dx dr dp mode).2 f /\ f.Nodup /\ (nextT dx dr dp mode).2.map D0.code = [.str, .bool, .ints, .str, .bool, .ints, .str, .bool, .ints] /\ tcnts (nextT dx dr dp mode).2 <= 1000000000 /\ Ext w w' :=
  (impl_NextRow_o h hc g gc k kc mode ht).mono fun v w' ⟨vs, f, hv, ho, hn, hx⟩ => ⟨vs, f, hv, ho, hn, nextT_code dx dr dp mode, nextT_cnt dx dr dp mode, hx⟩
end Go.Proofs.YtbgokfhcgcoipaaGreatDoor
namespace Go.Proofs.YtbgokfhcgcoipaaGreatDoor
open Go Go.Proofs.YtbgokfhcgcoipaaGreatDoor.Sx
def planDone (l : List (List D0)) : Bool := match l.getLast? with
  | some x => intOk (x.drop 7) && decide (isign (x.drop 7) = 0)
  | none => false
theorem rowLast {w : World} {p : Option Addr} {n c : Nat} {l : List (List D0)} (h : RowsR w 9 p n c l) (hc : ∀ x ∈ l, x.map D0.code = [.str, .bool, .ints, .str, .bool, .ints, .str, .bool, .ints]) (hn : 0 < n) :
    ∃ b o s0 b0 p2 n2 c2 z2, p = some ⟨b, o, none⟩ /\ IntsR w p2 n2 c2 z2 /\ (l.getLast?.map fun x => x.drop 6) = some [.str s0, .bool b0, .ints z2] /\ Seg w b (o + (n - 1) * 9 + 6) [.string s0, .bool b0, .slice p2 n2 c2] := by
  have hz := h.1
  obtain ⟨b, o, hp, hs⟩ := h.2.2.2 hn
  have hi : n - 1 < l.length := by omega
  obtain ⟨cs, hk, hr, hseg⟩ := hs (n - 1) l[n - 1] (List.getElem?_eq_getElem hi)
  obtain ⟨a0, a1, a2p, a2n, a2c, a2z, a3, a4, a5p, a5n, a5c, a5z, a6, a7, a8p, a8n, a8c, a8z, rfl, hd, h2, h5, h8⟩ := open_Row hr (hc _ (List.getElem_mem hi))
  refine ⟨b, o, a6, a7, a8p, a8n, a8c, a8z, hp, h8, ?_, hseg.drop 6⟩
  rw [List.getLast?_eq_getElem?, show l.length - 1 = n - 1 by omega, List.getElem?_eq_getElem hi, hd]
  rfl
theorem planDone_eq {l : List (List D0)} {s : ByteArray} {b : Bool} {z : List Int} (h : (l.getLast?.map fun x => x.drop 6) = some [.str s, .bool b, .ints z]) : planDone l = (intOk [.bool b, .ints z] && decide (isign [.bool b, .ints z] = 0)) := by
  unfold planDone
  cases hl : l.getLast? with
  | none => rw [hl] at h; cases h
  | some x =>
    rw [hl] at h
    simp only [Option.map_some, Option.some.injEq] at h
    have : x.drop 7 = [.bool b, .ints z] := by
      have := congrArg (List.drop 1) h
      simpa using this
    simp only [this]
theorem impl_isZero_c {w : World} {xs : List Value} {s : ByteArray} {b : Bool} {z : List Int} (h : Reps w xs [.str s, .bool b, .ints z]) :
    Ret P n_impl_isZero [.agg ⟨xs⟩] w fun v w' => v = .bool (intOk [.bool b, .ints z] && decide (isign [.bool b, .ints z] = 0)) /\ Ext w w' := by
  obtain ⟨a0, a1, a2p, a2n, a2c, a2z, rfl, hd, ha⟩ := open_Money h rfl
  cases hd
  refine impl_isZero_ret ?_
  unfold impl_isZero
  intro r w1 hn
  refine ⟨_, _, _, _, hn.blk.loadAAt 1 [.bool b, .slice a2p a2n a2c] rfl (by kernel_rfl) rfl, ?_⟩
  refine Ret.at (impl_IntOk_c (dx := [.bool b, .ints z]) ⟨rfl, ⟨_, _, _, rfl, ha.ext hn.ext⟩, trivial⟩ rfl) ?_
  rintro v w2 ⟨hv, y⟩
  subst hv
  have x := hn.ext.trans y
  refine ⟨_, rfl, fun e => ⟨_, _, _, (hn.blk.ext y).loadAt 2 rfl (by kernel_rfl) rfl, ?_, x⟩, fun e => ⟨by rw [e]; rfl, x⟩⟩
  rw [e]
  congr 1
  have hl := ha.1
  simp only [Bool.true_and, isign, e]
  cases z with
  | nil => simp at hl; simp [<- hl]
  | cons q qs =>
    simp at hl
    cases b <;> simp [<- hl] <;> omega
theorem impl_PlanDone_c {w : World} {p : Option Addr} {n c : Nat} {l : List (List D0)} (h : RowsR w 9 p n c l) (hc : ∀ x ∈ l, x.map D0.code = [.str, .bool, .ints, .str, .bool, .ints, .str, .bool, .ints]) :
    Ret P n_impl_PlanDone [.slice p n c] w fun v w' => v = .bool (planDone l) /\ Ext w w' := by
  refine impl_PlanDone_ret ?_
  unfold impl_PlanDone
  have hz := h.1; have hcap := h.2.1; have hcm := h.2.2.1
  refine ifD (fun hpos => ?_) (fun h0 => ⟨?_, Ext.refl _⟩)
  · obtain ⟨b, o, s0, b0, p2, n2, c2, z2, rfl, hi, hlast, hseg⟩ := rowLast h hc (by omega)
    have e : ((n : Int) - 1).toNat = n - 1 := by omega
    have ea : (((⟨b, o, none⟩ : Addr).add (((n : Int) - 1).toNat * 9)).add 6) = ⟨b, (o + (n - 1) * 9 + 6) + 0, none⟩ := by rw [addr_add, addr_add, e]
    refine exW ⟨by omega, by omega⟩ ⟨⟨by omega, by omega⟩, _, _, _, _, _, hseg.loadAAt 0 [.string s0, .bool b0, .slice p2 n2 c2] ea (by kernel_rfl) rfl, ?_⟩
    refine Ret.at (impl_isZero_c (s := s0) (b := b0) (z := z2) ⟨rfl, rfl, ⟨_, _, _, rfl, hi⟩, trivial⟩) ?_
    rintro v w1 ⟨hv, y⟩
    subst hv
    exact ⟨_, rfl, by rw [planDone_eq hlast], y⟩
  · have : l = [] := List.eq_nil_of_length_eq_zero (by omega)
    subst this; rfl
end Go.Proofs.YtbgokfhcgcoipaaGreatDoor
namespace Go.Proofs.YtbgokfhcgcoipaaGreatDoor
open Go Go.Proofs.YtbgokfhcgcoipaaGreatDoor.Sx
theorem OwnRows_pushG {P : Program} {w : World} {B : Nat} {t e : TypeId} {z : Value} {k bytes : Nat} {p : Option Addr} {n c r : Nat} {l : List (List D0)} {f fx : List Nat} {cs : List Value} {x : List D0} (h : OwnRows w B e k p n c l f)
    (hT : sliceT P t e z k bytes) (hb : B <= w.heap.size) (hr : Blk w r e cs) (hl : cs.length = k) (ho : Owns w B cs x fx) (hfx : fx.Nodup) (hdis : ∀ q ∈ fx, q ∉ f)
    (hbytes : (n + 1) * bytes <= 140737488355328) (hby : 1 <= bytes) :
    ∃ p' c' w' f', Appends P [t, t] [.slice p n c, .slice (some ⟨r, 0, none⟩) 1 1] (.slice p' (n + 1) c') w w' /\ OwnRows w' B e k p' (n + 1) c' (l ++ [x]) f' /\ Chg (p.map (·.block)).toList w w' /\
      (∀ q ∈ f', q ∈ f ∨ q ∈ fx ∨ w.heap.size <= q) /\ (p'.map (·.block) = p.map (·.block) ∨ ∀ q, p'.map (·.block) = some q -> w.heap.size <= q) := by
  obtain ⟨hln, css, fs, ha, hown, rfl, hnd⟩ := h
  obtain ⟨p', c', w', hrun, hown', hch, hp⟩ := hown.push1 hT hb hr hl ho.reps.cells1 hbytes hby
  have hpl : ∀ q ∈ (p.map (·.block)).toList, B <= q := fun q hq => (World.ownsRow.lt hown q (by cases p <;> simp_all [Value.ownBlock])).1
  have hnd1 := (List.nodup_append.1 hnd)
  have hpin : ∀ q ∈ fs.flatten, q ∉ (p.map (·.block)).toList := fun q hq hm => hnd1.2.2 q hm q hq rfl
  have hpx : ∀ q ∈ fx, q ∉ (p.map (·.block)).toList := fun q hq hm => hdis q hq (List.mem_append_left _ hm)
  have hlt : ∀ q ∈ fs.flatten ++ fx, q < w.heap.size := fun q hq => by
    rcases List.mem_append.1 hq with hq | hq
    · exact (ha.lt q hq).2
    · exact (ho.lt q hq).2
  have e : (fs ++ [fx]).flatten = fs.flatten ++ fx := by simp
  refine ⟨p', c', w', (p'.map (·.block)).toList ++ (fs ++ [fx]).flatten, hrun, ⟨by simp [hln], css ++ [cs], fs ++ [fx], (ha.chg hch hpin).snoc hl (ho.chg hch hpx), by simpa using hown', rfl, ?_⟩, hch, fun q hq => ?_, hp⟩
  rotate_left
  · rw [e] at hq
    rcases List.mem_append.1 hq with hq | hq
    · have hpa := opt_mem hq
      rcases hp with hp | hp
      · rw [hp] at hpa
        exact .inl (List.mem_append_left _ (mem_opt hpa))
      · exact .inr (.inr (hp q hpa))
    · rcases List.mem_append.1 hq with hq | hq
      · exact .inl (List.mem_append_right _ hq)
      · exact .inr (.inl hq)
  rw [e, List.nodup_append]
  refine ⟨by cases p' <;> simp, ?_, ?_⟩
  · rw [List.nodup_append]
    exact ⟨hnd1.2.1, hfx, fun a ha b hb e => hdis b hb (by rw [<- e]; exact List.mem_append_right _ ha)⟩
  · intro a ha b hb hab
    subst hab
    have hpa := opt_mem ha
    rcases hp with hp | hp
    · rw [hp] at hpa
      have ham : a ∈ (p.map (·.block)).toList := mem_opt hpa
      rcases List.mem_append.1 hb with hb | hb
      · exact hpin a hb ham
      · exact hpx a hb ham
    · have := hp a hpa
      have := hlt a hb
      omega
theorem OwnRows_pushF {P : Program} {w : World} {B : Nat} {t e : TypeId} {z : Value} {k bytes : Nat} {p : Option Addr} {n c r : Nat} {l : List (List D0)} {f fx : List Nat} {cs : List Value} {x : List D0} (h : OwnRows w B e k p n c l f)
    (hT : sliceT P t e z k bytes) (hb : B <= w.heap.size) (hr : Blk w r e cs) (hl : cs.length = k) (ho : Owns w B cs x fx) (hfx : fx.Nodup) (hdis : ∀ q ∈ fx, q ∉ f)
    (hbytes : (n + 1) * bytes <= 140737488355328) (hby : 1 <= bytes) :
    ∃ p' c' w' f', Appends P [t, t] [.slice p n c, .slice (some ⟨r, 0, none⟩) 1 1] (.slice p' (n + 1) c') w w' /\ OwnRows w' B e k p' (n + 1) c' (l ++ [x]) f' /\ Chg (p.map (·.block)).toList w w' /\
      (∀ q ∈ f', q ∈ f ∨ q ∈ fx ∨ w.heap.size <= q) := by
  obtain ⟨p', c', w', f', h1, h2, h3, h4, _⟩ := OwnRows_pushG h hT hb hr hl ho hfx hdis hbytes hby
  exact ⟨p', c', w', f', h1, h2, h3, h4⟩
end Go.Proofs.YtbgokfhcgcoipaaGreatDoor
namespace Go.Proofs.YtbgokfhcgcoipaaGreatDoor.Sx
open Go Go.RowKit Go.Conc
def wpB (P : Program) (c : Code) (Q : Exit -> Act -> World -> Prop) (a : Act) (w : World) : Prop :=
 ∀ b : Frame, b.kind ≠ .early -> ∀ (k : List Item) (cs : List Frame), ∃ e a' w', Q e a' w' /\ Arrives P (lone (b.at a (.code c :: k)) cs w) b k cs e a' w'
def wpR (P : Program) (ops : Array Oper) (l : List Nat) (Q : Exit -> Act -> World -> Prop) (a : Act) (w : World) : Prop :=
 ∀ b : Frame, b.kind ≠ .early -> ∀ (k : List Item) (cs : List Frame), ∃ e a' w', Q e a' w' /\ Arrives P (lone (b.at a (.inRegion ops l :: k)) cs w) b k cs e a' w'
section
variable {P : Program} {Q : Exit -> Act -> World -> Prop} {a : Act} {w : World}
theorem wpB_of_wp {c : Code} (h : c.wp P Q a w) : wpB P c Q a w := fun b _ k cs => h b k cs
theorem wpB_mono {c : Code} {Q' : Exit -> Act -> World -> Prop} (h : wpB P c Q a w) (hq : ∀ e a w, Q e a w -> Q' e a w) : wpB P c Q' a w :=
  fun b hb k cs => let ⟨e, a', w', q, r⟩ := h b hb k cs; ⟨e, a', w', hq _ _ _ q, r⟩
theorem wpB_seq {x y : Code} (h : wpB P x (Exit.then (wpB P y Q) Q) a w) : wpB P (.seq x y) Q a w := by
  intro b hb k cs
  obtain ⟨e, a1, w1, hq, har⟩ := h b hb (.code y :: k) cs
  have st := step_seq (P := P) (b := b) (a := a) (k := k) (cs := cs) (w := w) (x := x) (y := y)
  by_cases he : e = .normal
  · subst he
    obtain ⟨e2, a2, w2, hq2, h2⟩ := hq b hb k cs
    exact ⟨e2, a2, w2, hq2, .of_steps (.head st har) h2⟩
  · refine ⟨e, a1, w1, ?_, .of_steps (.one st) (.pass (x := .code y) rfl (fun _ _ => .inl he) har)⟩
    cases e <;> first | exact absurd rfl he | exact hq
theorem wpB_cond {c : Operand} {x y : Code} {t : Bool} (hc : a.eval c = .bool t) (ht : t = true -> wpB P x Q a w) (hf : t = false -> wpB P y Q a w) : wpB P (.cond c x y) Q a w := by
  intro b hb k cs
  have st := step_cond (P := P) (b := b) (k := k) (cs := cs) (w := w) (x := x) (y := y) hc
  cases t with
  | true => obtain ⟨e, a1, w1, hq, har⟩ := ht rfl b hb k cs; exact ⟨e, a1, w1, hq, .of_steps (.one st) har⟩
  | false => obtain ⟨e, a1, w1, hq, har⟩ := hf rfl b hb k cs; exact ⟨e, a1, w1, hq, .of_steps (.one st) har⟩
theorem wpB_block {id : Nat} {c : Code} (h : wpB P c (Exit.inBlock id Q) a w) : wpB P (.block id c) Q a w := by
  intro b hb k cs
  obtain ⟨e, a1, w1, hq, har⟩ := h b hb (.inBlock id :: k) cs
  have st := step_block (P := P) (b := b) (a := a) (k := k) (cs := cs) (w := w) (id := id) (c := c)
  cases e with
  | normal => exact ⟨.normal, a1, w1, hq, .head st (Steps.trans har (.one step_inBlock))⟩
  | exit id' =>
    simp only [Exit.inBlock] at hq
    by_cases hid : id' = id
    · rw [if_pos hid] at hq
      exact ⟨.normal, a1, w1, hq, .head st (har k (by simp [exitTo, hid]))⟩
    · rw [if_neg hid] at hq
      have hne : (id == id') = false := by
        rw [beq_eq_false_iff_ne]; exact fun e => hid e.symm
      exact ⟨.exit id', a1, w1, hq, fun k' hk => .head st (har k' (by simp [exitTo, hne, hk]))⟩
  | goto l => exact ⟨.goto l, a1, w1, hq, fun k' hk => .head st (har k' (by simp [gotoIn, hk]))⟩
  | ret => exact ⟨.ret, a1, w1, hq, .of_steps (.one st) har⟩
  | panic ch => exact ⟨.panic ch, a1, w1, hq, .of_steps (.one st) har⟩
  | outgrown => exact ⟨.outgrown, a1, w1, hq, .of_steps (b := b) (k := k) (cs := cs) (e := .outgrown) (.one st) har⟩
theorem wpB_scope {c : Code} (h : wpB P c (Exit.noGoto Q) a w) : wpB P (.scope c) Q a w := by
  intro b hb k cs
  obtain ⟨e, a1, w1, hq, har⟩ := h b hb (.inScope c :: k) cs
  have st := step_scope (P := P) (b := b) (a := a) (k := k) (cs := cs) (w := w) (c := c)
  cases e with
  | normal => exact ⟨.normal, a1, w1, hq, .head st (Steps.trans har (.one step_inScope))⟩
  | exit id => exact ⟨.exit id, a1, w1, hq, fun k' hk => .head st (har k' (by simp [exitTo, hk]))⟩
  | goto l => exact hq.elim
  | ret => exact ⟨.ret, a1, w1, hq, .of_steps (.one st) har⟩
  | panic ch => exact ⟨.panic ch, a1, w1, hq, .of_steps (.one st) har⟩
  | outgrown => exact ⟨.outgrown, a1, w1, hq, .of_steps (b := b) (k := k) (cs := cs) (e := .outgrown) (.one st) har⟩
theorem wpB_loop {c : Code} (I : Act -> World -> Prop) (μ : Act -> World -> Nat) (h0 : I a w)
    (round : ∀ a w, I a w -> wpB P c (Exit.then (fun a' w' => I a' w' /\ μ a' w' < μ a w) Q) a w) : wpB P (.loop c) Q a w := by
  intro b hb k cs
  have key : ∀ n a w, μ a w < n -> I a w -> ∃ e a' w', Q e a' w' /\ Arrives P (lone (b.at a (.code c :: .inLoop c :: k)) cs w) b k cs e a' w' := by
    intro n
    induction n with
    | zero => intro a w h; omega
    | succ n ih =>
      intro a w hn hI
      obtain ⟨e, a1, w1, hq, har⟩ := round a w hI b hb (.inLoop c :: k) cs
      by_cases he : e = .normal
      · subst he
        obtain ⟨e2, a2, w2, hq2, h2⟩ := ih a1 w1 (by have := hq.2; omega) hq.1
        exact ⟨e2, a2, w2, hq2, .of_steps (Steps.trans har (.one step_inLoop)) h2⟩
      · refine ⟨e, a1, w1, ?_, .pass (x := .inLoop c) rfl (fun _ _ => .inl he) har⟩
        cases e <;> first | exact absurd rfl he | exact hq
  obtain ⟨e, a', w', hq, h⟩ := key _ a w (Nat.lt_succ_self _) h0
  exact ⟨e, a', w', hq, .of_steps (.one step_loop) h⟩
theorem wpB_region {id : Nat} {ops : Array Oper} (h : wpR P ops (List.range ops.size) Q a w) : wpB P (.region id ops false) Q a w :=
  fun b hb k cs => let ⟨e, a', w', q, r⟩ := h b hb k cs; ⟨e, a', w', q, .of_steps (.one step_region) r⟩
theorem wpR_nil {ops : Array Oper} (h : Q .normal a w) : wpR P ops [] Q a w := fun b hb k cs => ⟨.normal, a, w, h, .one step_region_end⟩
theorem wpR_skip {ops : Array Oper} {i : Nat} {rest : List Nat} {o : Oper} (ho : ops[i]? = some o) (hw : Region.wanted o (yielded ops a.tmps) = false) (h : wpR P ops rest Q (a.put o.dst undef) w) : wpR P ops (i :: rest) Q a w := by
  intro b hb k cs
  obtain ⟨e, a', w', q, r⟩ := h b hb k cs
  have st := step_op_skip (P := P) (b := b) (a := a) (k := k) (cs := cs) (w := w) (ops := ops) (i := i) (rest := rest) (by rw [ho]; simpa using hw)
  rw [ho] at st
  exact ⟨e, a', w', q, .of_steps (.one st) r⟩
theorem fin_at {b : Frame} {ops : Array Oper} {i : Nat} {rest : List Nat} {k : List Item} {o : Oper} (ho : ops[i]? = some o) (v : Value) : (b.at a (.inRegion ops (i :: rest) :: k)).finish v = b.at (a.put o.dst v) (.inRegion ops rest :: k) := by
  rw [Frame.finish_at, ho]; rfl
theorem wpR_goes {N : Nat} {φ : Fr} {ops : Array Oper} {i : Nat} {rest : List Nat} {o : Oper} (hf : Fits N φ a) (ho : ops[i]? = some o) (hw : Region.wanted o (yielded ops a.tmps) = true)
    (h : Goes P φ o w fun v w' => wpR P ops rest Q (a.put o.dst v) w') : wpR P ops (i :: rest) Q a w := by
  intro b hb k cs
  have hg := stepG_op (P := P) (b := b) (a := a) (k := k) (cs := cs) (w := w) (rest := rest) ho hw
  rw [hf.eval] at hg
  have done : ∀ v w', wpR P ops rest Q (a.put o.dst v) w' -> step P (lone (b.at a (.inRegion ops (i :: rest) :: k)) cs w) = .next (lone (b.at (a.put o.dst v) (.inRegion ops rest :: k)) cs w') ->
      ∃ e a' w2, Q e a' w2 /\ Arrives P (lone (b.at a (.inRegion ops (i :: rest) :: k)) cs w) b k cs e a' w2 := by
    intro v w' hk st
    obtain ⟨e, a', w2, q, r⟩ := hk b hb k cs
    exact ⟨e, a', w2, q, .of_steps (.one st) r⟩
  cases h with
  | value v w' hr hk =>
    refine done v w' hk (step_lone_go ?_)
    rw [hg, <- fin_at ho]; simp [stepG.apply, hr]
  | skip w' hr hk =>
    refine done undef w' hk (step_lone_go ?_)
    rw [hg, <- fin_at ho]; simp [stepG.apply, hr]
  | enter g args hr hk =>
    obtain ⟨e, w2, fr, ⟨v, rfl, hR⟩, hsteps, _, hleave⟩ := hk (b.at a (.inRegion ops (i :: rest) :: k) :: cs)
    have henter : step P (lone (b.at a (.inRegion ops (i :: rest) :: k)) cs w) = .next (lone (Frame.enter P g args .normal) (b.at a (.inRegion ops (i :: rest) :: k) :: cs) w) :=
      step_lone_go (by rw [hg]; simp [stepG.apply, hr, Frame.at])
    obtain ⟨e, a', w3, q, r⟩ := hR b hb k cs
    refine ⟨e, a', w3, q, .of_steps (.head henter (Steps.trans hsteps (.one ?_))) r⟩
    rw [<- fin_at ho]; exact step_leave_returned hleave
def Sends (ch x : Value) (w w' : World) : Prop :=
 ∃ c cap buf s r tm, ch = .chan (some c) /\ w.heap[c]? = some (.chan cap buf false s r tm) /\ buf.size < cap /\ w' = w.setChan c cap (buf.push x) false (s + 1) r tm
def Recvs (ch z : Value) (ok : Bool) (v : Value) (w w' : World) : Prop :=
 ∃ c, ch = .chan (some c) /\ ((∃ cap buf closed s r tm, w.heap[c]? = some (.chan cap buf closed s r tm) /\ 0 < buf.size /\ v = got ok (buf.getD 0 undef) true /\ w' = w.setChan c cap (buf.extract 1 buf.size) closed s (r + 1) tm) ∨
 ∃ cap s r tm, w.heap[c]? = some (.chan cap #[] true s r tm) /\ v = got ok z false /\ w' = w)
def Closes (ch : Value) (w w' : World) : Prop :=
 ∃ c cap buf s r tm, ch = .chan (some c) /\ w.heap[c]? = some (.chan cap buf false s r tm) /\ w' = w.setChan c cap buf true s r tm
theorem wpR_send {N : Nat} {φ : Fr} {ops : Array Oper} {i : Nat} {rest : List Nat} {o : Oper} {ch x : Operand} {w' : World} (hf : Fits N φ a) (ho : ops[i]? = some o) (hw : Region.wanted o (yielded ops a.tmps) = true) (hop : o.op = .send ch x)
    (hs : Sends (ev φ ch) (ev φ x) w w') (h : wpR P ops rest Q (a.put o.dst undef) w') : wpR P ops (i :: rest) Q a w := by
  intro b hb k cs
  obtain ⟨c, cap, buf, s, r, tm, e1, hc, hroom, rfl⟩ := hs
  obtain ⟨e, a', w2, q, har⟩ := h b hb k cs
  have hrun : (execOp a.eval o).run P w = .ok (.comm #[scase c (ev φ x) (.tuple #[])] true .send) w := by
    rw [hf.eval]
    obtain ⟨dst, op, ty, pos, after, guard⟩ := o
    simp only at hop
    subst hop
    simp only [execOp, e1, scase, Sem.run_pure]
  have st := step_lone_send_room (stepG_comm (P := P) (main := true) (b := b) (a := a) (k := k) (cs := cs) (rest := rest) ho hw hb hrun) hc hroom
  rw [fin_at ho] at st
  exact ⟨e, a', w2, q, .of_steps (.one st) har⟩
theorem wpR_recv {N : Nat} {φ : Fr} {ops : Array Oper} {i : Nat} {rest : List Nat} {o : Oper} {t e : TypeId} {d : ChanDir} {inf : TypeInfo} {z : Value} {ch : Operand} {ok : Bool} {v : Value} {w' : World} (hf : Fits N φ a) (ho : ops[i]? = some o) (hw : Region.wanted o (yielded ops a.tmps) = true) (hop : o.op = .recv t ch ok)
    (ht : P.underlying t = some (.chan d e)) (hi : P.info? e = some inf) (hz : inf.zero = some z)
    (hs : Recvs (ev φ ch) z ok v w w') (h : wpR P ops rest Q (a.put o.dst v) w') : wpR P ops (i :: rest) Q a w := by
  intro b hb k cs
  obtain ⟨c, e1, hs⟩ := hs
  obtain ⟨ex, a', w2, q, har⟩ := h b hb k cs
  have hrun : (execOp a.eval o).run P w = .ok (.comm #[rcase c z] true (.recv ok)) w := by
    rw [hf.eval]
    obtain ⟨dst, op, ty, pos, after, guard⟩ := o
    simp only at hop
    subst hop
    have hzv : (zeroValue e).run P w = .ok z w := by simp [zeroValue, typeInfo, hi, hz]
    simp only [execOp, Sem.run_bind, underlying_run ht, Result.andThen_ok, hzv, e1, rcase, Sem.run_pure]
  have hst := stepG_comm (P := P) (main := true) (b := b) (a := a) (k := k) (cs := cs) (rest := rest) ho hw hb hrun
  rcases hs with ⟨cap, buf, closed, s, r, tm, hc, hsome, rfl, rfl⟩ | ⟨cap, s, r, tm, hc, rfl, rfl⟩
  · have st := step_lone_recv_buf ok hst hc hsome
    rw [fin_at ho] at st
    exact ⟨ex, a', w2, q, .of_steps (.one st) har⟩
  · have st := step_lone_recv_shut ok hst hc
    rw [fin_at ho] at st
    exact ⟨ex, a', w2, q, .of_steps (.one st) har⟩
end
def chanOp (o : Oper) : Bool := match o.op with
  | .send _ _ | .recv _ _ _ | .makeChan _ _ => true
  | .call c => match c.callee with
    | .builtin .close => true
    | _ => false
  | _ => false
def anyB : List Oper -> Bool
  | [] => false
  | o :: r => cond (chanOp o) true (anyB r)
def chEff (P : Program) (φ : Fr) (o : Oper) (w : World) (K : Value -> World -> Prop) : Prop :=
  match o.op with
  | .makeChan t n => match P.underlying t, ev φ n with
    | some (.chan _ e), .int _ n => match P.info? e with
      | some inf => (0 <= n /\ n <= 9223372036854775807 /\ (inf.bytes : Int) * n <= 281474976710544) /\ ∀ r w', New w (.chan n.toNat #[] false 0 0 false) r w' -> K (.chan (some r)) w'
      | none => False
    | _, _ => False
  | .send ch x => ∃ w', Sends (ev φ ch) (ev φ x) w w' /\ K undef w'
  | .recv t ch ok => match P.underlying t with
    | some (.chan _ e) => match P.info? e with
      | some inf => match inf.zero with
        | some z => exR (cond ok [vsOf P e, .one .bool] [vsOf P e]) fun v => ∃ w', Recvs (ev φ ch) z ok v w w' /\ K v w'
        | none => False
      | none => False
    | _ => False
  | .call c => match c.callee, c.args.toList.map (ev φ) with
    | .builtin .close, [ch] => ∃ w', Closes ch w w' /\ K (.tuple #[]) w'
    | _, _ => semEff P φ o w K
  | _ => semEff P φ o w K
section
variable (P : Program) (N : Nat)
def dsemC (ops : Array Oper) (K : Fr -> World -> Prop) : List Nat -> Fr -> World -> Prop
  | [], φ, w => K φ w
  | i :: R, φ, w => match ops[i]? with
    | none => False
    | some o => wantT ops φ o
      (match kindOf P o with
        | .pure => semPure P φ o (splitG (isG ops i) fun v => dsemC ops K R (φ.put N o.dst v) w)
        | .read => semRead P (fun p => p w) φ o (splitG (isG ops i) fun v => dsemC ops K R (φ.put N o.dst v) w)
        | .eff => chEff P φ o w fun v w' => splitG (isG ops i) (fun v => dsemC ops K R (φ.put N o.dst v) w') v)
      (dsemC ops K R (φ.put N o.dst undef) w)
variable (car : Nat -> List (Nat × VS))
def semC : Code -> QF -> Fr -> World -> Prop
  | .region id ops draw, Q, φ, w => cond (anyB ops.toList) (cond draw False (dsemC P N ops (Q .normal) (List.range ops.size) φ w)) (sem P N car (.region id ops draw) Q φ w)
  | .seq x y, Q, φ, w => semC x (thenQ (semC y Q) Q) φ w
  | .cond c x y, Q, φ, w => match ev φ c with
    | .bool b => (b = true -> semC x Q φ w) /\ (b = false -> semC y Q φ w)
    | _ => False
  | .block id c, Q, φ, w => semC c (blockQ id Q) φ w
  | .scope c, Q, φ, w => semC c (scopeQ Q) φ w
  | .loop c, Q, φ, w =>
    ∃ (I : TyT ((car (keyOf c)).map (·.2)) (World -> Prop)) (μ : TyT ((car (keyOf c)).map (·.2)) (World -> Nat)),
      holds ((car (keyOf c)).map (·.2)) I ((car (keyOf c)).map fun x => φ x.1) w /\
      ∀ (ζ : Fr) (w : World), allT ((car (keyOf c)).map (·.2)) fun vs => holds ((car (keyOf c)).map (·.2)) I vs w ->
        semC c (thenQ (fun φ' w' => holds ((car (keyOf c)).map (·.2)) I ((car (keyOf c)).map fun x => φ' x.1) w' /\
          meas ((car (keyOf c)).map (·.2)) μ ((car (keyOf c)).map fun x => φ' x.1) w' < meas ((car (keyOf c)).map (·.2)) μ vs w) Q)
          (havoc (dstsOf c) (car (keyOf c)) vs ζ φ) w
  | .skip, Q, φ, w => Q .normal φ w
  | .exit id, Q, φ, w => Q (.exit id) φ w
  | .ret, Q, φ, w => Q .ret φ w
  | .label _, Q, φ, w => Q .normal φ w
  | _, _, _, _ => False
end
section
variable {P : Program} {N : Nat} {car : Nat -> List (Nat × VS)}
theorem wpR_chEff {φ : Fr} {ops : Array Oper} {i : Nat} {rest : List Nat} {o : Oper} {Q : Exit -> Act -> World -> Prop} {a : Act} {w : World} {K : Value -> World -> Prop} (hf : Fits N φ a) (ho : ops[i]? = some o) (hw : Region.wanted o (yielded ops a.tmps) = true)
    (hK : ∀ v w', K v w' -> wpR P ops rest Q (a.put o.dst v) w') (h : chEff P φ o w K) : wpR P ops (i :: rest) Q a w := by
  have old : semEff P φ o w K -> wpR P ops (i :: rest) Q a w := fun h => wpR_goes hf ho hw ((semEff_sound h).mono hK)
  unfold chEff at h
  split at h
  · rename_i t no hop
    split at h
    · rename_i d e kn n hu hev
      split at h
      · rename_i inf hi
        obtain ⟨⟨h0, h1, h2⟩, h⟩ := h
        refine wpR_goes hf ho hw (.value (.chan (some w.heap.size)) (w.alloc (.chan n.toNat #[] false 0 0 false)) ?_ (hK _ _ (h _ _ ⟨rfl, rfl⟩)))
        obtain ⟨dst, op, ty, pos, after, guard⟩ := o
        simp only at hop
        subst hop
        have hn : ((n.toNat : Nat) : Int) = n := Int.toNat_of_nonneg h0
        have hr := run_makeChan (P := P) (w := w) hu hi kn n.toNat (by rw [hn]; exact h1) (by rw [hn]; exact h2)
        rw [hn] at hr
        rw [<- hev] at hr
        simp only [execOp, Sem.run_bind, hr, Result.andThen_ok, Sem.run_pure]
      · exact h.elim
    · exact h.elim
  · rename_i ch x hop
    obtain ⟨w', hs, h⟩ := h
    exact wpR_send hf ho hw hop hs (hK _ _ h)
  · rename_i t ch ok hop
    split at h
    · rename_i d e hu
      split at h
      · rename_i inf hi
        split at h
        · rename_i z hz
          obtain ⟨v, w', hs, h⟩ := exR_elim h
          exact wpR_recv hf ho hw hop hu hi hz hs (hK _ _ h)
        · exact h.elim
      · exact h.elim
    · exact h.elim
  · rename_i c hop
    split at h
    · rename_i ch hcal hargs
      obtain ⟨w', ⟨c0, cap, buf, s, r, tm, e1, hc, rfl⟩, h⟩ := h
      refine wpR_goes hf ho hw (.value (.tuple #[]) (w.setChan c0 cap buf true s r tm) ?_ (hK _ _ h))
      obtain ⟨dst, op, ty, pos, after, guard⟩ := o
      simp only at hop
      subst hop
      obtain ⟨cal, args, ats⟩ := c
      simp only at hcal hargs
      subst hcal
      have hargs' : args.map (ev φ) = #[.chan (some c0)] := by
        apply Array.ext'
        simpa [e1] using hargs
      have hr := run_close_open (P := P) (w := w) ats ty hc
      simp only [execOp, resolve, Sem.run_bind, Sem.run_pure, Result.andThen_ok, invoke, builtin, hargs', hr]
      rfl
    · exact old h
  · exact old h
theorem wpR_of_dsemC {ops : Array Oper} {K : Fr -> World -> Prop} {Q : Exit -> Act -> World -> Prop} : ∀ (R : List Nat) (φ : Fr) (a : Act) (w : World), Fits N φ a ->
    (∀ φ' a' w', Fits N φ' a' -> (∀ n, n ∉ ops.toList.filterMap (·.dst) -> φ' n = φ n) -> K φ' w' -> Q .normal a' w') -> dsemC P N ops K R φ w -> wpR P ops R Q a w
  | [], φ, a, w, hf, hK, h => wpR_nil (hK φ a w hf (fun _ _ => rfl) h)
  | i :: R, φ, a, w, hf, hK, h => by
    simp only [dsemC] at h
    cases ho : ops[i]? with
    | none => rw [ho] at h; exact h.elim
    | some o =>
      rw [ho] at h
      simp only at h
      have next : ∀ v w', dsemC P N ops K R (φ.put N o.dst v) w' -> wpR P ops R Q (a.put o.dst v) w' := fun v w' h' => by
        refine wpR_of_dsemC R _ _ _ (hf.put _ _) (fun φ' a' w2 hf' hfr hk => hK φ' a' w2 hf' (fun n hn => ?_) hk) h'
        rw [hfr n hn]
        exact put_other fun d hdst e => hn (by
          subst e
          exact List.mem_filterMap.2 ⟨o, by simpa using Array.mem_of_getElem? ho, hdst⟩)
      rcases wantT_imp h with ⟨hw, h⟩ | ⟨hw, h⟩
      · rw [<- wantS_eq hf] at hw
        cases hk : kindOf P o with
        | pure =>
          rw [hk] at h
          obtain ⟨v, hy, h⟩ := semPure_sound h
          exact wpR_goes hf ho hw (.value v w (hy w) (next v w (splitG_imp h)))
        | read =>
          rw [hk] at h
          obtain ⟨v, hy, h⟩ := semRead_sound (C := fun w' => w' = w) (fun p hp w' hw => by subst hw; exact hp) h
          exact wpR_goes hf ho hw (.value v w (hy w rfl) (next v w (splitG_imp h)))
        | eff =>
          rw [hk] at h
          exact wpR_chEff hf ho hw (fun v w' h' => next v w' (splitG_imp h')) h
      · rw [<- wantS_eq hf] at hw
        exact wpR_skip ho hw (next _ _ h)
theorem wpB_of_semC : ∀ (c : Code) (Q : QF) (φ : Fr) (a : Act) (w : World), Fits N φ a -> semC P N car c Q φ w ->
    wpB P c (fun e a' w' => ∃ φ', Fits N φ' a' /\ (∀ n, n ∉ dstsOf c -> φ' n = φ n) /\ Q e φ' w') a w
  | .skip, Q, φ, a, w, hf, h => wpB_of_wp (wp_skip ⟨φ, hf, fun _ _ => rfl, h⟩)
  | .region id ops draw, Q, φ, a, w, hf, h => by
    simp only [semC] at h
    cases hc : anyB ops.toList with
    | true =>
      rw [hc] at h
      cases draw with
      | true => exact h.elim
      | false => exact wpB_region (wpR_of_dsemC _ φ a w hf (fun φ' a' w' hf' hfr hk => ⟨φ', hf', hfr, hk⟩) h)
    | false =>
      rw [hc] at h
      have h2 := semA_of_sem (car := car) (.region id ops draw) Q φ w h
      exact wpB_of_wp (wp_of_semA (.region id ops draw) (fun e φ' w' => (∀ n, n ∉ dstsOf (.region id ops draw) -> φ' n = φ n) /\ Q e φ' w') _ φ a w hf (fun e φ' a' w' hf' hq => ⟨φ', hf', hq⟩)
        (semA_frame _ _ _ φ w (fun e φ' w' hfr hq => ⟨hfr, hq⟩) h2))
  | .seq x y, Q, φ, a, w, hf, h => by
    refine wpB_seq (wpB_mono (wpB_of_semC x _ φ a w hf h) fun e a1 w1 ⟨φ1, hf1, hfr, hq⟩ => ?_)
    have hx : ∀ n, n ∉ dstsOf (.seq x y) -> φ1 n = φ n := fun n hn => hfr n fun hm => hn (by simp [dstsOf, hm])
    cases e with
    | normal =>
      exact wpB_mono (wpB_of_semC y Q φ1 a1 w1 hf1 hq) fun e a2 w2 ⟨φ2, hf2, hfr2, hq2⟩ => ⟨φ2, hf2, fun n hn => by
        rw [hfr2 n fun hm => hn (by simp [dstsOf, hm])]
        exact hx n hn, hq2⟩
    | _ => exact ⟨φ1, hf1, hx, hq⟩
  | .cond c x y, Q, φ, a, w, hf, h => by
    simp only [semC] at h
    split at h
    · rename_i b hb
      refine wpB_cond (t := b) (by rw [hf.eval]; exact hb) (fun e => wpB_mono (wpB_of_semC x Q φ a w hf (h.1 e)) fun e a1 w1 ⟨φ1, hf1, hfr, hq⟩ => ⟨φ1, hf1, fun n hn => hfr n fun hm => hn (by simp [dstsOf, hm]), hq⟩)
        (fun e => wpB_mono (wpB_of_semC y Q φ a w hf (h.2 e)) fun e a1 w1 ⟨φ1, hf1, hfr, hq⟩ => ⟨φ1, hf1, fun n hn => hfr n fun hm => hn (by simp [dstsOf, hm]), hq⟩)
    · exact h.elim
  | .block id c, Q, φ, a, w, hf, h => by
    refine wpB_block (wpB_mono (wpB_of_semC c _ φ a w hf h) fun e a1 w1 ⟨φ1, hf1, hfr, hq⟩ => ?_)
    cases e with
    | exit id' =>
      simp only [blockQ] at hq
      simp only [Exit.inBlock]
      by_cases hid : id' = id
      · subst hid
        rw [if_pos rfl]
        have : Nat.beq id' id' = true := by simp
        rw [this] at hq
        exact ⟨φ1, hf1, hfr, hq⟩
      · rw [if_neg hid]
        have : Nat.beq id' id = false := by
          cases hb : Nat.beq id' id with
          | false => rfl
          | true => exact absurd (Nat.eq_of_beq_eq_true hb) hid
        rw [this] at hq
        exact ⟨φ1, hf1, hfr, hq⟩
    | _ => exact ⟨φ1, hf1, hfr, hq⟩
  | .loop c, Q, φ, a, w, hf, h => by
    obtain ⟨I, μ, h0, hr⟩ := h
    have eqf : ∀ {ψ : Fr} {a : Act}, Fits N ψ a -> (fun n => a.tmps.getD n undef) = ψ := fun hf => funext hf.get
    refine wpB_loop (fun a w => ∃ ψ, Fits N ψ a /\ holds _ I ((car (keyOf c)).map fun x => ψ x.1) w /\ ∀ n, n ∉ dstsOf c -> ψ n = φ n)
      (fun a w => meas _ μ ((car (keyOf c)).map fun x => (fun n => a.tmps.getD n undef) x.1) w) ⟨φ, hf, h0, fun _ _ => rfl⟩ ?_
    intro a1 w1 ⟨ψ, hf1, hJ, hψ⟩
    have h2 : ∃ g, appT ((car (keyOf c)).map (·.2)) I ((car (keyOf c)).map fun x => ψ x.1) = some g := by
      unfold holds at hJ
      split at hJ
      · rename_i g hg; exact ⟨g, hg⟩
      · exact hJ.elim
    obtain ⟨g, hg⟩ := h2
    have h3 := allT_app hg (hr ψ w1) hJ
    rw [havoc_eq hψ] at h3
    refine wpB_mono (wpB_of_semC c _ ψ a1 w1 hf1 h3) fun e a2 w2 ⟨φ2, hf2, hfr, hq⟩ => ?_
    have hx : ∀ n, n ∉ dstsOf c -> φ2 n = φ n := fun n hn => by rw [hfr n hn, hψ n hn]
    cases e with
    | normal =>
      refine ⟨⟨φ2, hf2, hq.1, hx⟩, ?_⟩
      show meas _ μ ((car (keyOf c)).map fun x => (fun n => a2.tmps.getD n undef) x.1) w2 < meas _ μ ((car (keyOf c)).map fun x => (fun n => a1.tmps.getD n undef) x.1) w1
      rw [eqf hf2, eqf hf1]
      exact hq.2
    | _ => exact ⟨φ2, hf2, hx, hq⟩
  | .exit id, Q, φ, a, w, hf, h => wpB_of_wp (wp_exit ⟨φ, hf, fun _ _ => rfl, h⟩)
  | .ret, Q, φ, a, w, hf, h => wpB_of_wp (wp_ret ⟨φ, hf, fun _ _ => rfl, h⟩)
  | .label _, Q, φ, a, w, hf, h => wpB_of_wp (wp_label ⟨φ, hf, fun _ _ => rfl, h⟩)
  | .goto _, _, _, _, _, _, hs => hs.elim
  | .scope c, Q, φ, a, w, hf, h => by
    refine wpB_scope (wpB_mono (wpB_of_semC c _ φ a w hf h) fun e a1 w1 ⟨φ1, hf1, hfr, hq⟩ => ?_)
    cases e with
    | goto l => exact hq.elim
    | _ => exact ⟨φ1, hf1, hfr, hq⟩
  | .rangeFunc _ _ _ _, _, _, _, _, _, hs => hs.elim
  | .refuse _, _, _, _, _, _, hs => hs.elim
def fsemC (P : Program) (fn : Func) (car : Nat -> List (Nat × VS)) (args : List Value) (R : Value -> World -> Prop) (w : World) : Prop :=
  match fn.body with
  | some c => semC P fn.ntmps car c (bodyQ P fn R) (initF args) w
  | none => False
theorem calls_of_wpB {f : FuncId} {fn : Func} {c : Code} {args : Array Value} {w : World} {R : Ending -> World -> Prop} (hf : P.funcs[f]? = some fn) (hb : fn.body = some c) (hR : ∀ w', ¬ R .outgrown w')
    (h : wpB P c (bodyPost P fn R) { tmps := args ++ Array.replicate (fn.ntmps - args.size) undef, defers := [] } w) : Calls P f args w R := by
  intro cs
  have henter := enter_at (P := P) args hf hb
  obtain ⟨e, a', w', hq, har⟩ := h (base f) (by simp [base]) [] cs
  rw [<- henter] at har
  have fin : (a'.defers = [] /\ ∃ v, (results fn a'.tmps).run P w' = .ok v w' /\ R (.returned v) w') -> (∃ todo, Steps P (lone (Frame.enter P f args .normal) cs w) (lone { (base f).at a' todo with mode := .returning } cs w')) ->
      ∃ e w' fr, R e w' /\ Comes P (lone (Frame.enter P f args .normal) cs w) (lone fr cs w') e /\ fr.fn = f /\ fr.leaving P w' e := by
    rintro ⟨hd, v, hr, hk⟩ ⟨todo, hs⟩
    exact ⟨.returned v, w', _, hk, hs, rfl, rfl, hd, rfl, fn, hf, hr⟩
  cases e with
  | normal => exact fin hq ⟨[], Steps.trans har (.one step_end)⟩
  | ret => exact fin hq har
  | panic chain =>
    obtain ⟨todo, hs⟩ := har
    exact ⟨.panicked chain, w', _, hq.2, hs, rfl, rfl, hq.1, fn, hf⟩
  | outgrown => exact absurd hq (hR w')
  | exit id => exact hq.elim
  | goto l => exact hq.elim
theorem Ret.of_fsemC {f : FuncId} {fn : Func} {args : List Value} {w : World} {R : Value -> World -> Prop}
    (hf : P.funcs[f]? = some fn) (hlen : Nat.ble args.length fn.ntmps = true) (h : fsemC P fn car args R w) : Ret P f args w R := by
  unfold fsemC at h
  split at h
  · rename_i c hb
    refine calls_of_wpB hf hb (fun w' ⟨v, he, _⟩ => by cases he) ?_
    have hlen' : args.length <= fn.ntmps := Nat.le_of_ble_eq_true hlen
    refine wpB_mono (wpB_of_semC c (bodyQ P fn R) (initF args) _ w (initF_fits hlen') h) fun e a w' ⟨φ, hfit, _, hq⟩ => ?_
    have key : resT P φ w' fn.results.toList (fun vs => R (retV vs) w') -> a.defers = [] /\ ∃ v, (results fn a.tmps).run P w' = .ok v w' /\ ∃ u, Ending.returned v = .returned u /\ R u w' := by
      intro hq
      obtain ⟨vs, hk, hr⟩ := resT_sound hfit _ _ hq
      refine ⟨hfit.defers, retV vs, ?_, _, rfl, hk⟩
      rw [results_eq, Array.mapM_eq_mapM_toList]
      simp only [Sem.run_bind, Sem.run_map, hr, Result.andThen_ok, Sem.run_pure]
      match vs with
      | [] => simp [retV]
      | [v] => simp [retV]
      | _ :: _ :: _ => simp [retV]
    cases e with
    | normal => exact key hq
    | ret => exact key hq
    | _ => exact hq.elim
  · exact h.elim
end
end Go.Proofs.YtbgokfhcgcoipaaGreatDoor.Sx
namespace Go.Proofs.YtbgokfhcgcoipaaGreatDoor
variable {w : World} {R : Value -> World -> Prop}
open Go Go.Proofs.YtbgokfhcgcoipaaGreatDoor.Sx
set_option maxRecDepth 100000
def impl_Plan_j0 (n mode : Int) (r a0 a1 : Nat) (W : World) (R : Value -> World -> Prop) : Prop :=
 ∀ a2 a3, New W (.cells ⟨[]⟩ 48 (0, 0)) a2 a3 ->
 ∃ a4 a5 a6 a7 a8, Loads P 33 ⟨r, 0, none⟩ (.agg #[.string a4, .bool a5, .slice a6 a7 a8]) a3 /\ ∃ a9 aa ab ac ae, Loads P 36 ⟨a0, 0, none⟩ (.agg #[.bool a9, .slice aa ab ac, .int .i64 ae]) a3 /\ ∃ af ag ah ai aj, Loads P 33 ⟨a1, 0, none⟩ (.agg #[.string af, .bool ag, .slice ah ai aj]) a3 /\ Calls P 87 ⟨[.agg #[.string a4, .bool a5, .slice a6 a7 a8], .agg #[.bool a9, .slice aa ab ac, .int .i64 ae], .agg #[.string af, .bool ag, .slice ah ai aj], .int .i64 n, .int .i64 mode]⟩ a3 fun e ak =>
 ∃ (al : Value), e = .returned al /\
 ∃ (am : Option Addr -> Nat -> Nat -> World -> Prop) (mu : Option Addr -> Nat -> Nat -> World -> Nat), am (some ⟨a2, 0, none⟩) 0 0 ak /\
 ∀ (an : Fr) (ao : World) (ap : Option Addr) (aq ar : Nat), am ap aq ar ao ->
 ∃ au av aw ax ay az b0 b1 b2 b3 b4 b5 b6 b7 b8 b9 ok, ∃ wv_6, Recvs al (.agg #[.string ByteArray.empty, .bool false, .slice none 0 0, .string ByteArray.empty, .bool false, .slice none 0 0, .string ByteArray.empty, .bool false, .slice none 0 0, .bool false]) true (.tuple #[.agg #[.string au, .bool av, .slice aw ax ay, .string az, .bool b0, .slice b1 b2 b3, .string b4, .bool b5, .slice b6 b7 b8, .bool b9], .bool ok]) ao wv_6 /\
 (ok = true ->
 ∀ ba bb, New wv_6 (.cells ⟨[.string ByteArray.empty, .bool false, .slice none 0 0, .string ByteArray.empty, .bool false, .slice none 0 0, .string ByteArray.empty, .bool false, .slice none 0 0, .bool false]⟩ 133 (0, 0)) ba bb ->
 ∃ wv_8, Stores P 133 ⟨ba, 0, none⟩ (.agg #[.string au, .bool av, .slice aw ax ay, .string az, .bool b0, .slice b1 b2 b3, .string b4, .bool b5, .slice b6 b7 b8, .bool b9]) bb wv_8 /\
 ∃ bc, Loads P 4 ((⟨ba, 0, none⟩ : Addr).add 9) (.bool bc) wv_8 /\ ((!bc) = true ->
 R (.tuple #[.slice none 0 0, .bool false]) wv_8) /\
 ((!bc) = false ->
 ∃ bd be bf bg bh bi bj bk bl bm bn bo bp bq br, Loads P 48 ((⟨ba, 0, none⟩ : Addr).add 0) (.agg #[.string bd, .bool be, .slice bf bg bh, .string bi, .bool bj, .slice bk bl bm, .string bn, .bool bo, .slice bp bq br]) wv_8 /\ ∀ bs bt, New wv_8 (.cells ⟨[.string ByteArray.empty, .bool false, .slice none 0 0, .string ByteArray.empty, .bool false, .slice none 0 0, .string ByteArray.empty, .bool false, .slice none 0 0]⟩ 48 (0, 0)) bs bt ->
 ∃ wv_10, Stores P 48 ⟨bs, 0, none⟩ (.agg #[.string bd, .bool be, .slice bf bg bh, .string bi, .bool bj, .slice bk bl bm, .string bn, .bool bo, .slice bp bq br]) bt wv_10 /\
 ∃ bu bv bw bx bz, (∀ wv_11, Ext wv_10.drew wv_11 -> Loads P 33 ((⟨bs, 0, none⟩ : Addr).add 0) (.agg #[.string bu, .bool bv, .slice bw bx bz]) wv_11) /\ Calls P 88 ⟨[.agg #[.string bu, .bool bv, .slice bw bx bz]]⟩ wv_10.drew fun c0 c1 =>
 ∃ c2 c3 c4 c5 c6, c0 = .returned (.agg #[.string c2, .bool c3, .slice c4 c5 c6]) /\
 Ext wv_10.drew c1 /\ ∃ c7 c8 c9 ca cb, (∀ wv_13, Ext wv_10.drew wv_13 -> Loads P 33 ((⟨bs, 0, none⟩ : Addr).add 3) (.agg #[.string c7, .bool c8, .slice c9 ca cb]) wv_13) /\ Calls P 88 ⟨[.agg #[.string c7, .bool c8, .slice c9 ca cb]]⟩ c1 fun cc cd =>
 ∃ ce cf cg ch ci, cc = .returned (.agg #[.string ce, .bool cf, .slice cg ch ci]) /\
 Ext c1 cd /\ ∃ cj ck cl cm cn, (∀ wv_15, Ext wv_10.drew wv_15 -> Loads P 33 ((⟨bs, 0, none⟩ : Addr).add 6) (.agg #[.string cj, .bool ck, .slice cl cm cn]) wv_15) /\ Calls P 88 ⟨[.agg #[.string cj, .bool ck, .slice cl cm cn]]⟩ cd fun co cp =>
 ∃ cq cr cs ct cu, co = .returned (.agg #[.string cq, .bool cr, .slice cs ct cu]) /\
 ∀ cv cw, New cp (.cells ⟨[.string c2, .bool c3, .slice c4 c5 c6, .string ce, .bool cf, .slice cg ch ci, .string cq, .bool cr, .slice cs ct cu]⟩ 48 (0, 0)) cv cw ->
 ∃ cx cy cz d0, Appends P [42, 42] [.slice ap aq ar, (.slice (some ⟨cv, 0, none⟩) 1 1)] (.slice cx cy cz) cw d0 /\
 am cx cy cz d0 /\ mu cx cy cz d0 < mu ap aq ar ao)) /\
 (ok = false ->
 R (.tuple #[.slice ap aq ar, .bool true]) wv_6)
def impl_Plan (left0 : ByteArray) (left1 : Bool) (a0 : Option Addr) (a1 a2 : Nat) (r0 : Bool) (a3 : Option Addr) (a4 a5 : Nat) (r2 : Int) (pay0 : ByteArray) (pay1 : Bool) (a6 : Option Addr) (a7 a8 : Nat) (n mode : Int) (w : World) (R : Value -> World -> Prop) : Prop :=
 ∀ r wv, New w (.cells ⟨[.string left0, .bool left1, .slice a0 a1 a2]⟩ 33 (0, 0)) r wv ->
 ∀ a9 aa, New wv (.cells ⟨[.bool r0, .slice a3 a4 a5, .int .i64 r2]⟩ 36 (0, 0)) a9 aa ->
 ∀ ab ac, New aa (.cells ⟨[.string pay0, .bool pay1, .slice a6 a7 a8]⟩ 33 (0, 0)) ab ac ->
 ((decide ((n : Int) < 1)) = true ->
 (true = true ->
 (true = true ->
 R (.tuple #[.slice none 0 0, .bool false]) ac) /\
 (true = false ->
 impl_Plan_j0 n mode r a9 ab ac R)) /\
 (true = false ->
 ∃ ae af ag ah ai, Loads P 33 ⟨r, 0, none⟩ (.agg #[.string ae, .bool af, .slice ag ah ai]) ac /\ ∃ aj ak al am an, Loads P 33 ⟨ab, 0, none⟩ (.agg #[.string aj, .bool ak, .slice al am an]) ac /\ Calls P 86 ⟨[.agg #[.string ae, .bool af, .slice ag ah ai], .agg #[.string aj, .bool ak, .slice al am an]]⟩ ac fun ao ap =>
 ∃ aq, ao = .returned (.bool aq) /\
 ((!aq) = true ->
 R (.tuple #[.slice none 0 0, .bool false]) ap) /\
 ((!aq) = false ->
 impl_Plan_j0 n mode r a9 ab ap R))) /\
 ((decide ((n : Int) < 1)) = false ->
 ((decide ((24 : Int) < n)) = true ->
 (true = true ->
 R (.tuple #[.slice none 0 0, .bool false]) ac) /\
 (true = false ->
 impl_Plan_j0 n mode r a9 ab ac R)) /\
 ((decide ((24 : Int) < n)) = false ->
 ∃ ar au av aw ax, Loads P 33 ⟨r, 0, none⟩ (.agg #[.string ar, .bool au, .slice av aw ax]) ac /\ ∃ ay az b0 b1 b2, Loads P 33 ⟨ab, 0, none⟩ (.agg #[.string ay, .bool az, .slice b0 b1 b2]) ac /\ Calls P 86 ⟨[.agg #[.string ar, .bool au, .slice av aw ax], .agg #[.string ay, .bool az, .slice b0 b1 b2]]⟩ ac fun b3 b4 =>
 ∃ b5, b3 = .returned (.bool b5) /\
 ((!b5) = true ->
 R (.tuple #[.slice none 0 0, .bool false]) b4) /\
 ((!b5) = false ->
 impl_Plan_j0 n mode r a9 ab b4 R)))
theorem impl_Plan_eq (left0 : ByteArray) (left1 : Bool) (left2_p : Option Addr) (left2_n : Nat) (left2_c : Nat) (r0 : Bool) (r1_p : Option Addr) (r1_n : Nat) (r1_c : Nat) (r2 : Int) (pay0 : ByteArray) (pay1 : Bool) (pay2_p : Option Addr) (pay2_n : Nat) (pay2_c : Nat) (n : Int) (mode : Int) (w : World) (R : Value -> World -> Prop) : impl_Plan left0 left1 left2_p left2_n left2_c r0 r1_p r1_n r1_c r2 pay0 pay1 pay2_p pay2_n pay2_c n mode w R = fsemC P Tryz.f19 (fun k => cond (Nat.beq k 6) [(12, .one .slice)] ([])) [(.agg #[(.string left0), (.bool left1), (.slice left2_p left2_n left2_c)]), (.agg #[(.bool r0), (.slice r1_p r1_n r1_c), (.int .i64 r2)]), (.agg #[(.string pay0), (.bool pay1), (.slice pay2_p pay2_n pay2_c)]), (.int .i64 n), (.int .i64 mode)] R w := by kernel_rfl
theorem impl_Plan_ret {a : ByteArray} {a0 : Bool} {a1 : Option Addr} {a2 a3 : Nat} {r0 : Bool} {a4 : Option Addr} {a5 a6 : Nat} {r2 : Int} {a7 : ByteArray} {a8 : Bool} {a9 : Option Addr} {b b0 : Nat} {n b1 : Int} (h : impl_Plan a a0 a1 a2 a3 r0 a4 a5 a6 r2 a7 a8 a9 b b0 n b1 w R) : Ret P 19 [.agg #[.string a, .bool a0, .slice a1 a2 a3], .agg #[.bool r0, .slice a4 a5 a6, .int .i64 r2], .agg #[.string a7, .bool a8, .slice a9 b b0], .int .i64 n, .int .i64 b1] w R := Ret.of_fsemC Tryz.func19 rfl (Eq.mp (impl_Plan_eq a a0 a1 a2 a3 r0 a4 a5 a6 r2 a7 a8 a9 b b0 n b1 w R) h)
def impl_periods_j0 (a0 : Nat) (W : World) (R : Value -> World -> Prop) : Prop :=
 ∃ wv_6, Closes (.chan (some a0)) W wv_6 /\
 R (.chan (some a0)) wv_6
def impl_periods (left0 : ByteArray) (left1 : Bool) (a0 : Option Addr) (a1 a2 : Nat) (r0 : Bool) (a3 : Option Addr) (a4 a5 : Nat) (r2 : Int) (pay0 : ByteArray) (pay1 : Bool) (a6 : Option Addr) (a7 a8 : Nat) (n mode : Int) (w : World) (R : Value -> World -> Prop) : Prop :=
 ∀ r wv, New w (.cells ⟨[.string left0, .bool left1, .slice a0 a1 a2]⟩ 33 (0, 0)) r wv ->
 ∀ a9 aa, New wv (.cells ⟨[.bool r0, .slice a3 a4 a5, .int .i64 r2]⟩ 36 (0, 0)) a9 aa ->
 ∀ ab ac, New aa (.cells ⟨[.string pay0, .bool pay1, .slice a6 a7 a8]⟩ 33 (0, 0)) ab ac ->
 (0 <= (24 : Int) /\ (24 : Int) <= 9223372036854775807 /\ ((152 : Nat) : Int) * 24 <= 281474976710544) /\
 ∀ ae af, New ac (.chan 24 #[] false 0 0 false) ae af ->
 ∃ (ag : Int -> World -> Prop) (mu : Int -> World -> Nat), ag 0 af /\
 ∀ (ah : Fr) (ai : World) (aj : Int), ag aj ai ->
 ((decide ((aj : Int) < n)) = true ->
 ∃ ak al am an ao, Loads P 33 ⟨r, 0, none⟩ (.agg #[.string ak, .bool al, .slice am an ao]) ai /\ Calls P 98 ⟨[.agg #[.string ak, .bool al, .slice am an ao]]⟩ ai fun e ap =>
 ∃ aq, e = .returned (.bool aq) /\
 (aq = true ->
 impl_periods_j0 ae ap R) /\
 (aq = false ->
 ∃ ar au av aw ax, Loads P 33 ⟨r, 0, none⟩ (.agg #[.string ar, .bool au, .slice av aw ax]) ap /\ ∃ ay az b0 b1 b2, Loads P 36 ⟨a9, 0, none⟩ (.agg #[.bool ay, .slice az b0 b1, .int .i64 b2]) ap /\ ∃ b3 b4 b5 b6 b7, Loads P 33 ⟨ab, 0, none⟩ (.agg #[.string b3, .bool b4, .slice b5 b6 b7]) ap /\ Calls P 21 ⟨[.agg #[.string ar, .bool au, .slice av aw ax], .agg #[.bool ay, .slice az b0 b1, .int .i64 b2], .agg #[.string b3, .bool b4, .slice b5 b6 b7], .int .i64 mode]⟩ ap fun b8 b9 =>
 ∃ ba bb bc bd be bf bg bh bi bj bk bl bm bn bo bp, b8 = .returned (.tuple #[.agg #[.string ba, .bool bb, .slice bc bd be, .string bf, .bool bg, .slice bh bi bj, .string bk, .bool bl, .slice bm bn bo], .bool bp]) /\
 ∀ bq br, New b9 (.cells ⟨[.string ByteArray.empty, .bool false, .slice none 0 0, .string ByteArray.empty, .bool false, .slice none 0 0, .string ByteArray.empty, .bool false, .slice none 0 0]⟩ 48 (0, 0)) bq br ->
 ∃ wv_9, Stores P 48 ⟨bq, 0, none⟩ (.agg #[.string ba, .bool bb, .slice bc bd be, .string bf, .bool bg, .slice bh bi bj, .string bk, .bool bl, .slice bm bn bo]) br wv_9 /\
 ∃ bs bt bu bv bw bx bz c0 c1 c2 c3 c4 c5 c6 c7, Loads P 48 ⟨bq, 0, none⟩ (.agg #[.string bs, .bool bt, .slice bu bv bw, .string bx, .bool bz, .slice c0 c1 c2, .string c3, .bool c4, .slice c5 c6 c7]) wv_9 /\ ∃ wv_10, Sends (.chan (some ae)) (.agg #[.string bs, .bool bt, .slice bu bv bw, .string bx, .bool bz, .slice c0 c1 c2, .string c3, .bool c4, .slice c5 c6 c7, .bool bp]) wv_9 wv_10 /\
 ((!bp) = true ->
 impl_periods_j0 ae wv_10 R) /\
 ((!bp) = false ->
 ∃ c8 c9 ca cb cc, Loads P 33 ((⟨bq, 0, none⟩ : Addr).add 6) (.agg #[.string c8, .bool c9, .slice ca cb cc]) wv_10 /\ ∃ wv_11, Stores P 33 ⟨r, 0, none⟩ (.agg #[.string c8, .bool c9, .slice ca cb cc]) wv_10 wv_11 /\
 ∃ cd : Int, cd = IntKind.wrap .i64 (aj + 1) /\ ag cd wv_11 /\ mu cd wv_11 < mu aj ai))) /\
 ((decide ((aj : Int) < n)) = false ->
 impl_periods_j0 ae ai R)
theorem impl_periods_eq (left0 : ByteArray) (left1 : Bool) (left2_p : Option Addr) (left2_n : Nat) (left2_c : Nat) (r0 : Bool) (r1_p : Option Addr) (r1_n : Nat) (r1_c : Nat) (r2 : Int) (pay0 : ByteArray) (pay1 : Bool) (pay2_p : Option Addr) (pay2_n : Nat) (pay2_c : Nat) (n : Int) (mode : Int) (w : World) (R : Value -> World -> Prop) : impl_periods left0 left1 left2_p left2_n left2_c r0 r1_p r1_n r1_c r2 pay0 pay1 pay2_p pay2_n pay2_c n mode w R = fsemC P Tryz.f87 (fun k => cond (Nat.beq k 4) [(16, .one (.int .i64))] ([])) [(.agg #[(.string left0), (.bool left1), (.slice left2_p left2_n left2_c)]), (.agg #[(.bool r0), (.slice r1_p r1_n r1_c), (.int .i64 r2)]), (.agg #[(.string pay0), (.bool pay1), (.slice pay2_p pay2_n pay2_c)]), (.int .i64 n), (.int .i64 mode)] R w := by kernel_rfl
theorem impl_periods_ret {a : ByteArray} {a0 : Bool} {a1 : Option Addr} {a2 a3 : Nat} {r0 : Bool} {a4 : Option Addr} {a5 a6 : Nat} {r2 : Int} {a7 : ByteArray} {a8 : Bool} {a9 : Option Addr} {b b0 : Nat} {n b1 : Int} (h : impl_periods a a0 a1 a2 a3 r0 a4 a5 a6 r2 a7 a8 a9 b b0 n b1 w R) : Ret P 87 [.agg #[.string a, .bool a0, .slice a1 a2 a3], .agg #[.bool r0, .slice a4 a5 a6, .int .i64 r2], .agg #[.string a7, .bool a8, .slice a9 b b0], .int .i64 n, .int .i64 b1] w R := Ret.of_fsemC Tryz.func87 rfl (Eq.mp (impl_periods_eq a a0 a1 a2 a3 r0 a4 a5 a6 r2 a7 a8 a9 b b0 n b1 w R) h)
end Go.Proofs.YtbgokfhcgcoipaaGreatDoor
namespace Go.Proofs.YtbgokfhcgcoipaaGreatDoor
open Go Go.Conc Go.Proofs.YtbgokfhcgcoipaaGreatDoor.Sx
def zeroM : List D0 -> Bool
  | [.str _, .bool b, .ints z] => intOk [.bool b, .ints z] && decide (isign [.bool b, .ints z] = 0)
  | _ => false
def perL : Nat -> List D0 -> List D0 -> List D0 -> Int -> List (Bool × List D0)
  | 0, _, _, _, _ => []
  | k + 1, cur, dr, dp, m => if zeroM cur then [] else nextT cur dr dp m :: (if (nextT cur dr dp m).1 then perL k ((nextT cur dr dp m).2.drop 6) dr dp m else [])
theorem perL_succ (k : Nat) (cur dr dp : List D0) (m : Int) : perL (k + 1) cur dr dp m = if zeroM cur then [] else nextT cur dr dp m :: (if (nextT cur dr dp m).1 then perL k ((nextT cur dr dp m).2.drop 6) dr dp m else []) := rfl
def planT (n : Int) (dl dr dp : List D0) (m : Int) : Bool × List (List D0) :=
 if (decide (1 <= n) && decide (n <= 24)) && (alk dl dp && (perL n.toNat dl dr dp m).all (fun x => x.1)) then (true, (perL n.toNat dl dr dp m).map (fun x => x.2)) else (false, [])
theorem perL_len (dr dp : List D0) (m : Int) : ∀ (k : Nat) (cur : List D0), (perL k cur dr dp m).length <= k
  | 0, _ => Nat.le_refl _
  | k + 1, cur => by
    unfold perL
    split
    · simp
    · rw [List.length_cons]
      split
      · have := perL_len dr dp m k ((nextT cur dr dp m).2.drop 6); omega
      · simp
abbrev rowCode : List C0 := [.str, .bool, .ints, .str, .bool, .ints, .str, .bool, .ints]
theorem perL_code (dr dp : List D0) (m : Int) : ∀ (k : Nat) (cur : List D0), ∀ x ∈ perL k cur dr dp m, x.2.map D0.code = rowCode
  | 0, _, x, h => by simp [perL] at h
  | k + 1, cur, x, h => by
    unfold perL at h
    split at h
    · simp at h
    · rcases List.mem_cons.1 h with e | e
      · rw [e]; exact nextT_code _ _ _ _
      · split at e
        · exact perL_code dr dp m k _ x e
        · simp at e
theorem drop6_code {x : List D0} (h : x.map D0.code = rowCode) : (x.drop 6).map D0.code = [.str, .bool, .ints] := by
  rw [List.map_drop, h]; rfl
def ChO (W : World) (B : Nat) : List Value -> List (Bool × List D0) -> Prop
  | [], [] => True
  | v :: vs, p :: ps => (∃ cs f, v = .agg ⟨cs ++ [.bool p.1]⟩ /\ Owns W B cs p.2 f) /\ ChO W B vs ps
  | _, _ => False
theorem ChO.ext {W W' : World} {B : Nat} : ∀ {vs : List Value} {ps : List (Bool × List D0)}, ChO W B vs ps -> Ext W W' -> ChO W' B vs ps
  | [], [], _, _ => trivial
  | [], _ :: _, h, _ => h.elim
  | _ :: _, [], h, _ => h.elim
  | _ :: _, _ :: _, ⟨⟨cs, f, hv, ho⟩, h⟩, he => ⟨⟨cs, f, hv, ho.ext he⟩, ChO.ext h he⟩
theorem ChO.chg {W W' : World} {B r : Nat} (hr : r < B) : ∀ {vs : List Value} {ps : List (Bool × List D0)}, ChO W B vs ps -> Chg [r] W W' -> ChO W' B vs ps
  | [], [], _, _ => trivial
  | [], _ :: _, h, _ => h.elim
  | _ :: _, [], h, _ => h.elim
  | _ :: _, _ :: _, ⟨⟨cs, f, hv, ho⟩, h⟩, he => ⟨⟨cs, f, hv, ho.chg1 he hr⟩, ChO.chg hr h he⟩
theorem ChO.snoc {W : World} {B : Nat} {cs : List Value} {p : Bool × List D0} {f : List Nat} (ho : Owns W B cs p.2 f) : ∀ {vs : List Value} {ps : List (Bool × List D0)}, ChO W B vs ps -> ChO W B (vs ++ [.agg ⟨cs ++ [.bool p.1]⟩]) (ps ++ [p])
  | [], [], _ => ⟨⟨cs, f, rfl, ho⟩, trivial⟩
  | [], _ :: _, h => h.elim
  | _ :: _, [], h => h.elim
  | _ :: _, _ :: _, ⟨h1, h⟩ => ⟨h1, ChO.snoc ho h⟩
theorem Owns.drops {w : World} {B : Nat} : ∀ (k : Nat) {vs : List Value} {ds : List D0} {f : List Nat}, Owns w B vs ds f -> ∃ g, Owns w B (vs.drop k) (ds.drop k) g /\ ∀ q ∈ g, q ∈ f
  | 0, vs, ds, f, h => ⟨f, h, fun q hq => hq⟩
  | k + 1, [], [], f, h => ⟨f, h, fun q hq => hq⟩
  | k + 1, [], _ :: _, f, h => h.elim
  | k + 1, _ :: _, [], f, h => h.elim
  | k + 1, v :: vs, d :: ds, f, ⟨f1, f2, hf, _, h⟩ => by
    obtain ⟨g, hg, hm⟩ := Owns.drops k h
    exact ⟨g, hg, fun q hq => by rw [hf]; exact List.mem_append_right _ (hm q hq)⟩
theorem setChan_chg {w : World} {c cap : Nat} {buf : Array Value} {cl : Bool} {s r : Nat} {tm : Bool} : Chg [c] w (w.setChan c cap buf cl s r tm) :=
  ⟨rfl, rfl, rfl, Nat.le_of_eq (size_setChan w c cap buf cl s r tm).symm, fun k hk hn => by
    simp only [World.setChan]
    rw [Array.getElem?_setIfInBounds_ne (by simp at hn; omega)]⟩
theorem chan_ext {w w' : World} {c : Nat} {o : Obj} (h : w.heap[c]? = some o) (he : Ext w w') : w'.heap[c]? = some o := (he.block c (Array.getElem?_eq_some_iff.1 h).1).trans h
theorem chan_chg {S : List Nat} {w w' : World} {c : Nat} {o : Obj} (h : w.heap[c]? = some o) (he : Chg S w w') (hc : c ∉ S) : w'.heap[c]? = some o := (he.block c (Array.getElem?_eq_some_iff.1 h).1 hc).trans h
theorem chan_lt {w : World} {c : Nat} {o : Obj} (h : w.heap[c]? = some o) : c < w.heap.size := (Array.getElem?_eq_some_iff.1 h).1
theorem New.chan {w w' : World} {o : Obj} {r : Nat} (h : New w o r w') : w'.heap[r]? = some o := by
  obtain ⟨rfl, rfl⟩ := h
  exact heap_alloc_new w _
theorem impl_periods_c {w : World} {xs ys zs : List Value} {dx dr dp : List D0} (h : Reps w xs dx) (hc : dx.map D0.code = [.str, .bool, .ints]) (g : Reps w ys dr) (gc : dr.map D0.code = [.bool, .ints, .int]) (k : Reps w zs dp) (kc : dp.map D0.code = [.str, .bool, .ints]) (n : Nat) (hn : n <= 24) (mode : Int) (ht : Tab w) :
    Ret P 87 [.agg ⟨xs⟩, .agg ⟨ys⟩, .agg ⟨zs⟩, .int .i64 n, .int .i64 mode] w fun v w' => ∃ c buf s r, v = .chan (some c) /\ w.heap.size <= c /\ w'.heap[c]? = some (.chan 24 buf true s r false) /\ ChO w' (c + 1) buf.toList (perL n dx dr dp mode) /\ Ext w w' := by
  have hr := h; have gr := g; have kr := k
  obtain ⟨c0, b0, ap, an, ac, z0, rfl, hdx, ha⟩ := open_Money h hc
  obtain ⟨d0, dp', dn, dc, dz, ds, rfl, hdr, hd⟩ := open_Dec g gc
  obtain ⟨c2, b2, bp, bn, bc, z2, rfl, hdp, hb⟩ := open_Money k kc
  refine impl_periods_ret ?_
  unfold impl_periods
  intro r w1 hn1 r1 w2 hn2 r2 w3 hn3
  refine ⟨⟨by omega, by omega, by omega⟩, ?_⟩
  intro ch w4 hn4
  have e1 := hn1.r_eq; have e2 := hn2.r_eq; have e3 := hn3.r_eq; have e4 := hn4.r_eq; have s1 := hn1.size; have s2 := hn2.size; have s3 := hn3.size; have s4 := hn4.size
  have X := ((hn1.ext.trans hn2.ext).trans hn3.ext).trans hn4.ext
  have q0 := ((hn1.blk.ext hn2.ext).ext hn3.ext).ext hn4.ext; have q1 := (hn2.blk.ext hn3.ext).ext hn4.ext; have q2 := hn3.blk.ext hn4.ext
  have hch4 := New.chan hn4
  -- the channel is closed and handed back
  have fin : ∀ (W : World) (buf : Array Value) (s rr : Nat), W.heap[ch]? = some (.chan 24 buf false s rr false) -> ChO W (ch + 1) buf.toList (perL n dx dr dp mode) -> Ext w W -> impl_periods_j0 ch W fun v w' => ∃ c buf s r, v = .chan (some c) /\ w.heap.size <= c /\ w'.heap[c]? = some (.chan 24 buf true s r false) /\ ChO w' (c + 1) buf.toList (perL n dx dr dp mode) /\ Ext w w' := by
    intro W buf s rr hW hB hX
    unfold impl_periods_j0
    refine ⟨W.setChan ch 24 buf true s rr false, ⟨ch, 24, buf, s, rr, false, rfl, hW, rfl⟩, ch, buf, s, rr, rfl, by omega, heap_setChan _ _ _ _ _ _ _ _ (chan_lt hW), hB.chg (Nat.lt_succ_self _) setChan_chg, hX.chg setChan_chg (by simp; omega)⟩
  refine ⟨fun t W => ∃ (j : Nat) (vs : List Value) (cur : List D0) (buf : Array Value) (s rr : Nat) (done : List (Bool × List D0)), t = j /\ j <= n /\ Blk W r T_impl_Money vs /\ Blk W r1 T_impl_Dec [.bool d0, .slice dp' dn dc, .int .i64 ds] /\ Blk W r2 T_impl_Money [.string c2, .bool b2, .slice bp bn bc] /\
      cur.map D0.code = [.str, .bool, .ints] /\ Reps W vs cur /\ W.heap[ch]? = some (.chan 24 buf false s rr false) /\ buf.size = j /\ ChO W (ch + 1) buf.toList done /\ done ++ perL (n - j) cur dr dp mode = perL n dx dr dp mode /\ Ext w W, fun t _ => n - t.toNat,
    ⟨0, _, dx, #[], 0, 0, [], rfl, by omega, q0, q1, q2, hc, hr.ext X, hch4, rfl, trivial, rfl, X⟩, ?_⟩
  rintro junk W t ⟨j, vs, cur, buf, s, rr, done, rfl, hj, hb0, hb1, hb2, hcc, hcur, hch, hsz, hbo, hper, hX⟩
  refine ifD (fun hlt => ?_) (fun hge => ?_)
  · have hcr := hcur
    obtain ⟨cc, cb, cp, cn, ccp, cz, rfl, hcd, hci⟩ := open_Money hcur hcc
    subst hcd
    have hk : n - j = (n - (j + 1)) + 1 := by omega
    rw [hk, perL_succ] at hper
    refine ⟨_, _, _, _, _, hb0.loadA0 (by kernel_rfl), ?_⟩
    refine Ret.at (impl_isZero_c hcr) ?_
    rintro v W1 ⟨hv, y1⟩
    subst hv
    refine ⟨_, rfl, fun hz => ?_, fun hnz => ?_⟩
    · rw [show zeroM [.str cc, .bool cb, .ints cz] = true from hz, if_pos rfl, List.append_nil] at hper
      exact fin W1 buf s rr (chan_ext hch y1) (by rw [<- hper]; exact hbo.ext y1) (hX.trans y1)
    · rw [show zeroM [.str cc, .bool cb, .ints cz] = false from hnz, if_neg (by decide)] at hper
      refine ⟨_, _, _, _, _, (hb0.ext y1).loadA0 (by kernel_rfl), _, _, _, _, _, (hb1.ext y1).loadA0 (by kernel_rfl), _, _, _, _, _, (hb2.ext y1).loadA0 (by kernel_rfl), ?_⟩
      have X1 := hX.trans y1
      refine Ret.at (impl_NextRow_c (hcr.ext y1) hcc (gr.ext X1) gc (kr.ext X1) kc mode (ht.ext X1)) ?_
      rintro v W2 ⟨vs', f, hv, ho, hnd, hcode, _, y2⟩
      subst hv
      generalize hnt : nextT [.str cc, .bool cb, .ints cz] dr dp mode = nt at ho hcode hper ⊢
      obtain ⟨ok, row⟩ := nt
      simp only at ho hcode hper ⊢
      have hlc := chan_lt hch
      have l1 := y1.le; have l2 := y2.le
      have ho2 := ho
      obtain ⟨a0, a1, a2p, a2n, a2c, a2z, a3, a4, a5p, a5n, a5c, a5z, a6, a7, a8p, a8n, a8c, a8z, rfl, hrd, h2i, h5i, h8i⟩ := open_Row ho.reps hcode
      refine ⟨_, _, _, _, _, _, _, _, _, _, _, _, _, _, _, _, rfl, ?_⟩
      intro r4 W3 hn5
      have e5 := hn5.r_eq
      obtain ⟨W4, st4, hb4, y4⟩ := hn5.fill (P := P) (t := T_impl_Row) (xs := [.string a0, .bool a1, .slice a2p a2n a2c, .string a3, .bool a4, .slice a5p a5n a5c, .string a6, .bool a7, .slice a8p a8n a8c]) (by simp [Value.oneCell']) (by kernel_rfl) rfl
      have X4 := (X1.trans y2).trans y4
      have Y4 := (y1.trans y2).trans y4
      have hch5 := chan_ext hch Y4
      have l4 := y4.le
      have hbl := hb0.lt
      have ho4 : Owns W4 (ch + 1) [.string a0, .bool a1, .slice a2p a2n a2c, .string a3, .bool a4, .slice a5p a5n a5c, .string a6, .bool a7, .slice a8p a8n a8c] row f := (ho2.ext y4).mono (by omega)
      have hbo4 := hbo.ext Y4
      obtain ⟨W5, hW5⟩ : ∃ x, x = W4.setChan ch 24 (buf.push (.agg ⟨[.string a0, .bool a1, .slice a2p a2n a2c, .string a3, .bool a4, .slice a5p a5n a5c, .string a6, .bool a7, .slice a8p a8n a8c] ++ [.bool ok]⟩)) false (s + 1) rr false := ⟨_, rfl⟩
      have hcg : Chg [ch] W4 W5 := by rw [hW5]; exact setChan_chg
      have hch6 : W5.heap[ch]? = some (.chan 24 (buf.push (.agg ⟨[.string a0, .bool a1, .slice a2p a2n a2c, .string a3, .bool a4, .slice a5p a5n a5c, .string a6, .bool a7, .slice a8p a8n a8c] ++ [.bool ok]⟩)) false (s + 1) rr false) := by
        rw [hW5]; exact heap_setChan _ _ _ _ _ _ _ _ (chan_lt hch5)
      have hs5 : W5.heap.size = W4.heap.size := by rw [hW5]; exact size_setChan _ _ _ _ _ _ _ _
      have hb5 := hb4.chg hcg (by simp; omega)
      have ho5 := ho4.chg1 hcg (Nat.lt_succ_self _)
      have hbo5 : ChO W5 (ch + 1) (buf.push (.agg ⟨[.string a0, .bool a1, .slice a2p a2n a2c, .string a3, .bool a4, .slice a5p a5n a5c, .string a6, .bool a7, .slice a8p a8n a8c] ++ [.bool ok]⟩)).toList (done ++ [(ok, row)]) := by
        rw [Array.toList_push]
        exact ChO.snoc (p := (ok, row)) ho5 (hbo4.chg (Nat.lt_succ_self _) hcg)
      have X5 : Ext w W5 := X4.chg hcg (by simp; omega)
      refine ⟨W4, st4, _, _, _, _, _, _, _, _, _, _, _, _, _, _, _, hb4.loadA0 (by kernel_rfl), W5, ⟨ch, 24, buf, s, rr, false, rfl, hch5, by omega, hW5⟩, ifN (fun hno => ?_) (fun hyes => ?_)⟩
      · subst hno
        rw [if_neg (by decide)] at hper
        refine fin W5 _ _ _ hch6 ?_ X5
        rw [<- hper]
        exact hbo5
      · subst hyes
        rw [if_pos rfl] at hper
        have hbr := (((hb0.ext Y4).chg hcg (by simp; omega)))
        obtain ⟨W6, st6, hb6, cg6, sz6⟩ := hbr.storeA0 (P := P) (t := T_impl_Money) (xs := [.string a6, .bool a7, .slice a8p a8n a8c]) (by kernel_rfl) rfl (by simp [Value.oneCell'])
        obtain ⟨g6, ho6, _⟩ := Owns.drops 6 ho5
        have h6 : Reps W6 [.string a6, .bool a7, .slice a8p a8n a8c] (row.drop 6) := (ho6.chg1 cg6 (by omega)).reps
        refine ⟨_, _, _, _, _, hb5.loadAAt 6 [.string a6, .bool a7, .slice a8p a8n a8c] (by rw [addr_add]) (by kernel_rfl) rfl, W6, st6, ?_⟩
        refine exW ⟨by omega, by omega⟩ ⟨⟨j + 1, _, row.drop 6, _, s + 1, rr, done ++ [(true, row)], by omega, by omega, hb6, ?_, ?_, drop6_code hcode, h6, chan_chg hch6 cg6 (by simp; omega), by simp [hsz], hbo5.chg (by omega) cg6, ?_, X5.chg cg6 (by simp; omega)⟩, ?_⟩
        · exact ((hb1.ext Y4).chg hcg (by simp; omega)).chg cg6 (by simp; omega)
        · exact ((hb2.ext Y4).chg hcg (by simp; omega)).chg cg6 (by simp; omega)
        · rw [List.append_assoc]; exact hper
        · show n - ((j : Int) + 1).toNat < n - (j : Int).toNat
          omega
  · have hjn : n - j = 0 := by omega
    rw [hjn] at hper
    simp only [perL, List.append_nil] at hper
    exact fin W buf s rr hch (by rw [<- hper]; exact hbo) hX
end Go.Proofs.YtbgokfhcgcoipaaGreatDoor
namespace Go.Proofs.YtbgokfhcgcoipaaGreatDoor
open Go Go.Proofs.YtbgokfhcgcoipaaGreatDoor.Sx
theorem Sx.OwnRows.blk_mem {w : World} {B : Nat} {e : TypeId} {k : Nat} {p : Option Addr} {n c : Nat} {l : List (List D0)} {f : List Nat} (h : OwnRows w B e k p n c l f) : ∀ q ∈ (p.map (·.block)).toList, q ∈ f := by
  obtain ⟨_, css, fs, _, _, rfl, _⟩ := h
  exact fun q hq => List.mem_append_left _ hq
theorem cntL_le {l : List (List D0)} {k : Int} (h : ∀ x ∈ l, cnts x <= k) : cntL l <= l.length * k := by
  induction l with
  | nil => simp [cntL]
  | cons a r ih =>
    have h1 := h a List.mem_cons_self
    have h2 := ih fun x hx => h x (List.mem_cons_of_mem _ hx)
    show cnts a + cntL r <= _
    rw [List.length_cons, Int.natCast_add, Int.add_mul]
    omega
end Go.Proofs.YtbgokfhcgcoipaaGreatDoor
namespace Go.Proofs.YtbgokfhcgcoipaaGreatDoor
open Go Go.Conc Go.Proofs.YtbgokfhcgcoipaaGreatDoor.Sx
theorem sliceT_row : sliceT P T_s_impl_Row T_impl_Row (.agg ⟨[.string ByteArray.empty, .bool false, .slice none 0 0, .string ByteArray.empty, .bool false, .slice none 0 0, .string ByteArray.empty, .bool false, .slice none 0 0]⟩) 9 144 := ⟨by kernel_rfl, by kernel_rfl, rfl, by decide⟩
theorem no_rowsP (w : World) (B : Nat) (e : TypeId) (k : Nat) : OwnRows w B e k none 0 0 [] [] := ⟨rfl, [], [], trivial, Own.nil _ _ _ _, by simp, by simp⟩
theorem nextT_yes {dx dr dp : List D0} {m : Int} (h : (nextT dx dr dp m).1 = true) : ∃ c i p l, (nextT dx dr dp m).2 = rowOf c i p l /\ c.size <= 50 /\ (digs i.natAbs).length <= 6 /\ (digs p.natAbs).length <= 6 /\ (digs l.natAbs).length <= 6 := by
  unfold nextT at h ⊢
  split at h
  · split at h
    · rename_i c b z c2 b2 z2 hh
      rw [if_pos hh]
      simp only [Bool.and_eq_true, Bool.not_eq_true'] at hh
      obtain ⟨⟨hal, hb, hb2⟩, ht, hm⟩ := hh
      have h1 := (taxOnT_yes ht hb).2.1
      obtain ⟨m1, m2, _⟩ := alk_parts hal
      have h1 := money_len h1; have h3 := money_len hm
      have g2 : (digs (ival [.bool b2, .ints z2]).natAbs).length <= 4 := by
        have := (intOk_enc (moneyOk_int m2)).1
        have hh := m2
        rw [this] at hh
        exact money_len hh
      have LD := money_lim hm
      have LQ := money_bound m2
      have hs50 := money_str hm
      subst hb2
      generalize ival [.bool b, .ints z] + moneyVal (taxOnT [.str c, .bool b, .ints z] dr m).2.1 = N at *
      generalize ival [.bool false, .ints z2] = Q at *
      refine ⟨c, _, _, _, rfl, hs50, by omega, ?_, ?_⟩
      · unfold lesser; split <;> exact digs_len_le (by omega)
      · unfold lesser; split <;> exact digs_len_le (by omega)
    · cases h
  · cases h
theorem nextT_bulk {dx dr dp : List D0} {m : Int} (h : (nextT dx dr dp m).1 = true) : bulks (nextT dx dr dp m).2 <= 1000 := by
  obtain ⟨c, i, p, l, e, h1, h2, h3, h4⟩ := nextT_yes h
  rw [e]
  simp only [rowOf, enc, bulks, D0.bulk, List.cons_append, List.nil_append, List.map_cons, List.map_nil, List.sum_cons, List.sum_nil]
  omega
theorem perL_bulk (dr dp : List D0) (m : Int) : ∀ (k : Nat) (cur : List D0), ∀ x ∈ perL k cur dr dp m, x.1 = true -> bulks x.2 <= 1000
  | 0, _, x, h, _ => by simp [perL] at h
  | k + 1, cur, x, h, hx => by
    unfold perL at h
    split at h
    · simp at h
    · rcases List.mem_cons.1 h with e | e
      · rw [e] at hx ⊢; exact nextT_bulk hx
      · split at e
        · exact perL_bulk dr dp m k _ x e hx
        · simp at e
theorem perL_six (dr dp : List D0) (m : Int) : ∀ (k : Nat) (cur : List D0), ∀ x ∈ perL k cur dr dp m, x.1 = true -> ∃ c i p l, x.2 = rowOf c i p l /\ c.size <= 50 /\ (digs i.natAbs).length <= 6 /\ (digs p.natAbs).length <= 6 /\ (digs l.natAbs).length <= 6
  | 0, _, x, h, _ => by simp [perL] at h
  | k + 1, cur, x, h, hx => by
    unfold perL at h
    split at h
    · simp at h
    · rcases List.mem_cons.1 h with e | e
      · rw [e] at hx ⊢; exact nextT_yes hx
      · split at e
        · exact perL_six dr dp m k _ x e hx
        · simp at e
def ChP (A : Nat -> Prop) (W : World) : List Value -> List (Bool × List D0) -> Prop
  | [], [] => True
  | v :: vs, p :: ps => (∃ cs f, v = .agg ⟨cs ++ [.bool p.1]⟩ /\ Owns W 0 cs p.2 f /\ ∀ q ∈ f, A q) /\ ChP A W vs ps
  | _, _ => False
theorem ChP.of {W : World} {B : Nat} {A : Nat -> Prop} (hA : ∀ q, B <= q -> q < W.heap.size -> A q) : ∀ {vs : List Value} {ps : List (Bool × List D0)}, ChO W B vs ps -> ChP A W vs ps
  | [], [], _ => trivial
  | [], _ :: _, h => h.elim
  | _ :: _, [], h => h.elim
  | _ :: _, _ :: _, ⟨⟨cs, f, hv, ho⟩, h⟩ => ⟨⟨cs, f, hv, ho.mono (Nat.zero_le _), fun q hq => hA q (ho.lt q hq).1 (ho.lt q hq).2⟩, ChP.of hA h⟩
theorem ChP.ext {A : Nat -> Prop} {W W' : World} : ∀ {vs : List Value} {ps : List (Bool × List D0)}, ChP A W vs ps -> Ext W W' -> ChP A W' vs ps
  | [], [], _, _ => trivial
  | [], _ :: _, h, _ => h.elim
  | _ :: _, [], h, _ => h.elim
  | _ :: _, _ :: _, ⟨⟨cs, f, hv, ho, hf⟩, h⟩, he => ⟨⟨cs, f, hv, ho.ext he, hf⟩, ChP.ext h he⟩
theorem ChP.chg {A : Nat -> Prop} {S : List Nat} {W W' : World} (hS : ∀ q, A q -> q ∉ S) : ∀ {vs : List Value} {ps : List (Bool × List D0)}, ChP A W vs ps -> Chg S W W' -> ChP A W' vs ps
  | [], [], _, _ => trivial
  | [], _ :: _, h, _ => h.elim
  | _ :: _, [], h, _ => h.elim
  | _ :: _, _ :: _, ⟨⟨cs, f, hv, ho, hf⟩, h⟩, he => ⟨⟨cs, f, hv, ho.chg he (fun k hk => hS k (hf k hk)), hf⟩, ChP.chg hS h he⟩
theorem zeroM_eq {cur : List D0} (hc : cur.map D0.code = [.str, .bool, .ints]) (hok : intOk (cur.drop 1) = true) : zeroM cur = decide (isign (cur.drop 1) = 0) := by
  match cur, hc, hok with
  | [.str s, .bool b, .ints z], _, hok =>
    show (intOk [.bool b, .ints z] && decide (isign [.bool b, .ints z] = 0)) = decide (isign [.bool b, .ints z] = 0)
    rw [show intOk [.bool b, .ints z] = true from hok]; rfl
theorem impl_Plan_o {w : World} {xs ys zs : List Value} {dx dr dp : List D0} (h : Reps w xs dx) (hc : dx.map D0.code = [.str, .bool, .ints]) (g : Reps w ys dr) (gc : dr.map D0.code = [.bool, .ints, .int]) (k : Reps w zs dp) (kc : dp.map D0.code = [.str, .bool, .ints]) (n mode : Int) (ht : Tab w) :
    Ret P 19 [.agg ⟨xs⟩, .agg ⟨ys⟩, .agg ⟨zs⟩, .int .i64 n, .int .i64 mode] w fun v w' => ∃ p j c f, v = .tuple #[.slice p j c, .bool (planT n dx dr dp mode).1] /\ OwnRows w' w.heap.size T_impl_Row 9 p j c (planT n dx dr dp mode).2 f /\ Ext w w' := by
  have hr := h; have gr := g; have kr := k
  obtain ⟨c0, b0, ap, an, ac, z0, rfl, hdx, ha⟩ := open_Money h hc
  obtain ⟨d0, dp', dn, dc, dz, ds, rfl, hdr, hd⟩ := open_Dec g gc
  obtain ⟨c2, b2, bp, bn, bc, z2, rfl, hdp, hb⟩ := open_Money k kc
  refine impl_Plan_ret ?_
  unfold impl_Plan
  intro r w1 hn1 r1 w2 hn2 r2 w3 hn3
  have e1 := hn1.r_eq; have e2 := hn2.r_eq; have e3 := hn3.r_eq; have s1 := hn1.size; have s2 := hn2.size; have s3 := hn3.size
  have X := (hn1.ext.trans hn2.ext).trans hn3.ext
  have q0 := (hn1.blk.ext hn2.ext).ext hn3.ext; have q1 := hn2.blk.ext hn3.ext; have q2 := hn3.blk
  have no : ∀ W, Ext w W -> planT n dx dr dp mode = (false, []) -> ∃ p j c f, Value.tuple #[.slice none 0 0, .bool false] = .tuple #[.slice p j c, .bool (planT n dx dr dp mode).1] /\ OwnRows W w.heap.size T_impl_Row 9 p j c (planT n dx dr dp mode).2 f /\ Ext w W := by
    intro W hW he
    rw [he]
    exact ⟨none, 0, 0, [], rfl, no_rowsP _ _ _ _, hW⟩
  have main : 1 <= n -> n <= 24 -> alk dx dp = true -> ∀ W, Ext w3 W -> impl_Plan_j0 n mode r r1 r2 W fun v w' => ∃ p j c f, v = .tuple #[.slice p j c, .bool (planT n dx dr dp mode).1] /\ OwnRows w' w.heap.size T_impl_Row 9 p j c (planT n dx dr dp mode).2 f /\ Ext w w' := by
    intro hn1' hn24 hal W hW
    obtain ⟨N, rfl⟩ : ∃ N : Nat, n = N := ⟨n.toNat, by omega⟩
    have hplan : planT N dx dr dp mode = if (perL N dx dr dp mode).all (fun x => x.1) then (true, (perL N dx dr dp mode).map (fun x => x.2)) else (false, []) := by
      unfold planT
      rw [decide_eq_true hn1', decide_eq_true hn24, hal, Int.toNat_natCast]
      simp only [Bool.true_and]
    unfold impl_Plan_j0
    intro r3 w4 hn4
    have X3 := X.trans hW
    have Y4 := hW.trans hn4.ext
    have X4 := X.trans Y4
    have lW := hW.le; have e4 := hn4.r_eq; have s4 := hn4.size
    refine ⟨_, _, _, _, _, (q0.ext Y4).loadA0 (by kernel_rfl), _, _, _, _, _, (q1.ext Y4).loadA0 (by kernel_rfl), _, _, _, _, _, (q2.ext Y4).loadA0 (by kernel_rfl), ?_⟩
    refine Ret.at (impl_periods_c (hr.ext X4) hc (gr.ext X4) gc (kr.ext X4) kc N (by omega) mode (ht.ext X4)) ?_
    rintro v w5 ⟨ch, buf, s, rr, hv, hle, hch, hbo, y5⟩
    subst hv
    have X5 := X4.trans y5
    have hclt := chan_lt hch
    have hbo2 := ChP.of (A := fun q => ch + 1 <= q /\ q < w5.heap.size) (fun q h1 h2 => ⟨h1, h2⟩) hbo
    refine ⟨_, rfl, fun lp ln lc W => ∃ (rest done : List (Bool × List D0)) (buf : Array Value) (s rr : Nat) (f : List Nat), done ++ rest = perL N dx dr dp mode /\ done.all (fun x => x.1) = true /\ OwnRows W w.heap.size T_impl_Row 9 lp ln lc (done.map (fun x => x.2)) f /\
        W.heap[ch]? = some (.chan 24 buf true s rr false) /\ ChP (fun q => ch + 1 <= q /\ q < w5.heap.size) W buf.toList rest /\ (∀ q ∈ f, q = r3 ∨ w5.heap.size <= q) /\ Ext w W /\ w5.heap.size <= W.heap.size, fun _ ln _ _ => 25 - ln,
      ⟨perL N dx dr dp mode, [], buf, s, rr, [r3], rfl, rfl, ((OwnRows.fresh hn4 (by have := X3.le; omega)).ext y5), hch, hbo2, fun q hq => .inl (by simpa using hq), X5, Nat.le_refl _⟩, ?_⟩
    rintro junk W lp ln lc ⟨rest, done, buf, s, rr, f, hper, hall, hO, hch, hbo, hf, hX, hsz⟩
    have hl : done.length = ln := by
      have := hO.1
      simpa using this
    have hlen : done.length + rest.length <= N := by
      have := perL_len dr dp mode N dx
      rw [<- hper, List.length_append] at this
      exact this
    have hclt2 := chan_lt hch
    cases rest with
    | nil =>
      have hb0 : buf = #[] := by
        cases hbl : buf.toList with
        | nil => exact Array.toList_eq_nil_iff.1 hbl
        | cons a b => rw [hbl] at hbo; exact hbo.elim
      subst hb0
      refine ⟨ByteArray.empty, false, none, 0, 0, ByteArray.empty, false, none, 0, 0, ByteArray.empty, false, none, 0, 0, false, false, W, ⟨ch, rfl, .inr ⟨24, s, rr, false, hch, rfl, rfl⟩⟩, ifF ?_⟩
      rw [List.append_nil] at hper
      rw [hplan, <- hper, hall, if_pos rfl]
      exact ⟨lp, ln, lc, f, rfl, hO, hX⟩
    | cons pr rest =>
      obtain ⟨ok, row⟩ := pr
      cases hbl : buf.toList with
      | nil => rw [hbl] at hbo; exact hbo.elim
      | cons v0 vs0 =>
        rw [hbl] at hbo
        obtain ⟨⟨cs, fr, hv0, hor, hfr⟩, hbo⟩ := hbo
        have hmem : (ok, row) ∈ perL N dx dr dp mode := by rw [<- hper]; simp
        have hcode := perL_code dr dp mode N dx _ hmem
        simp only at hcode hor hv0
        have hor2 := hor
        obtain ⟨a0, a1, a2p, a2n, a2c, a2z, a3, a4, a5p, a5n, a5c, a5z, a6, a7, a8p, a8n, a8c, a8z, rfl, hrd, h2i, h5i, h8i⟩ := open_Row hor.reps hcode
        have hbsz : 0 < buf.size := by
          have : buf.toList.length = buf.size := rfl
          rw [<- this, hbl]; simp
        have hget : buf.getD 0 undef = v0 := by
          have : buf[0]? = some v0 := by rw [<- Array.getElem?_toList, hbl]; rfl
          rw [Array.getD_eq_getD_getElem?, this]; rfl
        have htl : (buf.extract 1 buf.size).toList = vs0 := by
          rw [Array.toList_extract, hbl, List.extract_eq_take_drop]
          have : buf.size = vs0.length + 1 := by
            have : buf.toList.length = buf.size := rfl
            rw [<- this, hbl]; simp
          rw [this]; simp
        obtain ⟨W6, hW6⟩ : ∃ x, x = W.setChan ch 24 (buf.extract 1 buf.size) true s (rr + 1) false := ⟨_, rfl⟩
        have cg6 : Chg [ch] W W6 := by rw [hW6]; exact setChan_chg
        have sz6 : W6.heap.size = W.heap.size := by rw [hW6]; exact size_setChan _ _ _ _ _ _ _ _
        have hch6 : W6.heap[ch]? = some (.chan 24 (buf.extract 1 buf.size) true s (rr + 1) false) := by rw [hW6]; exact heap_setChan _ _ _ _ _ _ _ _ (chan_lt hch)
        have hlw5 := y5.le
        have hX4 := X4.le
        have X6 : Ext w W6 := hX.chg cg6 (by simp; omega)
        have hor6 := hor2.chg cg6 (fun q hq => by have := hfr q hq; simp; omega)
        have hO6 := hO.chg cg6 (fun q hq => by have := hf q hq; simp; omega)
        have hbo6 : ChP (fun q => ch + 1 <= q /\ q < w5.heap.size) W6 (buf.extract 1 buf.size).toList rest := by rw [htl]; exact hbo.chg (fun q hq => by simp; omega) cg6
        refine ⟨a0, a1, a2p, a2n, a2c, a3, a4, a5p, a5n, a5c, a6, a7, a8p, a8n, a8c, ok, true, W6, ⟨ch, rfl, .inl ⟨24, buf, true, s, rr, false, hch, hbsz, ?_, hW6⟩⟩, ifT ?_⟩
        · rw [hget, hv0]; rfl
        intro r4 w7 hn7
        have e7 := hn7.r_eq
        obtain ⟨w8, st8, hb8, y8⟩ := hn7.fill (P := P) (t := T_impl_period) (xs := [.string a0, .bool a1, .slice a2p a2n a2c, .string a3, .bool a4, .slice a5p a5n a5c, .string a6, .bool a7, .slice a8p a8n a8c, .bool ok]) (by simp [Value.oneCell']) (by kernel_rfl) rfl
        have l8 := y8.le
        refine ⟨w8, st8, ok, hb8.loadAt 9 (by rw [addr_add]) (by kernel_rfl) rfl, ifN (fun hno => ?_) (fun hyes => ?_)⟩
        · refine no w8 (X6.trans y8) ?_
          rw [hplan, if_neg]
          rw [<- hper, List.all_append, Bool.and_eq_true, List.all_cons, hno]
          simp
        · subst hyes
          have hbk := perL_bulk dr dp mode N dx _ hmem rfl
          simp only [hrd, bulks, D0.bulk, List.map_cons, List.map_nil, List.sum_cons, List.sum_nil] at hbk
          refine ⟨_, _, _, _, _, _, _, _, _, _, _, _, _, _, _, hb8.loadAAt 0 [.string a0, .bool a1, .slice a2p a2n a2c, .string a3, .bool a4, .slice a5p a5n a5c, .string a6, .bool a7, .slice a8p a8n a8c] (by rw [addr_add]) (by kernel_rfl) rfl, ?_⟩
          intro r5 w9 hn9
          have e9 := hn9.r_eq
          obtain ⟨w10, st10, hb10, y10⟩ := hn9.fill (P := P) (t := T_impl_Row) (xs := [.string a0, .bool a1, .slice a2p a2n a2c, .string a3, .bool a4, .slice a5p a5n a5c, .string a6, .bool a7, .slice a8p a8n a8c]) (by simp [Value.oneCell']) (by kernel_rfl) rfl
          have D := Ext.drew w10
          have Y11 := ((y8.trans y10).trans D)
          have hb11 := hb10.ext D
          have l11 := Y11.le
          have hor11 := (hor6.ext Y11).reps
          rw [hrd] at hor11
          have hp0 : Reps w10.drew [.string a0, .bool a1, .slice a2p a2n a2c] [.str a0, .bool a1, .ints a2z] := ⟨hor11.1, hor11.2.1, hor11.2.2.1, trivial⟩
          have hp1 : Reps w10.drew [.string a3, .bool a4, .slice a5p a5n a5c] [.str a3, .bool a4, .ints a5z] := ⟨hor11.2.2.2.1, hor11.2.2.2.2.1, hor11.2.2.2.2.2.1, trivial⟩
          have hp2 : Reps w10.drew [.string a6, .bool a7, .slice a8p a8n a8c] [.str a6, .bool a7, .ints a8z] := ⟨hor11.2.2.2.2.2.2.1, hor11.2.2.2.2.2.2.2.1, hor11.2.2.2.2.2.2.2.2.1, trivial⟩
          refine ⟨w10, st10, _, _, _, _, _, fun W hW => (hb11.ext hW).loadAAt 0 [.string a0, .bool a1, .slice a2p a2n a2c] (by rw [addr_add]) (by kernel_rfl) rfl, ?_⟩
          refine Ret.at (impl_moneyCopy_c hp0 rfl (by simp [bulks, D0.bulk]; omega)) ?_
          rintro v w12 ⟨v1, f1, hv, o1, nd1, y12⟩
          subst hv
          obtain ⟨g0, g1, g2p, g2n, g2c, g2z, rfl, hg, _⟩ := open_Money o1.reps rfl
          refine ⟨_, _, _, _, _, rfl, y12, _, _, _, _, _, fun W hW => (hb11.ext hW).loadAAt 3 [.string a3, .bool a4, .slice a5p a5n a5c] (by rw [addr_add]) (by kernel_rfl) rfl, ?_⟩
          refine Ret.at (impl_moneyCopy_c (hp1.ext y12) rfl (by simp [bulks, D0.bulk]; omega)) ?_
          rintro v w13 ⟨v2, f2, hv, o2, nd2, y13⟩
          subst hv
          obtain ⟨k0, k1, k2p, k2n, k2c, k2z, rfl, hk, _⟩ := open_Money o2.reps rfl
          refine ⟨_, _, _, _, _, rfl, y13, _, _, _, _, _, fun W hW => (hb11.ext hW).loadAAt 6 [.string a6, .bool a7, .slice a8p a8n a8c] (by rw [addr_add]) (by kernel_rfl) rfl, ?_⟩
          refine Ret.at (impl_moneyCopy_c (hp2.ext (y12.trans y13)) rfl (by simp [bulks, D0.bulk]; omega)) ?_
          rintro v w14 ⟨v3, f3, hv, o3, nd3, y14⟩
          subst hv
          obtain ⟨m0, m1, m2p, m2n, m2c, m2z, rfl, hm, _⟩ := open_Money o3.reps rfl
          refine ⟨_, _, _, _, _, rfl, ?_⟩
          intro r6 w15 hn15
          have l12 := y12.le; have l13 := y13.le; have l14 := y14.le
          have Z := (Y11.trans y12).trans (y13.trans (y14.trans hn15.ext))
          have lZ := Z.le
          have X15 := X6.trans Z
          have oo1 : Owns w15 w10.drew.heap.size [.string g0, .bool g1, .slice g2p g2n g2c] [.str a0, .bool a1, .ints a2z] f1 := ((o1.ext y13).ext y14).ext hn15.ext
          have oo2 : Owns w15 w10.drew.heap.size [.string k0, .bool k1, .slice k2p k2n k2c] [.str a3, .bool a4, .ints a5z] f2 := ((o2.ext y14).ext hn15.ext).mono l12
          have oo3 : Owns w15 w10.drew.heap.size [.string m0, .bool m1, .slice m2p m2n m2c] [.str a6, .bool a7, .ints a8z] f3 := (o3.ext hn15.ext).mono (Nat.le_trans l12 l13)
          have oo := Owns.append oo1 (Owns.append oo2 oo3)
          have t1 := o1.lt; have t2 := o2.lt; have t3 := o3.lt
          have ndd : (f1 ++ (f2 ++ f3)).Nodup := nodup_append nd1 (nodup_append nd2 nd3 (fun q hq => (t2 q hq).2) (fun q hq => (t3 q hq).1)) (fun q hq => (t1 q hq).2) (fun q hq => by
            rcases List.mem_append.1 hq with hq | hq
            · exact (t2 q hq).1
            · exact Nat.le_trans l13 (t3 q hq).1)
          have hfl : ∀ q ∈ f1 ++ (f2 ++ f3), w10.drew.heap.size <= q := fun q hq => (oo.lt q hq).1
          have hOl := hO6.lt
          have hwl := X.le
          obtain ⟨p', c', w16, f', ha16, hO16, ch16, hf16⟩ := OwnRows_pushF (P := P) (hO6.ext Z) sliceT_row (by have := X15.le; omega) hn15.blk rfl (oo.mono (B' := w.heap.size) (by have := X6.le; omega)) ndd (fun q hq hm => by
            have := hfl q hq; have := (hOl q hm).2; omega) (by omega) (by omega)
          have hblk := hO6.blk_mem
          have notS : ∀ q, (ch + 1 <= q /\ q < w5.heap.size) -> q ∉ (lp.map (·.block)).toList := fun q hq hm => by
            have := hf q (hO.blk_mem q hm); omega
          refine ⟨p', ln + 1, c', w16, ha16, ⟨rest, done ++ [(true, row)], _, s, rr + 1, f', by rw [List.append_assoc]; exact hper, by rw [List.all_append, hall]; rfl, ?_, chan_chg (chan_ext hch6 Z) ch16 (fun hm => by have := hf _ (hO.blk_mem _ hm); omega), (hbo6.ext Z).chg notS ch16, fun q hq => ?_, X15.chg ch16 (fun q hm => (hO.lt q (hO.blk_mem q hm)).1), by have := ch16.size; omega⟩, ?_⟩
          · rw [List.map_append, hrd]
            exact hO16
          · rcases hf16 q hq with hq | hq | hq
            · exact hf q hq
            · have := hfl q hq; exact .inr (by omega)
            · exact .inr (by omega)
          · show 25 - (ln + 1) < 25 - ln
            omega
  refine ifD (fun hlt => ifT (ifT (no w3 X ?_))) (fun hge => ifD (fun hgt => ifT (no w3 X ?_)) (fun hle => ?_))
  · unfold planT
    rw [decide_eq_false (show ¬ (1 <= n) by omega)]; rfl
  · unfold planT
    rw [decide_eq_false (show ¬ (n <= 24) by omega), Bool.and_false]; rfl
  · refine ⟨_, _, _, _, _, q0.loadA0 (by kernel_rfl), _, _, _, _, _, q2.loadA0 (by kernel_rfl), ?_⟩
    subst hdx hdp
    refine Ret.at (impl_alike_c (hr.ext X) (kr.ext X) (ht.ext X)) ?_
    rintro v w4 ⟨hv, y4⟩
    subst hv
    refine ⟨_, rfl, ifN (fun hno => no w4 (X.trans y4) ?_) (fun hyes => main (by omega) (by omega) hyes w4 y4)⟩
    unfold planT
    rw [hno, Bool.false_and, Bool.and_false]; rfl
theorem planT_code (n : Int) (dx dr dp : List D0) (m : Int) : ∀ x ∈ (planT n dx dr dp m).2, x.map D0.code = [.str, .bool, .ints, .str, .bool, .ints, .str, .bool, .ints] := by
  unfold planT
  split
  · intro x hx
    obtain ⟨y, hy, rfl⟩ := List.mem_map.1 hx
    exact perL_code dr dp m _ _ y hy
  · intro x hx; simp at hx
theorem planT_cnt (n : Int) (dx dr dp : List D0) (m : Int) : cntL (planT n dx dr dp m).2 <= 1000000000 := by
  unfold planT
  split
  · rename_i h
    simp only [Bool.and_eq_true, decide_eq_true_eq, List.all_eq_true] at h
    have hl := perL_len dr dp m n.toNat dx
    have := cntL_le (l := (perL n.toNat dx dr dp m).map (fun x => x.2)) (k := 100) (fun x hx => by
      obtain ⟨y, hy, rfl⟩ := List.mem_map.1 hx
      have hb := perL_bulk dr dp m _ _ y hy (h.2.2 y hy)
      have hc := perL_code dr dp m _ _ y hy
      have hy6 := perL_six dr dp m _ _ y hy (h.2.2 y hy)
      obtain ⟨c, i, p, l, e, h1, h2, h3, h4⟩ := hy6
      rw [e]
      simp only [rowOf, enc, List.cons_append, List.nil_append, cnts, D0.cnt]
      omega)
    rw [List.length_map] at this
    simp only
    omega
  · simp [cntL]
theorem impl_Plan_c {w : World} {xs ys zs : List Value} {dx dr dp : List D0} (h : Reps w xs dx) (hc : dx.map D0.code = [.str, .bool, .ints]) (g : Reps w ys dr) (gc : dr.map D0.code = [.bool, .ints, .int]) (k : Reps w zs dp) (kc : dp.map D0.code = [.str, .bool, .ints]) (n mode : Int) (ht : Tab w) :
    Ret P 19 [.agg ⟨xs⟩, .agg ⟨ys⟩, .agg ⟨zs⟩, .int .i64 n, .int .i64 mode] w fun v w' => ∃ p' n' c' f, v = .tuple #[.slice p' n' c', .bool (planT n dx dr dp mode).1] /\ OwnRows w' w.heap.size T_impl_Row 9 p' n' c' (planT n dx dr dp mode).2 f /\ (∀ x ∈ (planT n dx dr dp mode).2, x.map D0.code = [.str, .bool, .ints, .str, .bool, .ints, .str, .bool, .ints]) /\ cntL (planT n dx dr dp mode).2 <= 1000000000 /\ Ext w w' :=
  (impl_Plan_o h hc g gc k kc n mode ht).mono fun v w' ⟨p', n', c', f, hv, ho, hx⟩ => ⟨p', n', c', f, hv, ho, planT_code _ _ _ _ _, planT_cnt _ _ _ _ _, hx⟩
end Go.Proofs.YtbgokfhcgcoipaaGreatDoor
namespace Go.Proofs.YtbgokfhcgcoipaaGreatDoor
open Go Go.Proofs.YtbgokfhcgcoipaaGreatDoor.Sx
def halfC (r d : Nat) : Int := if 2 * r < d then -1 else if 2 * r = d then 0 else 1
def rN (n d : Nat) (m : Int) : Nat := if n % d ≠ 0 /\ modeAway m false (halfC (n % d) d) (decide (n / d % 2 = 1)) = true then n / d + 1 else n / d
theorem rN_lo (n d : Nat) (m : Int) : n / d <= rN n d m := by unfold rN; split <;> omega
theorem rN_hi (n d : Nat) (m : Int) : rN n d m <= n / d + 1 := by unfold rN; split <;> omega
theorem away_mono {m : Int} {h h' : Int} {odd : Bool} (hh : h <= h') (h0 : h = 0 -> h' = 0 ∨ 0 < h') (ha : modeAway m false h odd = true) : modeAway m false h' odd = true := by
  unfold modeAway at ha ⊢
  split at ha
  · cases ha
  · rename_i h1
    rw [if_neg h1]
    split at ha
    · rename_i h2; rw [if_pos h2]
    · rename_i h2
      rw [if_neg h2]
      split at ha
      · cases ha
      · rename_i h3
        rw [if_neg h3]
        split at ha
        · rename_i h4; rw [if_pos h4]; rfl
        · rename_i h4
          rw [if_neg h4]
          split at ha
          · rename_i h5
            rw [if_pos h5]
            exact decide_eq_true (Int.lt_of_lt_of_le (of_decide_eq_true ha) hh)
          · rename_i h5
            rw [if_neg h5]
            split at ha
            · rename_i h6
              rw [if_pos h6]
              exact decide_eq_true (Int.le_trans (of_decide_eq_true ha) hh)
            · rename_i h6
              rw [if_neg h6]
              rw [Bool.or_eq_true, Bool.and_eq_true, decide_eq_true_eq, decide_eq_true_eq] at ha ⊢
              rcases ha with ha | ⟨ha, hb⟩
              · exact .inl (by omega)
              · rcases h0 ha with h | h
                · exact .inr ⟨h, hb⟩
                · exact .inl h
theorem halfC_mono {r d r' d' : Nat} (hd : 0 < d) (hd' : 0 < d') (h : r * d' <= r' * d) : halfC r d <= halfC r' d' := by
  have key : ∀ {a b : Nat}, a * d' <= b * d -> True := fun _ => trivial
  have h2 : 2 * r * d' <= 2 * r' * d := by rw [Nat.mul_assoc, Nat.mul_assoc]; exact Nat.mul_le_mul_left 2 h
  unfold halfC
  by_cases c1 : 2 * r < d
  · rw [if_pos c1]; split <;> (try split) <;> omega
  · rw [if_neg c1]
    by_cases c2 : 2 * r = d
    · rw [if_pos c2]
      have : ¬ 2 * r' < d' := fun c => by
        have h3 : 2 * r' * d < d' * d := Nat.mul_lt_mul_of_pos_right c hd
        rw [c2] at h2
        rw [Nat.mul_comm d' d] at h3
        omega
      rw [if_neg this]; split <;> omega
    · rw [if_neg c2]
      have h3 : d * d' < 2 * r * d' := Nat.mul_lt_mul_of_pos_right (by omega) hd'
      have h4 : d' * d < 2 * r' * d := by rw [Nat.mul_comm d' d]; omega
      have h5 := Nat.lt_of_mul_lt_mul_right h4
      rw [if_neg (by omega), if_neg (by omega)]
      omega
theorem rN_mono {n d n' d' : Nat} (m : Int) (hd : 0 < d) (hd' : 0 < d') (h : n * d' <= n' * d) : rN n d m <= rN n' d' m := by
  have e1 := Nat.div_add_mod n d; have e2 := Nat.div_add_mod n' d'
  have l1 := Nat.mod_lt n hd; have l2 := Nat.mod_lt n' hd'
  have hq : n / d <= n' / d' := by
    rw [Nat.le_div_iff_mul_le hd']
    have h1 : n / d * d <= n := Nat.div_mul_le_self n d
    have h2 : n / d * d' * d <= n' * d := by
      calc n / d * d' * d = n / d * d * d' := by rw [Nat.mul_right_comm]
        _ <= n * d' := Nat.mul_le_mul_right d' h1
        _ <= n' * d := h
    exact Nat.le_of_mul_le_mul_right h2 hd
  by_cases hlt : n / d < n' / d'
  · exact Nat.le_trans (rN_hi n d m) (Nat.le_trans hlt (rN_lo n' d' m))
  · have he : n / d = n' / d' := by omega
    have hr : n % d * d' <= n' % d' * d := by
      have a1 : n * d' = n / d * d * d' + n % d * d' := by
        rw [<- Nat.add_mul]; congr 1
        rw [Nat.mul_comm (n / d) d]; omega
      have a2 : n' * d = n / d * d * d' + n' % d' * d := by
        rw [Nat.mul_right_comm, <- Nat.add_mul]; congr 1
        rw [he, Nat.mul_comm (n' / d') d']; omega
      omega
    unfold rN
    by_cases c : n % d ≠ 0 /\ modeAway m false (halfC (n % d) d) (decide (n / d % 2 = 1)) = true
    · rw [if_pos c]
      have r0 : n' % d' ≠ 0 := fun h0 => by
        rw [h0, Nat.zero_mul] at hr
        have : 0 < n % d * d' := Nat.mul_pos (by omega) hd'
        omega
      have hm := halfC_mono hd hd' hr
      have : modeAway m false (halfC (n' % d') d') (decide (n' / d' % 2 = 1)) = true := by
        rw [<- he]
        exact away_mono hm (fun h => by omega) c.2
      rw [if_pos ⟨r0, this⟩]; omega
    · rw [if_neg c]; split <;> omega
theorem rN_eq {n d n' d' : Nat} (m : Int) (hd : 0 < d) (hd' : 0 < d') (h : n * d' = n' * d) : rN n d m = rN n' d' m :=
  Nat.le_antisymm (rN_mono m hd hd' (Nat.le_of_eq h)) (rN_mono m hd' hd (Nat.le_of_eq h.symm))
theorem rN_one (n : Nat) (m : Int) : rN n 1 m = n := by
  unfold rN; rw [if_neg (by simp [Nat.mod_one]), Nat.div_one]
section
variable (tx : Nat -> Nat)
def nx (p L : Nat) : Nat := L + tx L - p
def it : Nat -> Nat -> Nat -> Nat
  | 0, _, L => L
  | n + 1, p, L => it n p (nx tx p L)
variable {tx}
end
end Go.Proofs.YtbgokfhcgcoipaaGreatDoor
namespace Go.Proofs.YtbgokfhcgcoipaaGreatDoor
open Go Go.Conc Go.Proofs.YtbgokfhcgcoipaaGreatDoor.Sx
theorem cmpL_half (r d : Nat) : cmpL (digs (r + r)) (digs d) = halfC r d := by
  have h := cmpL_val (digs_canon (r + r)) (digs_canon d)
  rw [val_digs, val_digs] at h
  unfold halfC
  rcases h with ⟨h1, h2⟩ | ⟨h1, h2⟩ | ⟨h1, h2⟩
  · rw [h1, if_pos (by omega)]
  · rw [h1, if_neg (by omega), if_pos (by omega)]
  · rw [h1, if_neg (by omega), if_neg (by omega)]
theorem roundM_rN (n d : Nat) (m : Int) : roundM (n : Int) d m = rN n d m := by
  unfold roundM rN
  rw [cmpL_half, Int.natAbs_natCast, decide_eq_false (show ¬ ((n : Int) < 0) by omega)]
theorem rround_rN (n d : Nat) (m : Int) : rround (n : Int) d m = (rN n d m : Nat) := by
  unfold rround
  rw [if_neg (by omega), roundM_rN]
theorem redN_nat (n d : Nat) : redN (n : Int) d = ((n / Nat.gcd n d : Nat) : Int) := by
  unfold redN
  rw [if_neg (by omega), Int.natAbs_natCast]
theorem red_mul {n d : Nat} : n / Nat.gcd n d * d = n * (d / Nat.gcd n d) := by
  rw [<- Nat.mul_div_assoc _ (Nat.gcd_dvd_right n d), Nat.div_mul_right_comm (Nat.gcd_dvd_left n d)]
theorem redD_nat (n d : Nat) : redD (n : Int) d = d / Nat.gcd n d := by
  unfold redD; rw [Int.natAbs_natCast]
theorem ex_mul (u m t : Nat) : ∃ N : Nat, exN (u : Int) m t = (N : Int) /\ 0 < exD (u : Int) m t /\ N * 10 ^ t = u * m * exD (u : Int) m t := by
  have h10 : 0 < 10 ^ t := Nat.pos_of_ne_zero (by simp)
  have e1 := red_mul (n := m) (d := 10 ^ t)
  have e2 := redN_nat m (10 ^ t)
  have e3 := redD_nat m (10 ^ t)
  have p3 : 0 < redD (m : Int) (10 ^ t) := redD_pos h10
  unfold exN exD
  rw [e2]
  rw [e3] at p3 ⊢
  generalize m / Nat.gcd m (10 ^ t) = a at *
  generalize 10 ^ t / Nat.gcd m (10 ^ t) = b at *
  rw [show (u : Int) * (a : Int) = ((u * a : Nat) : Int) from by rw [Int.natCast_mul], redN_nat, redD_nat, Nat.one_mul]
  have e4 := red_mul (n := u * a) (d := b)
  have p4 : 0 < b / Nat.gcd (u * a) b := Nat.div_pos (Nat.le_of_dvd p3 (Nat.gcd_dvd_right _ _)) (gcd_pos_right p3)
  refine ⟨_, rfl, p4, ?_⟩
  generalize u * a / Nat.gcd (u * a) b = A at *
  generalize b / Nat.gcd (u * a) b = B at *
  refine Nat.eq_of_mul_eq_mul_left p3 ?_
  calc b * (A * 10 ^ t) = A * b * 10 ^ t := by rw [<- Nat.mul_assoc, Nat.mul_comm b A]
    _ = u * a * B * 10 ^ t := by rw [e4]
    _ = u * (a * 10 ^ t) * B := by simp only [Nat.mul_assoc, Nat.mul_comm, Nat.mul_left_comm]
    _ = u * (m * b) * B := by rw [e1]
    _ = b * (u * m * B) := by simp only [Nat.mul_assoc, Nat.mul_comm, Nat.mul_left_comm]
def txF (m t : Nat) (mode : Int) (L : Nat) : Nat := rN (L * m) (10 ^ t) mode
theorem txF_le {m t : Nat} {mode : Int} (hm : m <= 10 ^ t) (L : Nat) : txF m t mode L <= L := by
  have h10 : 0 < 10 ^ t := Nat.pos_of_ne_zero (by simp)
  have := rN_mono (n := L * m) (d := 10 ^ t) (n' := L) (d' := 1) mode h10 Nat.one_pos (by rw [Nat.mul_one]; exact Nat.mul_le_mul_left _ hm)
  rwa [rN_one] at this
theorem sgn_le0 {z : Int} : sgn z <= 0 ↔ z <= 0 := by unfold sgn; split <;> (try split) <;> omega
theorem taxOk_le {m t : Nat} (h : taxOk [.bool false, .ints (digs m), .int (t : Int)] = true) : m <= 10 ^ t := by
  simp only [taxOk, Bool.and_eq_true, decide_eq_true_eq] at h
  obtain ⟨⟨⟨h1, h2⟩, _⟩, h4⟩ := h
  have h5 : decOk (enc 1 ++ [.int 0]) = true := by decide +kernel
  have e : dcmp [.bool false, .ints (digs m), .int (t : Int)] (enc 1 ++ [.int 0]) = sgn ((m : Int) * 10 ^ (max (t : Int) 0 - t).toNat - 1 * 10 ^ (max (t : Int) 0 - 0).toNat) := by
    show (if decOk [.bool false, .ints (digs m), .int (t : Int)] && decOk (enc 1 ++ [.int 0]) then sgn (ival [.bool false, .ints (digs m)] * 10 ^ (max (t : Int) 0 - t).toNat - ival (enc 1) * 10 ^ (max (t : Int) 0 - 0).toNat) else 0) = _
    rw [h1, h5, show ival (enc 1) = 1 from ival_enc 1, show ival [.bool false, .ints (digs m)] = (m : Int) from val_digs m]
    rfl
  rw [e, sgn_le0] at h4
  rw [show (max (t : Int) 0 - t).toNat = 0 by omega, show (max (t : Int) 0 - 0).toNat = t by omega] at h4
  have h6 : (m : Int) <= ((10 ^ t : Nat) : Int) := by
    rw [Int.natCast_pow]
    have : ((10 : Nat) : Int) = 10 := rfl
    rw [this]
    omega
  exact Int.ofNat_le.1 h6
theorem money_nat {c : ByteArray} (hc : curKnown c = true) {L : Nat} (h : L < 1000000000000000000000000000000000000) : moneyOk (.str c :: enc (L : Int)) = true := by
  have h4 : (digs (L : Int).natAbs).length <= 4 := by rw [Int.natAbs_natCast]; exact digs_len 4 (by omega)
  have h5 : intOk (enc (L : Int)) = true := enc_ok (by omega)
  show (curKnown c && intOk (enc (L : Int)) && decide ((digs (L : Int).natAbs).length <= 4)) = true
  rw [hc, h5, decide_eq_true h4]; rfl
theorem taxOn_tx {c : ByteArray} {L m t : Nat} {mode : Int} (hc : curKnown c = true) (hL : L < 1000000000000000000000000000000000000) (ht : taxOk [.bool false, .ints (digs m), .int (t : Int)] = true) (hmo : modeOk mode = true) :
    (taxOnT (.str c :: enc (L : Int)) [.bool false, .ints (digs m), .int (t : Int)] mode).1 = true /\ (taxOnT (.str c :: enc (L : Int)) [.bool false, .ints (digs m), .int (t : Int)] mode).2.1 = .str c :: enc ((txF m t mode L : Nat) : Int) := by
  have hle := txF_le (mode := mode) (taxOk_le ht) L
  have hmk := money_nat hc hL
  obtain ⟨N, e1, p, e2⟩ := ex_mul L m t
  have h10 : 0 < 10 ^ t := Nat.pos_of_ne_zero (by simp)
  have er : rround (exN (L : Int) m t) (exD (L : Int) m t) mode = ((txF m t mode L : Nat) : Int) := by
    rw [e1, rround_rN]
    unfold txF
    rw [rN_eq mode p h10 e2]
  rw [enc_nat L] at hmk ⊢
  have hv : ival [.bool false, .ints (digs L)] = (L : Int) := val_digs L
  have hr : rmOk c (exN (L : Int) m t) (exD (L : Int) m t) mode = true := by
    unfold rmOk
    rw [er, hmo, money_nat hc (by omega)]; rfl
  have hcond : (moneyOk [.str c, .bool false, .ints (digs L)] && taxOk [.bool false, .ints (digs m), .int (t : Int)]) = true := by rw [hmk, ht]; rfl
  have hm2 : (val (digs m)).toNat = m := by rw [val_digs]; omega
  constructor
  · show (taxOnT [.str c, .bool false, .ints (digs L)] [.bool false, .ints (digs m), .int (t : Int)] mode).1 = true
    simp only [taxOnT, hcond, if_true, hv, hm2, Int.toNat_natCast]
    exact hr
  · show (taxOnT [.str c, .bool false, .ints (digs L)] [.bool false, .ints (digs m), .int (t : Int)] mode).2.1 = _
    simp only [taxOnT, hcond, if_true, hv, hm2, Int.toNat_natCast]
    show rmMoney _ _ _ _ = _
    unfold rmMoney
    rw [hr, er]; rfl
theorem nextT_nx {c : ByteArray} {L p m t : Nat} {mode : Int} (hc : curKnown c = true) (hL : 2 * L < 1000000000000000000000000000000000000) (hp : p < 1000000000000000000000000000000000000) (ht : taxOk [.bool false, .ints (digs m), .int (t : Int)] = true) (hmo : modeOk mode = true) :
    nextT (.str c :: enc (L : Int)) [.bool false, .ints (digs m), .int (t : Int)] (.str c :: enc (p : Int)) mode = (true, rowOf c (txF m t mode L : Nat) (lesser ((L + txF m t mode L : Nat) : Int) p) (nx (txF m t mode) p L : Nat)) := by
  have hle := txF_le (mode := mode) (taxOk_le ht) L
  obtain ⟨t1, t2⟩ := taxOn_tx hc (show L < 1000000000000000000000000000000000000 by omega) ht hmo
  have hal := alk_enc (money_nat hc (show L < 1000000000000000000000000000000000000 by omega)) (money_nat hc hp)
  have hsum := money_nat hc (show L + txF m t mode L < 1000000000000000000000000000000000000 by omega)
  rw [enc_nat L] at t1 t2 hal ⊢
  rw [enc_nat p] at hal ⊢
  have hv : ival [.bool false, .ints (digs L)] = (L : Int) := val_digs L
  have hvp : ival [.bool false, .ints (digs p)] = (p : Int) := val_digs p
  have hmv : moneyVal (taxOnT [.str c, .bool false, .ints (digs L)] [.bool false, .ints (digs m), .int (t : Int)] mode).2.1 = ((txF m t mode L : Nat) : Int) := by
    have hme : moneyVal (.str c :: enc ((txF m t mode L : Nat) : Int)) = ((txF m t mode L : Nat) : Int) := ival_enc ((txF m t mode L : Nat) : Int)
    rw [show taxOnT [.str c, .bool false, .ints (digs L)] [.bool false, .ints (digs m), .int (t : Int)] mode = taxOnT (.str c :: [.bool false, .ints (digs L)]) [.bool false, .ints (digs m), .int (t : Int)] mode from rfl, t2]
    exact hme
  show nextT [.str c, .bool false, .ints (digs L)] [.bool false, .ints (digs m), .int (t : Int)] [.str c, .bool false, .ints (digs p)] mode = _
  simp only [nextT]
  have hs : ((L : Int) + ((txF m t mode L : Nat) : Int)) = ((L + txF m t mode L : Nat) : Int) := by omega
  rw [hmv, hv, hvp, hs]
  rw [if_pos]
  · refine Prod.ext rfl ?_
    show rowOf _ _ _ _ = rowOf _ _ _ _
    congr 1
    unfold lesser nx
    split <;> omega
  · rw [show alk [.str c, .bool false, .ints (digs L)] [.str c, .bool false, .ints (digs p)] = true from hal, show (taxOnT [.str c, .bool false, .ints (digs L)] [.bool false, .ints (digs m), .int (t : Int)] mode).1 = true from t1, hsum]
    rfl
theorem zeroM_nat {c : ByteArray} {L : Nat} (hL : L < 1000000000000000000000000000000000000) : zeroM (.str c :: enc (L : Int)) = decide (L = 0) := by
  have h5 : intOk (enc (L : Int)) = true := enc_ok (by
    have : (digs (L : Int).natAbs).length <= 4 := by rw [Int.natAbs_natCast]; exact digs_len 4 (by omega)
    omega)
  rw [zeroM_eq (cur := .str c :: enc (L : Int)) rfl h5]
  show decide (isign (enc (L : Int)) = 0) = _
  rw [isign_enc h5]
  by_cases h : L = 0
  · subst h; rfl
  · rw [if_neg (by omega), if_neg (by omega), decide_eq_false h]; rfl
theorem planDone_last {c : ByteArray} {i p : Int} {L : Nat} {l : List (List D0)} (hL : L < 1000000000000000000000000000000000000) (h : l.getLast? = some (rowOf c i p (L : Int))) : planDone l = decide (L = 0) := by
  have h5 : intOk (enc (L : Int)) = true := enc_ok (by
    have : (digs (L : Int).natAbs).length <= 4 := by rw [Int.natAbs_natCast]; exact digs_len 4 (by omega)
    omega)
  have h6 := zeroM_nat (c := c) hL
  rw [planDone_eq (s := c) (b := decide ((L : Int) < 0)) (z := digs (L : Int).natAbs) (by rw [h]; rfl)]
  exact h6
end Go.Proofs.YtbgokfhcgcoipaaGreatDoor
namespace Go.Proofs.YtbgokfhcgcoipaaGreatDoor.Sx
open Go Go.RowKit
theorem Fl.trans {os : List Obj} {ss : List (Option Nat)} {w : World} {s1 : List (Option Nat)} {w1 : World} {s2 : List (Option Nat)} {w2 : World} (h : Fl os ss w s1 w1) (g : Fl os s1 w1 s2 w2) : Fl os ss w s2 w2 := by
  induction h with
  | refl => exact g
  | step h1 h2 _ ih => exact .step h1 h2 (ih g)
theorem Fl.old {os : List Obj} {ss : List (Option Nat)} {w : World} {s1 : List (Option Nat)} {w1 : World} (h : Fl os ss w s1 w1) {k r : Nat} (hk : s1[k]? = some (some r)) : ss[k]? = some (some r) ∨ w.heap.size <= r := by
  induction h with
  | refl => exact .inl hk
  | step h1 h2 h3 ih =>
    rename_i ss w k' o s' w'
    have hs : (w.alloc o).heap.size = w.heap.size + 1 := by simp
    rcases ih hk with h | h
    · by_cases e : k' = k
      · subst e
        have hl : k' < ss.length := by
          rcases Nat.lt_or_ge k' ss.length with h | h
          · exact h
          · rw [List.getElem?_eq_none h] at h1; cases h1
        rw [List.getElem?_set_self hl] at h
        simp at h
        exact .inr (by omega)
      · rw [List.getElem?_set_ne e] at h
        exact .inl h
    · exact .inr (by omega)
def FlS (os : List Obj) (w0 : World) (ss : List (Option Nat)) (w : World) : Prop :=
 Ext w0 w /\ (∀ (k r : Nat), ss[k]? = some (some r) -> w0.heap.size <= r /\ r < w.heap.size /\ w.heap[r]? = os[k]?) /\ (∀ (k l r : Nat), ss[k]? = some (some r) -> ss[l]? = some (some r) -> k = l)
theorem FlS.ext {os : List Obj} {w0 w w' : World} {ss : List (Option Nat)} (h : FlS os w0 ss w) (y : Ext w w') : FlS os w0 ss w' :=
  ⟨h.1.trans y, fun k r hk => by
    obtain ⟨a, b, c⟩ := h.2.1 k r hk
    exact ⟨a, Nat.lt_of_lt_of_le b y.le, (y.block r b).trans c⟩, h.2.2⟩
theorem FlS.step {os : List Obj} {w0 w w' : World} {ss ss' : List (Option Nat)} (h : FlS os w0 ss w) (f : Fl os ss w ss' w') : FlS os w0 ss' w' := by
  induction f with
  | refl => exact h
  | step h1 h2 h3 ih =>
    rename_i ss w k' o s' w'
    refine ih ?_
    have y : Ext w (w.alloc o) := (Below.refl _ _).alloc (Nat.le_refl _) _
    have hs : (w.alloc o).heap.size = w.heap.size + 1 := by simp
    have hg : (w.alloc o).heap[w.heap.size]? = some o := heap_alloc_new w _
    have hl : k' < ss.length := by
      rcases Nat.lt_or_ge k' ss.length with h | h
      · exact h
      · rw [List.getElem?_eq_none h] at h1; cases h1
    have hx := h.ext y
    have hle := h.1.le
    refine ⟨hx.1, fun k r hk => ?_, fun k l r hk hl' => ?_⟩
    · by_cases e : k' = k
      · subst e
        rw [List.getElem?_set_self hl] at hk
        simp at hk
        subst hk
        exact ⟨hle, by omega, hg.trans h2.symm⟩
      · rw [List.getElem?_set_ne e] at hk
        exact hx.2.1 k r hk
    · by_cases e : k' = k
      · by_cases e2 : k' = l
        · omega
        · subst e
          rw [List.getElem?_set_self hl] at hk
          simp at hk
          subst hk
          rw [List.getElem?_set_ne e2] at hl'
          have := (h.2.1 l _ hl').2.1
          omega
      · rw [List.getElem?_set_ne e] at hk
        by_cases e2 : k' = l
        · subst e2
          rw [List.getElem?_set_self hl] at hl'
          simp at hl'
          subst hl'
          have := (h.2.1 k _ hk).2.1
          omega
        · rw [List.getElem?_set_ne e2] at hl'
          exact h.2.2 k l r hk hl'
theorem FlS.first {os : List Obj} {w0 w : World} {ss0 ss : List (Option Nat)} (f : Fl os ss0 w0 ss w) (h : ss0.all Option.isNone = true) : FlS os w0 ss w := by
  refine FlS.step ⟨Ext.refl _, fun k r hk => ?_, fun k l r hk _ => ?_⟩ f <;>
  · have hm := List.mem_of_getElem? hk
    have := List.all_eq_true.1 h _ hm
    simp at this
theorem FlS.blk {os : List Obj} {w0 w : World} {ss : List (Option Nat)} {k r : Nat} {cs : List Value} {e : TypeId} (h : FlS os w0 ss w) (hk : ss[k]? = some (some r)) (ho : os[k]? = some (.cells ⟨cs⟩ e (0, 0))) : w0.heap.size <= r /\ r < w.heap.size /\ Blk w r e cs := by
  obtain ⟨a, b, c⟩ := h.2.1 k r hk
  exact ⟨a, b, c.trans ho⟩
theorem FlS.ne {os : List Obj} {w0 w : World} {ss : List (Option Nat)} {k l r s : Nat} (h : FlS os w0 ss w) (hk : ss[k]? = some (some r)) (hl : ss[l]? = some (some s)) (e : k ≠ l) : r ≠ s := fun hh => e (h.2.2 k l r hk (hh ▸ hl))
theorem FlS.apart {os : List Obj} {w0 wc we w' : World} {ss ss' : List (Option Nat)} {k r : Nat} (h : FlS os w0 ss wc) (f : Fl os ss we ss' w') (hk : ss'[k]? = some (some r)) : r < wc.heap.size ∨ we.heap.size <= r := by
  rcases f.old hk with a | a
  · exact .inl (h.2.1 k r a).2.1
  · exact .inr a
end Go.Proofs.YtbgokfhcgcoipaaGreatDoor.Sx
namespace Go.Proofs.YtbgokfhcgcoipaaGreatDoor
open Go Go.Conc Go.Proofs.YtbgokfhcgcoipaaGreatDoor.Sx
theorem enc_nat_ok {x : Nat} (h : x < 1000000000000000000000000000000000000) : intOk (enc (x : Int)) = true := enc_ok (by
  have : (digs (x : Int).natAbs).length <= 4 := by rw [Int.natAbs_natCast]; exact digs_len 4 (by omega)
  omega)
end Go.Proofs.YtbgokfhcgcoipaaGreatDoor
namespace Go.Proofs.YtbgokfhcgcoipaaGreatDoor
open Go Go.Proofs.YtbgokfhcgcoipaaGreatDoor.Sx
theorem rate_form {z s : Int} (hz : z ∈ rateNums) (hs : s ∈ rateScales) : ∃ m t : Nat, enc z ++ [.int s] = [.bool false, .ints (digs m), .int (t : Int)] /\ taxOk [.bool false, .ints (digs m), .int (t : Int)] = true := by
  have h1 : ∀ z ∈ rateNums, ∀ s ∈ rateScales, taxOk (enc z ++ [.int s]) = true := by decide +kernel
  have h2 : ∀ z ∈ rateNums, 0 <= z := by decide
  have h3 : ∀ s ∈ rateScales, 0 <= s := by decide
  have hz0 := h2 z hz; have hs0 := h3 s hs
  refine ⟨z.toNat, s.toNat, ?_, ?_⟩
  · have e := enc_nat z.toNat
    rw [show ((z.toNat : Nat) : Int) = z by omega] at e
    rw [e, show ((s.toNat : Nat) : Int) = s by omega]; rfl
  · have e := enc_nat z.toNat
    rw [show ((z.toNat : Nat) : Int) = z by omega] at e
    have h4 := h1 z hz s hs
    rw [e] at h4
    rw [show ((s.toNat : Nat) : Int) = s by omega]
    exact h4
theorem mode_form {m : Int} (h0 : 0 <= m) (h1 : m < 7) : modeOk m = true := decide_eq_true ⟨h0, by omega⟩
abbrev curEUR : ByteArray := S [69, 85, 82]
theorem curEUR_known : curKnown curEUR = true := by decide +kernel
end Go.Proofs.YtbgokfhcgcoipaaGreatDoor
namespace Go.Proofs.YtbgokfhcgcoipaaGreatDoor
open Go Go.Proofs.YtbgokfhcgcoipaaGreatDoor.Sx
def AllR (w : World) (k : Nat) : List (List Value) -> List (List D0) -> Prop
  | [], [] => True
  | cs :: css, x :: l => cs.length = k /\ Reps w cs x /\ AllR w k css l
  | _, _ => False
theorem AllR.ext {w w' : World} {k : Nat} : ∀ {css : List (List Value)} {l : List (List D0)}, AllR w k css l -> Ext w w' -> AllR w' k css l
  | [], [], _, _ => trivial
  | _ :: _, _ :: _, h, e => ⟨h.1, h.2.1.ext e, AllR.ext h.2.2 e⟩
  | [], _ :: _, h, _ => h.elim
  | _ :: _, [], h, _ => h.elim
theorem AllR.snoc {w : World} {k : Nat} {cs : List Value} {x : List D0} (hc : cs.length = k) (hr : Reps w cs x) : ∀ {css : List (List Value)} {l : List (List D0)}, AllR w k css l -> AllR w k (css ++ [cs]) (l ++ [x])
  | [], [], _ => ⟨hc, hr, trivial⟩
  | _ :: _, _ :: _, h => ⟨h.1, h.2.1, AllR.snoc hc hr h.2.2⟩
  | [], _ :: _, h => h.elim
  | _ :: _, [], h => h.elim
theorem AllR.at {w : World} {k : Nat} : ∀ {css : List (List Value)} {l : List (List D0)}, AllR w k css l -> ∀ i x, l[i]? = some x -> ∃ cs, cs.length = k /\ Reps w cs x /\ (css.flatten.drop (i * k)).take k = cs
  | [], [], _, i, x, hx => by simp at hx
  | cs :: css, y :: l, h, i, x, hx => by
    cases i with
    | zero =>
      simp only [List.getElem?_cons_zero, Option.some.injEq] at hx
      subst hx
      refine ⟨cs, h.1, h.2.1, ?_⟩
      rw [Nat.zero_mul, List.drop_zero, List.flatten_cons, <- h.1, List.take_left]
    | succ i =>
      simp only [List.getElem?_cons_succ] at hx
      obtain ⟨c, h1, h2, h3⟩ := AllR.at h.2.2 i x hx
      refine ⟨c, h1, h2, ?_⟩
      rw [List.flatten_cons, Nat.succ_mul, Nat.add_comm, <- List.drop_drop, <- h.1, List.drop_left, h.1]
      exact h3
  | [], _ :: _, h, _, _, _ => h.elim
  | _ :: _, [], h, _, _, _ => h.elim
theorem rows_of_own {w : World} {B : Nat} {e : TypeId} {k : Nat} {p : Option Addr} {n c : Nat} {css : List (List Value)} {l : List (List D0)} (h : Own w B e k p n c css.flatten) (ha : AllR w k css l) (hl : l.length = n) : RowsR w k p n c l := by
  refine ⟨hl, h.le, h.capLe, fun hn => ?_⟩
  obtain ⟨b, hp, _, hs⟩ := h.seg hn
  refine ⟨b, 0, hp, fun i x hx => ?_⟩
  obtain ⟨cs, h1, h2, h3⟩ := ha.at i x hx
  exact ⟨cs, h1, h2, by rw [<- h3]; exact (hs.drop (i * k)).take k⟩
end Go.Proofs.YtbgokfhcgcoipaaGreatDoor
namespace Go.Proofs.YtbgokfhcgcoipaaGreatDoor
open Go Go.Proofs.YtbgokfhcgcoipaaGreatDoor.Sx
def planSA (x : List D0) : List D0 := (x.drop 0).take 3
def planSB (x : List D0) : List D0 := (x.drop 3).take 3
def planSOk (cur : ByteArray) (l : List (List D0)) : Bool := decide (0 <= l.length) && (msAll cur (l.map planSA) && msAll cur (l.map planSB))
def planSR (cur : ByteArray) (f : List D0 -> List D0) (l : List (List D0)) : List D0 := if planSOk cur l then moneySum cur (l.map f) else zeroMoney
theorem planSR_code (cur : ByteArray) (f : List D0 -> List D0) (l : List (List D0)) : (planSR cur f l).map D0.code = [.str, .bool, .ints] := by unfold planSR; split; exact moneySum_code _ _; rfl
theorem planSR_cnt {cur : ByteArray} {f : List D0 -> List D0} {l : List (List D0)} (hl : l.length <= 1048576) : tcnts (planSR cur f l) <= 1000000000 := by
  unfold planSR
  split
  · exact moneySum_cnt (by simpa using hl)
  · decide
theorem planSA_code {l : List (List D0)} (hc : ∀ x ∈ l, x.map D0.code = [.str, .bool, .ints, .str, .bool, .ints, .str, .bool, .ints]) : ∀ x ∈ l.map planSA, x.map D0.code = [.str, .bool, .ints] := fun x hx => by
  obtain ⟨y, hy, rfl⟩ := List.mem_map.1 hx
  unfold planSA
  rw [List.map_take, List.map_drop, hc y hy]; rfl
theorem planSB_code {l : List (List D0)} (hc : ∀ x ∈ l, x.map D0.code = [.str, .bool, .ints, .str, .bool, .ints, .str, .bool, .ints]) : ∀ x ∈ l.map planSB, x.map D0.code = [.str, .bool, .ints] := fun x hx => by
  obtain ⟨y, hy, rfl⟩ := List.mem_map.1 hx
  unfold planSB
  rw [List.map_take, List.map_drop, hc y hy]; rfl
theorem planS_snoc {f : List D0 -> List D0} {l : List (List D0)} {j : Nat} (hj : j < l.length) : (l.take (j + 1)).map f = (l.take j).map f ++ [f (l[j]'hj)] := by
  rw [take_snoc (List.getElem?_eq_getElem hj), List.map_append]; rfl
theorem planS_sliceT : sliceT P T_s_impl_Money T_impl_Money (.agg ⟨[.string ByteArray.empty, .bool false, .slice none 0 0]⟩) 3 48 := ⟨by kernel_rfl, by kernel_rfl, rfl, by decide⟩
theorem impl_PlanSums_c {w : World} (cur : ByteArray) {p : Option Addr} {n c : Nat} {l : List (List D0)} (h : RowsR w 9 p n c l) (hc : ∀ x ∈ l, x.map D0.code = [.str, .bool, .ints, .str, .bool, .ints, .str, .bool, .ints]) (hn : n <= 1048576) (hbb : ∀ x ∈ l, bulks x <= 1048576) (ht : Tab w) :
    Ret P n_impl_PlanSums [.string cur, .slice p n c] w fun v w' => ∃ vs0 f0 vs1 f1, v = .tuple #[.agg ⟨vs0⟩, .agg ⟨vs1⟩, .bool (planSOk cur l)] /\ Owns w' w.heap.size vs0 (planSR cur planSA l) f0 /\ f0.Nodup /\ (planSR cur planSA l).map D0.code = [.str, .bool, .ints] /\ tcnts (planSR cur planSA l) <= 1000000000 /\ Owns w' w.heap.size vs1 (planSR cur planSB l) f1 /\ f1.Nodup /\ (planSR cur planSB l).map D0.code = [.str, .bool, .ints] /\ tcnts (planSR cur planSB l) <= 1000000000 /\ (∀ k ∈ f0, k ∉ f1) /\ Ext w w' := by
  have hz := h.1; have hcap := h.2.1; have hcm := h.2.2.1
  refine impl_PlanSums_ret ?_
  unfold impl_PlanSums
  intro r w1 hn1 r1 w2 hn2
  have e1 := hn1.r_eq; have e2 := hn2.r_eq; have s1 := hn1.size; have s2 := hn2.size
  have X2 := hn1.ext.trans hn2.ext
  have K0 := hn1.blk.ext hn2.ext; have K1 := hn2.blk
  have zero : ∀ W, Ext w2 W -> planSOk cur l = false -> ∃ wv_19, Stores P T_impl_Money ⟨r, 0, none⟩ (.agg #[(.string ByteArray.empty), (.bool false), (.slice none 0 0)]) W wv_19 /\
      ∃ wv_20, Stores P T_impl_Money ⟨r1, 0, none⟩ (.agg #[(.string ByteArray.empty), (.bool false), (.slice none 0 0)]) wv_19 wv_20 /\
      ∃ (r0_2 : ByteArray) (r1_2 : Bool) (r2_p_2 : Option Addr) (r2_n_2 : Nat) (r2_c_2 : Nat), Loads P T_impl_Money ⟨r, 0, none⟩ (.agg #[(.string r0_2), (.bool r1_2), (.slice r2_p_2 r2_n_2 r2_c_2)]) wv_20 /\ ∃ (r0_3 : ByteArray) (r1_3 : Bool) (r2_p_3 : Option Addr) (r2_n_3 : Nat) (r2_c_3 : Nat), Loads P T_impl_Money ⟨r1, 0, none⟩ (.agg #[(.string r0_3), (.bool r1_3), (.slice r2_p_3 r2_n_3 r2_c_3)]) wv_20 /\ (fun (v : Value) (w' : World) => ∃ vs0 f0 vs1 f1, v = .tuple #[.agg ⟨vs0⟩, .agg ⟨vs1⟩, .bool (planSOk cur l)] /\ Owns w' w.heap.size vs0 (planSR cur planSA l) f0 /\ f0.Nodup /\ (planSR cur planSA l).map D0.code = [.str, .bool, .ints] /\ tcnts (planSR cur planSA l) <= 1000000000 /\ Owns w' w.heap.size vs1 (planSR cur planSB l) f1 /\ f1.Nodup /\ (planSR cur planSB l).map D0.code = [.str, .bool, .ints] /\ tcnts (planSR cur planSB l) <= 1000000000 /\ (∀ k ∈ f0, k ∉ f1) /\ Ext w w') (.tuple #[(.agg #[(.string r0_2), (.bool r1_2), (.slice r2_p_2 r2_n_2 r2_c_2)]), (.agg #[(.string r0_3), (.bool r1_3), (.slice r2_p_3 r2_n_3 r2_c_3)]), (.bool false)]) wv_20 := by
    intro W hW hno
    obtain ⟨w6, st6, hb6, ch6, sz6⟩ := (K0.ext hW).storeA0 (P := P) (t := T_impl_Money) (xs := [.string ByteArray.empty, .bool false, .slice none 0 0]) (by kernel_rfl) rfl (by simp [Value.oneCell'])
    obtain ⟨w7, st7, hb7, ch7, sz7⟩ := ((K1.ext hW).chg ch6 (by simp; omega)).storeA0 (P := P) (t := T_impl_Money) (xs := [.string ByteArray.empty, .bool false, .slice none 0 0]) (by kernel_rfl) rfl (by simp [Value.oneCell'])
    have z : ∀ f, planSR cur f l = zeroMoney := fun f => by unfold planSR; rw [hno]; rfl
    have oz : Owns w7 w.heap.size [.string ByteArray.empty, .bool false, .slice none 0 0] zeroMoney [] := Owns.append (Owns.str _ _ _) (Owns.append (Owns.bool _ _ false) (Owns.ints (zs := []) (Own.nil w7 w.heap.size T_int 1)))
    refine ⟨w6, st6, w7, st7, _, _, _, _, _, (hb6.chg ch7 (by simp; omega)).loadA0 (by kernel_rfl), _, _, _, _, _, hb7.loadA0 (by kernel_rfl), [.string ByteArray.empty, .bool false, .slice none 0 0], [], [.string ByteArray.empty, .bool false, .slice none 0 0], [], by rw [hno], by rw [z]; exact oz, List.nodup_nil, planSR_code _ _ _, planSR_cnt (by omega), by rw [z]; exact oz, List.nodup_nil, planSR_code _ _ _, planSR_cnt (by omega), by simp, ((X2.trans hW).chg ch6 (by simp; omega)).chg ch7 (by simp; omega)⟩
  intro r2 w3 hn3 r3 w4 hn4
  have e3 := hn3.r_eq; have e4 := hn4.r_eq; have s3 := hn3.size; have s4 := hn4.size
  refine ⟨fun ap an ac bp bn bc i wr => ∃ (css dss : List (List Value)), i = an /\ an <= n /\ bn = an /\ Ext w2 wr /\ Own wr w2.heap.size T_impl_Money 3 ap an ac css.flatten /\ Own wr w2.heap.size T_impl_Money 3 bp an bc dss.flatten /\ (∀ q, ap.map (·.block) = some q -> bp.map (·.block) ≠ some q) /\ AllR w 3 css ((l.take an).map planSA) /\ AllR w 3 dss ((l.take an).map planSB), fun _ _ _ _ _ _ i _ => n - i.toNat,
    ⟨[], [], rfl, by omega, rfl, hn3.ext.trans hn4.ext, Own.of_blk0 (hn3.blk.ext hn4.ext) (by omega) (by simp) (by decide), Own.of_blk0 hn4.blk (by omega) (by simp) (by decide), fun q h1 h2 => by simp at h1 h2; omega, trivial, trivial⟩, ?_⟩
  intro junk wr ap an ac bp bn bc i ⟨css, dss, hi, hle, hbn, hx, hoa, hob, hdis, hra, hrb⟩
  subst hi; subst hbn
  have lx := hx.le
  refine ifD (fun hlt => ?_) (fun hge => ?_)
  · have hjl : bn < l.length := by omega
    obtain ⟨b, off, hpp, hs⟩ := h.2.2.2 (by omega)
    subst hpp
    obtain ⟨cs, hk, hr, hsg⟩ := hs bn _ (List.getElem?_eq_getElem hjl)
    have hcode := hc _ (List.getElem_mem hjl)
    have hrr := hr
    obtain ⟨a0, a1, a2p, a2n, a2c, a2z, a3, a4, a5p, a5n, a5c, a5z, a6, a7, a8p, a8n, a8c, a8z, rfl, hd, ir2, ir5, ir8⟩ := open_Row hr hcode
    have hl : Loads P T_impl_Row (((⟨b, off, none⟩ : Addr)).add (((bn : Nat) : Int).toNat * 9)) (.agg ⟨[.string a0, .bool a1, .slice a2p a2n a2c, .string a3, .bool a4, .slice a5p a5n a5c, .string a6, .bool a7, .slice a8p a8n a8c]⟩) wr := by
      rw [Int.toNat_natCast, addr_add]; exact loadsA (by kernel_rfl) (hsg.ext (X2.trans hx))
    have sa := planS_snoc (f := planSA) hjl; have sb := planS_snoc (f := planSB) hjl
    rw [hd] at sa sb
    refine ⟨⟨by omega, by omega⟩, _, _, _, _, _, _, _, _, _, _, _, _, _, _, _, hl, ?_⟩
    intro r4 w5 hn5
    obtain ⟨w6, st6, hb6, y6⟩ := hn5.fill (P := P) (t := T_impl_Row) hrr.cells1 (by kernel_rfl) rfl
    refine ⟨w6, st6, _, _, _, _, _, hb6.loadAAt 0 [.string a0, .bool a1, .slice a2p a2n a2c] rfl (by kernel_rfl) rfl, ?_⟩
    intro r5 w7 hn7
    have l6 := y6.le; have l7 := hn7.ext.le; have e7 := hn7.r_eq
    have y7 := y6.trans hn7.ext
    obtain ⟨p8, c8, w8, a8, o8, ch8, d8⟩ := (hoa.ext y7).push1 (P := P) planS_sliceT (by omega) hn7.blk rfl (by simp [Value.oneCell']) (by omega) (by omega)
    have pa : ∀ q ∈ (ap.map (·.block)).toList, w2.heap.size <= q /\ q < wr.heap.size := fun q hq => World.ownsRow.lt hoa q (by cases ap <;> simp_all [Value.ownBlock])
    have pb : ∀ q, bp.map (·.block) = some q -> w2.heap.size <= q /\ q < wr.heap.size := fun q hq => World.ownsRow.lt hob q (by rw [<- hq]; cases bp <;> rfl)
    have hob8 := (hob.ext y7).chg ch8 (fun q hq hm => hdis q (opt_mem hm) hq)
    have x8 : Ext w2 w8 := (hx.trans y7).chg ch8 fun q hq => (pa q hq).1
    have l8 := ch8.size
    have e5 := hn5.r_eq
    have hb8 := (hb6.ext hn7.ext).chg ch8 (fun hm => by have := (pa _ hm).2; omega)
    refine ⟨_, _, _, _, a8, _, _, _, _, _, hb8.loadAAt 3 [.string a3, .bool a4, .slice a5p a5n a5c] rfl (by kernel_rfl) rfl, ?_⟩
    intro r6 w9 hn9
    have l9 := hn9.ext.le; have e9 := hn9.r_eq; have s9 := hn9.size
    obtain ⟨p10, c10, w10, a10, o10, ch10, d10⟩ := (hob8.ext hn9.ext).push1 (P := P) planS_sliceT (by omega) hn9.blk rfl (by simp [Value.oneCell']) (by omega) (by omega)
    have pbl : ∀ q ∈ (bp.map (·.block)).toList, w2.heap.size <= q /\ q < wr.heap.size := fun q hq => pb q (opt_mem hq)
    have hd8 : ∀ q, p8.map (·.block) = some q -> bp.map (·.block) ≠ some q := fun q hq hb => by
      rcases d8 with d8 | d8
      · exact hdis q (d8 ▸ hq) hb
      · have := d8 q hq; have := (pb q hb).2; omega
    have p8lt : ∀ q, p8.map (·.block) = some q -> q < w8.heap.size := fun q hq => (World.ownsRow.lt o8 q (by rw [<- hq]; cases p8 <;> rfl)).2
    have o8' := (o8.ext hn9.ext).chg ch10 (fun q hq hm => hd8 q hq (opt_mem hm))
    have x10 : Ext w2 w10 := (x8.trans hn9.ext).chg ch10 fun q hq => (pbl q hq).1
    refine ⟨_, _, _, _, a10, exW ⟨by omega, by omega⟩ ⟨⟨css ++ [[.string a0, .bool a1, .slice a2p a2n a2c]], dss ++ [[.string a3, .bool a4, .slice a5p a5n a5c]], by omega, by omega, rfl, x10, by simpa using o8', by simpa using o10, fun q hq hb => ?_, ?_, ?_⟩, ?_⟩⟩
    · rcases d10 with d10 | d10
      · exact hd8 q hq (d10 ▸ hb)
      · have := d10 q hb; have := p8lt q hq; omega
    · rw [sa]
      refine AllR.snoc (k := 3) rfl ?_ hra; exact ⟨rfl, rfl, ⟨_, _, _, rfl, ir2⟩, trivial⟩
    · rw [sb]
      refine AllR.snoc (k := 3) rfl ?_ hrb; exact ⟨rfl, rfl, ⟨_, _, _, rfl, ir5⟩, trivial⟩
    · show n - ((bn : Int) + 1).toNat < n - (bn : Int).toNat
      omega
  · have hjn : bn = n := by omega
    rw [List.take_of_length_le (by omega)] at hra hrb
    have Xr := X2.trans hx
    have rowsA := rows_of_own hoa (hra.ext Xr) (by simp; omega)
    have rowsB := rows_of_own hob (hrb.ext Xr) (by simp; omega)
    refine Ret.at (impl_MoneySum_c cur rowsA (planSA_code hc) (by omega) (ht.ext Xr)) ?_
    rintro v w5 ⟨vs5, f5, hv, ho5, hnd5, y5⟩
    subst hv
    have ho5' := ho5
    obtain ⟨d0, d1, dp, dn, dc, dz, rfl, _, _⟩ := open_Money ho5.reps (moneySum_code _ _)
    refine ⟨_, _, _, _, _, _, rfl, ?_⟩
    intro r7 w6 hn6
    obtain ⟨w7, st7, hb7, y7⟩ := hn6.fill (P := P) (t := T_impl_Money) (xs := [.string d0, .bool d1, .slice dp dn dc]) (by simp [Value.oneCell']) (by kernel_rfl) rfl
    have e6 := hn6.r_eq
    have Y7 := y5.trans y7
    refine ⟨w7, st7, ?_⟩
    refine Ret.at (impl_MoneySum_c cur (rowsB.ext Y7) (planSB_code hc) (by omega) (ht.ext (Xr.trans Y7))) ?_
    rintro v w8 ⟨vs8, f8, hv, ho8, hnd8, y8⟩
    subst hv
    have ho8' := ho8
    obtain ⟨g0, g1, gp, gn, gc, gz, rfl, _, _⟩ := open_Money ho8.reps (moneySum_code _ _)
    refine ⟨_, _, _, _, _, _, rfl, ?_⟩
    intro r8 w9 hn9
    have e9 := hn9.r_eq
    obtain ⟨w10, st10, hb10, y10⟩ := hn9.fill (P := P) (t := T_impl_Money) (xs := [.string g0, .bool g1, .slice gp gn gc]) (by simp [Value.oneCell']) (by kernel_rfl) rfl
    have Y10 := (hx.trans Y7).trans (y8.trans y10)
    have l5 := y5.le; have l7 := y7.le; have l8 := y8.le; have l10 := y10.le; have l6 := hn6.ext.le; have l9 := hn9.ext.le
    refine ⟨w10, st10, ifN (fun hno => ifT (zero _ Y10 (by unfold planSOk; rw [hno]; simp))) (fun h1 => ifN (fun hno => zero _ Y10 (by unfold planSOk; rw [hno]; simp)) (fun h2 => ?_))⟩
    have hok : planSOk cur l = true := by unfold planSOk; rw [h1, h2]; simp
    have hR : ∀ f, planSR cur f l = moneySum cur (l.map f) := fun f => by unfold planSR; rw [hok]; rfl
    have D := Ext.drew w10
    have lD := D.le
    have k7 := ((hb7.ext y8).ext y10).ext D
    have k8 := hb10.ext D
    obtain ⟨w11, st11, hb11, ch11, sz11⟩ := ((K0.ext Y10).ext D).storeA0 (P := P) (t := T_impl_Money) (xs := [.string d0, .bool d1, .slice dp dn dc]) (by kernel_rfl) rfl (by simp [Value.oneCell'])
    obtain ⟨w12, st12, hb12, ch12, sz12⟩ := (((K1.ext Y10).ext D).chg ch11 (by simp; omega)).storeA0 (P := P) (t := T_impl_Money) (xs := [.string g0, .bool g1, .slice gp gn gc]) (by kernel_rfl) rfl (by simp [Value.oneCell'])
    have o5 := ((((ho5'.ext (y7.trans (y8.trans y10))).ext D).chg1 ch11 (by omega)).chg1 ch12 (by omega)).mono (B' := w.heap.size) (by omega)
    have o8 := ((((ho8'.ext y10).ext D).chg1 ch11 (by omega)).chg1 ch12 (by omega)).mono (B' := w.heap.size) (by omega)
    refine ⟨[r], _, _, _, _, _, fun W hW => (k7.chg (show Chg [r] w10.drew W from hW) (by simp; omega)).loadA0 (by kernel_rfl), _, _, _, _, _, fun W hW => (k8.chg (show Chg [r] w10.drew W from hW) (by simp; omega)).loadA0 (by kernel_rfl), w11, st11, show Chg [r] w10.drew w11 from ch11, w12, st12, _, _, _, _, _, (hb11.chg ch12 (by simp; omega)).loadA0 (by kernel_rfl), _, _, _, _, _, hb12.loadA0 (by kernel_rfl), [.string d0, .bool d1, .slice dp dn dc], f5, [.string g0, .bool g1, .slice gp gn gc], f8, by rw [hok], by rw [hR]; exact o5, hnd5, planSR_code _ _ _, planSR_cnt (by omega), by rw [hR]; exact o8, hnd8, planSR_code _ _ _, planSR_cnt (by omega), fun k hk hm => ?_, (((X2.trans Y10).trans D).chg ch11 (by simp; omega)).chg ch12 (by simp; omega)⟩
    have h3 := (ho5'.lt k hk).2; have h4 := (ho8'.lt k hm).1
    omega
end Go.Proofs.YtbgokfhcgcoipaaGreatDoor
namespace Go.Proofs.YtbgokfhcgcoipaaGreatDoor
open Go Go.Proofs.YtbgokfhcgcoipaaGreatDoor.Sx
abbrev N3 := Nat × Nat × Nat
def payN (tx : Nat -> Nat) (p L : Nat) : Nat := if L + tx L < p then L + tx L else p
def perN (tx : Nat -> Nat) (p : Nat) : Nat -> Nat -> List N3
  | 0, _ => []
  | k + 1, L => if L = 0 then [] else (tx L, payN tx p L, nx tx p L) :: perN tx p k (nx tx p L)
def endN : Nat -> List N3 -> Nat
  | L, [] => L
  | _, x :: r => endN x.2.2 r
def rowN (c : ByteArray) (x : N3) : List D0 := rowOf c (x.1 : Int) (x.2.1 : Int) (x.2.2 : Int)
def sumA (l : List N3) : Nat := (l.map fun x => x.1).sum
def sumB (l : List N3) : Nat := (l.map fun x => x.2.1).sum
theorem lesser_nat (d p : Nat) : lesser (d : Int) (p : Int) = ((if d < p then d else p : Nat) : Int) := by
  unfold lesser; split <;> split <;> omega
theorem nextT_row {c : ByteArray} {L p m t : Nat} {mode : Int} (hc : curKnown c = true) (hL : 2 * L < 1000000000000000000000000000000000000) (hp : p < 1000000000000000000000000000000000000) (ht : taxOk [.bool false, .ints (digs m), .int (t : Int)] = true) (hmo : modeOk mode = true) :
    nextT (.str c :: enc (L : Int)) [.bool false, .ints (digs m), .int (t : Int)] (.str c :: enc (p : Int)) mode = (true, rowN c (txF m t mode L, payN (txF m t mode) p L, nx (txF m t mode) p L)) := by
  rw [nextT_nx hc hL hp ht hmo, lesser_nat]; rfl
theorem two_pow_le {L k : Nat} : 2 * L <= L * 2 ^ (k + 1) := by
  have hk1 : 1 <= 2 ^ k := Nat.one_le_two_pow
  rw [Nat.pow_succ, Nat.mul_comm (2 ^ k) 2, <- Nat.mul_assoc, Nat.mul_comm L 2]
  exact Nat.le_mul_of_pos_right _ hk1
theorem nx_pow {tx : Nat -> Nat} (hle : ∀ L, tx L <= L) {p L k B : Nat} (h : L * 2 ^ (k + 1) < B) : nx tx p L * 2 ^ k < B := by
  have hnx : nx tx p L <= 2 * L := by unfold nx; have := hle L; omega
  refine Nat.lt_of_le_of_lt (Nat.mul_le_mul_right _ hnx) ?_
  have e : 2 * L * 2 ^ k = L * 2 ^ (k + 1) := by rw [Nat.pow_succ, Nat.mul_comm 2 L, Nat.mul_assoc, Nat.mul_comm 2 (2 ^ k)]
  rw [e]; exact h
theorem perL_perN {c : ByteArray} {p m t : Nat} {mode : Int} (hc : curKnown c = true) (hp : p < 1000000000000000000000000000000000000) (ht : taxOk [.bool false, .ints (digs m), .int (t : Int)] = true) (hmo : modeOk mode = true) :
    ∀ (k L : Nat), L * 2 ^ k < 1000000000000000000000000000000000000 -> perL k (.str c :: enc (L : Int)) [.bool false, .ints (digs m), .int (t : Int)] (.str c :: enc (p : Int)) mode = (perN (txF m t mode) p k L).map fun x => (true, rowN c x)
  | 0, L, _ => rfl
  | k + 1, L, hL => by
    have h2 := two_pow_le (L := L) (k := k)
    rw [perL_succ, zeroM_nat (by omega)]
    unfold perN
    by_cases h0 : L = 0
    · rw [decide_eq_true h0, if_pos rfl, if_pos h0]; rfl
    · rw [decide_eq_false h0, if_neg (by decide), if_neg h0, nextT_row hc (by omega) hp ht hmo]
      have ih := perL_perN hc hp ht hmo k (nx (txF m t mode) p L) (nx_pow (fun L => txF_le (taxOk_le ht) L) hL)
      simp only [if_true, List.map_cons]
      rw [<- ih]
      rfl
theorem planT_perN {c : ByteArray} {n p L m t : Nat} {mode : Int} (hc : curKnown c = true) (hn : 1 <= n) (hn2 : n <= 24) (hp : p < 1000000000000000000000000000000000000) (hL : L * 2 ^ n < 1000000000000000000000000000000000000) (ht : taxOk [.bool false, .ints (digs m), .int (t : Int)] = true) (hmo : modeOk mode = true) :
    planT n (.str c :: enc (L : Int)) [.bool false, .ints (digs m), .int (t : Int)] (.str c :: enc (p : Int)) mode = (true, (perN (txF m t mode) p n L).map (rowN c)) := by
  have hk1 : 1 <= 2 ^ n := Nat.one_le_two_pow
  have hLB : L < 1000000000000000000000000000000000000 := Nat.lt_of_le_of_lt (Nat.le_mul_of_pos_right L hk1) hL
  have hal := alk_enc (money_nat hc hLB) (money_nat hc hp)
  unfold planT
  rw [decide_eq_true (show (1 : Int) <= (n : Int) by omega), decide_eq_true (show (n : Int) <= 24 by omega), hal, Int.toNat_natCast, perL_perN hc hp ht hmo n L hL]
  rw [List.all_map, List.map_map]
  rw [if_pos (by simp)]
  rfl
section
variable {tx : Nat -> Nat} {p : Nat}
theorem perN_len : ∀ (k L : Nat), (perN tx p k L).length <= k
  | 0, _ => Nat.le_refl _
  | k + 1, L => by
    unfold perN
    split
    · simp
    · have := perN_len k (nx tx p L); simp; omega
theorem perN_end : ∀ (k L : Nat), (perN tx p k L).length = k ∨ endN L (perN tx p k L) = 0
  | 0, _ => .inl rfl
  | k + 1, L => by
    unfold perN
    split
    · rename_i h; exact .inr h
    · rcases perN_end k (nx tx p L) with h | h
      · left; simp [h]
      · right; exact h
theorem perN_sum : ∀ (k L : Nat), L + sumA (perN tx p k L) = sumB (perN tx p k L) + endN L (perN tx p k L)
  | 0, L => by simp [perN, sumA, sumB, endN]
  | k + 1, L => by
    unfold perN
    split
    · simp [sumA, sumB, endN]
    · have ih := perN_sum k (nx tx p L)
      simp only [sumA, sumB, endN, List.map_cons, List.sum_cons] at ih ⊢
      have : L + tx L = payN tx p L + nx tx p L := by unfold payN nx; split <;> omega
      omega
theorem perN_top (hle : ∀ L, tx L <= L) : ∀ (k L : Nat), L + sumA (perN tx p k L) <= L * 2 ^ k
  | 0, L => by simp [perN, sumA]
  | k + 1, L => by
    have hk1 : 1 <= 2 ^ k := Nat.one_le_two_pow
    have e : 2 * L * 2 ^ k = L * 2 ^ (k + 1) := by rw [Nat.pow_succ, Nat.mul_comm 2 L, Nat.mul_assoc, Nat.mul_comm 2 (2 ^ k)]
    unfold perN
    split
    · rename_i h; subst h; simp [sumA]
    · have ih := perN_top hle k (nx tx p L)
      simp only [sumA, List.map_cons, List.sum_cons] at ih ⊢
      have hM : nx tx p L <= L + tx L := by unfold nx; omega
      have hl := hle L
      obtain ⟨d, hd⟩ : ∃ d, L + tx L = nx tx p L + d := ⟨L + tx L - nx tx p L, by omega⟩
      have h1 : (L + tx L) * 2 ^ k <= 2 * L * 2 ^ k := Nat.mul_le_mul_right _ (by omega)
      have h2 : (L + tx L) * 2 ^ k = nx tx p L * 2 ^ k + d * 2 ^ k := by rw [hd, Nat.add_mul]
      have h3 : d <= d * 2 ^ k := Nat.le_mul_of_pos_right _ hk1
      omega
theorem perN_all (hle : ∀ L, tx L <= L) {B : Nat} : ∀ (k L : Nat), L * 2 ^ k < B -> ∀ x ∈ perN tx p k L, x.1 < B /\ x.2.1 < B /\ x.2.2 < B
  | 0, L, _, x, hx => by simp [perN] at hx
  | k + 1, L, hL, x, hx => by
    unfold perN at hx
    split at hx
    · simp at hx
    · have h2 := two_pow_le (L := L) (k := k)
      have hl := hle L
      rcases List.mem_cons.1 hx with e | e
      · subst e
        refine ⟨by show tx L < B; omega, ?_, ?_⟩
        · show payN tx p L < B
          unfold payN; split <;> omega
        · show nx tx p L < B
          unfold nx; omega
      · exact perN_all hle k _ (nx_pow hle hL) x e
end
theorem endN_last (c : ByteArray) : ∀ (L : Nat) (l : List N3), l ≠ [] -> ∃ i q : Nat, (l.map (rowN c)).getLast? = some (rowOf c (i : Int) (q : Int) ((endN L l : Nat) : Int))
  | _, [], h => absurd rfl h
  | L, [x], _ => ⟨x.1, x.2.1, rfl⟩
  | L, x :: y :: r, _ => by
    obtain ⟨i, q, h⟩ := endN_last c x.2.2 (y :: r) (by simp)
    refine ⟨i, q, ?_⟩
    rw [List.map_cons, List.getLast?_cons, h]; rfl
theorem planDone_N {c : ByteArray} {L : Nat} {l : List N3} (hb : l ≠ [] -> endN L l < 1000000000000000000000000000000000000) : planDone (l.map (rowN c)) = (decide (0 < l.length) && decide (endN L l = 0)) := by
  cases l with
  | nil => rfl
  | cons x r =>
    obtain ⟨i, q, h⟩ := endN_last c L (x :: r) (by simp)
    rw [planDone_last (hb (by simp)) h, decide_eq_true (show 0 < (x :: r).length by simp), Bool.true_and]
theorem endN_lt {B : Nat} : ∀ (L : Nat) (l : List N3), L < B -> (∀ x ∈ l, x.1 < B /\ x.2.1 < B /\ x.2.2 < B) -> endN L l < B
  | L, [], h, _ => h
  | L, x :: r, _, h => endN_lt x.2.2 r (h x (by simp)).2.2 (fun y hy => h y (by simp [hy]))
theorem sumI_mapN (f : N3 -> Nat) (g : N3 -> List D0) (hg : ∀ x, moneyVal (g x) = (f x : Int)) : ∀ l : List N3, sumI moneyVal (l.map g) = (((l.map f).sum : Nat) : Int)
  | [] => rfl
  | x :: r => by
    have ih := sumI_mapN f g hg r
    simp only [List.map_cons, sumI, List.sum_cons, hg] at ih ⊢
    omega
theorem msAll_N {c : ByteArray} (hc : curKnown c = true) (f : N3 -> Nat) (g : N3 -> List D0) (hg : ∀ x, g x = .str c :: enc (f x : Int)) {l : List N3} (hb : ∀ x ∈ l, f x < 1000000000000000000000000000000000000) (hs : (l.map f).sum < 1000000000000000000000000000000000000) :
    msAll c (l.map g) = true /\ moneySum c (l.map g) = .str c :: enc (((l.map f).sum : Nat) : Int) := by
  have hv : ∀ x, moneyVal (g x) = (f x : Int) := fun x => by
    rw [hg]
    show ival (enc (f x : Int)) = _
    exact ival_enc _
  have e := sumI_mapN f g hv l
  have h1 : (l.map g).all (msOk c) = true := by
    rw [List.all_eq_true]
    intro x hx
    obtain ⟨y, hy, rfl⟩ := List.mem_map.1 hx
    rw [hg]
    show (moneyOk (.str c :: enc (f y : Int)) && decide (c = c)) = true
    rw [money_nat hc (hb y hy), decide_eq_true rfl]; rfl
  have h2 := money_nat hc hs
  constructor
  · unfold msAll; rw [h1, e, h2]; rfl
  · unfold moneySum moneyMk; rw [h1, e, h2]; rfl
theorem planS_N {c : ByteArray} (hc : curKnown c = true) {l : List N3} (hb : ∀ x ∈ l, x.1 < 1000000000000000000000000000000000000 /\ x.2.1 < 1000000000000000000000000000000000000 /\ x.2.2 < 1000000000000000000000000000000000000) (ha : sumA l < 1000000000000000000000000000000000000) (hs : sumB l < 1000000000000000000000000000000000000) :
    planSOk c (l.map (rowN c)) = true /\ planSR c planSA (l.map (rowN c)) = .str c :: enc ((sumA l : Nat) : Int) /\ planSR c planSB (l.map (rowN c)) = .str c :: enc ((sumB l : Nat) : Int) := by
  obtain ⟨a1, a2⟩ := msAll_N hc (fun x => x.1) (planSA ∘ rowN c) (fun x => rfl) (fun x hx => (hb x hx).1) ha
  obtain ⟨b1, b2⟩ := msAll_N hc (fun x => x.2.1) (planSB ∘ rowN c) (fun x => rfl) (fun x hx => (hb x hx).2.1) hs
  have ok : planSOk c (l.map (rowN c)) = true := by
    unfold planSOk
    rw [List.map_map, List.map_map, a1, b1, decide_eq_true (Nat.zero_le _)]; rfl
  refine ⟨ok, ?_, ?_⟩
  · unfold planSR; rw [ok, if_pos rfl, List.map_map, a2]; rfl
  · unfold planSR; rw [ok, if_pos rfl, List.map_map, b2]; rfl
end Go.Proofs.YtbgokfhcgcoipaaGreatDoor
namespace Go.Proofs.YtbgokfhcgcoipaaGreatDoor
open Go Go.Proofs.YtbgokfhcgcoipaaGreatDoor.Sx
theorem moneyMk_ok {c : ByteArray} {z : Int} (h : moneyOk (.str c :: enc z) = true) : moneyMk c z = .str c :: enc z := by unfold moneyMk; rw [if_pos h]
theorem impl_IntSign_c {w : World} {xs : List Value} {z : Int} (h : Reps w xs (enc z)) (hok : intOk (enc z) = true) : Ret P n_impl_IntSign [.agg ⟨xs⟩] w fun v w' => v = .int .i64 (sgn z) /\ Ext w w' := by
  have hr := h
  obtain ⟨a0, a1p, a1n, a1c, a1z, rfl, hd, ha⟩ := open_Signed h rfl
  refine impl_IntSign_ret ?_
  unfold impl_IntSign
  intro r w1 hn1
  refine ⟨_, _, _, _, hn1.blk.loadA0 (by kernel_rfl), ?_⟩
  refine Ret.at (impl_IntOk_c (hr.ext hn1.ext) rfl) ?_
  rintro v w2 ⟨hv, y2⟩
  subst hv
  rw [hok]
  refine ⟨_, rfl, fun e => absurd e (by simp), fun _ => ⟨_, _, _, _, (hn1.blk.ext y2).loadA0 (by kernel_rfl), ?_⟩⟩
  refine Ret.at (impl_intSign_c (hr.ext (hn1.ext.trans y2))) ?_
  rintro v w3 ⟨hv, y3⟩
  subst hv
  exact ⟨_, rfl, rfl, (hn1.ext.trans y2).trans y3⟩
theorem impl_MoneyOf_c {w : World} (cur : ByteArray) {n : Int} (h0 : -9223372036854775808 <= n) (h1 : n <= 9223372036854775807) (ht : Tab w) :
    Ret P n_impl_MoneyOf [.string cur, .int .i64 n] w fun v w' => ∃ vs f, v = .tuple #[.agg ⟨vs⟩, .bool (moneyOk (.str cur :: enc n))] /\ Owns w' w.heap.size vs (moneyMk cur n) f /\ f.Nodup /\ Ext w w' := by
  refine impl_MoneyOf_ret ?_
  unfold impl_MoneyOf
  intro r w1 hn1
  have e1 := hn1.r_eq; have s1 := hn1.size
  refine Ret.at (impl_IntOf_c h0 h1) ?_
  rintro v w2 ⟨vs2, f2, hv, ho2, nd2, y2⟩
  subst hv
  obtain ⟨a0, ap, an, ac, az, rfl, _, _⟩ := open_Signed ho2.reps (enc_code _)
  have l2 := y2.le
  have X2 := hn1.ext.trans y2
  refine ⟨_, _, _, _, rfl, ?_⟩
  refine Ret.at (impl_moneyOf_c (ht.ext X2) cur ho2 nd2 (by omega)) ?_
  rintro v w3 ⟨vs3, f3, hv, ho3, nd3, y3⟩
  subst hv
  have l3 := y3.le
  obtain ⟨b0, b1, bp, bn, bc, bz, rfl, _, _⟩ := open_Money ho3.reps (moneyMk_code _ _)
  obtain ⟨W', st', ld', ow', xx', _, _⟩ := agg_end (t := T_impl_Money) ((hn1.blk.ext y2).ext y3) (X2.trans y3) (by omega) ho3 (by kernel_rfl) rfl (by omega) (by omega)
  exact ⟨_, _, _, _, _, _, rfl, W', st', _, _, _, _, _, ld', _, f3, rfl, ow', nd3, xx'⟩
end Go.Proofs.YtbgokfhcgcoipaaGreatDoor
namespace Go.Proofs.YtbgokfhcgcoipaaGreatDoor
open Go Go.Shelf
def ren105 : Ren := ⟨fun x => match x with | 105 => 234 | 212 => 283 | 99 => 284 | 165 => 226 | 166 => 227 | 170 => 285 | 169 => 228 | 263 => 318 | 264 => 319 | 206 => 320 | 240 => 277 | 241 => 278 | 276 => 314 | 277 => 315 | n => n, fun x => match x with | 9 => 9 | 3 => 3 | 4 => 4 | 20 => 20 | 0 => 0 | 46 => 235 | 109 => 287 | 5 => 5 | 72 => 248 | 76 => 188 | 51 => 223 | 146 => 318 | 53 => 153 | 148 => 320 | 70 => 246 | 37 => 28 | 75 => 187 | 127 => 282 | 164 => 310 | 80 => 250 | n => n, fun x => x⟩
theorem lays105 : Lays.n105 Tryz.prog ren105 := {
  mixed := by kernel_rfl,
  f99 := Tryz.func284.trans (congrArg some (by kernel_rfl)),
  f105 := Tryz.func234.trans (congrArg some (by kernel_rfl)),
  f165 := Tryz.func226.trans (congrArg some (by kernel_rfl)),
  f166 := Tryz.func227.trans (congrArg some (by kernel_rfl)),
  f169 := Tryz.func228.trans (congrArg some (by kernel_rfl)),
  f170 := Tryz.func285.trans (congrArg some (by kernel_rfl)),
  f206 := Tryz.func320.trans (congrArg some (by kernel_rfl)),
  f212 := Tryz.func283.trans (congrArg some (by kernel_rfl)),
  f240 := Tryz.func277.trans (congrArg some (by kernel_rfl)),
  f241 := Tryz.func278.trans (congrArg some (by kernel_rfl)),
  f263 := Tryz.func318.trans (congrArg some (by kernel_rfl)),
  f264 := Tryz.func319.trans (congrArg some (by kernel_rfl)),
  f276 := Tryz.func314.trans (congrArg some (by kernel_rfl)),
  f277 := Tryz.func315.trans (congrArg some (by kernel_rfl)),
  t0 := Tryz.underlying0,
  a0 := Tryz.isAgg0,
  z0 := Tryz.sizeOf0,
  v0 := Tryz.zeroValue0,
  t3 := Tryz.underlying3,
  a3 := Tryz.isAgg3,
  z3 := Tryz.sizeOf3,
  v3 := Tryz.zeroValue3,
  t4 := Tryz.underlying4,
  a4 := Tryz.isAgg4,
  z4 := Tryz.sizeOf4,
  v4 := Tryz.zeroValue4,
  t5 := Tryz.underlying5,
  a5 := Tryz.isAgg5,
  z5 := Tryz.sizeOf5,
  v5 := Tryz.zeroValue5,
  t9 := Tryz.underlying9,
  a9 := Tryz.isAgg9,
  z9 := Tryz.sizeOf9,
  v9 := Tryz.zeroValue9,
  t20 := Tryz.underlying20,
  a20 := Tryz.isAgg20,
  z20 := Tryz.sizeOf20,
  v20 := Tryz.zeroValue20,
  t37 := Tryz.underlying28,
  a37 := Tryz.isAgg28,
  z37 := Tryz.sizeOf28,
  v37 := Tryz.zeroValue28,
  t46 := Tryz.underlying235,
  a46 := Tryz.isAgg235,
  z46 := Tryz.sizeOf235,
  v46 := Tryz.zeroValue235,
  t51 := Tryz.underlying223,
  a51 := Tryz.isAgg223,
  z51 := Tryz.sizeOf223,
  v51 := Tryz.zeroValue223,
  t53 := Tryz.underlying153,
  a53 := Tryz.isAgg153,
  z53 := Tryz.sizeOf153,
  v53 := Tryz.zeroValue153,
  t70 := Tryz.underlying246,
  a70 := Tryz.isAgg246,
  z70 := Tryz.sizeOf246,
  v70 := Tryz.zeroValue246,
  t72 := Tryz.underlying248,
  a72 := Tryz.isAgg248,
  z72 := Tryz.sizeOf248,
  v72 := Tryz.zeroValue248,
  t75 := Tryz.underlying187,
  a75 := Tryz.isAgg187,
  z75 := Tryz.sizeOf187,
  v75 := Tryz.zeroValue187,
  t76 := Tryz.underlying188,
  a76 := Tryz.isAgg188,
  z76 := Tryz.sizeOf188,
  v76 := Tryz.zeroValue188,
  t109 := Tryz.underlying287,
  a109 := Tryz.isAgg287,
  z109 := Tryz.sizeOf287,
  v109 := Tryz.zeroValue287,
  t127 := Tryz.underlying282,
  a127 := Tryz.isAgg282,
  z127 := Tryz.sizeOf282,
  v127 := Tryz.zeroValue282,
  t146 := Tryz.underlying318,
  a146 := Tryz.isAgg318,
  z146 := Tryz.sizeOf318,
  v146 := Tryz.zeroValue318,
  t148 := Tryz.underlying320,
  a148 := Tryz.isAgg320,
  z148 := Tryz.sizeOf320,
  v148 := Tryz.zeroValue320,
  t164 := Tryz.underlying310,
  a164 := Tryz.isAgg310,
  z164 := Tryz.sizeOf310,
  v164 := Tryz.zeroValue310 }
def ren156 : Ren := ⟨fun x => match x with | 156 => 168 | 165 => 226 | 166 => 227 | 169 => 228 | 240 => 277 | 241 => 278 | 276 => 314 | 277 => 315 | n => n, fun x => match x with | 31 => 98 | 9 => 9 | 3 => 3 | 4 => 4 | 0 => 0 | 20 => 20 | 72 => 248 | 76 => 188 | 70 => 246 | 37 => 28 | 75 => 187 | 127 => 282 | 164 => 310 | 5 => 5 | 80 => 250 | n => n, fun x => x⟩
theorem lays156 : Lays.n156 Tryz.prog ren156 := {
  mixed := by kernel_rfl,
  f156 := Tryz.func168.trans (congrArg some (by kernel_rfl)),
  f165 := Tryz.func226.trans (congrArg some (by kernel_rfl)),
  f166 := Tryz.func227.trans (congrArg some (by kernel_rfl)),
  f169 := Tryz.func228.trans (congrArg some (by kernel_rfl)),
  f240 := Tryz.func277.trans (congrArg some (by kernel_rfl)),
  f241 := Tryz.func278.trans (congrArg some (by kernel_rfl)),
  f276 := Tryz.func314.trans (congrArg some (by kernel_rfl)),
  f277 := Tryz.func315.trans (congrArg some (by kernel_rfl)),
  t0 := Tryz.underlying0,
  a0 := Tryz.isAgg0,
  z0 := Tryz.sizeOf0,
  v0 := Tryz.zeroValue0,
  t3 := Tryz.underlying3,
  a3 := Tryz.isAgg3,
  z3 := Tryz.sizeOf3,
  v3 := Tryz.zeroValue3,
  t4 := Tryz.underlying4,
  a4 := Tryz.isAgg4,
  z4 := Tryz.sizeOf4,
  v4 := Tryz.zeroValue4,
  t9 := Tryz.underlying9,
  a9 := Tryz.isAgg9,
  z9 := Tryz.sizeOf9,
  v9 := Tryz.zeroValue9,
  t20 := Tryz.underlying20,
  a20 := Tryz.isAgg20,
  z20 := Tryz.sizeOf20,
  v20 := Tryz.zeroValue20,
  t31 := Tryz.underlying98,
  a31 := Tryz.isAgg98,
  z31 := Tryz.sizeOf98,
  v31 := Tryz.zeroValue98,
  t37 := Tryz.underlying28,
  a37 := Tryz.isAgg28,
  z37 := Tryz.sizeOf28,
  v37 := Tryz.zeroValue28,
  t70 := Tryz.underlying246,
  a70 := Tryz.isAgg246,
  z70 := Tryz.sizeOf246,
  v70 := Tryz.zeroValue246,
  t72 := Tryz.underlying248,
  a72 := Tryz.isAgg248,
  z72 := Tryz.sizeOf248,
  v72 := Tryz.zeroValue248,
  t75 := Tryz.underlying187,
  a75 := Tryz.isAgg187,
  z75 := Tryz.sizeOf187,
  v75 := Tryz.zeroValue187,
  t76 := Tryz.underlying188,
  a76 := Tryz.isAgg188,
  z76 := Tryz.sizeOf188,
  v76 := Tryz.zeroValue188,
  t127 := Tryz.underlying282,
  a127 := Tryz.isAgg282,
  z127 := Tryz.sizeOf282,
  v127 := Tryz.zeroValue282,
  t164 := Tryz.underlying310,
  a164 := Tryz.isAgg310,
  z164 := Tryz.sizeOf310,
  v164 := Tryz.zeroValue310 }
def ren171 : Ren := ⟨fun x => match x with | 171 => 162 | 243 => 223 | 246 => 275 | 283 => 310 | 284 => 311 | 285 => 312 | 286 => 313 | 129 => 253 | 317 => 335 | 318 => 336 | 319 => 337 | 320 => 338 | 337 => 355 | 338 => 356 | n => n, fun x => match x with | 3 => 3 | 9 => 9 | 2 => 2 | 4 => 4 | 171 => 306 | 0 => 0 | 53 => 153 | 37 => 28 | 5 => 5 | 173 => 308 | 212 => 338 | 51 => 223 | 20 => 20 | 213 => 339 | 46 => 235 | 232 => 345 | 233 => 346 | n => n, fun x => match x with | 17 => 4 | 18 => 5 | 19 => 6 | n => n⟩
theorem lays171 : LaysM.n171 Tryz.prog ren171 := {
  mixed := by kernel_rfl,
  f129 := Tryz.func253.trans (congrArg some (by kernel_rfl)),
  f171 := Tryz.func162.trans (congrArg some (by kernel_rfl)),
  f243 := Tryz.func223.trans (congrArg some (by kernel_rfl)),
  f246 := Tryz.func275.trans (congrArg some (by kernel_rfl)),
  f283 := Tryz.func310.trans (congrArg some (by kernel_rfl)),
  f284 := Tryz.func311.trans (congrArg some (by kernel_rfl)),
  f285 := Tryz.func312.trans (congrArg some (by kernel_rfl)),
  f286 := Tryz.func313.trans (congrArg some (by kernel_rfl)),
  f317 := Tryz.func335.trans (congrArg some (by kernel_rfl)),
  f318 := Tryz.func336.trans (congrArg some (by kernel_rfl)),
  f319 := Tryz.func337.trans (congrArg some (by kernel_rfl)),
  f320 := Tryz.func338.trans (congrArg some (by kernel_rfl)),
  f337 := Tryz.func355.trans (congrArg some (by kernel_rfl)),
  f338 := Tryz.func356.trans (congrArg some (by kernel_rfl)),
  t0 := Tryz.underlying0,
  a0 := Tryz.isAgg0,
  z0 := Tryz.sizeOf0,
  v0 := Tryz.zeroValue0,
  t2 := Tryz.underlying2,
  a2 := Tryz.isAgg2,
  z2 := Tryz.sizeOf2,
  v2 := Tryz.zeroValue2,
  t3 := Tryz.underlying3,
  a3 := Tryz.isAgg3,
  z3 := Tryz.sizeOf3,
  v3 := Tryz.zeroValue3,
  t4 := Tryz.underlying4,
  a4 := Tryz.isAgg4,
  z4 := Tryz.sizeOf4,
  v4 := Tryz.zeroValue4,
  t5 := Tryz.underlying5,
  a5 := Tryz.isAgg5,
  z5 := Tryz.sizeOf5,
  v5 := Tryz.zeroValue5,
  t9 := Tryz.underlying9,
  a9 := Tryz.isAgg9,
  z9 := Tryz.sizeOf9,
  v9 := Tryz.zeroValue9,
  t20 := Tryz.underlying20,
  a20 := Tryz.isAgg20,
  z20 := Tryz.sizeOf20,
  v20 := Tryz.zeroValue20,
  t37 := Tryz.underlying28,
  a37 := Tryz.isAgg28,
  z37 := Tryz.sizeOf28,
  v37 := Tryz.zeroValue28,
  t46 := Tryz.underlying235,
  a46 := Tryz.isAgg235,
  z46 := Tryz.sizeOf235,
  v46 := Tryz.zeroValue235,
  t51 := Tryz.underlying223,
  a51 := Tryz.isAgg223,
  z51 := Tryz.sizeOf223,
  v51 := Tryz.zeroValue223,
  t53 := Tryz.underlying153,
  a53 := Tryz.isAgg153,
  z53 := Tryz.sizeOf153,
  v53 := Tryz.zeroValue153,
  t171 := Tryz.underlying306,
  a171 := Tryz.isAgg306,
  z171 := Tryz.sizeOf306,
  v171 := Tryz.zeroValue306,
  t173 := Tryz.underlying308,
  a173 := Tryz.isAgg308,
  z173 := Tryz.sizeOf308,
  v173 := Tryz.zeroValue308,
  t212 := Tryz.underlying338,
  a212 := Tryz.isAgg338,
  z212 := Tryz.sizeOf338,
  v212 := Tryz.zeroValue338,
  t213 := Tryz.underlying339,
  a213 := Tryz.isAgg339,
  z213 := Tryz.sizeOf339,
  t232 := Tryz.underlying345,
  a232 := Tryz.isAgg345,
  z232 := Tryz.sizeOf345,
  v232 := Tryz.zeroValue345,
  t233 := Tryz.underlying346,
  a233 := Tryz.isAgg346,
  z233 := Tryz.sizeOf346,
  v233 := Tryz.zeroValue346,
  g17 := by kernel_rfl,
  g18 := by kernel_rfl,
  g19 := by kernel_rfl,
  i0 := by kernel_rfl,
  i2 := by kernel_rfl,
  i3 := by kernel_rfl,
  i4 := by kernel_rfl,
  i5 := by kernel_rfl,
  i9 := by kernel_rfl,
  i20 := by kernel_rfl,
  i37 := by kernel_rfl,
  i46 := by kernel_rfl,
  i51 := by kernel_rfl,
  i53 := by kernel_rfl,
  i171 := by kernel_rfl,
  i173 := by kernel_rfl,
  i212 := by kernel_rfl,
  i232 := by kernel_rfl,
  i233 := by kernel_rfl,
  m17 := by kernel_rfl,
  m18 := by kernel_rfl,
  m19 := by kernel_rfl }
end Go.Proofs.YtbgokfhcgcoipaaGreatDoor
namespace Go.Proofs.YtbgokfhcgcoipaaGreatDoor
open Go Go.Proofs.YtbgokfhcgcoipaaGreatDoor.Sx
def TabP (w : World) : Prop := Lib.TabIs P w "internal/strconv.uint64pow10" .u64 Lib.pow10Tab
theorem TabP.ext {w w' : World} (h : TabP w) (he : Ext w w') : TabP w' := Joins.tab_stays lays171.m17 h he (Nat.le_refl _)
theorem X105 : Go.Proofs.Builder.Extra P ren105 where
  sizeBuilder := by kernel_rfl
  liesBuilder := by kernel_rfl
  t5 := lays105.t5
  a5 := lays105.a5
  z5 := lays105.z5
  v5 := lays105.v5
  infoByte := by kernel_rfl
  cellsByte := by kernel_rfl
  sizeByte := by kernel_rfl
  neB5 := by decide
theorem ba_ext {a b : ByteArray} (h : a.data.toList = b.data.toList) : a = b := by
  obtain ⟨⟨x⟩⟩ := a; obtain ⟨⟨y⟩⟩ := b
  simp at h; subst h; rfl
def itxt (u : Nat) : ByteArray := ⟨(Lib.decDigits u).toArray⟩
theorem decDigits_small {u : Nat} (h : u < 10) : Lib.decDigits u = [UInt8.ofNat (48 + u)] := by rw [Lib.decDigits, dif_pos h]
theorem decDigits_big {u : Nat} (h : ¬ u < 10) : Lib.decDigits u = Lib.decDigits (u / 10) ++ [UInt8.ofNat (48 + u % 10)] := by rw [Lib.decDigits, dif_neg h]
theorem itxt_small {u : Nat} (h : u < 10) : itxt u = strOfNums [((48 + u : Nat) : Int)] := ba_ext (by rw [strOfNums_data, itxt, decDigits_small h]; rfl)
theorem itxt_big {u : Nat} (h : ¬ u < 10) : itxt u = itxt (u / 10) ++ strOfNums [((48 + u % 10 : Nat) : Int)] := ba_ext (by
  have e : (itxt u).data.toList = Lib.decDigits u := by simp [itxt]
  have e1 : (itxt (u / 10)).data.toList = Lib.decDigits (u / 10) := by simp [itxt]
  rw [e, decDigits_big h, ByteArray.data_append, Array.toList_append, e1, strOfNums_data]; rfl)
theorem itxt_lt : ∀ (k : Nat) {u : Nat}, u < 10 ^ (k + 1) -> (itxt u).size <= k + 1
  | 0, u, h => by rw [itxt_small (by simpa using h), strOfNums_size]; simp
  | k + 1, u, h => by
    by_cases h1 : u < 10
    · rw [itxt_small h1, strOfNums_size]; simp
    · have h2 : u / 10 < 10 ^ (k + 1) := by rw [Nat.pow_succ] at h; omega
      have := itxt_lt k h2
      rw [itxt_big h1, ByteArray.size_append, strOfNums_size]
      simp; omega
theorem itxt_limb {u : Nat} (h : u < 1000000000) : (itxt u).size <= 9 := itxt_lt 8 (by simpa using h)
theorem impl_IntText_c {w : World} {n : Int} (ht : TabP w) (h0 : 0 <= n) (h1 : n <= 9223372036854775807) : Ret P n_impl_IntText [.int .i64 n] w fun v w' => v = .string (itxt n.toNat) /\ Ext w w' := by
  refine impl_IntText_ret ?_
  unfold impl_IntText
  obtain ⟨u, rfl⟩ : ∃ u : Nat, n = u := ⟨n.toNat, by omega⟩
  refine (Any.strconv_Itoa lays171 (u : Int) (by omega) h1 w ht).mono ?_
  rintro e w' ⟨rfl, k, os, rfl⟩
  rw [Lib.itoa_nonneg]
  exact ⟨_, rfl, rfl, Lib.below_grow _ _ (Nat.le_refl _) _ _⟩
def zeros (k : Nat) : ByteArray := ⟨(List.replicate k (48 : UInt8)).toArray⟩
def padT (s : ByteArray) (n : Int) : ByteArray := if n <= (s.size : Nat) ∨ 2000 < n then s else zeros (n - (s.size : Nat)).toNat ++ s
theorem zeros_size (k : Nat) : (zeros k).size = k := by simp [zeros, ByteArray.size]
theorem padT_le {s : ByteArray} {n : Int} {k : Nat} (h1 : s.size <= k) (h2 : n <= k) : (padT s n).size <= k := by
  unfold padT
  split
  · exact h1
  · rw [ByteArray.size_append, zeros_size]; omega
theorem padT_ge {s : ByteArray} {n : Int} (h : n <= 2000) : n <= ((padT s n).size : Nat) := by
  unfold padT
  split
  · omega
  · rw [ByteArray.size_append, zeros_size]; omega
theorem repeat_zeros (c : Nat) : (⟨(Lib.repeatL (S [48]).data.toList c).toArray⟩ : ByteArray) = zeros c := by
  have : ∀ c, Lib.repeatL (S [48]).data.toList c = List.replicate c (48 : UInt8) := fun c => by
    induction c with
    | zero => rfl
    | succ c ih => rw [Lib.repeatL, ih]; rfl
  rw [this]; rfl
theorem impl_Pad_c {w : World} (s : ByteArray) (n : Int) (hs : s.size <= 4611686018427387904) (hn : -4611686018427387904 <= n) : Ret P n_impl_Pad [.string s, .int .i64 n] w fun v w' => v = .string (padT s n) /\ Ext w w' := by
  refine impl_Pad_ret ?_
  unfold impl_Pad
  refine ifD (fun h => ifT ⟨by rw [padT, if_pos (.inl h)], Ext.refl _⟩) (fun h => ifD (fun h2 => ⟨by rw [padT, if_pos (.inr h2)], Ext.refl _⟩) (fun h2 => ?_))
  refine exW ⟨by omega, by omega⟩ ?_
  obtain ⟨c, hc⟩ : ∃ c : Nat, n - (s.size : Nat) = c := ⟨(n - (s.size : Nat)).toNat, by omega⟩
  rw [hc]
  refine (Any.strings_Repeat lays105 X105 (S [48]) c w (by omega) (by show 1 * c <= 140737488355328; omega)).mono ?_
  rintro e w' ⟨rfl, hx⟩
  rw [repeat_zeros]
  refine ⟨_, rfl, ?_, _, rfl, ?_, hx⟩
  · rw [zeros_size]; omega
  · rw [padT, if_neg (by omega), hc]; rfl
def natR : List Int -> ByteArray
  | [] => ByteArray.empty
  | x :: r => padT (itxt x.toNat) 9 ++ natR r
def natT (l : List Int) : ByteArray := match l.reverse with
  | [] => S [48]
  | x :: r => itxt x.toNat ++ natR r
theorem limb_text {x : Int} (h : 0 <= x /\ x < 1000000000) : (itxt x.toNat).size <= 9 /\ (padT (itxt x.toNat) 9).size <= 9 :=
  have h1 := itxt_limb (u := x.toNat) (by omega)
  ⟨h1, padT_le h1 (by decide)⟩
theorem natR_size : ∀ {l : List Int}, Limbs l -> (natR l).size <= l.length * 9
  | [], _ => by simp [natR]
  | x :: r, h => by
    have h := Limbs.cons.1 h
    have h1 := natR_size h.2; have h2 := (limb_text h.1).2
    rw [natR, ByteArray.size_append, List.length_cons]
    omega
theorem natT_size {l : List Int} (h : Limbs l) : (natT l).size <= l.length * 9 + 1 := by
  unfold natT
  cases e : l.reverse with
  | nil => show 1 <= _; omega
  | cons x r =>
    have hl : l.length = r.length + 1 := by rw [<- List.length_reverse, e]; rfl
    have hh : Limbs (x :: r) := fun y hy => h y (by rw [<- List.mem_reverse, e]; exact hy)
    have hh := Limbs.cons.1 hh
    have h1 := natR_size hh.2; have h2 := (limb_text hh.1).1
    show (itxt x.toNat ++ natR r).size <= _
    rw [ByteArray.size_append, hl]; omega
theorem rev_take_succ {l : List Int} {t : Nat} (h : t < l.length) : (l.take (t + 1)).reverse = l.getD t 0 :: (l.take t).reverse := by
  rw [List.take_add_one, List.getElem?_eq_getElem h, List.getD_eq_getElem?_getD, List.getElem?_eq_getElem h]
  simp
theorem natT_top {l : List Int} {n : Nat} (h : l.length = n + 1) : natT l = itxt (l.getD n 0).toNat ++ natR (l.take n).reverse := by
  have := rev_take_succ (l := l) (t := n) (by omega)
  rw [List.take_of_length_le (by omega)] at this
  unfold natT
  rw [this]
theorem impl_natText_c {w : World} {p : Option Addr} {n c : Nat} {z : List Int} (h : IntsR w p n c z) (hlz : Limbs z) (hn : n <= 1000) (ht : TabP w) :
    Ret P n_impl_natText [.slice p n c] w fun v w' => v = .string (natT z) /\ Ext w w' := by
  refine impl_natText_ret ?_
  unfold impl_natText
  have hlen := h.1
  have XS := Ext.refl w
  refine ifD (fun h0 => ⟨?_, XS⟩) (fun h0 => ?_)
  · rw [List.eq_nil_of_length_eq_zero (show z.length = 0 by omega)]; rfl
  · skip
    obtain ⟨m, rfl⟩ : ∃ m, n = m + 1 := ⟨n - 1, by omega⟩
    have e1 : ((m + 1 : Nat) : Int) - 1 = (m : Int) := by omega
    have e2 : ((m + 1 : Nat) : Int) - 2 = (m : Int) - 1 := by omega
    rw [e1, e2]
    have T := hlz.getD m
    obtain ⟨ad, rfl, hl⟩ := ints_at (h.ext XS) (i := (m : Int)) (by omega) (by omega)
    simp only [Int.toNat_natCast] at hl
    refine exW ⟨by omega, by omega⟩ ⟨⟨by omega, by omega⟩, _, by simpa only [Int.toNat_natCast] using hl, ?_⟩
    refine Ret.at (impl_IntText_c (ht.ext XS) T.1 (by omega)) ?_
    rintro v w2 ⟨hv, y2⟩
    subst hv
    refine ⟨_, rfl, exW ⟨by omega, by omega⟩ ⟨fun text i wr => ∃ s : Nat, i = (s : Int) - 1 /\ s <= m /\ text.size <= (m - s) * 9 + 9 /\ natT z = text ++ natR (z.take s).reverse /\ Ext w wr, fun _ i _ => (i + 1).toNat,
      ⟨m, rfl, by omega, by have := (limb_text T).1; omega, natT_top hlen, XS.trans y2⟩, ?_⟩⟩
    intro junk wr text i ⟨s, hi, hs, hsz, htx, hx⟩
    subst hi
    refine ifD (fun hpos => ?_) (fun hend => ?_)
    · obtain ⟨t, rfl⟩ : ∃ t, s = t + 1 := ⟨s - 1, by omega⟩
      have e3 : ((t + 1 : Nat) : Int) - 1 = (t : Int) := by omega
      rw [e3]
      have A := hlz.getD t
      have L := limb_text A
      obtain ⟨ad, hp, hl⟩ := ints_at (h.ext hx) (i := (t : Int)) (by omega) (by omega)
      obtain rfl := Option.some.inj hp
      simp only [Int.toNat_natCast] at hl
      refine ⟨⟨by omega, by omega⟩, _, by simpa only [Int.toNat_natCast] using hl, ?_⟩
      refine Ret.at (impl_IntText_c (ht.ext hx) A.1 (by omega)) ?_
      rintro v w3 ⟨hv, y3⟩
      subst hv
      refine ⟨_, rfl, ?_⟩
      refine Ret.at (impl_Pad_c _ 9 (by omega) (by omega)) ?_
      rintro v w4 ⟨hv, y4⟩
      subst hv
      refine ⟨_, rfl, ?_, _, rfl, exW ⟨by omega, by omega⟩ ⟨⟨t, by omega, by omega, ?_, ?_, (hx.trans y3).trans y4⟩, ?_⟩⟩
      · have : (m - (t + 1)) * 9 <= m * 9 := Nat.mul_le_mul_right _ (by omega)
        omega
      · rw [ByteArray.size_append]
        have : m - t = (m - (t + 1)) + 1 := by omega
        rw [this]; omega
      · rw [htx, rev_take_succ (by omega), natR, ByteArray.append_assoc]
      · show ((t : Int) - 1 + 1).toNat < ((t : Int) + 1).toNat
        omega
    · have hs0 : s = 0 := by omega
      subst hs0
      refine ⟨?_, hx⟩
      rw [htx]
      simp [natR]
def dotT (t : ByteArray) (s : Int) : ByteArray := if 0 < s then (t.extract 0 (((t.size : Nat) : Int) - s).toNat ++ S [46]) ++ t.extract (((t.size : Nat) : Int) - s).toNat t.size else t
def decT : List D0 -> ByteArray
  | [.bool b, .ints z, .int s] => if decOk [.bool b, .ints z, .int s] then (if b then S [45] ++ dotT (padT (natT z) (s + 1)) s else dotT (padT (natT z) (s + 1)) s) else S []
  | _ => S []
theorem dotT_size (t : ByteArray) (s : Int) : (dotT t s).size <= t.size + 1 := by
  unfold dotT
  split
  · rw [ByteArray.size_append, ByteArray.size_append, ByteArray.size_extract, ByteArray.size_extract]
    show _ + 1 + _ <= _
    omega
  · omega
theorem decT_size (d : List D0) : (decT d).size <= 100 := by
  unfold decT
  split
  · rename_i b z s
    split
    · rename_i h
      obtain ⟨_, _, hz, hl, _, _⟩ := decOk_parts h
      have h1 := natT_size hz; have h3 := dotT_size (padT (natT z) (s + 1)) s
      have h2 : (padT (natT z) (s + 1)).size <= 60 := padT_le (by omega) (by omega)
      split
      · rw [ByteArray.size_append]
        show 1 + _ <= _
        omega
      · omega
    · show 0 <= _; omega
  · show 0 <= _; omega
theorem impl_DecText_c {w : World} {xs : List Value} {dx : List D0} (h : Reps w xs dx) (hc : dx.map D0.code = [.bool, .ints, .int]) (ht : TabP w) :
    Ret P n_impl_DecText [.agg ⟨xs⟩] w fun v w' => v = .string (decT dx) /\ Ext w w' := by
  have hr := h
  obtain ⟨a0, a1p, a1n, a1c, a1z, a2, rfl, rfl, ha⟩ := open_Dec h hc
  have hl := ha.1
  refine impl_DecText_ret ?_
  unfold impl_DecText
  intro r w1 hn1
  refine ⟨_, _, _, _, _, hn1.blk.loadA0 (by kernel_rfl), ?_⟩
  refine Ret.at (impl_DecOk_c (hr.ext hn1.ext) rfl) ?_
  rintro v w2 ⟨hv, y2⟩
  subst hv
  have X2 := hn1.ext.trans y2
  refine ⟨_, rfl, ifN (fun e => ⟨by simp only [decT, e, Bool.false_eq_true, if_false], X2⟩) (fun e => ?_)⟩
  obtain ⟨hio, hno, hz, hl6, hs0, hs1⟩ := decOk_parts e
  have D := Ext.drew w2
  have X3 := X2.trans D
  have b := hn1.blk.ext (y2.trans D)
  refine ⟨_, _, _, fun W hW => (b.ext hW).loadAt 1 rfl (by kernel_rfl) rfl, ?_⟩
  refine Ret.at (impl_natText_c (ha.ext X3) hz (by omega) (ht.ext X3)) ?_
  rintro v w4 ⟨hv, y4⟩
  subst hv
  have N1 := natT_size hz
  have N2 : a1z.length * 9 <= 6 * 9 := Nat.mul_le_mul_right _ hl6
  refine ⟨_, rfl, y4, _, fun W hW => (b.ext hW).loadAt 2 rfl (by kernel_rfl) rfl, exW ⟨by omega, by omega⟩ ?_⟩
  refine Ret.at (impl_Pad_c _ (a2 + 1) (by omega) (by omega)) ?_
  rintro v w5 ⟨hv, y5⟩
  subst hv
  have Y5 := y4.trans y5
  have N3 : (padT (natT a1z) (a2 + 1)).size <= 60 := padT_le (by omega) (by omega)
  have N4 := padT_ge (s := natT a1z) (n := a2 + 1) (by omega)
  have X5 := X3.trans Y5
  have b5 := b.ext Y5
  have fin : ∀ t W, Ext w5 W -> t.size <= 1000 -> t = dotT (padT (natT a1z) (a2 + 1)) a2 -> impl_DecText_j0 r t W fun v w' => v = .string (decT [.bool a0, .ints a1z, .int a2]) /\ Ext w w' := by
    intro t W hW hts ht
    unfold impl_DecText_j0
    refine ⟨_, (b5.ext hW).loadAt 0 rfl (by kernel_rfl) rfl, fun e0 => ?_, fun e0 => ?_⟩
    · refine ⟨?_, _, rfl, ?_⟩
      · show 1 + t.size <= 9223372036854775807
        omega
      unfold impl_DecText_j1
      refine ⟨?_, X5.trans hW⟩
      subst e0
      simp only [decT, e, if_true, ht]
    · unfold impl_DecText_j1
      refine ⟨?_, X5.trans hW⟩
      subst e0
      simp only [decT, e, if_true, ht, Bool.false_eq_true, if_false]
  refine ⟨_, rfl, _, b5.loadAt 2 rfl (by kernel_rfl) rfl, ifD (fun hpos => ?_) (fun hz0 => fin _ _ (Ext.refl _) (by omega) (by rw [dotT, if_neg hz0]))⟩
  refine ⟨_, b5.loadAt 2 rfl (by kernel_rfl) rfl, exW ⟨by omega, by omega⟩ ⟨⟨by omega, by omega⟩, ?_, _, rfl, ⟨by omega, by omega⟩, ?_, _, rfl, fin _ _ (Ext.drew _) ?_ (by rw [dotT, if_pos hpos])⟩⟩
  · rw [ByteArray.size_extract]
    show _ + 1 <= _
    omega
  · rw [ByteArray.size_append, ByteArray.size_extract, ByteArray.size_extract]
    show _ + 1 + _ <= _
    omega
  · rw [ByteArray.size_append, ByteArray.size_append, ByteArray.size_extract, ByteArray.size_extract]
    show _ + 1 + _ <= _
    omega
end Go.Proofs.YtbgokfhcgcoipaaGreatDoor
namespace Go.Proofs.YtbgokfhcgcoipaaGreatDoor
open Go Go.Proofs.YtbgokfhcgcoipaaGreatDoor.Sx
def curPlaces (c : ByteArray) : Int := (curFind implTab c).2.2.1
def moneyT : List D0 -> ByteArray
  | [.str c, .bool b, .ints z] => if moneyOk [.str c, .bool b, .ints z] then (c ++ S [32]) ++ decT [.bool b, .ints z, .int (curPlaces c)] else S []
  | _ => S []
theorem known_size {c : ByteArray} (h : curKnown c = true) : c.size <= 50 := by
  have h1 : (implTab.all fun r => decide (r.1.size <= 50)) = true := by decide +kernel
  unfold curKnown curIn at h
  rw [List.any_eq_true] at h
  obtain ⟨r, hr, he⟩ := h
  rw [List.all_eq_true] at h1
  have := of_decide_eq_true (h1 r hr)
  rwa [of_decide_eq_true he] at this
theorem moneyT_size (c : ByteArray) (b : Bool) (z : List Int) : (moneyT [.str c, .bool b, .ints z]).size <= 200 := by
  simp only [moneyT]
  split
  · rename_i h
    have := decT_size [.bool b, .ints z, .int (curPlaces c)]
    have hk : curKnown c = true := by
      simp only [moneyOk, Bool.and_eq_true] at h
      exact h.1.1
    have := known_size hk
    rw [ByteArray.size_append, ByteArray.size_append]
    show c.size + 1 + _ <= _
    omega
  · show 0 <= _; omega
theorem impl_CurPlaces_c {w : World} (c : ByteArray) (ht : Tab w) : Ret P n_impl_CurPlaces [.string c] w fun v w' => v = .int .i64 (curPlaces c) /\ Ext w w' := by
  refine impl_CurPlaces_ret ?_
  unfold impl_CurPlaces
  refine Ret.at (impl_currencyOf_c ht c) ?_
  rintro v w1 ⟨hv, y1⟩
  subst hv
  refine ⟨_, _, _, _, _, rfl, ?_⟩
  intro r w2 hn
  obtain ⟨w3, st, hb3, y3⟩ := hn.fill (P := P) (t := T_impl_currency) (xs := curCells (curFind implTab c)) (by simp [curCells, Value.oneCell']) (by kernel_rfl) rfl
  exact ⟨w3, st, _, hb3.loadAt 2 rfl (by kernel_rfl) rfl, rfl, y1.trans y3⟩
theorem impl_MoneyText_c {w : World} {xs : List Value} {c : ByteArray} {b : Bool} {z : List Int} (h : Reps w xs [.str c, .bool b, .ints z]) (ht : Tab w) (hp : TabP w) :
    Ret P n_impl_MoneyText [.agg ⟨xs⟩] w fun v w' => v = .string (moneyT [.str c, .bool b, .ints z]) /\ Ext w w' := by
  have hr := h
  obtain ⟨t0, a0, a1p, a1n, a1c, a1z, rfl, hd, ha⟩ := open_Money h rfl
  simp only [List.cons.injEq, D0.str.injEq, D0.bool.injEq, D0.ints.injEq, and_true] at hd
  obtain ⟨rfl, rfl, rfl⟩ := hd
  refine impl_MoneyText_ret ?_
  unfold impl_MoneyText
  intro r w1 hn1
  refine ⟨_, _, _, _, _, hn1.blk.loadA0 (by kernel_rfl), ?_⟩
  refine Ret.at (impl_MoneyOk_c (ht.ext hn1.ext) (hr.ext hn1.ext) rfl) ?_
  rintro v w2 ⟨hv, y2⟩
  subst hv
  have X2 := hn1.ext.trans y2
  refine ⟨_, rfl, ifN (fun e => ⟨by simp only [moneyT, e, Bool.false_eq_true, if_false], X2⟩) (fun e => ?_)⟩
  have hcs : c.size <= 50 := known_size (by simp only [moneyOk, Bool.and_eq_true] at e; exact e.1.1)
  have D := Ext.drew w2
  have X3 := X2.trans D
  have bk := hn1.blk.ext (y2.trans D)
  refine ⟨_, fun W hW => (bk.ext hW).loadAt 0 rfl (by kernel_rfl) rfl, ?_, _, rfl, _, _, _, _, fun W hW => (bk.ext hW).loadAAt 1 [.bool b, .slice a1p a1n a1c] rfl (by kernel_rfl) rfl, _, fun W hW => (bk.ext hW).loadAt 0 rfl (by kernel_rfl) rfl, ?_⟩
  · show c.size + 1 <= _
    omega
  refine Ret.at (impl_CurPlaces_c c (ht.ext X3)) ?_
  rintro v w4 ⟨hv, y4⟩
  subst hv
  refine ⟨_, rfl, y4, ?_⟩
  have X4 := X3.trans y4
  have hs : Reps w4 [.bool b, .slice a1p a1n a1c, .int .i64 (curPlaces c)] [.bool b, .ints z, .int (curPlaces c)] := ⟨rfl, ⟨_, _, _, rfl, ha.ext X4⟩, rfl, trivial⟩
  refine Ret.at (impl_DecText_c hs rfl (hp.ext X4)) ?_
  rintro v w5 ⟨hv, y5⟩
  subst hv
  have N := decT_size [.bool b, .ints z, .int (curPlaces c)]
  refine ⟨_, rfl, y5, ?_, _, rfl, ?_, X4.trans y5⟩
  · rw [ByteArray.size_append]
    show c.size + 1 + _ <= _
    omega
  · simp only [moneyT, e, if_true]
end Go.Proofs.YtbgokfhcgcoipaaGreatDoor
namespace Go.Proofs.YtbgokfhcgcoipaaGreatDoor
open Go Go.Proofs.YtbgokfhcgcoipaaGreatDoor.Sx
def StrsR (w : World) (p : Option Addr) (n c : Nat) (l : List ByteArray) : Prop :=
 l.length = n /\ n <= c /\ c <= 9223372036854775807 /\ (0 < n -> ∃ b off, p = some ⟨b, off, none⟩ /\ Seg w b off (l.map Value.string))
theorem StrsR.ext {w w' : World} {p : Option Addr} {n c : Nat} {l : List ByteArray} (h : StrsR w p n c l) (he : Ext w w') : StrsR w' p n c l :=
  ⟨h.1, h.2.1, h.2.2.1, fun hn => let ⟨b, off, hp, hs⟩ := h.2.2.2 hn; ⟨b, off, hp, hs.ext he⟩⟩
theorem StrsR.at {P : Program} {w : World} {p : Option Addr} {n c k : Nat} {l : List ByteArray} (h : StrsR w p n c l) {t : TypeId} (ht : cellT P t = true) (hk : k < n) :
    ∃ a, p = some a /\ Loads P t (a.add (k * 1)) (.string (l[k]'(by rw [h.1]; exact hk))) w := by
  obtain ⟨b, off, hp, hs⟩ := h.2.2.2 (by omega)
  refine ⟨_, hp, ?_⟩
  rw [Nat.mul_one]
  exact hs.load ht (by simp [List.getElem?_eq_getElem (by rw [h.1]; exact hk : k < l.length)])
theorem blk_strs {w : World} {r : Nat} {l : List ByteArray} (h : Blk w r T_string (l.map Value.string)) (hn : l.length <= 9223372036854775807) : StrsR w (some ⟨r, 0, none⟩) l.length l.length l :=
  ⟨rfl, Nat.le_refl _, hn, fun _ => ⟨r, 0, rfl, h.seg⟩⟩
def joinT (by' : ByteArray) (l : List ByteArray) : ByteArray := ⟨(Lib.join (l.map (·.data.toList)) by'.data.toList).toArray⟩
theorem joinT_nil (b : ByteArray) : joinT b [] = ByteArray.empty := rfl
theorem joinT_one (b x : ByteArray) : joinT b [x] = x := ba_ext (by simp [joinT, Lib.join_one])
theorem joinT_snoc {b x : ByteArray} : ∀ {l : List ByteArray}, l ≠ [] -> joinT b (l ++ [x]) = (joinT b l ++ b) ++ x
  | [], h => absurd rfl h
  | y :: r, _ => ba_ext (by simp [joinT, Lib.join_cons, Lib.joinTail])
theorem joinT_three (b x y z : ByteArray) : joinT b [x, y, z] = (((x ++ b) ++ y) ++ b) ++ z := by
  rw [show [x, y, z] = ([x] ++ [y]) ++ [z] from rfl, joinT_snoc (by simp), joinT_snoc (by simp), joinT_one]
theorem joinT_size {b : ByteArray} {k : Nat} : ∀ {l : List ByteArray}, (∀ x ∈ l, x.size <= k) -> (joinT b l).size <= l.length * (k + b.size) := by
  intro l
  have key : ∀ (n : Nat) (l : List ByteArray), l.length = n -> (∀ x ∈ l, x.size <= k) -> (joinT b l).size <= l.length * (k + b.size) := by
    intro n
    induction n with
    | zero =>
      intro l hl _
      rw [List.eq_nil_of_length_eq_zero hl, joinT_nil]
      show 0 <= _
      omega
    | succ n ih =>
      intro l hl hx
      have hne : l ≠ [] := by intro e; rw [e] at hl; simp at hl
      have hl2 := List.dropLast_concat_getLast hne
      have hd : l.dropLast.length = n := by simp [hl]
      have h1 := ih l.dropLast hd fun x hx' => hx x ((List.dropLast_sublist l).subset hx')
      have h2 := hx _ (List.getLast_mem hne)
      by_cases h0 : l.dropLast = []
      · rw [h0, List.nil_append] at hl2
        rw [<- hl2, joinT_one]
        simp only [List.length_cons, List.length_nil]
        omega
      · rw [<- hl2, joinT_snoc h0, ByteArray.size_append, ByteArray.size_append, List.length_append, List.length_singleton, hd]
        rw [hd] at h1
        rw [Nat.succ_mul]
        omega
  exact key _ l rfl
theorem X156 : Go.Proofs.Builder.Extra P ren156 where
  sizeBuilder := by kernel_rfl
  liesBuilder := by kernel_rfl
  t5 := lays105.t5
  a5 := lays105.a5
  z5 := lays105.z5
  v5 := lays105.v5
  infoByte := by kernel_rfl
  cellsByte := by kernel_rfl
  sizeByte := by kernel_rfl
  neB5 := by decide
theorem impl_Join_c {w : World} {p : Option Addr} {n c : Nat} {l : List ByteArray} (h : StrsR w p n c l) (b : ByteArray) {k : Nat} (hk : ∀ x ∈ l, x.size <= k) (hb : n * (k + b.size) <= 140737488355328) (hn : n <= 140737488355328) :
    Ret P n_impl_Join [.slice p n c, .string b] w fun v w' => v = .string (joinT b l) /\ Ext w w' := by
  refine impl_Join_ret ?_
  unfold impl_Join
  have hz := h.1; have hcap := h.2.1
  have hsz := joinT_size (b := b) hk
  rw [hz] at hsz
  have hlen : (Lib.join (l.map (·.data.toList)) b.data.toList).length <= 140737488355328 := by
    have : (joinT b l).size = (Lib.join (l.map (·.data.toList)) b.data.toList).length := by simp [joinT, ByteArray.size]
    omega
  rcases Nat.eq_zero_or_pos n with h0 | h0
  · subst h0
    have : l = [] := List.eq_nil_of_length_eq_zero hz
    subst this
    refine (Any.strings_Join_none lays156 X156 p c b w).mono ?_
    rintro e w' ⟨rfl, rfl⟩
    exact ⟨_, rfl, rfl, Ext.refl _⟩
  · obtain ⟨r, o, rfl, hs⟩ := h.2.2.2 h0
    have hcells : ∀ (j : Nat) x, l[j]? = some x -> w.cell? ⟨r, o + j, none⟩ = some (.string x) := fun j x hx => hs j _ (by simp [hx])
    have hbk : r < w.heap.size := World.block_lt_of_cell? w _ (hcells 0 _ (List.getElem?_eq_getElem (by omega)))
    have := Any.strings_Join lays156 X156 r o c l b w hcells hbk (by omega) (by omega) hlen
    rw [hz] at this
    refine this.mono ?_
    rintro e w' ⟨rfl, hx⟩
    exact ⟨_, rfl, rfl, hx⟩
end Go.Proofs.YtbgokfhcgcoipaaGreatDoor
namespace Go.Proofs.YtbgokfhcgcoipaaGreatDoor
open Go Go.Proofs.YtbgokfhcgcoipaaGreatDoor.Sx
def rowT : List D0 -> ByteArray
  | [.str a, .bool s, .ints x, .str b, .bool t, .ints y, .str c, .bool u, .ints z] => (((moneyT [.str a, .bool s, .ints x] ++ S [32, 124, 32]) ++ moneyT [.str b, .bool t, .ints y]) ++ S [32, 124, 32]) ++ moneyT [.str c, .bool u, .ints z]
  | _ => S []
theorem impl_RowText_c {w : World} {xs : List Value} {dx : List D0} (h : Reps w xs dx) (hc : dx.map D0.code = [.str, .bool, .ints, .str, .bool, .ints, .str, .bool, .ints]) (hb : bulks dx <= 1048576) (ht : Tab w) (hp : TabP w) :
    Ret P n_impl_RowText [.agg ⟨xs⟩] w fun v w' => v = .string (rowT dx) /\ Ext w w' := by
  obtain ⟨a0, a1, a2p, a2n, a2c, a2z, a3, a4, a5p, a5n, a5c, a5z, a6, a7, a8p, a8n, a8c, a8z, rfl, rfl, ha2, ha5, ha8⟩ := open_Row h hc
  refine impl_RowText_ret ?_
  unfold impl_RowText
  intro r w1 hn1
  have D := Ext.drew w1
  have bk := hn1.blk.ext D
  have X := hn1.ext.trans D
  have N1 := moneyT_size a0 a1 a2z
  have N2 := moneyT_size a3 a4 a5z
  have N3 := moneyT_size a6 a7 a8z
  have s3 : (S [32, 124, 32]).size = 3 := rfl
  refine ⟨_, _, _, _, _, fun W hW => (bk.ext hW).loadAAt 0 [.string a0, .bool a1, .slice a2p a2n a2c] rfl (by kernel_rfl) rfl, ?_⟩
  have hm : Reps w1.drew [.string a0, .bool a1, .slice a2p a2n a2c] [.str a0, .bool a1, .ints a2z] := ⟨rfl, rfl, ⟨_, _, _, rfl, ha2.ext X⟩, trivial⟩
  refine Ret.at (impl_MoneyText_c hm (ht.ext (X)) (hp.ext (X))) ?_
  rintro v w2 ⟨hv, y2⟩
  subst hv
  have X2 := X.trans y2
  refine ⟨_, rfl, y2, _, _, _, _, _, fun W hW => (bk.ext hW).loadAAt 3 [.string a3, .bool a4, .slice a5p a5n a5c] rfl (by kernel_rfl) rfl, ?_⟩
  have hm : Reps w2 [.string a3, .bool a4, .slice a5p a5n a5c] [.str a3, .bool a4, .ints a5z] := ⟨rfl, rfl, ⟨_, _, _, rfl, ha5.ext X2⟩, trivial⟩
  refine Ret.at (impl_MoneyText_c hm (ht.ext (X2)) (hp.ext (X2))) ?_
  rintro v w3 ⟨hv, y3⟩
  subst hv
  have X3 := X2.trans y3
  refine ⟨_, rfl, y3, _, _, _, _, _, fun W hW => (bk.ext hW).loadAAt 6 [.string a6, .bool a7, .slice a8p a8n a8c] rfl (by kernel_rfl) rfl, ?_⟩
  have hm : Reps w3 [.string a6, .bool a7, .slice a8p a8n a8c] [.str a6, .bool a7, .ints a8z] := ⟨rfl, rfl, ⟨_, _, _, rfl, ha8.ext X3⟩, trivial⟩
  refine Ret.at (impl_MoneyText_c hm (ht.ext (X3)) (hp.ext (X3))) ?_
  rintro v w4 ⟨hv, y4⟩
  subst hv
  have X4 := X3.trans y4
  refine ⟨_, rfl, ?_⟩
  intro r5 w5 hn5
  have hst : StrsR w5 (some ⟨r5, 0, none⟩) 3 3 [moneyT [.str a0, .bool a1, .ints a2z], moneyT [.str a3, .bool a4, .ints a5z], moneyT [.str a6, .bool a7, .ints a8z]] := blk_strs hn5.blk (by simp)
  refine Ret.at (impl_Join_c hst (S [32, 124, 32]) (k := 200) ?_ (by rw [s3]; decide) (by decide)) ?_
  · intro x hx
    simp only [List.mem_cons, List.not_mem_nil, or_false] at hx
    rcases hx with rfl | rfl | rfl <;> assumption
  rintro v w6 ⟨hv, y6⟩
  subst hv
  refine ⟨_, rfl, ?_, (X4.trans hn5.ext).trans y6⟩
  rw [joinT_three]; rfl
end Go.Proofs.YtbgokfhcgcoipaaGreatDoor
namespace Go.Proofs.YtbgokfhcgcoipaaGreatDoor
open Go Go.Proofs.YtbgokfhcgcoipaaGreatDoor.Sx
theorem impl_MoneySame_c {w : World} {xs ys : List Value} {dx dy : List D0} (h : Reps w xs dx) (k : Reps w ys dy) (hc : dx.map D0.code = [.str, .bool, .ints]) (kc : dy.map D0.code = [.str, .bool, .ints]) :
    Ret P n_impl_MoneySame [.agg ⟨xs⟩, .agg ⟨ys⟩] w fun v w' => v = .bool (decide (dx = dy)) /\ Ext w w' := by
  obtain ⟨a0, a1, a2p, a2n, a2c, a2z, rfl, rfl, ha⟩ := open_Money h hc
  obtain ⟨b0, b1, b2p, b2n, b2c, b2z, rfl, rfl, hb⟩ := open_Money k kc
  refine impl_MoneySame_ret ?_
  unfold impl_MoneySame
  intro r w1 hn1 r1 w2 hn2
  have x := hn1.ext.trans hn2.ext
  have k0 := hn1.blk.ext hn2.ext; have k1 := hn2.blk
  refine ⟨_, k0.load (by kernel_rfl) rfl, _, k1.load (by kernel_rfl) rfl, ifD (fun e => ?_) (fun e => ⟨dec_no (fun h => e (by simp at h; exact h.1)), x⟩)⟩
  subst e
  refine ⟨_, _, _, _, k0.loadA (xs := [.bool a1, .slice a2p a2n a2c]) (by kernel_rfl) rfl, _, _, _, _, k1.loadA (xs := [.bool b1, .slice b2p b2n b2c]) (by kernel_rfl) rfl, ?_⟩
  refine Ret.at (impl_intSame_c (dx := [.bool a1, .ints a2z]) (dy := [.bool b1, .ints b2z]) ⟨rfl, ⟨_, _, _, rfl, ha.ext x⟩, trivial⟩ ⟨rfl, ⟨_, _, _, rfl, hb.ext x⟩, trivial⟩ rfl rfl) ?_
  rintro v w3 ⟨hv, y⟩
  subst hv
  exact ⟨_, rfl, by simp, x.trans y⟩
end Go.Proofs.YtbgokfhcgcoipaaGreatDoor
namespace Go.Proofs.YtbgokfhcgcoipaaGreatDoor.Sx
open Go Go.RowKit Go.ChangeShapes Go.WideShapes
def rowedV (P : Program) (ns : List String) : Bool := ns.all fun n => ((P.globalNamed n).bind (P.globals[·]?)).all fun gl => P.readableRec gl.type && decide (gl.type < P.types.size)
section
variable {H : Type} {enc : TypeId × Value -> H} {P : Program}
theorem trodAll_ext (hl : laidOutB P = true) {W W' : World} (hb : Ext W W') (sp' : Nat -> Bool) : ∀ {ts : List TypeId} {vs : List Value} {ds : List (DataW H)} {ps : List MemPlace},
    (∀ t ∈ ts, P.readableRec t = true /\ t < P.types.size) -> (∀ p ∈ ps, p.block < W.heap.size) -> (∀ p ∈ ps, sp' p.block = true) ->
    DataW.TrodAll enc P W 0 (fun _ => true) true ts vs ds ps -> DataW.TrodAll enc P W' 0 sp' true ts vs ds ps
  | [], _, _, _, _, _, _, h => by
    obtain ⟨rfl, rfl, rfl⟩ := trodAll_nil h
    exact rfl
  | t :: ts, _, _, _, hr, hlt, hsp, h => by
    obtain ⟨v, vs1, d, ds1, a, b, rfl, rfl, rfl, h1, h2⟩ := trodAll_cons h
    have hrt := hr t (by simp)
    exact ⟨a, b, WideElems.Trod_stays hl hrt.1 hrt.2 h1 (fun x hx => Below.same hb (hlt x (by simp [hx]))) (fun x hx => hsp x (by simp [hx])),
      trodAll_ext hl hb sp' (fun u hu => hr u (by simp [hu])) (fun x hx => hlt x (by simp [hx])) (fun x hx => hsp x (by simp [hx])) h2, rfl⟩
theorem trodVars_sp (hl : laidOutB P = true) {W W' : World} (hb : Ext W W') (sp' : Nat -> Bool) :
    ∀ {ns : List String} {gs : List (DataW H)} {ps : List MemPlace}, rowedV P ns = true -> (∀ p ∈ ps, sp' p.block = true) -> DataW.TrodVars enc P W (fun _ => true) ns gs ps -> DataW.TrodVars enc P W' sp' ns gs ps
  | [], [], _, _, _, h => h
  | [], _ :: _, _, _, _, h => h.elim
  | _ :: _, [], _, _, _, h => h.elim
  | n :: ns, d :: ds, ps, hv, hsp, h => by
    have hlt := h.lt
    obtain ⟨g, t, cs, fuel, p, q, h1, h2, h3, h4, hs, e⟩ := h
    simp only [rowedV, List.all_cons, Bool.and_eq_true] at hv
    have ht : P.readableRec t = true /\ t < P.types.size := by
      have := hv.1
      rw [h1] at this
      cases hg : P.globals[g]? with
      | none => rw [hg] at h2; cases h2
      | some gl =>
        rw [hg] at h2
        obtain rfl : gl.type = t := Option.some.inj h2
        simpa [hg] using this
    have hp : ∀ x ∈ p, x.block < W.heap.size := fun x hx => hlt x (by rw [e]; simp [hx])
    have h3' : W'.var? P n = some cs := by
      unfold World.var? at h3 ⊢
      rw [h1] at h3 ⊢
      simp only [Option.bind_some] at h3 ⊢
      have hg : g < W.heap.size := by
        cases hh : W.heap[g]? with
        | none => rw [hh] at h3; cases h3
        | some o => exact (Array.getElem?_eq_some_iff.1 hh).1
      rw [hb.block g hg]; exact h3
    exact ⟨g, t, cs, fuel, p, q, h1, h2, h3', DataW.trod_stays (kids_book hl ht.1) (book_sized ht.1) (fun h => by cases h) ⟨ht.2, book_self t⟩ h4 (fun x hx => Below.same hb (hp x hx)) (fun x hx => hsp x (by rw [e]; simp [hx])),
      trodVars_sp hl hb sp' (by simpa [rowedV] using hv.2) (fun x hx => hsp x (by rw [e]; simp [hx])) hs, e⟩
theorem post_of_ext {f : Func} {s : ChangeSpec} {apart fresh handsOn again : Bool} {W W' : World} {args : Array Value} {ds gs : List (DataW H)} {before : List MemPlace} {tb : TypeId}
    (hl : laidOutB P = true) (hpar : ∀ t ∈ f.params.toList, P.readableRec t = true /\ t < P.types.size) (hvr : rowedV P s.vars = true)
    (hrt : f.resultTypes = #[tb]) (htb : P.underlying tb = some .bool)
    (hW : DataW.Whole enc P f.params.toList s.vars apart W args.toList ds gs before) (hx : Ext W W')
    (hfn : s.fn H (ds ++ gs) = { results := [.lit (.bool true)], args := ds, vars := gs }) :
    s.post enc P f apart fresh handsOn again W args (.bool true) W' := by
  have hW0 := hW
  have hlt : ∀ p ∈ before, p.block < W.heap.size := hW.lt
  obtain ⟨pa, pv, hA, hV, rfl, hz, hn⟩ := hW
  have hlta : ∀ p ∈ pa, p.block < W.heap.size := fun p hp => hlt p (by simp [hp])
  have hltv : ∀ p ∈ pv, p.block < W.heap.size := fun p hp => hlt p (by simp [hp])
  have hr : (Value.bool true).resultList f.resultTypes.size = [Value.bool true] := by rw [hrt]; rfl
  refine ⟨ds, gs, pa ++ pv, [], pa, pv, hW0, ?_, ?_, ?_, Below.frame hx _, fun _ => ?_⟩
  · rw [hfn, hr, hrt]
    exact trodAll_mk1 (shut_bool htb _)
  · rw [hfn]
    exact trodAll_ext hl hx _ hpar hlta (fun p hp => by simpa using hlta p hp) hA
  · rw [hfn]
    exact trodVars_sp hl hx _ hvr (fun p hp => by simpa using hltv p hp) hV
  · refine ⟨?_, (.lit (.bool true)) :: ds, gs, pa ++ pv, ⟨[] ++ pa, pv, ?_, ?_, by simp, ?_, ?_⟩, fun p hp _ => hp⟩
    · rw [hr, hrt]
      exact ok_one (f := { f with resultTypes := #[tb] }) rfl rfl (okWide_bool_mk htb _)
    · rw [hr, hrt]
      exact trodAll_append (trodAll_ext hl hx _ hpar hlta (fun _ _ => rfl) hA) (trodAll_mk1 (shut_bool htb _))
    · exact trodVars_sp hl hx _ hvr (fun _ _ => rfl) hV
    · intro b off hp
      have := hlt _ hp
      rw [Below.frozen hx (p := ⟨b, off, none⟩) this]
      exact hz b off hp
    · exact hn
end
end Go.Proofs.YtbgokfhcgcoipaaGreatDoor.Sx
namespace Go.Proofs.YtbgokfhcgcoipaaGreatDoor.Sx
open Go Go.RowKit Go.ChangeShapes Go.WideShapes
section
variable {H : Type} {enc : TypeId × Value -> H} {P : Program} {w : World}
theorem spot_none {a : Addr} {v : Value} (h : w.cell? a = some v) : a = ⟨a.block, a.off, none⟩ := by
  obtain ⟨b, o, spot⟩ := a
  have : spot = none := by simpa using World.cell?_spot h
  subst this; rfl
end
end Go.Proofs.YtbgokfhcgcoipaaGreatDoor.Sx
namespace Go.Proofs.YtbgokfhcgcoipaaGreatDoor
open Go Go.RowKit Go.ChangeShapes Go.Proofs.YtbgokfhcgcoipaaGreatDoor.Sx
theorem bytes_of_trod {H : Type} {enc : TypeId × Value -> H} {P : Program} {w : World} {t e : TypeId} {fuel : Nat} {sp : Nat -> Bool} {hd : Bool} {cs : List Value} {x : DataW H × List MemPlace} (ht : P.underlying t = some (.slice e)) (he : P.underlying e = some (.int .u8)) (hc : P.cellsOf e = 1)
    (h : DataW.trod enc P w 0 sp hd fuel t cs = some x) : ∃ p n c, cs = [.slice p n c] /\ ByR w p n := by
  rcases Go.ChangeShapes.open_ints ht he hc h with ⟨rfl, _⟩ | ⟨a, len, cap, zs, rfl, _, hl, hm, hz, _, hcell, _⟩
  · exact ⟨none, 0, 0, rfl, fun h => absurd h (by omega)⟩
  · have hlz : len <= zs.length := by rw [hz]; split <;> omega
    refine ⟨some a, len, cap, rfl, fun hpos => ?_⟩
    have h0 := hcell 0 (by omega)
    have hs := spot_none h0
    have ha : a = ⟨a.block, a.off, none⟩ := by
      obtain ⟨b, o, s⟩ := a
      simp [Addr.add] at hs
      simp [hs]
    have hlt := World.block_lt_of_cell? w _ h0
    refine ⟨a.block, a.off, zs.take len, by rw [<- ha], by simp; omega, fun j v hj => ?_, by simpa [Addr.add] using hlt⟩
    simp only [List.getElem?_map, List.getElem?_take] at hj
    split at hj
    · rename_i hjl
      have hjz : j < zs.length := by omega
      have := hcell j hjz
      rw [ha, addr_add] at this
      rw [this]
      rw [List.getElem?_eq_getElem hjz] at hj
      simp at hj
      rw [<- hj]
      simp [hjz]
    · simp at hj
end Go.Proofs.YtbgokfhcgcoipaaGreatDoor
namespace Go.Proofs.YtbgokfhcgcoipaaGreatDoor
open Go Go.Proofs.YtbgokfhcgcoipaaGreatDoor.Sx
theorem rows_atX {w : World} {k : Nat} {p : Option Addr} {n c i : Nat} {l : List (List D0)} (h : RowsR w k p n c l) {t : TypeId} (ht : aggT P t k = true) (hi : i < n) :
    ∃ a cs, p = some a /\ cs.length = k /\ Reps w cs (l[i]'(by rw [h.1]; exact hi)) /\ ∀ W, Ext w W -> Loads P t (a.add (i * k)) (.agg ⟨cs⟩) W := by
  obtain ⟨b, off, hp, hs⟩ := h.2.2.2 (by omega)
  obtain ⟨cs, h1, h2, h3⟩ := hs i _ (List.getElem?_eq_getElem (by rw [h.1]; exact hi))
  refine ⟨_, cs, hp, h1, h2, fun W hW => ?_⟩
  rw [addr_add]
  exact loadsA (by rw [h1]; exact ht) (h3.ext hW)
end Go.Proofs.YtbgokfhcgcoipaaGreatDoor
namespace Go.Proofs.YtbgokfhcgcoipaaGreatDoor
open Go Go.Proofs.YtbgokfhcgcoipaaGreatDoor.Sx
def NoInt (xs : List Value) : Prop := ∀ v ∈ xs, ∀ i, v ≠ .int .i64 i
theorem ints_keep {W W' : World} {r : Nat} {e : TypeId} {xs : List Value} {p : Option Addr} {n c : Nat} {z : List Int} (h : IntsR W p n c z) (hb : Blk W r e xs) (hx : NoInt xs) (hc : Chg [r] W W') : IntsR W' p n c z := by
  rcases Nat.eq_zero_or_pos n with h0 | h0
  · exact ⟨h.1, h.2.1, h.2.2.1, fun hn => by omega⟩
  · refine h.chg hc (fun q hq hm => ?_)
    obtain ⟨b, o, hp, hs⟩ := h.2.2.2 h0
    rw [hp] at hq
    simp only [Option.map_some, Option.some.injEq] at hq
    have hqr : q = r := List.mem_singleton.1 hm
    have hz := h.1
    have h1 := hs 0 (.int .i64 (z[0]'(by omega))) (by rw [List.getElem?_map, List.getElem?_eq_getElem (by omega)]; rfl)
    rw [hq, hqr, Nat.add_zero, hb.cell] at h1
    exact hx _ (List.mem_of_getElem? h1) _ rfl
theorem reps_keep {W W' : World} {r : Nat} {e : TypeId} {xs : List Value} (hb : Blk W r e xs) (hx : NoInt xs) (hc : Chg [r] W W') : ∀ {vs : List Value} {ds : List D0}, Reps W vs ds -> Reps W' vs ds
  | [], [], _ => trivial
  | [], _ :: _, h => h.elim
  | _ :: _, [], h => h.elim
  | v :: vs, d :: ds, h => ⟨by
      have h1 := h.1
      cases d <;> simp only [Rep0] at h1 ⊢ <;> try exact h1
      obtain ⟨p, n, c, hv, hi⟩ := h1
      exact ⟨p, n, c, hv, ints_keep hi hb hx hc⟩, reps_keep hb hx hc h.2⟩
theorem noInt_money (s : ByteArray) (b : Bool) (p : Option Addr) (n c : Nat) : NoInt [.string s, .bool b, .slice p n c] := by
  intro v hv i
  simp only [List.mem_cons, List.not_mem_nil, or_false] at hv
  rcases hv with rfl | rfl | rfl <;> simp
end Go.Proofs.YtbgokfhcgcoipaaGreatDoor
namespace Go.Proofs.YtbgokfhcgcoipaaGreatDoor
open Go Go.Proofs.YtbgokfhcgcoipaaGreatDoor.Sx
theorem sgn_is0p {z : Int} : sgn z = 0 ↔ z = 0 := by unfold sgn; split <;> (try split) <;> omega
theorem rate_codeP (m : Nat) (t : Int) : ([.bool false, .ints (digs m), .int t] : List D0).map D0.code = [.bool, .ints, .int] := rfl
theorem mon_codeP (c : ByteArray) (z : Int) : (.str c :: enc z : List D0).map D0.code = [.str, .bool, .ints] := rfl
theorem rowN_code (c : ByteArray) (x : N3) : (rowN c x).map D0.code = [.str, .bool, .ints, .str, .bool, .ints, .str, .bool, .ints] := rfl
theorem rowN_bulk {c : ByteArray} (hc : c.size <= 50) {x : N3} (h : x.1 < 1000000000000000000000000000000000000 /\ x.2.1 < 1000000000000000000000000000000000000 /\ x.2.2 < 1000000000000000000000000000000000000) : bulks (rowN c x) <= 1048576 := by
  have h1 : (digs ((x.1 : Nat) : Int).natAbs).length <= 4 := by rw [Int.natAbs_natCast]; exact digs_len 4 (by omega)
  have h2 : (digs ((x.2.1 : Nat) : Int).natAbs).length <= 4 := by rw [Int.natAbs_natCast]; exact digs_len 4 (by omega)
  have h3 : (digs ((x.2.2 : Nat) : Int).natAbs).length <= 4 := by rw [Int.natAbs_natCast]; exact digs_len 4 (by omega)
  simp only [rowN, rowOf, enc, bulks, D0.bulk, List.cons_append, List.nil_append, List.map_cons, List.map_nil, List.sum_cons, List.sum_nil]
  omega
theorem sgn_nat0 {L : Nat} : decide (sgn (L : Int) = 0) = decide (L = 0) := by
  refine decide_eq_decide.2 ?_
  rw [sgn_is0p]; omega
theorem laws_FnPlan_c {w : World} {p0 : Option Addr} {n0 c0 : Nat} (h0 : ByR w p0 n0) (ht : Tab w) (hp : TabP w) : Ret P n_laws_FnPlan [.slice p0 n0 c0] w fun v w' => v = .bool true /\ Ext w w' := by
  have h := h0
  refine laws_FnPlan_ret ?_
  unfold laws_FnPlan
  refine ifD (fun _ => ⟨rfl, Ext.refl w⟩) (fun hs => ?_)
  have hn : n0 <= 1048576 := by omega
  refine Ret.at (spec_MakeAmount_c curEUR h hn) ?_
  rintro v w1 ⟨z, vs1, f1, hv, hz0, hz1, ho1, _, y1⟩
  subst hv
  obtain ⟨L, rfl⟩ : ∃ L : Nat, z = L := ⟨z.toNat, by omega⟩
  have rA := ho1.reps
  obtain ⟨a0, a1, ap, an, ac, az, rfl, _, _⟩ := open_Money ho1.reps (mon_codeP _ _)
  refine ⟨_, _, _, _, _, rfl, ?_⟩
  intro ra w2 hn2
  obtain ⟨w3, st3, bA, y3⟩ := hn2.fill (P := P) (t := T_impl_Money) rA.cells1 (by kernel_rfl) rfl
  have rA := rA.ext y3
  have x := y1.trans y3
  refine ⟨w3, st3, ?_⟩
  refine Ret.at (spec_MakeRate_c (h.ext x) hn) ?_
  rintro v w4 ⟨num, sc, vs4, f4, hv, hnum, hsc, ho4, _, y4⟩
  subst hv
  obtain ⟨m, t, hR, htax⟩ := rate_form hnum hsc
  have rR := ho4.reps
  rw [hR] at rR
  obtain ⟨b0, bp, bn, bc, bz, bs, rfl, _, _⟩ := open_Dec ho4.reps rfl
  have rA := rA.ext y4; have bA := bA.ext y4; have x := x.trans y4
  refine ⟨_, _, _, _, _, rfl, ?_⟩
  intro rr w5 hn5
  obtain ⟨w6, st6, bR, y6⟩ := hn5.fill (P := P) (t := T_impl_Dec) rR.cells1 (by kernel_rfl) rfl
  have rA := rA.ext y6; have bA := bA.ext y6; have rR := rR.ext y6; have x := x.trans y6
  refine ⟨w6, st6, ?_⟩
  refine Ret.at (spec_MakeNum_c (h.ext x) hn (k := 5000) (by decide) (by decide)) ?_
  rintro v w7 ⟨pz, hv, hq0, hq1, y7⟩
  subst hv
  obtain ⟨p, rfl⟩ : ∃ p : Nat, pz = p := ⟨pz.toNat, by omega⟩
  have hpB : p < 1000000000000000000000000000000000000 := by omega
  have rA := rA.ext y7; have bA := bA.ext y7; have rR := rR.ext y7; have bR := bR.ext y7; have x := x.trans y7
  refine ⟨_, rfl, ?_⟩
  refine Ret.at (impl_MoneyOf_c curEUR (n := (p : Int)) (by omega) (by omega) (ht.ext x)) ?_
  rintro v w8 ⟨vs8, f8, hv, o8, _, y8⟩
  subst hv
  have rP := o8.reps
  rw [moneyMk_ok (money_nat curEUR_known hpB)] at rP
  obtain ⟨d0, d1, dp, dn, dc, dz, rfl, _, _⟩ := open_Money o8.reps (moneyMk_code _ _)
  have rA := rA.ext y8; have bA := bA.ext y8; have rR := rR.ext y8; have bR := bR.ext y8; have x := x.trans y8
  refine ⟨_, _, _, _, _, _, rfl, ?_⟩
  intro rp w9 hn9
  obtain ⟨w10, st10, bP, y10⟩ := hn9.fill (P := P) (t := T_impl_Money) rP.cells1 (by kernel_rfl) rfl
  have rA := rA.ext y10; have bA := bA.ext y10; have rR := rR.ext y10; have bR := bR.ext y10; have rP := rP.ext y10; have x := x.trans y10
  refine ⟨w10, st10, ?_⟩
  refine Ret.at (spec_MakeMode_c (h.ext x) hn) ?_
  rintro v w11 ⟨mode, hv, hm0, hm1, y11⟩
  subst hv
  have hmo := mode_form hm0 hm1
  have rA := rA.ext y11; have bA := bA.ext y11; have rR := rR.ext y11; have bR := bR.ext y11; have rP := rP.ext y11; have bP := bP.ext y11; have x := x.trans y11
  refine ⟨_, rfl, ?_⟩
  refine Ret.at (spec_MakeNum_c (h.ext x) hn (k := 24) (by decide) (by decide)) ?_
  rintro v w12 ⟨q, hv, hqq0, hqq1, y12⟩
  subst hv
  have rA := rA.ext y12; have bA := bA.ext y12; have rR := rR.ext y12; have bR := bR.ext y12; have rP := rP.ext y12; have bP := bP.ext y12; have x := x.trans y12
  refine ⟨_, rfl, exW ⟨by omega, by omega⟩ ?_⟩
  obtain ⟨N, hN⟩ : ∃ N : Nat, 1 + q = N := ⟨(1 + q).toNat, by omega⟩
  rw [hN]
  refine ⟨_, _, _, _, _, bA.loadA0 (by kernel_rfl), _, _, _, _, _, bR.loadA0 (by kernel_rfl), _, _, _, _, _, bP.loadA0 (by kernel_rfl), ?_⟩
  have htl := txF_le (mode := mode) (taxOk_le htax)
  have hLN : L * 2 ^ N < 1000000000000000000000000000000000000 := by
    have h1 : 2 ^ N <= 2 ^ 24 := Nat.pow_le_pow_right (by decide) (by omega)
    have h2 : L * 2 ^ N <= L * 2 ^ 24 := Nat.mul_le_mul_left _ h1
    have : (2 : Nat) ^ 24 = 16777216 := rfl
    omega
  have hLB : L < 1000000000000000000000000000000000000 := by omega
  have hpl := planT_perN (c := curEUR) (n := N) (p := p) (L := L) (m := m) (t := t) (mode := mode) curEUR_known (by omega) (by omega) hpB hLN htax hmo
  obtain ⟨tx, htx⟩ : ∃ tx, txF m t mode = tx := ⟨_, rfl⟩
  rw [htx] at hpl htl
  obtain ⟨l, hl⟩ : ∃ l, perN tx p N L = l := ⟨_, rfl⟩
  rw [hl] at hpl
  have hall := perN_all (tx := tx) (p := p) htl N L hLN
  rw [hl] at hall
  have hsum := perN_sum (tx := tx) (p := p) N L
  have htop := perN_top (tx := tx) (p := p) htl N L
  have hlenN := perN_len (tx := tx) (p := p) N L
  have hend := perN_end (tx := tx) (p := p) N L
  rw [hl] at hsum htop hlenN hend
  have hendB := endN_lt L l hLB hall
  obtain ⟨S1, S2, S3⟩ := planS_N curEUR_known hall (by omega) (by omega)
  have hcode : ∀ y ∈ l.map (rowN curEUR), y.map D0.code = [.str, .bool, .ints, .str, .bool, .ints, .str, .bool, .ints] := fun y hy => by
    obtain ⟨u, _, rfl⟩ := List.mem_map.1 hy
    exact rowN_code _ _
  have hbulk : ∀ y ∈ l.map (rowN curEUR), bulks y <= 1048576 := fun y hy => by
    obtain ⟨u, hu, rfl⟩ := List.mem_map.1 hy
    exact rowN_bulk (by decide) (hall u hu)
  refine Ret.at (impl_Plan_c rA (mon_codeP _ _) rR (rate_codeP _ _) rP (mon_codeP _ _) N mode (ht.ext x)) ?_
  rintro v w13 ⟨lp, ln, lc, lf, hv, oL, _, _, y13⟩
  rw [hpl] at hv oL
  subst hv
  have rL := oL.rows
  have hln : l.length = ln := by have := rL.1; simpa using this
  have rA := rA.ext y13; have bA := bA.ext y13; have rR := rR.ext y13; have bR := bR.ext y13; have rP := rP.ext y13; have bP := bP.ext y13; have x := x.trans y13
  refine ⟨_, _, _, _, rfl, ?_⟩
  refine Ret.at (impl_PlanSums_c curEUR rL hcode (by omega) hbulk (ht.ext x)) ?_
  rintro v w14 ⟨vsI, fI, vsQ, fQ, hv, oI, _, _, _, oQ, _, _, _, _, y14⟩
  subst hv
  rw [S1]
  have rI := oI.reps; have rQ := oQ.reps
  rw [S2] at rI
  rw [S3] at rQ
  obtain ⟨i0, i1, ip, in_, ic, iz, rfl, _, _⟩ := open_Money oI.reps (planSR_code _ _ _)
  obtain ⟨q0, q1, qp, qn, qc, qz, rfl, _, _⟩ := open_Money oQ.reps (planSR_code _ _ _)
  have rA := rA.ext y14; have bA := bA.ext y14; have rR := rR.ext y14; have bR := bR.ext y14; have rP := rP.ext y14; have bP := bP.ext y14; have oL := oL.ext y14; have x := x.trans y14
  refine ⟨_, _, _, _, _, _, _, _, _, _, _, rfl, ?_⟩
  intro ri w15 hn15 rq w16 hn16
  have e15 := hn15.r_eq; have e16 := hn16.r_eq; have s15 := hn15.size; have s16 := hn16.size
  obtain ⟨w17, st17, bI, ch17, sz17⟩ := (hn15.blk.ext hn16.ext).storeA0 (P := P) (t := T_impl_Money) (xs := [.string i0, .bool i1, .slice ip in_ ic]) (by kernel_rfl) rfl rI.cells1
  obtain ⟨w18, st18, bQ, ch18, sz18⟩ := (hn16.blk.chg ch17 (by simp; omega)).storeA0 (P := P) (t := T_impl_Money) (xs := [.string q0, .bool q1, .slice qp qn qc]) (by kernel_rfl) rfl rQ.cells1
  have y18 : Ext w14 w18 := ((hn15.ext.trans hn16.ext).chg ch17 (by simp; omega)).chg ch18 (by simp; omega)
  have bI := bI.chg ch18 (by simp; omega)
  have rA := rA.ext y18; have bA := bA.ext y18; have rR := rR.ext y18; have bR := bR.ext y18; have rP := rP.ext y18; have bP := bP.ext y18; have oL := oL.ext y18; have rI := rI.ext y18; have rQ := rQ.ext y18; have x := x.trans y18
  refine ⟨w17, st17, w18, st18, _, _, _, _, _, bA.loadA0 (by kernel_rfl), ?_⟩
  intro rl w19 hn19
  have e19 := hn19.r_eq
  obtain ⟨w20, st20, bL, y20⟩ := hn19.fill (P := P) (t := T_impl_Money) rA.cells1 (by kernel_rfl) rfl
  have hlA := bA.lt; have hlR := bR.lt; have hlP := bP.lt; have hlI := bI.lt; have hlQ := bQ.lt; have hlf := oL.lt
  have rA := rA.ext y20; have bA := bA.ext y20; have rR := rR.ext y20; have bR := bR.ext y20; have rP := rP.ext y20; have bP := bP.ext y20; have oL := oL.ext y20; have rI := rI.ext y20; have rQ := rQ.ext y20; have bI := bI.ext y20; have bQ := bQ.ext y20; have x := x.trans y20
  refine ⟨w20, st20, ?_⟩
  refine ⟨fun i W => ∃ (j k' Lj : Nat) (vs : List Value), i = j /\ j <= ln /\ l.drop j = perN tx p k' Lj /\ Lj * 2 ^ k' < 1000000000000000000000000000000000000 /\ endN L l = endN Lj (l.drop j) /\ Blk W rl T_impl_Money vs /\ Reps W vs (.str curEUR :: enc (Lj : Int)) /\
      Reps W [.string a0, .bool a1, .slice ap an ac] (.str curEUR :: enc (L : Int)) /\ Reps W [.bool b0, .slice bp bn bc, .int .i64 bs] [.bool false, .ints (digs m), .int (t : Int)] /\ Reps W [.string d0, .bool d1, .slice dp dn dc] (.str curEUR :: enc (p : Int)) /\
      Reps W [.string i0, .bool i1, .slice ip in_ ic] (.str curEUR :: enc ((sumA l : Nat) : Int)) /\ Reps W [.string q0, .bool q1, .slice qp qn qc] (.str curEUR :: enc ((sumB l : Nat) : Int)) /\ Chg [rl] w20 W, fun i _ => ln - i.toNat,
    ⟨0, N, L, _, rfl, by omega, hl.symm, hLN, rfl, bL, rA, rA, rR, rP, rI, rQ, Chg.refl _ _⟩, ?_⟩
  rintro junk W i ⟨j, k', Lj, vs, rfl, hj, hdr, hLk, hen, bL, rLf, rA, rR, rP, rI, rQ, hX⟩
  have rLf0 := rLf
  obtain ⟨g0, g1, gp, gn, gc, gz, rfl, _, _⟩ := open_Money rLf (mon_codeP _ _)
  have bA := bA.chg hX (fun hm => by have := List.mem_singleton.1 hm; omega)
  have bR := bR.chg hX (fun hm => by have := List.mem_singleton.1 hm; omega)
  have bP := bP.chg hX (fun hm => by have := List.mem_singleton.1 hm; omega)
  have bI := bI.chg hX (fun hm => by have := List.mem_singleton.1 hm; omega)
  have bQ := bQ.chg hX (fun hm => by have := List.mem_singleton.1 hm; omega)
  have oW := oL.chg hX (fun q hq hm => by have := (hlf q hq).2; have := List.mem_singleton.1 hm; omega)
  have rW := oW.rows
  have hXw : Ext w W := x.chg hX (fun q hq => by
    have := List.mem_singleton.1 hq
    have := (((((((((((y1.trans y3).trans y4).trans y6).trans y7).trans y8).trans y10).trans y11).trans y12).trans y13).trans y14).trans y18).le
    omega)
  refine ifD (fun hlt => ?_) (fun hge => ?_)
  · -- a row
    have hjl : j < l.length := by omega
    have hk' : ∃ k2, k' = k2 + 1 /\ Lj ≠ 0 /\ l[j] = (tx Lj, payN tx p Lj, nx tx p Lj) /\ l.drop (j + 1) = perN tx p k2 (nx tx p Lj) := by
      rw [List.drop_eq_getElem_cons hjl] at hdr
      cases k' with
      | zero => exact absurd hdr (List.cons_ne_nil _ _)
      | succ k2 =>
        unfold perN at hdr
        by_cases h0 : Lj = 0
        · rw [if_pos h0] at hdr; exact absurd hdr (List.cons_ne_nil _ _)
        · rw [if_neg h0] at hdr
          simp only [List.cons.injEq] at hdr
          exact ⟨k2, rfl, h0, hdr.1, hdr.2⟩
    obtain ⟨k2, rfl, hL0, hlj, hdr2⟩ := hk'
    have h2L := two_pow_le (L := Lj) (k := k2)
    have hnext := nextT_row (c := curEUR) (L := Lj) (p := p) (m := m) (t := t) (mode := mode) curEUR_known (by omega) hpB htax hmo
    rw [htx, <- hlj] at hnext
    have hab := hall _ (List.getElem_mem hjl)
    have hbk := rowN_bulk (c := curEUR) (by decide) hab
    obtain ⟨aa, cs, hpp, hcs, hrr, hld⟩ := rows_atX rW (t := T_impl_Row) (by kernel_rfl) (show j < ln by omega)
    rw [List.getElem_map] at hrr
    have hrow := hrr
    obtain ⟨u0, u1, u2p, u2n, u2c, u2z, u3, u4, u5p, u5n, u5c, u5z, u6, u7, u8p, u8n, u8c, u8z, rfl, hud, i2, i5, i8⟩ := open_Row hrr (rowN_code _ _)
    subst hpp
    have hu7 : u7 = false := by
      have e := congrArg (fun d => d.drop 7) hud
      have e2 : (rowN curEUR l[j]).drop 7 = enc ((l[j].2.2 : Nat) : Int) := rfl
      simp only [e2, enc_nat, List.drop_succ_cons, List.drop_zero, List.cons.injEq, D0.bool.injEq] at e
      exact e.1.symm
    subst hu7
    have hleft : Reps W [.string u6, .bool false, .slice u8p u8n u8c] (.str curEUR :: enc ((l[j].2.2 : Nat) : Int)) := by
      have e := congrArg (fun d => d.drop 6) hud
      have e2 : (rowN curEUR l[j]).drop 6 = .str curEUR :: enc ((l[j].2.2 : Nat) : Int) := rfl
      simp only [e2, List.drop_succ_cons, List.drop_zero] at e
      rw [e]
      exact ⟨rfl, rfl, ⟨_, _, _, rfl, i8⟩, trivial⟩
    refine ⟨⟨by omega, by omega⟩, _, _, _, _, _, _, _, _, _, _, _, _, _, _, _, by simpa using hld W (Ext.refl W), ?_⟩
    intro r6 w21 hn21
    obtain ⟨w22, st22, b6, y22⟩ := hn21.fill (P := P) (t := T_impl_Row) hrow.cells1 (by kernel_rfl) rfl
    refine ⟨w22, st22, _, _, _, _, _, (bL.ext y22).loadA0 (by kernel_rfl), _, _, _, _, _, (bR.ext y22).loadA0 (by kernel_rfl), _, _, _, _, _, (bP.ext y22).loadA0 (by kernel_rfl), ?_⟩
    refine Ret.at (impl_NextRow_c (rLf0.ext y22) (mon_codeP _ _) (rR.ext y22) (rate_codeP _ _) (rP.ext y22) (mon_codeP _ _) mode (ht.ext (hXw.trans y22))) ?_
    rintro v w23 ⟨vs23, f23, hv, o23, _, _, _, y23⟩
    rw [hnext] at hv o23
    subst hv
    have r23 := o23.reps
    obtain ⟨v0, v1, v2p, v2n, v2c, v2z, v3, v4, v5p, v5n, v5c, v5z, v6, v7, v8p, v8n, v8c, v8z, rfl, _, _, _, _⟩ := open_Row o23.reps (rowN_code _ _)
    refine ⟨_, _, _, _, _, _, _, _, _, _, _, _, _, _, _, _, rfl, ?_⟩
    intro r7 w24 hn24
    obtain ⟨w25, st25, b7, y25⟩ := hn24.fill (P := P) (t := T_impl_Row) r23.cells1 (by kernel_rfl) rfl
    have D := Ext.drew w25
    have Y25 := ((y22.trans y23).trans y25).trans D
    refine ⟨w25, st25, fun e => absurd e (by simp), fun _ => ?_⟩
    refine ⟨_, _, _, _, _, _, _, _, _, _, _, _, _, _, _, fun W' hW => (((b6.ext y23).ext y25).ext (D.trans hW)).loadA0 (by kernel_rfl), ?_⟩
    have T1 := ht.ext (hXw.trans Y25); have T2 := hp.ext (hXw.trans Y25)
    refine Ret.at (impl_RowText_c (hrow.ext Y25) (rowN_code _ _) hbk T1 T2) ?_
    rintro v w26 ⟨hv, y26⟩
    subst hv
    refine ⟨_, rfl, y26, _, _, _, _, _, _, _, _, _, _, _, _, _, _, _, fun W' hW => (b7.ext (D.trans hW)).loadA0 (by kernel_rfl), ?_⟩
    refine Ret.at (impl_RowText_c ((r23.ext y25).ext (D.trans y26)) (rowN_code _ _) hbk (T1.ext y26) (T2.ext y26)) ?_
    rintro v w27 ⟨hv, y27⟩
    subst hv
    refine ⟨_, rfl, ifD (fun hne => absurd rfl hne) (fun _ => ?_)⟩
    have Z := (Y25.trans y26).trans y27
    have b6Z := b6.ext (((y23.trans y25).trans (D.trans y26)).trans y27)
    refine ⟨false, fun W' hW => (b6Z.ext hW).loadAt 7 rfl (by kernel_rfl) rfl, fun e => absurd e (by simp), fun _ => ?_⟩
    have bLZ := bL.ext Z
    obtain ⟨w28, st28, bL2, ch28, sz28⟩ := bLZ.storeA0 (P := P) (t := T_impl_Money) (xs := [.string u6, .bool false, .slice u8p u8n u8c]) (by kernel_rfl) rfl (hleft.cells1)
    have keep : ∀ {vs : List Value} {ds : List D0}, Reps W vs ds -> Reps w28 vs ds := fun hh => reps_keep bLZ (noInt_money _ _ _ _ _) ch28 (hh.ext Z)
    refine ⟨_, _, _, _, _, b6Z.loadAAt 6 [.string u6, .bool false, .slice u8p u8n u8c] rfl (by kernel_rfl) rfl, w28, st28, ?_⟩
    refine exW ⟨by omega, by omega⟩ ⟨⟨j + 1, k2, nx tx p Lj, _, by omega, by omega, hdr2, nx_pow htl hLk, ?_, bL2, ?_, keep rA, keep rR, keep rP, keep rI, keep rQ, ?_⟩, by show ln - ((j : Int) + 1).toNat < ln - (j : Int).toNat; omega⟩
    · rw [hen, List.drop_eq_getElem_cons hjl]
      show endN l[j].2.2 (l.drop (j + 1)) = _
      rw [hlj]
    · have := keep hleft
      rw [hlj] at this
      exact this
    · exact (hX.trans Z.toChg).trans ch28
  · -- the end
    have hjl : j = l.length := by omega
    have hEn : endN L l = Lj := by rw [hen, hjl, List.drop_length]; rfl
    rw [hEn] at hsum hend hendB
    refine ⟨_, _, _, _, _, bA.loadA0 (by kernel_rfl), _, _, _, _, _, bI.loadA0 (by kernel_rfl), ?_⟩
    refine Ret.at (impl_MoneyAdd_e (d := (L : Int)) (p := ((sumA l : Nat) : Int)) rA rI (money_nat curEUR_known hLB) (money_nat curEUR_known (by omega)) (ht.ext hXw)) ?_
    rintro v w21 ⟨vs21, f21, hv, o21, _, y21⟩
    have eo : ((L : Int) + ((sumA l : Nat) : Int)) = ((L + sumA l : Nat) : Int) := by omega
    have ok21 := money_nat curEUR_known (L := L + sumA l) (by omega)
    rw [eo] at hv o21
    rw [ok21] at hv
    rw [moneyMk_ok ok21] at o21
    subst hv
    have r21 := o21.reps
    obtain ⟨s0, s1, sp, sn, sc, sz, rfl, _, _⟩ := open_Money o21.reps (mon_codeP _ _)
    refine ⟨_, _, _, _, _, _, rfl, ?_⟩
    intro r8 w22 hn22
    obtain ⟨w23, st23, b8, y23⟩ := hn22.fill (P := P) (t := T_impl_Money) r21.cells1 (by kernel_rfl) rfl
    have Z := y21.trans y23
    refine ⟨w23, st23, _, _, _, _, _, (bQ.ext Z).loadA0 (by kernel_rfl), _, _, _, _, _, (bL.ext Z).loadA0 (by kernel_rfl), ?_⟩
    refine Ret.at (impl_MoneyAdd_e (d := ((sumB l : Nat) : Int)) (p := (Lj : Int)) (rQ.ext Z) (rLf0.ext Z) (money_nat curEUR_known (by omega)) (money_nat curEUR_known hendB) (ht.ext (hXw.trans Z))) ?_
    rintro v w24 ⟨vs24, f24, hv, o24, _, y24⟩
    have eo2 : (((sumB l : Nat) : Int) + (Lj : Int)) = ((L + sumA l : Nat) : Int) := by omega
    rw [eo2] at hv o24
    rw [ok21] at hv
    rw [moneyMk_ok ok21] at o24
    subst hv
    have r24 := o24.reps
    obtain ⟨t0, t1, tp, tn, tc, tz, rfl, _, _⟩ := open_Money o24.reps (mon_codeP _ _)
    refine ⟨_, _, _, _, _, _, rfl, ?_⟩
    intro r9 w25 hn25
    obtain ⟨w26, st26, b9, y26⟩ := hn25.fill (P := P) (t := T_impl_Money) r24.cells1 (by kernel_rfl) rfl
    have Z2 := y24.trans y26
    refine ⟨w26, st26, fun _ => ⟨fun _ => ⟨fun _ => ⟨fun _ => ?_, fun e => absurd e (by simp)⟩, fun e => absurd e (by simp)⟩, fun e => absurd e (by simp)⟩, fun e => absurd e (by simp)⟩
    refine ⟨_, _, _, _, _, (b8.ext Z2).loadA0 (by kernel_rfl), _, _, _, _, _, b9.loadA0 (by kernel_rfl), ?_⟩
    refine Ret.at (impl_MoneySame_c ((r21.ext y23).ext Z2) (r24.ext y26) (mon_codeP _ _) (mon_codeP _ _)) ?_
    rintro v w27 ⟨hv, y27⟩
    subst hv
    have Z3 := (Z.trans Z2).trans y27
    refine ⟨_, rfl, fun _ => ?_, fun e => absurd e (by simp)⟩
    have hdone := planDone_N (c := curEUR) (L := L) (l := l) (fun _ => by rw [hEn]; exact hendB)
    rw [hEn] at hdone
    refine ifD (fun _ => ifD (fun _ => ⟨fun _ => ?_, fun e => absurd e (by simp)⟩) (fun hne => ?_)) (fun hno => absurd hno (by omega))
    · skip
      refine Ret.at (impl_PlanDone_c (rW.ext Z3) hcode) ?_
      rintro v w28 ⟨hv, y28⟩
      subst hv
      rw [hdone]
      refine ⟨_, rfl, ifD (fun hpos => ?_) (fun hz => ⟨?_, hXw.trans (Z3.trans y28)⟩)⟩
      · refine ⟨_, _, _, _, (bL.ext (Z3.trans y28)).loadAAt 1 [.bool g1, .slice gp gn gc] rfl (by kernel_rfl) rfl, ?_⟩
        refine Ret.at (impl_IntSign_c (rLf0.ext (Z3.trans y28)).2 (enc_nat_ok hendB)) ?_
        rintro v w29 ⟨hv, y29⟩
        subst hv
        refine ⟨_, rfl, ?_, hXw.trans ((Z3.trans y28).trans y29)⟩
        rw [decide_eq_true (show 0 < l.length by omega), sgn_nat0]
        simp
      · rw [decide_eq_false (show ¬ 0 < l.length by omega)]; rfl
    · have hL0 : Lj = 0 := by
        rcases hend with h1 | h1
        · exact absurd (by omega) hne
        · exact h1
      refine ⟨_, _, _, _, (bL.ext Z3).loadAAt 1 [.bool g1, .slice gp gn gc] rfl (by kernel_rfl) rfl, ?_⟩
      refine Ret.at (impl_IntSign_c (rLf0.ext Z3).2 (enc_nat_ok hendB)) ?_
      rintro v w30 ⟨hv, y30⟩
      subst hv
      have Z4 := Z3.trans y30
      refine ⟨_, rfl, ifD (fun _ => ?_) (fun hno => absurd (sgn_is0p.2 (by omega)) hno)⟩
      refine Ret.at (impl_PlanDone_c (rW.ext Z4) hcode) ?_
      rintro v w28 ⟨hv, y28⟩
      subst hv
      rw [hdone]
      refine ⟨_, rfl, ifD (fun hpos => ?_) (fun hz => ⟨?_, hXw.trans (Z4.trans y28)⟩)⟩
      · refine ⟨_, _, _, _, (bL.ext (Z4.trans y28)).loadAAt 1 [.bool g1, .slice gp gn gc] rfl (by kernel_rfl) rfl, ?_⟩
        refine Ret.at (impl_IntSign_c (rLf0.ext (Z4.trans y28)).2 (enc_nat_ok hendB)) ?_
        rintro v w29 ⟨hv, y29⟩
        subst hv
        refine ⟨_, rfl, ?_, hXw.trans ((Z4.trans y28).trans y29)⟩
        rw [decide_eq_true (show 0 < l.length by omega), sgn_nat0]
        simp
      · rw [decide_eq_false (show ¬ 0 < l.length by omega)]; rfl
end Go.Proofs.YtbgokfhcgcoipaaGreatDoor
namespace Go.Proofs.YtbgokfhcgcoipaaGreatDoor
open Go Go.Proofs.YtbgokfhcgcoipaaGreatDoor.Sx
def curData {H : Type} (r : CurRow) : DataW H := .agg [.lit (.string r.1.data.toList), .lit (.string r.2.1.data.toList), .lit (.int .i64 r.2.2.1), .lit (.int .i64 r.2.2.2)]
theorem bytes_eq {a b : ByteArray} (h : a.data.toList = b.data.toList) : a = b := by
  obtain ⟨⟨x⟩⟩ := a; obtain ⟨⟨y⟩⟩ := b
  simp at h; subst h; rfl
set_option maxRecDepth 100000 in
theorem cur_cells {H : Type} {enc : TypeId × Value -> H} {w : World} {sp : Nat -> Bool} {hd : Bool} {fuel : Nat} {cs : List Value} {r : CurRow} {p : List MemPlace}
    (h : DataW.trod enc P w 0 sp hd fuel T_impl_currency cs = some (curData r, p)) : cs = curCells r := by
  obtain ⟨fs, hu, hsz, ⟨f0, e0, t0, o0⟩, ⟨f1, e1, t1, o1⟩, ⟨f2, e2, t2, o2⟩, ⟨f3, e3, t3, o3⟩⟩ := cur_fields
  have hu : P.underlying T_impl_currency = some (.struct fs) := hu
  have hs : P.underlying T_string = some .string := by kernel_rfl
  have hi : P.underlying T_int = some (.int .i64) := by kernel_rfl
  have cS : P.cellsOf T_string = 1 := by kernel_rfl
  have cI : P.cellsOf T_int = 1 := by kernel_rfl
  have cC : P.cellsOf T_impl_currency = 4 := by kernel_rfl
  obtain ⟨xs, n, rfl, hx, hlen, hxl, hf⟩ := DataW.trod_struct hu h
  rw [cC] at hlen
  rw [hsz] at hxl
  have h0 := hf 0 f0 e0; have h1 := hf 1 f1 e1; have h2 := hf 2 f2 e2; have h3 := hf 3 f3 e3
  rw [t0, o0, cS] at h0; rw [t1, o1, cS] at h1; rw [t2, o2, cI] at h2; rw [t3, o3, cI] at h3
  match cs, hlen, xs, hxl, hx, h0, h1, h2, h3 with
  | [c0, c1, c2, c3], _, [x0, x1, x2, x3], _, hx, h0, h1, h2, h3 =>
    simp only [List.drop_succ_cons, List.drop_zero, List.take_succ_cons, List.take_zero, List.getElem?_cons_zero, List.getElem?_cons_succ] at h0 h1 h2 h3
    obtain ⟨s0, a0, b0, _⟩ := DataW.trod_string hs h0
    obtain ⟨s1, a1, b1, _⟩ := DataW.trod_string hs h1
    obtain ⟨z2, a2, b2, _⟩ := DataW.trod_int hi h2
    obtain ⟨z3, a3, b3, _⟩ := DataW.trod_int hi h3
    simp only [Prod.mk.injEq, curData, DataW.agg.injEq, List.map_cons, List.map_nil, List.cons.injEq, b0, b1, b2, b3, DataW.lit.injEq, Lit.string.injEq, Lit.int.injEq, true_and, and_true] at hx
    simp only [List.cons.injEq, and_true] at a0 a1 a2 a3
    obtain ⟨⟨q0, q1, q2, q3⟩, _⟩ := hx
    rw [a0, a1, a2, a3, <- bytes_eq q0, <- bytes_eq q1, <- q2, <- q3]
    rfl
theorem flat_of_rows : ∀ (l : List CurRow) (cs : List Value), cs.length = l.length * 4 -> (∀ i (hi : i < l.length), (cs.drop (i * 4)).take 4 = curCells (l[i]'hi)) -> cs = l.flatMap curCells
  | [], cs, h, _ => by simpa using h
  | r :: l, cs, h, hr => by
    have h0 := hr 0 (by simp)
    simp only [Nat.zero_mul, List.drop_zero, List.getElem_cons_zero] at h0
    rw [List.flatMap_cons, <- h0, <- flat_of_rows l (cs.drop 4) (by simp at h ⊢; omega) (fun i hi => by
      have := hr (i + 1) (by simpa using hi)
      rw [List.drop_drop, show 4 + i * 4 = (i + 1) * 4 by omega]
      simpa using this), List.take_append_drop]
def curVar : String := "loop.example/g00793/impl.currencies"
set_option maxRecDepth 100000 in
theorem tab_of_head {W : World} {rest : List (String × DataW Unit)} (h : laidMet P ((curVar, Rows.laid_loop_example_g00793_impl_currencies) :: rest) W) : Tab W := by
  obtain ⟨ps, ⟨g, t, cs, fuel, p, q, hg, ht, hvar, hd, _, _⟩, _⟩ := h
  have hg0 : P.globalNamed curVar = some 0 := by kernel_rfl
  have ht0 : (P.globals[0]?).map (·.type) = some T_20_impl_currency := by kernel_rfl
  obtain rfl := Option.some.inj (hg0.symm.trans hg)
  obtain rfl := Option.some.inj (ht0.symm.trans ht)
  have hu : P.underlying T_20_impl_currency = some (.array 20 T_impl_currency) := und_T_20_impl_currency
  have cC : P.cellsOf T_impl_currency = 4 := by kernel_rfl
  have cA : P.cellsOf T_20_impl_currency = 80 := by kernel_rfl
  obtain ⟨xs, m, rfl, hx, hlen, hxl, hf⟩ := DataW.trod_array hu hd
  rw [cA] at hlen
  have hdat : (Rows.laid_loop_example_g00793_impl_currencies : DataW Unit) = .agg (implTab.map curData) := by rfl
  rw [hdat] at hx
  simp only [Prod.mk.injEq, DataW.agg.injEq] at hx
  have hl := impl_length
  have hcs : cs.toList = implTab.flatMap curCells := by
    refine flat_of_rows implTab _ (by omega) fun i hi => ?_
    have h1 := hf i (by omega)
    rw [cC] at h1
    have h2 : (xs.map (·.1))[i]? = some (curData (implTab[i]'hi)) := by rw [<- hx.1]; simp [hi]
    rw [List.getElem?_map] at h2
    cases h3 : xs[i]? with
    | none => rw [h3] at h2; cases h2
    | some x =>
      rw [h3] at h1 h2
      simp only [Option.map_some, Option.some.injEq] at h2
      obtain ⟨d, pp⟩ := x
      simp only at h2
      subst h2
      exact cur_cells h1
  intro i v hv
  have := World.var?_cell hg0 hvar i
  rw [Nat.zero_add, this, <- hv, <- hcs]
  simp
theorem trodVars_one {H : Type} {enc : TypeId × Value -> H} {w : World} {sp : Nat -> Bool} {n : String} {gs : List (DataW H)} {ps : List MemPlace} (h : DataW.TrodVars enc P w sp [n] gs ps) : ∃ g, gs = [g] := by
  match gs, h with
  | [g], _ => exact ⟨g, rfl⟩
  | g :: g2 :: r, h =>
    obtain ⟨_, _, _, _, _, _, _, _, _, _, h2, _⟩ := h
    exact h2.elim
end Go.Proofs.YtbgokfhcgcoipaaGreatDoor
namespace Go.Proofs.YtbgokfhcgcoipaaGreatDoor
open Go Go.Proofs.YtbgokfhcgcoipaaGreatDoor.Sx
theorem laidMet_tail {W : World} {x : String × DataW Unit} {rest : List (String × DataW Unit)} (h : laidMet P (x :: rest) W) : laidMet P rest W := by
  obtain ⟨ps, hv, hn, hr⟩ := h
  obtain ⟨n, d⟩ := x
  obtain ⟨g, t, cs, fuel, p, q, _, _, _, _, hrest, rfl⟩ := hv
  exact ⟨q, hrest, (List.nodup_append.1 hn).2.1, fun b off hm => hr b off (List.mem_append_right _ hm)⟩
theorem pow_data : (Rows.laid_internal_strconv_uint64pow10 : DataW Unit) = Lib.tabData .u64 Lib.pow10Tab := by kernel_rfl
set_option maxRecDepth 100000 in
theorem tabP_of_head {W : World} {rest : List (String × DataW Unit)} (h : laidMet P (("internal/strconv.uint64pow10", Rows.laid_internal_strconv_uint64pow10) :: rest) W) : TabP W := by
  rw [pow_data] at h
  exact Lib.tabIs_of_head (g := G_pow) (t := TA_pow) (e := TE_pow) (n := 20) (by kernel_rfl) (by kernel_rfl) und_A_pow und_E_pow (by kernel_rfl) (by kernel_rfl) h
def layAt (cs : List Value) : Obj -> Obj
  | .cells _ t frozen => .cells ⟨cs⟩ t frozen
  | o => o
end Go.Proofs.YtbgokfhcgcoipaaGreatDoor
namespace Go.Proofs.YtbgokfhcgcoipaaGreatDoor
open Go Go.Proofs.YtbgokfhcgcoipaaGreatDoor.Sx
theorem tabs_of_laid {W : World} (h : laidMetH P [("math/bits.deBruijn32tab", Rows.laid_math_bits_deBruijn32tab), ("math/bits.deBruijn64tab", Rows.laid_math_bits_deBruijn64tab), ("internal/strconv.uint64pow10", Rows.laid_internal_strconv_uint64pow10), (curVar, Rows.laid_loop_example_g00793_impl_currencies)] W) : Tab W /\ TabP W := by
  have h : laidMet P [("math/bits.deBruijn32tab", Rows.laid_math_bits_deBruijn32tab), ("math/bits.deBruijn64tab", Rows.laid_math_bits_deBruijn64tab), ("internal/strconv.uint64pow10", Rows.laid_internal_strconv_uint64pow10), (curVar, Rows.laid_loop_example_g00793_impl_currencies)] W := h
  have h2 := laidMet_tail (laidMet_tail h)
  exact ⟨tab_of_head (laidMet_tail h2), tabP_of_head h2⟩
noncomputable def laidWorldX (os : Os) (args : Array Value) : World :=
 { World.holding P os ⟨#[], args, []⟩ with heap := (((((World.holding P os ⟨#[], args, []⟩).heap.modify G_cur (layAt (implTab.flatMap curCells))).modify G_pow (layAt (L_pow.map (Value.int .u64)))).modify G_d32 (layAt (L_d32.map (Value.int .u8)))).modify G_d64 (layAt (L_d64.map (Value.int .u8)))) }
end Go.Proofs.YtbgokfhcgcoipaaGreatDoor
