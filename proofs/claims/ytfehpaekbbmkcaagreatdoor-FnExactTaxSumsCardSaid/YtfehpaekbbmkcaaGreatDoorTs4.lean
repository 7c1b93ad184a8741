/-
  Parts of the proof of taxSums_holds: DS, CBase, CInt, CNum, CNat, CAdd, CSigned, SxMark, SxPush, SxIns, CInsert, COrd, CTaxO, CLowS, CIntAdd, CSpecInt.
  Conditions: none.
-/
import Derived.Laws.CopyRow
import Derived.Laws.OwnMore
import Derived.Laws.BytesArg
import Derived.Laws.Externs
import Derived.Lib.AppendZerosOnto
import Derived.Lib.Overlaps
import Derived.Test.YtfehpaekbbmkcaaGreatDoorTs3

namespace Go.Proofs.YtfehpaekbbmkcaaGreatDoor
open Go Go.Proofs.YtfehpaekbbmkcaaGreatDoor.Sx
set_option linter.unusedVariables false
set_option linter.unusedSimpArgs false
theorem open_Signed {w : World} {vs : List Value} {ds : List D0} (h : Reps w vs ds) (hc : ds.map D0.code = [.bool, .ints]) :
    ∃ (a0 : Bool) (a1p : Option Addr) (a1n a1c : Nat) (a1z : List Int), vs = [.bool a0, .slice a1p a1n a1c] ∧ ds = [.bool a0, .ints a1z] ∧ IntsR w a1p a1n a1c a1z := by
  obtain ⟨b0, us, es, hv, hd, h2, hc2⟩ := h.bool hc
  subst hv; subst hd
  clear h hc
  have h := h2; have hc := hc2; clear h2 hc2
  obtain ⟨b1p, b1n, b1c, b1z, us, es, hv, hd, b1h, h2, hc2⟩ := h.ints hc
  subst hv; subst hd
  clear h hc
  have h := h2; have hc := hc2; clear h2 hc2
  obtain ⟨hv, hd⟩ := h.done hc
  subst hv; subst hd; clear h hc
  exact ⟨_, _, _, _, _, rfl, rfl, b1h⟩
theorem laws_szSigned_c {w : World} {vs : List Value} {ds : List D0} (h : Reps w vs ds) (hc : ds.map D0.code = [.bool, .ints]) (hok : ∀ d ∈ ds, d.ok) {left : Int} (h0 : 0 ≤ left) (h1 : left ≤ 1048576) :
    Ret P n_laws_szSigned [.agg ⟨vs⟩, .int .i64 left] w fun v w' => ∃ r : Int, v = .int .i64 r ∧ (0 ≤ r → r + bulks ds ≤ left) ∧ r ≤ 1048576 ∧ Ext w w' := by
  obtain ⟨a0, us, es, hv, hd, h2, hc2⟩ := h.bool hc
  subst hv; subst hd
  clear h hc
  have h := h2; have hc := hc2; clear h2 hc2
  obtain ⟨a1p, a1n, a1c, a1z, us, es, hv, hd, a1h, h2, hc2⟩ := h.ints hc
  subst hv; subst hd
  clear h hc
  have h := h2; have hc := hc2; clear h2 hc2
  obtain ⟨hv, hd⟩ := h.done hc
  subst hv; subst hd; clear h hc
  simp only [List.mem_cons, List.not_mem_nil, or_false, forall_eq_or_imp, forall_eq, D0.ok] at hok
  have a1l := a1h.1; have a1k := a1h.2.1; have a1m := a1h.2.2.1
  simp only [bulks, D0.bulk, List.map_cons, List.map_nil, List.sum_cons, List.sum_nil]
  refine laws_szSigned_ret ?_
  unfold laws_szSigned
  intro r w1 hn1
  have x := hn1.ext; have b0 := hn1.blk
  refine ⟨_, _, _, b0.load (by kernel_rfl) rfl, ?_⟩
  refine Ret.at (laws_szIntS_c (by omega) (by omega) (by omega)) ?_
  rintro v w2 ⟨k0, hv, hk0, hm0, y⟩
  subst hv
  have x := x.trans y; have b0 := b0.ext y
  refine ⟨_, rfl, ifD (fun hl => ⟨_, rfl, by omega, by omega, x⟩) (fun hl => ?_)⟩
  exact ⟨_, rfl, by omega, by omega, x⟩
theorem laws_toSigned_c {w : World} {vs : List Value} {ds : List D0} (h : Reps w vs ds) (hc : ds.map D0.code = [.bool, .ints]) (hb : bulks ds ≤ 1048576) :
    Ret P n_laws_toSigned [.agg ⟨vs⟩] w fun v w' => ∃ vs' f, v = .agg ⟨vs'⟩ ∧ Owns w' w.heap.size vs' ds f ∧ f.Nodup ∧ Ext w w' := by
  obtain ⟨a0, us, es, hv, hd, h2, hc2⟩ := h.bool hc
  subst hv; subst hd
  clear h hc
  have h := h2; have hc := hc2; clear h2 hc2
  obtain ⟨a1p, a1n, a1c, a1z, us, es, hv, hd, a1h, h2, hc2⟩ := h.ints hc
  subst hv; subst hd
  clear h hc
  have h := h2; have hc := hc2; clear h2 hc2
  obtain ⟨hv, hd⟩ := h.done hc
  subst hv; subst hd; clear h hc
  simp only [bulks, D0.bulk, List.map_cons, List.map_nil, List.sum_cons, List.sum_nil] at hb
  have a1l := a1h.1
  refine laws_toSigned_ret ?_
  unfold laws_toSigned
  intro r w1 hn1 r1 w2 hn2 r2 w3 hn3
  have x := (hn1.ext.trans hn2.ext).trans hn3.ext
  have b0 := (hn1.blk.ext hn2.ext).ext hn3.ext
  have b1 := hn2.blk.ext hn3.ext
  have b2 := hn3.blk
  have e1 := hn1.r_eq; have e2 := hn2.r_eq; have e3 := hn3.r_eq; have s1 := hn1.size; have s2 := hn2.size; have s3 := hn3.size
  obtain ⟨w4, st, b2', ch, sz⟩ := b2.store (P := P) (t := T_bool) (k := 0) (v := .bool a0) (by kernel_rfl) (by simp) rfl
  refine ⟨_, b0.load (by kernel_rfl) rfl, _, st, ?_⟩
  have x := x.chg ch (by simp; omega); have b0 := b0.chg ch (by simp; omega); have b1 := b1.chg ch (by simp; omega)
  have b2 : Blk w4 r2 _ [.bool a0, .slice none 0 0] := b2'
  clear b2'
  refine ⟨_, _, _, b0.load (by kernel_rfl) rfl, ?_⟩
  refine Ret.at (laws_toIntS_c (a1h.ext x) (by omega)) ?_
  rintro v w5 ⟨q0, hv, o0, y⟩
  subst hv
  refine ⟨_, _, _, rfl, ?_⟩
  have o0 := Owns.ints o0
  have l0 : ∀ k ∈ _, k < w5.heap.size := fun k hk => (o0.lt k hk).2
  have nd0 : ([q0] : List Nat).Nodup := by simp
  have y0 := y.le; have b0 := b0.ext y; have b1 := b1.ext y; have b2 := b2.ext y; have x := x.trans y
  obtain ⟨w6, st, b2', ch, sz⟩ := b2.store (P := P) (t := T_s_int) (k := 1) (v := .slice (some ⟨q0, 0, none⟩) a1n a1n) (by kernel_rfl) (by simp) rfl
  refine ⟨_, st, ?_⟩
  have x := x.chg ch (by simp; omega); have b0 := b0.chg ch (by simp; omega); have b1 := b1.chg ch (by simp; omega)
  have b2 : Blk w6 r2 _ [.bool a0, .slice (some ⟨q0, 0, none⟩) a1n a1n] := b2'
  clear b2'
  have o0 := o0.chg1 ch (by omega)
  refine ⟨_, _, _, _, b2.loadA0 (by kernel_rfl), ?_⟩
  have ow : Owns w6 w.heap.size [.bool a0, .slice (some ⟨q0, 0, none⟩) a1n a1n] [.bool a0, .ints a1z] ([] ++ [q0]) := Owns.append (Owns.bool _ _ a0) (o0.mono (by omega))
  obtain ⟨w7, st, b1', ch, sz⟩ := b1.storeA0 (P := P) (t := T_impl_Signed) (xs := [.bool a0, .slice (some ⟨q0, 0, none⟩) a1n a1n]) (by kernel_rfl) rfl ow.reps.cells1
  refine ⟨_, st, _, _, _, _, b1'.loadA0 (by kernel_rfl), [.bool a0, .slice (some ⟨q0, 0, none⟩) a1n a1n], ([] ++ [q0]), rfl, Owns.append (Owns.bool _ _ a0) ((o0.chg1 ch (by omega)).mono (by omega)), ?_, x.chg ch (by simp; omega)⟩
  try simp only [List.nil_append, List.append_nil]
  exact nd0
theorem laws_eqSigned_c {w : World} {xs ys : List Value} {dx dy : List D0} (h : Reps w xs dx) (k : Reps w ys dy) (hc : dx.map D0.code = [.bool, .ints]) (kc : dy.map D0.code = [.bool, .ints]) :
    Ret P n_laws_eqSigned [.agg ⟨xs⟩, .agg ⟨ys⟩] w fun v w' => v = .bool (decide (dx = dy)) ∧ Ext w w' := by
  obtain ⟨a0, us, es, hv, hd, h2, hc2⟩ := h.bool hc
  subst hv; subst hd
  clear h hc
  have h := h2; have hc := hc2; clear h2 hc2
  obtain ⟨a1p, a1n, a1c, a1z, us, es, hv, hd, a1h, h2, hc2⟩ := h.ints hc
  subst hv; subst hd
  clear h hc
  have h := h2; have hc := hc2; clear h2 hc2
  obtain ⟨hv, hd⟩ := h.done hc
  subst hv; subst hd; clear h hc
  obtain ⟨bb0, us, es, hv, hd, k2, kc2⟩ := k.bool kc
  subst hv; subst hd
  clear k kc
  have k := k2; have kc := kc2; clear k2 kc2
  obtain ⟨bb1p, bb1n, bb1c, bb1z, us, es, hv, hd, bb1h, k2, kc2⟩ := k.ints kc
  subst hv; subst hd
  clear k kc
  have k := k2; have kc := kc2; clear k2 kc2
  obtain ⟨hv, hd⟩ := k.done kc
  subst hv; subst hd; clear k kc
  refine laws_eqSigned_ret ?_
  unfold laws_eqSigned
  intro r w1 hn1 r1 w2 hn2
  have x := hn1.ext.trans hn2.ext
  have b0 := hn1.blk.ext hn2.ext
  have b1 := hn2.blk
  refine ⟨_, b0.load (by kernel_rfl) rfl, _, b1.load (by kernel_rfl) rfl, ?_⟩
  refine ifN (fun hne => ⟨dec_no (fun e => ?_), x⟩) (fun heq => ?_)
  · have e2 := congrArg (fun l : List D0 => (l.drop 0).take 1) e
    simp at e2; simp [e2] at hne
  have heq : a0 = bb0 := by simpa using heq
  subst heq
  refine ⟨_, _, _, b0.load (by kernel_rfl) rfl, _, _, _, b1.load (by kernel_rfl) rfl, ?_⟩
  refine Ret.at (laws_eqIntS_c (a1h.ext x) (bb1h.ext x)) ?_
  rintro v w3 ⟨hv, y⟩
  subst hv
  have x := x.trans y; have b0 := b0.ext y; have b1 := b1.ext y
  refine ⟨_, rfl, ifN (fun hne => ⟨dec_no (fun e => ?_), x⟩) (fun heq => ?_)⟩
  · have e2 := congrArg (fun l : List D0 => (l.drop 1).take 1) e
    have hne := of_decide_eq_false hne; simp at e2; exact hne e2
  have heq := of_decide_eq_true heq
  subst heq
  exact ⟨dec_yes rfl, x⟩
theorem open_Rat {w : World} {vs : List Value} {ds : List D0} (h : Reps w vs ds) (hc : ds.map D0.code = [.bool, .ints, .ints]) :
    ∃ (a0 : Bool) (a1p : Option Addr) (a1n a1c : Nat) (a1z : List Int) (a2p : Option Addr) (a2n a2c : Nat) (a2z : List Int), vs = [.bool a0, .slice a1p a1n a1c, .slice a2p a2n a2c] ∧ ds = [.bool a0, .ints a1z, .ints a2z] ∧ IntsR w a1p a1n a1c a1z ∧ IntsR w a2p a2n a2c a2z := by
  obtain ⟨b0, us, es, hv, hd, h2, hc2⟩ := h.bool hc
  subst hv; subst hd
  clear h hc
  have h := h2; have hc := hc2; clear h2 hc2
  obtain ⟨b1p, b1n, b1c, b1z, us, es, hv, hd, b1h, h2, hc2⟩ := h.ints hc
  subst hv; subst hd
  clear h hc
  have h := h2; have hc := hc2; clear h2 hc2
  obtain ⟨b2p, b2n, b2c, b2z, us, es, hv, hd, b2h, h2, hc2⟩ := h.ints hc
  subst hv; subst hd
  clear h hc
  have h := h2; have hc := hc2; clear h2 hc2
  obtain ⟨hv, hd⟩ := h.done hc
  subst hv; subst hd; clear h hc
  exact ⟨_, _, _, _, _, _, _, _, _, rfl, rfl, b1h, b2h⟩
theorem open_Dec {w : World} {vs : List Value} {ds : List D0} (h : Reps w vs ds) (hc : ds.map D0.code = [.bool, .ints, .int]) :
    ∃ (a0 : Bool) (a1p : Option Addr) (a1n a1c : Nat) (a1z : List Int) (a2 : Int), vs = [.bool a0, .slice a1p a1n a1c, .int .i64 a2] ∧ ds = [.bool a0, .ints a1z, .int a2] ∧ IntsR w a1p a1n a1c a1z := by
  obtain ⟨b0, us, es, hv, hd, h2, hc2⟩ := h.bool hc
  subst hv; subst hd
  clear h hc
  have h := h2; have hc := hc2; clear h2 hc2
  obtain ⟨b1p, b1n, b1c, b1z, us, es, hv, hd, b1h, h2, hc2⟩ := h.ints hc
  subst hv; subst hd
  clear h hc
  have h := h2; have hc := hc2; clear h2 hc2
  obtain ⟨b2, us, es, hv, hd, h2, hc2⟩ := h.int hc
  subst hv; subst hd
  clear h hc
  have h := h2; have hc := hc2; clear h2 hc2
  obtain ⟨hv, hd⟩ := h.done hc
  subst hv; subst hd; clear h hc
  exact ⟨_, _, _, _, _, _, rfl, rfl, b1h⟩
theorem laws_szDec_c {w : World} {vs : List Value} {ds : List D0} (h : Reps w vs ds) (hc : ds.map D0.code = [.bool, .ints, .int]) (hok : ∀ d ∈ ds, d.ok) {left : Int} (h0 : 0 ≤ left) (h1 : left ≤ 1048576) :
    Ret P n_laws_szDec [.agg ⟨vs⟩, .int .i64 left] w fun v w' => ∃ r : Int, v = .int .i64 r ∧ (0 ≤ r → r + bulks ds ≤ left) ∧ r ≤ 1048576 ∧ Ext w w' := by
  obtain ⟨a0, us, es, hv, hd, h2, hc2⟩ := h.bool hc
  subst hv; subst hd
  clear h hc
  have h := h2; have hc := hc2; clear h2 hc2
  obtain ⟨a1p, a1n, a1c, a1z, us, es, hv, hd, a1h, h2, hc2⟩ := h.ints hc
  subst hv; subst hd
  clear h hc
  have h := h2; have hc := hc2; clear h2 hc2
  obtain ⟨a2, us, es, hv, hd, h2, hc2⟩ := h.int hc
  subst hv; subst hd
  clear h hc
  have h := h2; have hc := hc2; clear h2 hc2
  obtain ⟨hv, hd⟩ := h.done hc
  subst hv; subst hd; clear h hc
  simp only [List.mem_cons, List.not_mem_nil, or_false, forall_eq_or_imp, forall_eq, D0.ok] at hok
  have a1l := a1h.1; have a1k := a1h.2.1; have a1m := a1h.2.2.1
  simp only [bulks, D0.bulk, List.map_cons, List.map_nil, List.sum_cons, List.sum_nil]
  refine laws_szDec_ret ?_
  unfold laws_szDec
  intro r w1 hn1
  have x := hn1.ext; have b0 := hn1.blk
  have hr : Reps w [.bool a0, .slice a1p a1n a1c] [.bool a0, .ints a1z] := ⟨rfl, ⟨⟨_, _, _, rfl, a1h⟩, trivial⟩⟩
  refine ⟨_, _, _, _, b0.loadA (xs := [.bool a0, .slice a1p a1n a1c]) (by kernel_rfl) rfl, ?_⟩
  refine Ret.at (laws_szSigned_c (hr.ext x) rfl (by simp only [List.mem_cons, List.not_mem_nil, or_false, forall_eq_or_imp, forall_eq, D0.ok]; simp only [hok, and_self]) (by omega) (by omega)) ?_
  rintro v w2 ⟨k0, hv, hk0, hm0, y⟩
  simp only [bulks, D0.bulk, List.map_cons, List.map_nil, List.sum_cons, List.sum_nil] at hk0
  subst hv
  have x := x.trans y; have b0 := b0.ext y
  refine ⟨_, rfl, ifD (fun hl => ⟨_, rfl, by omega, by omega, x⟩) (fun hl => ?_)⟩
  exact ⟨_, rfl, by omega, by omega, x⟩
theorem laws_toDec_c {w : World} {vs : List Value} {ds : List D0} (h : Reps w vs ds) (hc : ds.map D0.code = [.bool, .ints, .int]) (hb : bulks ds ≤ 1048576) :
    Ret P n_laws_toDec [.agg ⟨vs⟩] w fun v w' => ∃ vs' f, v = .agg ⟨vs'⟩ ∧ Owns w' w.heap.size vs' ds f ∧ f.Nodup ∧ Ext w w' := by
  obtain ⟨a0, us, es, hv, hd, h2, hc2⟩ := h.bool hc
  subst hv; subst hd
  clear h hc
  have h := h2; have hc := hc2; clear h2 hc2
  obtain ⟨a1p, a1n, a1c, a1z, us, es, hv, hd, a1h, h2, hc2⟩ := h.ints hc
  subst hv; subst hd
  clear h hc
  have h := h2; have hc := hc2; clear h2 hc2
  obtain ⟨a2, us, es, hv, hd, h2, hc2⟩ := h.int hc
  subst hv; subst hd
  clear h hc
  have h := h2; have hc := hc2; clear h2 hc2
  obtain ⟨hv, hd⟩ := h.done hc
  subst hv; subst hd; clear h hc
  simp only [bulks, D0.bulk, List.map_cons, List.map_nil, List.sum_cons, List.sum_nil] at hb
  have a1l := a1h.1
  refine laws_toDec_ret ?_
  unfold laws_toDec
  intro r w1 hn1 r1 w2 hn2 r2 w3 hn3
  have x := (hn1.ext.trans hn2.ext).trans hn3.ext
  have b0 := (hn1.blk.ext hn2.ext).ext hn3.ext
  have b1 := hn2.blk.ext hn3.ext
  have b2 := hn3.blk
  have e1 := hn1.r_eq; have e2 := hn2.r_eq; have e3 := hn3.r_eq; have s1 := hn1.size; have s2 := hn2.size; have s3 := hn3.size
  have hr : Reps w [.bool a0, .slice a1p a1n a1c] [.bool a0, .ints a1z] := ⟨rfl, ⟨⟨_, _, _, rfl, a1h⟩, trivial⟩⟩
  refine ⟨_, _, _, _, b0.loadA (xs := [.bool a0, .slice a1p a1n a1c]) (by kernel_rfl) rfl, ?_⟩
  refine Ret.at (laws_toSigned_c (hr.ext x) rfl (by simp only [bulks, D0.bulk, List.map_cons, List.map_nil, List.sum_cons, List.sum_nil]; omega)) ?_
  rintro v w4 ⟨us0, f0, hv, o0, nd0, y⟩
  subst hv
  have hq := o0.reps; have hqc : ([.bool a0, .ints a1z] : List D0).map D0.code = [.bool, .ints] := rfl
  obtain ⟨q00, us, es, hv, hd, hq2, hqc2⟩ := hq.bool hqc
  subst hv; cases hd; clear hq hqc; have hq := hq2; have hqc := hqc2; clear hq2 hqc2
  obtain ⟨q01p, q01n, q01c, q01z, us, es, hv, hd, q01h, hq2, hqc2⟩ := hq.ints hqc
  subst hv; cases hd; clear hq hqc; have hq := hq2; have hqc := hqc2; clear hq2 hqc2
  obtain ⟨hv, _⟩ := hq.done hqc; subst hv; clear hq hqc
  refine ⟨_, _, _, _, rfl, ?_⟩
  have l0 : ∀ k ∈ _, k < w4.heap.size := fun k hk => (o0.lt k hk).2
  have y0 := y.le; have b0 := b0.ext y; have b1 := b1.ext y; have b2 := b2.ext y; have x := x.trans y
  obtain ⟨w5, st, b2', ch, sz⟩ := b2.storeA (P := P) (t := T_impl_Signed) (k := 0) (xs := [.bool a0, .slice q01p q01n q01c]) (by kernel_rfl) (by simp) o0.reps.cells1
  refine ⟨_, st, ?_⟩
  have x := x.chg ch (by simp; omega); have b0 := b0.chg ch (by simp; omega); have b1 := b1.chg ch (by simp; omega)
  have b2 : Blk w5 r2 _ [.bool a0, .slice q01p q01n q01c, .int .i64 0] := b2'
  clear b2'
  have o0 := o0.chg1 ch (by omega)
  obtain ⟨w6, st, b2', ch, sz⟩ := b2.store (P := P) (t := T_int) (k := 2) (v := .int .i64 a2) (by kernel_rfl) (by simp) rfl
  refine ⟨_, b0.load (by kernel_rfl) rfl, _, st, ?_⟩
  have x := x.chg ch (by simp; omega); have b0 := b0.chg ch (by simp; omega); have b1 := b1.chg ch (by simp; omega)
  have b2 : Blk w6 r2 _ [.bool a0, .slice q01p q01n q01c, .int .i64 a2] := b2'
  clear b2'
  have o0 := o0.chg1 ch (by omega)
  refine ⟨_, _, _, _, _, b2.loadA0 (by kernel_rfl), ?_⟩
  have ow : Owns w6 w.heap.size [.bool a0, .slice q01p q01n q01c, .int .i64 a2] [.bool a0, .ints a1z, .int a2] (f0 ++ []) := Owns.append (o0.mono (by omega)) (Owns.int _ _ a2)
  obtain ⟨w7, st, b1', ch, sz⟩ := b1.storeA0 (P := P) (t := T_impl_Dec) (xs := [.bool a0, .slice q01p q01n q01c, .int .i64 a2]) (by kernel_rfl) rfl ow.reps.cells1
  refine ⟨_, st, _, _, _, _, _, b1'.loadA0 (by kernel_rfl), [.bool a0, .slice q01p q01n q01c, .int .i64 a2], (f0 ++ []), rfl, Owns.append ((o0.chg1 ch (by omega)).mono (by omega)) (Owns.int _ _ a2), ?_, x.chg ch (by simp; omega)⟩
  try simp only [List.nil_append, List.append_nil]
  exact nd0
theorem laws_eqDec_c {w : World} {xs ys : List Value} {dx dy : List D0} (h : Reps w xs dx) (k : Reps w ys dy) (hc : dx.map D0.code = [.bool, .ints, .int]) (kc : dy.map D0.code = [.bool, .ints, .int]) :
    Ret P n_laws_eqDec [.agg ⟨xs⟩, .agg ⟨ys⟩] w fun v w' => v = .bool (decide (dx = dy)) ∧ Ext w w' := by
  obtain ⟨a0, us, es, hv, hd, h2, hc2⟩ := h.bool hc
  subst hv; subst hd
  clear h hc
  have h := h2; have hc := hc2; clear h2 hc2
  obtain ⟨a1p, a1n, a1c, a1z, us, es, hv, hd, a1h, h2, hc2⟩ := h.ints hc
  subst hv; subst hd
  clear h hc
  have h := h2; have hc := hc2; clear h2 hc2
  obtain ⟨a2, us, es, hv, hd, h2, hc2⟩ := h.int hc
  subst hv; subst hd
  clear h hc
  have h := h2; have hc := hc2; clear h2 hc2
  obtain ⟨hv, hd⟩ := h.done hc
  subst hv; subst hd; clear h hc
  obtain ⟨bb0, us, es, hv, hd, k2, kc2⟩ := k.bool kc
  subst hv; subst hd
  clear k kc
  have k := k2; have kc := kc2; clear k2 kc2
  obtain ⟨bb1p, bb1n, bb1c, bb1z, us, es, hv, hd, bb1h, k2, kc2⟩ := k.ints kc
  subst hv; subst hd
  clear k kc
  have k := k2; have kc := kc2; clear k2 kc2
  obtain ⟨bb2, us, es, hv, hd, k2, kc2⟩ := k.int kc
  subst hv; subst hd
  clear k kc
  have k := k2; have kc := kc2; clear k2 kc2
  obtain ⟨hv, hd⟩ := k.done kc
  subst hv; subst hd; clear k kc
  refine laws_eqDec_ret ?_
  unfold laws_eqDec
  intro r w1 hn1 r1 w2 hn2
  have x := hn1.ext.trans hn2.ext
  have b0 := hn1.blk.ext hn2.ext
  have b1 := hn2.blk
  have ha : Reps w [.bool a0, .slice a1p a1n a1c] [.bool a0, .ints a1z] := ⟨rfl, ⟨⟨_, _, _, rfl, a1h⟩, trivial⟩⟩
  have hb : Reps w [.bool bb0, .slice bb1p bb1n bb1c] [.bool bb0, .ints bb1z] := ⟨rfl, ⟨⟨_, _, _, rfl, bb1h⟩, trivial⟩⟩
  refine ⟨_, _, _, _, b0.loadA (xs := [.bool a0, .slice a1p a1n a1c]) (by kernel_rfl) rfl, _, _, _, _, b1.loadA (xs := [.bool bb0, .slice bb1p bb1n bb1c]) (by kernel_rfl) rfl, ?_⟩
  refine Ret.at (laws_eqSigned_c (ha.ext x) (hb.ext x) rfl rfl) ?_
  rintro v w3 ⟨hv, y⟩
  subst hv
  have x := x.trans y; have b0 := b0.ext y; have b1 := b1.ext y
  refine ⟨_, rfl, ifN (fun hne => ⟨dec_no (fun e => ?_), x⟩) (fun heq => ?_)⟩
  · have e2 := congrArg (fun l : List D0 => (l.drop 0).take 2) e
    exact of_decide_eq_false hne e2
  have heq := of_decide_eq_true heq
  cases heq
  refine ⟨_, b0.load (by kernel_rfl) rfl, _, b1.load (by kernel_rfl) rfl, ?_⟩
  refine ifD (fun hne => ⟨dec_no (fun e => ?_), x⟩) (fun heq => ?_)
  · have e2 := congrArg (fun l : List D0 => (l.drop 2).take 1) e
    simp at e2; exact hne e2
  have heq : a2 = bb2 := by simpa using heq
  subst heq
  exact ⟨dec_yes rfl, x⟩
theorem open_Money {w : World} {vs : List Value} {ds : List D0} (h : Reps w vs ds) (hc : ds.map D0.code = [.str, .bool, .ints]) :
    ∃ (a0 : ByteArray) (a1 : Bool) (a2p : Option Addr) (a2n a2c : Nat) (a2z : List Int), vs = [.string a0, .bool a1, .slice a2p a2n a2c] ∧ ds = [.str a0, .bool a1, .ints a2z] ∧ IntsR w a2p a2n a2c a2z := by
  obtain ⟨b0, us, es, hv, hd, h2, hc2⟩ := h.str hc
  subst hv; subst hd
  clear h hc
  have h := h2; have hc := hc2; clear h2 hc2
  obtain ⟨b1, us, es, hv, hd, h2, hc2⟩ := h.bool hc
  subst hv; subst hd
  clear h hc
  have h := h2; have hc := hc2; clear h2 hc2
  obtain ⟨b2p, b2n, b2c, b2z, us, es, hv, hd, b2h, h2, hc2⟩ := h.ints hc
  subst hv; subst hd
  clear h hc
  have h := h2; have hc := hc2; clear h2 hc2
  obtain ⟨hv, hd⟩ := h.done hc
  subst hv; subst hd; clear h hc
  exact ⟨_, _, _, _, _, _, rfl, rfl, b2h⟩
theorem laws_szMoney_c {w : World} {vs : List Value} {ds : List D0} (h : Reps w vs ds) (hc : ds.map D0.code = [.str, .bool, .ints]) (hok : ∀ d ∈ ds, d.ok) {left : Int} (h0 : 0 ≤ left) (h1 : left ≤ 1048576) :
    Ret P n_laws_szMoney [.agg ⟨vs⟩, .int .i64 left] w fun v w' => ∃ r : Int, v = .int .i64 r ∧ (0 ≤ r → r + bulks ds ≤ left) ∧ r ≤ 1048576 ∧ Ext w w' := by
  obtain ⟨a0, us, es, hv, hd, h2, hc2⟩ := h.str hc
  subst hv; subst hd
  clear h hc
  have h := h2; have hc := hc2; clear h2 hc2
  obtain ⟨a1, us, es, hv, hd, h2, hc2⟩ := h.bool hc
  subst hv; subst hd
  clear h hc
  have h := h2; have hc := hc2; clear h2 hc2
  obtain ⟨a2p, a2n, a2c, a2z, us, es, hv, hd, a2h, h2, hc2⟩ := h.ints hc
  subst hv; subst hd
  clear h hc
  have h := h2; have hc := hc2; clear h2 hc2
  obtain ⟨hv, hd⟩ := h.done hc
  subst hv; subst hd; clear h hc
  simp only [List.mem_cons, List.not_mem_nil, or_false, forall_eq_or_imp, forall_eq, D0.ok] at hok
  have a2l := a2h.1; have a2k := a2h.2.1; have a2m := a2h.2.2.1
  simp only [bulks, D0.bulk, List.map_cons, List.map_nil, List.sum_cons, List.sum_nil]
  refine laws_szMoney_ret ?_
  unfold laws_szMoney
  intro r w1 hn1
  have x := hn1.ext; have b0 := hn1.blk
  refine ⟨_, b0.load (by kernel_rfl) rfl, exW ⟨by omega, by omega⟩ (ifD (fun hl => ⟨_, rfl, by omega, by omega, x⟩) (fun hl => ?_))⟩
  have hr : Reps w [.bool a1, .slice a2p a2n a2c] [.bool a1, .ints a2z] := ⟨rfl, ⟨⟨_, _, _, rfl, a2h⟩, trivial⟩⟩
  refine ⟨_, _, _, _, b0.loadA (xs := [.bool a1, .slice a2p a2n a2c]) (by kernel_rfl) rfl, ?_⟩
  refine Ret.at (laws_szSigned_c (hr.ext x) rfl (by simp only [List.mem_cons, List.not_mem_nil, or_false, forall_eq_or_imp, forall_eq, D0.ok]; simp only [hok, and_self]) (by omega) (by omega)) ?_
  rintro v w2 ⟨k0, hv, hk0, hm0, y⟩
  simp only [bulks, D0.bulk, List.map_cons, List.map_nil, List.sum_cons, List.sum_nil] at hk0
  subst hv
  have x := x.trans y; have b0 := b0.ext y
  refine ⟨_, rfl, ifD (fun hl => ⟨_, rfl, by omega, by omega, x⟩) (fun hl => ?_)⟩
  exact ⟨_, rfl, by omega, by omega, x⟩
theorem laws_toMoney_c {w : World} {vs : List Value} {ds : List D0} (h : Reps w vs ds) (hc : ds.map D0.code = [.str, .bool, .ints]) (hb : bulks ds ≤ 1048576) :
    Ret P n_laws_toMoney [.agg ⟨vs⟩] w fun v w' => ∃ vs' f, v = .agg ⟨vs'⟩ ∧ Owns w' w.heap.size vs' ds f ∧ f.Nodup ∧ Ext w w' := by
  obtain ⟨a0, us, es, hv, hd, h2, hc2⟩ := h.str hc
  subst hv; subst hd
  clear h hc
  have h := h2; have hc := hc2; clear h2 hc2
  obtain ⟨a1, us, es, hv, hd, h2, hc2⟩ := h.bool hc
  subst hv; subst hd
  clear h hc
  have h := h2; have hc := hc2; clear h2 hc2
  obtain ⟨a2p, a2n, a2c, a2z, us, es, hv, hd, a2h, h2, hc2⟩ := h.ints hc
  subst hv; subst hd
  clear h hc
  have h := h2; have hc := hc2; clear h2 hc2
  obtain ⟨hv, hd⟩ := h.done hc
  subst hv; subst hd; clear h hc
  simp only [bulks, D0.bulk, List.map_cons, List.map_nil, List.sum_cons, List.sum_nil] at hb
  have a2l := a2h.1
  refine laws_toMoney_ret ?_
  unfold laws_toMoney
  intro r w1 hn1 r1 w2 hn2 r2 w3 hn3
  have x := (hn1.ext.trans hn2.ext).trans hn3.ext
  have b0 := (hn1.blk.ext hn2.ext).ext hn3.ext
  have b1 := hn2.blk.ext hn3.ext
  have b2 := hn3.blk
  have e1 := hn1.r_eq; have e2 := hn2.r_eq; have e3 := hn3.r_eq; have s1 := hn1.size; have s2 := hn2.size; have s3 := hn3.size
  obtain ⟨w4, st, b2', ch, sz⟩ := b2.store (P := P) (t := T_string) (k := 0) (v := .string a0) (by kernel_rfl) (by simp) rfl
  refine ⟨_, b0.load (by kernel_rfl) rfl, _, st, ?_⟩
  have x := x.chg ch (by simp; omega); have b0 := b0.chg ch (by simp; omega); have b1 := b1.chg ch (by simp; omega)
  have b2 : Blk w4 r2 _ [.string a0, .bool false, .slice none 0 0] := b2'
  clear b2'
  have hr : Reps w [.bool a1, .slice a2p a2n a2c] [.bool a1, .ints a2z] := ⟨rfl, ⟨⟨_, _, _, rfl, a2h⟩, trivial⟩⟩
  refine ⟨_, _, _, _, b0.loadA (xs := [.bool a1, .slice a2p a2n a2c]) (by kernel_rfl) rfl, ?_⟩
  refine Ret.at (laws_toSigned_c (hr.ext x) rfl (by simp only [bulks, D0.bulk, List.map_cons, List.map_nil, List.sum_cons, List.sum_nil]; omega)) ?_
  rintro v w5 ⟨us0, f0, hv, o0, nd0, y⟩
  subst hv
  have hq := o0.reps; have hqc : ([.bool a1, .ints a2z] : List D0).map D0.code = [.bool, .ints] := rfl
  obtain ⟨q00, us, es, hv, hd, hq2, hqc2⟩ := hq.bool hqc
  subst hv; cases hd; clear hq hqc; have hq := hq2; have hqc := hqc2; clear hq2 hqc2
  obtain ⟨q01p, q01n, q01c, q01z, us, es, hv, hd, q01h, hq2, hqc2⟩ := hq.ints hqc
  subst hv; cases hd; clear hq hqc; have hq := hq2; have hqc := hqc2; clear hq2 hqc2
  obtain ⟨hv, _⟩ := hq.done hqc; subst hv; clear hq hqc
  refine ⟨_, _, _, _, rfl, ?_⟩
  have l0 : ∀ k ∈ _, k < w5.heap.size := fun k hk => (o0.lt k hk).2
  have y0 := y.le; have b0 := b0.ext y; have b1 := b1.ext y; have b2 := b2.ext y; have x := x.trans y
  obtain ⟨w6, st, b2', ch, sz⟩ := b2.storeA (P := P) (t := T_impl_Signed) (k := 1) (xs := [.bool a1, .slice q01p q01n q01c]) (by kernel_rfl) (by simp) o0.reps.cells1
  refine ⟨_, st, ?_⟩
  have x := x.chg ch (by simp; omega); have b0 := b0.chg ch (by simp; omega); have b1 := b1.chg ch (by simp; omega)
  have b2 : Blk w6 r2 _ [.string a0, .bool a1, .slice q01p q01n q01c] := b2'
  clear b2'
  have o0 := o0.chg1 ch (by omega)
  refine ⟨_, _, _, _, _, b2.loadA0 (by kernel_rfl), ?_⟩
  have ow : Owns w6 w.heap.size [.string a0, .bool a1, .slice q01p q01n q01c] [.str a0, .bool a1, .ints a2z] ([] ++ f0) := Owns.append (Owns.str _ _ a0) (o0.mono (by omega))
  obtain ⟨w7, st, b1', ch, sz⟩ := b1.storeA0 (P := P) (t := T_impl_Money) (xs := [.string a0, .bool a1, .slice q01p q01n q01c]) (by kernel_rfl) rfl ow.reps.cells1
  refine ⟨_, st, _, _, _, _, _, b1'.loadA0 (by kernel_rfl), [.string a0, .bool a1, .slice q01p q01n q01c], ([] ++ f0), rfl, Owns.append (Owns.str _ _ a0) ((o0.chg1 ch (by omega)).mono (by omega)), ?_, x.chg ch (by simp; omega)⟩
  try simp only [List.nil_append, List.append_nil]
  exact nd0
theorem laws_eqMoney_c {w : World} {xs ys : List Value} {dx dy : List D0} (h : Reps w xs dx) (k : Reps w ys dy) (hc : dx.map D0.code = [.str, .bool, .ints]) (kc : dy.map D0.code = [.str, .bool, .ints]) :
    Ret P n_laws_eqMoney [.agg ⟨xs⟩, .agg ⟨ys⟩] w fun v w' => v = .bool (decide (dx = dy)) ∧ Ext w w' := by
  obtain ⟨a0, us, es, hv, hd, h2, hc2⟩ := h.str hc
  subst hv; subst hd
  clear h hc
  have h := h2; have hc := hc2; clear h2 hc2
  obtain ⟨a1, us, es, hv, hd, h2, hc2⟩ := h.bool hc
  subst hv; subst hd
  clear h hc
  have h := h2; have hc := hc2; clear h2 hc2
  obtain ⟨a2p, a2n, a2c, a2z, us, es, hv, hd, a2h, h2, hc2⟩ := h.ints hc
  subst hv; subst hd
  clear h hc
  have h := h2; have hc := hc2; clear h2 hc2
  obtain ⟨hv, hd⟩ := h.done hc
  subst hv; subst hd; clear h hc
  obtain ⟨bb0, us, es, hv, hd, k2, kc2⟩ := k.str kc
  subst hv; subst hd
  clear k kc
  have k := k2; have kc := kc2; clear k2 kc2
  obtain ⟨bb1, us, es, hv, hd, k2, kc2⟩ := k.bool kc
  subst hv; subst hd
  clear k kc
  have k := k2; have kc := kc2; clear k2 kc2
  obtain ⟨bb2p, bb2n, bb2c, bb2z, us, es, hv, hd, bb2h, k2, kc2⟩ := k.ints kc
  subst hv; subst hd
  clear k kc
  have k := k2; have kc := kc2; clear k2 kc2
  obtain ⟨hv, hd⟩ := k.done kc
  subst hv; subst hd; clear k kc
  refine laws_eqMoney_ret ?_
  unfold laws_eqMoney
  intro r w1 hn1 r1 w2 hn2
  have x := hn1.ext.trans hn2.ext
  have b0 := hn1.blk.ext hn2.ext
  have b1 := hn2.blk
  refine ⟨_, b0.load (by kernel_rfl) rfl, _, b1.load (by kernel_rfl) rfl, ?_⟩
  refine ifD (fun hne => ⟨dec_no (fun e => ?_), x⟩) (fun heq => ?_)
  · have e2 := congrArg (fun l : List D0 => (l.drop 0).take 1) e
    simp at e2; exact hne e2
  have heq : a0 = bb0 := by simpa using heq
  subst heq
  have ha : Reps w [.bool a1, .slice a2p a2n a2c] [.bool a1, .ints a2z] := ⟨rfl, ⟨⟨_, _, _, rfl, a2h⟩, trivial⟩⟩
  have hb : Reps w [.bool bb1, .slice bb2p bb2n bb2c] [.bool bb1, .ints bb2z] := ⟨rfl, ⟨⟨_, _, _, rfl, bb2h⟩, trivial⟩⟩
  refine ⟨_, _, _, _, b0.loadA (xs := [.bool a1, .slice a2p a2n a2c]) (by kernel_rfl) rfl, _, _, _, _, b1.loadA (xs := [.bool bb1, .slice bb2p bb2n bb2c]) (by kernel_rfl) rfl, ?_⟩
  refine Ret.at (laws_eqSigned_c (ha.ext x) (hb.ext x) rfl rfl) ?_
  rintro v w3 ⟨hv, y⟩
  subst hv
  have x := x.trans y; have b0 := b0.ext y; have b1 := b1.ext y
  refine ⟨_, rfl, ifN (fun hne => ⟨dec_no (fun e => ?_), x⟩) (fun heq => ?_)⟩
  · have e2 := congrArg (fun l : List D0 => (l.drop 1).take 2) e
    exact of_decide_eq_false hne e2
  have heq := of_decide_eq_true heq
  cases heq
  exact ⟨dec_yes rfl, x⟩
theorem open_TaxLine {w : World} {vs : List Value} {ds : List D0} (h : Reps w vs ds) (hc : ds.map D0.code = [.str, .bool, .ints, .bool, .ints, .int]) :
    ∃ (a0 : ByteArray) (a1 : Bool) (a2p : Option Addr) (a2n a2c : Nat) (a2z : List Int) (a3 : Bool) (a4p : Option Addr) (a4n a4c : Nat) (a4z : List Int) (a5 : Int), vs = [.string a0, .bool a1, .slice a2p a2n a2c, .bool a3, .slice a4p a4n a4c, .int .i64 a5] ∧ ds = [.str a0, .bool a1, .ints a2z, .bool a3, .ints a4z, .int a5] ∧ IntsR w a2p a2n a2c a2z ∧ IntsR w a4p a4n a4c a4z := by
  obtain ⟨b0, us, es, hv, hd, h2, hc2⟩ := h.str hc
  subst hv; subst hd
  clear h hc
  have h := h2; have hc := hc2; clear h2 hc2
  obtain ⟨b1, us, es, hv, hd, h2, hc2⟩ := h.bool hc
  subst hv; subst hd
  clear h hc
  have h := h2; have hc := hc2; clear h2 hc2
  obtain ⟨b2p, b2n, b2c, b2z, us, es, hv, hd, b2h, h2, hc2⟩ := h.ints hc
  subst hv; subst hd
  clear h hc
  have h := h2; have hc := hc2; clear h2 hc2
  obtain ⟨b3, us, es, hv, hd, h2, hc2⟩ := h.bool hc
  subst hv; subst hd
  clear h hc
  have h := h2; have hc := hc2; clear h2 hc2
  obtain ⟨b4p, b4n, b4c, b4z, us, es, hv, hd, b4h, h2, hc2⟩ := h.ints hc
  subst hv; subst hd
  clear h hc
  have h := h2; have hc := hc2; clear h2 hc2
  obtain ⟨b5, us, es, hv, hd, h2, hc2⟩ := h.int hc
  subst hv; subst hd
  clear h hc
  have h := h2; have hc := hc2; clear h2 hc2
  obtain ⟨hv, hd⟩ := h.done hc
  subst hv; subst hd; clear h hc
  exact ⟨_, _, _, _, _, _, _, _, _, _, _, _, rfl, rfl, b2h, b4h⟩
theorem laws_szTaxLine_c {w : World} {vs : List Value} {ds : List D0} (h : Reps w vs ds) (hc : ds.map D0.code = [.str, .bool, .ints, .bool, .ints, .int]) (hok : ∀ d ∈ ds, d.ok) {left : Int} (h0 : 0 ≤ left) (h1 : left ≤ 1048576) :
    Ret P n_laws_szTaxLine [.agg ⟨vs⟩, .int .i64 left] w fun v w' => ∃ r : Int, v = .int .i64 r ∧ (0 ≤ r → r + bulks ds ≤ left) ∧ r ≤ 1048576 ∧ Ext w w' := by
  obtain ⟨a0, us, es, hv, hd, h2, hc2⟩ := h.str hc
  subst hv; subst hd
  clear h hc
  have h := h2; have hc := hc2; clear h2 hc2
  obtain ⟨a1, us, es, hv, hd, h2, hc2⟩ := h.bool hc
  subst hv; subst hd
  clear h hc
  have h := h2; have hc := hc2; clear h2 hc2
  obtain ⟨a2p, a2n, a2c, a2z, us, es, hv, hd, a2h, h2, hc2⟩ := h.ints hc
  subst hv; subst hd
  clear h hc
  have h := h2; have hc := hc2; clear h2 hc2
  obtain ⟨a3, us, es, hv, hd, h2, hc2⟩ := h.bool hc
  subst hv; subst hd
  clear h hc
  have h := h2; have hc := hc2; clear h2 hc2
  obtain ⟨a4p, a4n, a4c, a4z, us, es, hv, hd, a4h, h2, hc2⟩ := h.ints hc
  subst hv; subst hd
  clear h hc
  have h := h2; have hc := hc2; clear h2 hc2
  obtain ⟨a5, us, es, hv, hd, h2, hc2⟩ := h.int hc
  subst hv; subst hd
  clear h hc
  have h := h2; have hc := hc2; clear h2 hc2
  obtain ⟨hv, hd⟩ := h.done hc
  subst hv; subst hd; clear h hc
  simp only [List.mem_cons, List.not_mem_nil, or_false, forall_eq_or_imp, forall_eq, D0.ok] at hok
  have a2l := a2h.1; have a2k := a2h.2.1; have a2m := a2h.2.2.1
  have a4l := a4h.1; have a4k := a4h.2.1; have a4m := a4h.2.2.1
  simp only [bulks, D0.bulk, List.map_cons, List.map_nil, List.sum_cons, List.sum_nil]
  refine laws_szTaxLine_ret ?_
  unfold laws_szTaxLine
  intro r w1 hn1
  have x := hn1.ext; have b0 := hn1.blk
  have hr : Reps w [.string a0, .bool a1, .slice a2p a2n a2c] [.str a0, .bool a1, .ints a2z] := ⟨rfl, ⟨rfl, ⟨⟨_, _, _, rfl, a2h⟩, trivial⟩⟩⟩
  refine ⟨_, _, _, _, _, b0.loadA (xs := [.string a0, .bool a1, .slice a2p a2n a2c]) (by kernel_rfl) rfl, ?_⟩
  refine Ret.at (laws_szMoney_c (hr.ext x) rfl (by simp only [List.mem_cons, List.not_mem_nil, or_false, forall_eq_or_imp, forall_eq, D0.ok]; simp only [hok, and_self]) (by omega) (by omega)) ?_
  rintro v w2 ⟨k0, hv, hk0, hm0, y⟩
  simp only [bulks, D0.bulk, List.map_cons, List.map_nil, List.sum_cons, List.sum_nil] at hk0
  subst hv
  have x := x.trans y; have b0 := b0.ext y
  refine ⟨_, rfl, ifD (fun hl => ⟨_, rfl, by omega, by omega, x⟩) (fun hl => ?_)⟩
  have hr : Reps w [.bool a3, .slice a4p a4n a4c, .int .i64 a5] [.bool a3, .ints a4z, .int a5] := ⟨rfl, ⟨⟨_, _, _, rfl, a4h⟩, ⟨rfl, trivial⟩⟩⟩
  refine ⟨_, _, _, _, _, b0.loadA (xs := [.bool a3, .slice a4p a4n a4c, .int .i64 a5]) (by kernel_rfl) rfl, ?_⟩
  refine Ret.at (laws_szDec_c (hr.ext x) rfl (by simp only [List.mem_cons, List.not_mem_nil, or_false, forall_eq_or_imp, forall_eq, D0.ok]; simp only [hok, and_self]) (by omega) (by omega)) ?_
  rintro v w3 ⟨k1, hv, hk1, hm1, y⟩
  simp only [bulks, D0.bulk, List.map_cons, List.map_nil, List.sum_cons, List.sum_nil] at hk1
  subst hv
  have x := x.trans y; have b0 := b0.ext y
  refine ⟨_, rfl, ifD (fun hl => ⟨_, rfl, by omega, by omega, x⟩) (fun hl => ?_)⟩
  exact ⟨_, rfl, by omega, by omega, x⟩
theorem laws_toTaxLine_c {w : World} {vs : List Value} {ds : List D0} (h : Reps w vs ds) (hc : ds.map D0.code = [.str, .bool, .ints, .bool, .ints, .int]) (hb : bulks ds ≤ 1048576) :
    Ret P n_laws_toTaxLine [.agg ⟨vs⟩] w fun v w' => ∃ vs' f, v = .agg ⟨vs'⟩ ∧ Owns w' w.heap.size vs' ds f ∧ f.Nodup ∧ Ext w w' := by
  obtain ⟨a0, us, es, hv, hd, h2, hc2⟩ := h.str hc
  subst hv; subst hd
  clear h hc
  have h := h2; have hc := hc2; clear h2 hc2
  obtain ⟨a1, us, es, hv, hd, h2, hc2⟩ := h.bool hc
  subst hv; subst hd
  clear h hc
  have h := h2; have hc := hc2; clear h2 hc2
  obtain ⟨a2p, a2n, a2c, a2z, us, es, hv, hd, a2h, h2, hc2⟩ := h.ints hc
  subst hv; subst hd
  clear h hc
  have h := h2; have hc := hc2; clear h2 hc2
  obtain ⟨a3, us, es, hv, hd, h2, hc2⟩ := h.bool hc
  subst hv; subst hd
  clear h hc
  have h := h2; have hc := hc2; clear h2 hc2
  obtain ⟨a4p, a4n, a4c, a4z, us, es, hv, hd, a4h, h2, hc2⟩ := h.ints hc
  subst hv; subst hd
  clear h hc
  have h := h2; have hc := hc2; clear h2 hc2
  obtain ⟨a5, us, es, hv, hd, h2, hc2⟩ := h.int hc
  subst hv; subst hd
  clear h hc
  have h := h2; have hc := hc2; clear h2 hc2
  obtain ⟨hv, hd⟩ := h.done hc
  subst hv; subst hd; clear h hc
  simp only [bulks, D0.bulk, List.map_cons, List.map_nil, List.sum_cons, List.sum_nil] at hb
  have a2l := a2h.1
  have a4l := a4h.1
  refine laws_toTaxLine_ret ?_
  unfold laws_toTaxLine
  intro r w1 hn1 r1 w2 hn2 r2 w3 hn3
  have x := (hn1.ext.trans hn2.ext).trans hn3.ext
  have b0 := (hn1.blk.ext hn2.ext).ext hn3.ext
  have b1 := hn2.blk.ext hn3.ext
  have b2 := hn3.blk
  have e1 := hn1.r_eq; have e2 := hn2.r_eq; have e3 := hn3.r_eq; have s1 := hn1.size; have s2 := hn2.size; have s3 := hn3.size
  have hr : Reps w [.string a0, .bool a1, .slice a2p a2n a2c] [.str a0, .bool a1, .ints a2z] := ⟨rfl, ⟨rfl, ⟨⟨_, _, _, rfl, a2h⟩, trivial⟩⟩⟩
  refine ⟨_, _, _, _, _, b0.loadA (xs := [.string a0, .bool a1, .slice a2p a2n a2c]) (by kernel_rfl) rfl, ?_⟩
  refine Ret.at (laws_toMoney_c (hr.ext x) rfl (by simp only [bulks, D0.bulk, List.map_cons, List.map_nil, List.sum_cons, List.sum_nil]; omega)) ?_
  rintro v w4 ⟨us0, f0, hv, o0, nd0, y⟩
  subst hv
  have hq := o0.reps; have hqc : ([.str a0, .bool a1, .ints a2z] : List D0).map D0.code = [.str, .bool, .ints] := rfl
  obtain ⟨q00, us, es, hv, hd, hq2, hqc2⟩ := hq.str hqc
  subst hv; cases hd; clear hq hqc; have hq := hq2; have hqc := hqc2; clear hq2 hqc2
  obtain ⟨q01, us, es, hv, hd, hq2, hqc2⟩ := hq.bool hqc
  subst hv; cases hd; clear hq hqc; have hq := hq2; have hqc := hqc2; clear hq2 hqc2
  obtain ⟨q02p, q02n, q02c, q02z, us, es, hv, hd, q02h, hq2, hqc2⟩ := hq.ints hqc
  subst hv; cases hd; clear hq hqc; have hq := hq2; have hqc := hqc2; clear hq2 hqc2
  obtain ⟨hv, _⟩ := hq.done hqc; subst hv; clear hq hqc
  refine ⟨_, _, _, _, _, rfl, ?_⟩
  have l0 : ∀ k ∈ _, k < w4.heap.size := fun k hk => (o0.lt k hk).2
  have y0 := y.le; have b0 := b0.ext y; have b1 := b1.ext y; have b2 := b2.ext y; have x := x.trans y
  obtain ⟨w5, st, b2', ch, sz⟩ := b2.storeA (P := P) (t := T_impl_Money) (k := 0) (xs := [.string a0, .bool a1, .slice q02p q02n q02c]) (by kernel_rfl) (by simp) o0.reps.cells1
  refine ⟨_, st, ?_⟩
  have x := x.chg ch (by simp; omega); have b0 := b0.chg ch (by simp; omega); have b1 := b1.chg ch (by simp; omega)
  have b2 : Blk w5 r2 _ [.string a0, .bool a1, .slice q02p q02n q02c, .bool false, .slice none 0 0, .int .i64 0] := b2'
  clear b2'
  have o0 := o0.chg1 ch (by omega)
  have hr : Reps w [.bool a3, .slice a4p a4n a4c, .int .i64 a5] [.bool a3, .ints a4z, .int a5] := ⟨rfl, ⟨⟨_, _, _, rfl, a4h⟩, ⟨rfl, trivial⟩⟩⟩
  refine ⟨_, _, _, _, _, b0.loadA (xs := [.bool a3, .slice a4p a4n a4c, .int .i64 a5]) (by kernel_rfl) rfl, ?_⟩
  refine Ret.at (laws_toDec_c (hr.ext x) rfl (by simp only [bulks, D0.bulk, List.map_cons, List.map_nil, List.sum_cons, List.sum_nil]; omega)) ?_
  rintro v w6 ⟨us1, f1, hv, o1, nd1, y⟩
  subst hv
  have hq := o1.reps; have hqc : ([.bool a3, .ints a4z, .int a5] : List D0).map D0.code = [.bool, .ints, .int] := rfl
  obtain ⟨q10, us, es, hv, hd, hq2, hqc2⟩ := hq.bool hqc
  subst hv; cases hd; clear hq hqc; have hq := hq2; have hqc := hqc2; clear hq2 hqc2
  obtain ⟨q11p, q11n, q11c, q11z, us, es, hv, hd, q11h, hq2, hqc2⟩ := hq.ints hqc
  subst hv; cases hd; clear hq hqc; have hq := hq2; have hqc := hqc2; clear hq2 hqc2
  obtain ⟨q12, us, es, hv, hd, hq2, hqc2⟩ := hq.int hqc
  subst hv; cases hd; clear hq hqc; have hq := hq2; have hqc := hqc2; clear hq2 hqc2
  obtain ⟨hv, _⟩ := hq.done hqc; subst hv; clear hq hqc
  refine ⟨_, _, _, _, _, rfl, ?_⟩
  have l1 : ∀ k ∈ _, k < w6.heap.size := fun k hk => (o1.lt k hk).2
  have y1 := y.le; have b0 := b0.ext y; have b1 := b1.ext y; have b2 := b2.ext y; have x := x.trans y
  have o0 := o0.ext y
  obtain ⟨w7, st, b2', ch, sz⟩ := b2.storeA (P := P) (t := T_impl_Dec) (k := 3) (xs := [.bool a3, .slice q11p q11n q11c, .int .i64 a5]) (by kernel_rfl) (by simp) o1.reps.cells1
  refine ⟨_, st, ?_⟩
  have x := x.chg ch (by simp; omega); have b0 := b0.chg ch (by simp; omega); have b1 := b1.chg ch (by simp; omega)
  have b2 : Blk w7 r2 _ [.string a0, .bool a1, .slice q02p q02n q02c, .bool a3, .slice q11p q11n q11c, .int .i64 a5] := b2'
  clear b2'
  have o0 := o0.chg1 ch (by omega)
  have o1 := o1.chg1 ch (by omega)
  refine ⟨_, _, _, _, _, _, _, _, _, _, b2.loadA0 (by kernel_rfl), ?_⟩
  have ow : Owns w7 w.heap.size [.string a0, .bool a1, .slice q02p q02n q02c, .bool a3, .slice q11p q11n q11c, .int .i64 a5] [.str a0, .bool a1, .ints a2z, .bool a3, .ints a4z, .int a5] (f0 ++ f1) := Owns.append (o0.mono (by omega)) (o1.mono (by omega))
  obtain ⟨w8, st, b1', ch, sz⟩ := b1.storeA0 (P := P) (t := T_impl_TaxLine) (xs := [.string a0, .bool a1, .slice q02p q02n q02c, .bool a3, .slice q11p q11n q11c, .int .i64 a5]) (by kernel_rfl) rfl ow.reps.cells1
  refine ⟨_, st, _, _, _, _, _, _, _, _, _, _, b1'.loadA0 (by kernel_rfl), [.string a0, .bool a1, .slice q02p q02n q02c, .bool a3, .slice q11p q11n q11c, .int .i64 a5], (f0 ++ f1), rfl, Owns.append ((o0.chg1 ch (by omega)).mono (by omega)) ((o1.chg1 ch (by omega)).mono (by omega)), ?_, x.chg ch (by simp; omega)⟩
  try simp only [List.nil_append, List.append_nil]
  have p1 := nd1
  have m1 : ∀ k ∈ f1, w5.heap.size ≤ k := fun k hk => (o1.lt k hk).1
  have p0 := nodup_append nd0 p1 (m := w5.heap.size) (fun k hk => Nat.lt_of_lt_of_le (l0 k hk) (by omega)) m1
  exact p0
theorem laws_eqTaxLine_c {w : World} {xs ys : List Value} {dx dy : List D0} (h : Reps w xs dx) (k : Reps w ys dy) (hc : dx.map D0.code = [.str, .bool, .ints, .bool, .ints, .int]) (kc : dy.map D0.code = [.str, .bool, .ints, .bool, .ints, .int]) :
    Ret P n_laws_eqTaxLine [.agg ⟨xs⟩, .agg ⟨ys⟩] w fun v w' => v = .bool (decide (dx = dy)) ∧ Ext w w' := by
  obtain ⟨a0, us, es, hv, hd, h2, hc2⟩ := h.str hc
  subst hv; subst hd
  clear h hc
  have h := h2; have hc := hc2; clear h2 hc2
  obtain ⟨a1, us, es, hv, hd, h2, hc2⟩ := h.bool hc
  subst hv; subst hd
  clear h hc
  have h := h2; have hc := hc2; clear h2 hc2
  obtain ⟨a2p, a2n, a2c, a2z, us, es, hv, hd, a2h, h2, hc2⟩ := h.ints hc
  subst hv; subst hd
  clear h hc
  have h := h2; have hc := hc2; clear h2 hc2
  obtain ⟨a3, us, es, hv, hd, h2, hc2⟩ := h.bool hc
  subst hv; subst hd
  clear h hc
  have h := h2; have hc := hc2; clear h2 hc2
  obtain ⟨a4p, a4n, a4c, a4z, us, es, hv, hd, a4h, h2, hc2⟩ := h.ints hc
  subst hv; subst hd
  clear h hc
  have h := h2; have hc := hc2; clear h2 hc2
  obtain ⟨a5, us, es, hv, hd, h2, hc2⟩ := h.int hc
  subst hv; subst hd
  clear h hc
  have h := h2; have hc := hc2; clear h2 hc2
  obtain ⟨hv, hd⟩ := h.done hc
  subst hv; subst hd; clear h hc
  obtain ⟨bb0, us, es, hv, hd, k2, kc2⟩ := k.str kc
  subst hv; subst hd
  clear k kc
  have k := k2; have kc := kc2; clear k2 kc2
  obtain ⟨bb1, us, es, hv, hd, k2, kc2⟩ := k.bool kc
  subst hv; subst hd
  clear k kc
  have k := k2; have kc := kc2; clear k2 kc2
  obtain ⟨bb2p, bb2n, bb2c, bb2z, us, es, hv, hd, bb2h, k2, kc2⟩ := k.ints kc
  subst hv; subst hd
  clear k kc
  have k := k2; have kc := kc2; clear k2 kc2
  obtain ⟨bb3, us, es, hv, hd, k2, kc2⟩ := k.bool kc
  subst hv; subst hd
  clear k kc
  have k := k2; have kc := kc2; clear k2 kc2
  obtain ⟨bb4p, bb4n, bb4c, bb4z, us, es, hv, hd, bb4h, k2, kc2⟩ := k.ints kc
  subst hv; subst hd
  clear k kc
  have k := k2; have kc := kc2; clear k2 kc2
  obtain ⟨bb5, us, es, hv, hd, k2, kc2⟩ := k.int kc
  subst hv; subst hd
  clear k kc
  have k := k2; have kc := kc2; clear k2 kc2
  obtain ⟨hv, hd⟩ := k.done kc
  subst hv; subst hd; clear k kc
  refine laws_eqTaxLine_ret ?_
  unfold laws_eqTaxLine
  intro r w1 hn1 r1 w2 hn2
  have x := hn1.ext.trans hn2.ext
  have b0 := hn1.blk.ext hn2.ext
  have b1 := hn2.blk
  have ha : Reps w [.string a0, .bool a1, .slice a2p a2n a2c] [.str a0, .bool a1, .ints a2z] := ⟨rfl, ⟨rfl, ⟨⟨_, _, _, rfl, a2h⟩, trivial⟩⟩⟩
  have hb : Reps w [.string bb0, .bool bb1, .slice bb2p bb2n bb2c] [.str bb0, .bool bb1, .ints bb2z] := ⟨rfl, ⟨rfl, ⟨⟨_, _, _, rfl, bb2h⟩, trivial⟩⟩⟩
  refine ⟨_, _, _, _, _, b0.loadA (xs := [.string a0, .bool a1, .slice a2p a2n a2c]) (by kernel_rfl) rfl, _, _, _, _, _, b1.loadA (xs := [.string bb0, .bool bb1, .slice bb2p bb2n bb2c]) (by kernel_rfl) rfl, ?_⟩
  refine Ret.at (laws_eqMoney_c (ha.ext x) (hb.ext x) rfl rfl) ?_
  rintro v w3 ⟨hv, y⟩
  subst hv
  have x := x.trans y; have b0 := b0.ext y; have b1 := b1.ext y
  refine ⟨_, rfl, ifN (fun hne => ⟨dec_no (fun e => ?_), x⟩) (fun heq => ?_)⟩
  · have e2 := congrArg (fun l : List D0 => (l.drop 0).take 3) e
    exact of_decide_eq_false hne e2
  have heq := of_decide_eq_true heq
  cases heq
  have ha : Reps w [.bool a3, .slice a4p a4n a4c, .int .i64 a5] [.bool a3, .ints a4z, .int a5] := ⟨rfl, ⟨⟨_, _, _, rfl, a4h⟩, ⟨rfl, trivial⟩⟩⟩
  have hb : Reps w [.bool bb3, .slice bb4p bb4n bb4c, .int .i64 bb5] [.bool bb3, .ints bb4z, .int bb5] := ⟨rfl, ⟨⟨_, _, _, rfl, bb4h⟩, ⟨rfl, trivial⟩⟩⟩
  refine ⟨_, _, _, _, _, b0.loadA (xs := [.bool a3, .slice a4p a4n a4c, .int .i64 a5]) (by kernel_rfl) rfl, _, _, _, _, _, b1.loadA (xs := [.bool bb3, .slice bb4p bb4n bb4c, .int .i64 bb5]) (by kernel_rfl) rfl, ?_⟩
  refine Ret.at (laws_eqDec_c (ha.ext x) (hb.ext x) rfl rfl) ?_
  rintro v w4 ⟨hv, y⟩
  subst hv
  have x := x.trans y; have b0 := b0.ext y; have b1 := b1.ext y
  refine ⟨_, rfl, ifN (fun hne => ⟨dec_no (fun e => ?_), x⟩) (fun heq => ?_)⟩
  · have e2 := congrArg (fun l : List D0 => (l.drop 3).take 3) e
    exact of_decide_eq_false hne e2
  have heq := of_decide_eq_true heq
  cases heq
  exact ⟨dec_yes rfl, x⟩
theorem laws_szTaxLineS_c {w : World} {p : Option Addr} {n c : Nat} {l : List (List D0)} (h : RowsR w 6 p n c l) (hc : ∀ x ∈ l, x.map D0.code = [.str, .bool, .ints, .bool, .ints, .int]) (hok : ∀ x ∈ l, ∀ d ∈ x, d.ok) {left : Int} (h0 : 0 ≤ left) (h1 : left ≤ 1048576) :
    Ret P n_laws_szTaxLineS [.slice p n c, .int .i64 left] w fun v w' => ∃ r : Int, v = .int .i64 r ∧ (0 ≤ r → r + n + ((l.map bulks).sum : Nat) ≤ left) ∧ r ≤ 1048576 ∧ Ext w w' := by
  refine laws_szTaxLineS_ret ?_
  unfold laws_szTaxLineS
  have hlen := h.1; have hcap := h.2.1; have hcm := h.2.2.1
  refine exW ⟨by omega, by omega⟩ (ifD (fun hl => ⟨_, rfl, by omega, by omega, Ext.refl _⟩) (fun hl => ?_))
  refine ⟨fun lf i wr => ∃ j : Nat, i = j ∧ j ≤ n ∧ Ext w wr ∧ 0 ≤ lf ∧ lf ≤ 1048576 ∧ lf + n + (((l.take j).map bulks).sum : Nat) ≤ left, fun _ i _ => n - i.toNat, ⟨0, rfl, by omega, Ext.refl _, by omega, by omega, by simp <;> omega⟩, ?_⟩
  intro junk wr lf i ⟨j, hij, hj, hx, hl0, hl1, hle⟩
  subst hij
  refine ifD (fun hlt => ?_) (fun hge => ?_)
  · have hjn : j < n := by omega
    obtain ⟨a, cs, hp, hk, hr, hld⟩ := (h.ext hx).at (P := P) (t := T_laws_TaxLine) (by kernel_rfl) hjn
    subst hp
    have hjl : j < l.length := by omega
    have hm : l[j] ∈ l := List.getElem_mem hjl
    have hcode := hc _ hm
    have hrr := hr
    obtain ⟨a0, us, esa0, hv, hd, hrx, hcodex⟩ := hr.str hcode
    subst hv; clear hd
    obtain ⟨a1, us, esa1, hv, hd, hrxx, hcodexx⟩ := hrx.bool hcodex
    subst hv; clear hd
    obtain ⟨a2p, a2n, a2c, a2z, us, esa2, hv, hd, a2h, hrxxx, hcodexxx⟩ := hrxx.ints hcodexx
    subst hv; clear hd
    obtain ⟨a3, us, esa3, hv, hd, hrxxxx, hcodexxxx⟩ := hrxxx.bool hcodexxx
    subst hv; clear hd
    obtain ⟨a4p, a4n, a4c, a4z, us, esa4, hv, hd, a4h, hrxxxxx, hcodexxxxx⟩ := hrxxxx.ints hcodexxxx
    subst hv; clear hd
    obtain ⟨a5, us, esa5, hv, hd, hrxxxxxx, hcodexxxxxx⟩ := hrxxxxx.int hcodexxxxx
    subst hv; clear hd
    obtain ⟨hv, hd⟩ := hrxxxxxx.done hcodexxxxxx
    subst hv; clear hd
    refine ⟨⟨by omega, by omega⟩, _, _, _, _, _, _, _, _, _, _, by simpa using hld, ?_⟩
    refine Ret.at (laws_szTaxLine_c hrr (hc _ hm) (hok _ hm) hl0 hl1) ?_
    rintro v w2 ⟨t, hv, ht, htm, hy⟩
    subst hv
    refine ⟨_, rfl, ifD (fun hl => ⟨_, rfl, by omega, by omega, hx.trans hy⟩) (fun hl => ?_)⟩
    refine exW ⟨by omega, by omega⟩ ⟨⟨j + 1, by omega, by omega, hx.trans hy, by omega, by omega, ?_⟩, by simp; omega⟩
    rw [List.take_add_one, List.getElem?_eq_getElem hjl]
    have := ht (by omega)
    simp only [Option.toList_some, List.map_append, List.map_cons, List.map_nil, List.sum_append, List.sum_cons, List.sum_nil]
    omega
  · have hjn : j = n := by omega
    subst hjn
    rw [List.take_of_length_le (by omega)] at hle
    exact ⟨_, rfl, by omega, by omega, hx⟩
theorem laws_toTaxLineS_c {w : World} {p : Option Addr} {n c : Nat} {l : List (List D0)} (h : RowsR w 6 p n c l) (hc : ∀ x ∈ l, x.map D0.code = [.str, .bool, .ints, .bool, .ints, .int]) (hn : n ≤ 1048576) (hb : ∀ x ∈ l, bulks x ≤ 1048576) :
    Ret P n_laws_toTaxLineS [.slice p n c] w fun v w' => ∃ p' c' f, v = .slice p' n c' ∧ OwnRows w' w.heap.size T_impl_TaxLine 6 p' n c' l f ∧ Ext w w' := by
  refine laws_toTaxLineS_ret ?_
  unfold laws_toTaxLineS
  refine ⟨⟨by omega, by omega, by omega⟩, fun r w1 hnew => ?_⟩
  have hlen := h.1; have er := hnew.r_eq; have es := hnew.size
  refine ⟨fun i wr => ∃ (j : Nat) (css : List (List Value)) (fs : List (List Nat)) (xs : List Value), i = j ∧ j ≤ n ∧ Ext w wr ∧ w1.heap.size ≤ wr.heap.size ∧ AllO wr w1.heap.size 6 css (l.take j) fs ∧ fs.flatten.Nodup ∧ Blk wr r T_impl_TaxLine xs ∧ xs.length = n * 6 ∧ xs.take (j * 6) = css.flatten, fun i _ => n - i.toNat, ⟨0, [], [], _, rfl, by omega, hnew.ext, Nat.le_refl _, trivial, List.nodup_nil, hnew.blk, by simp [zeroRow], by simp⟩, ?_⟩
  intro junk wr i ⟨j, css, fs, xs, hij, hj, hx, hsz, ha, hnd, hbk, hxl, hxt⟩
  subst hij
  refine ifD (fun hlt => ?_) (fun hge => ?_)
  · have hjn : j < n := by omega
    obtain ⟨a, cs, hp, hk, hr, hl⟩ := (h.ext hx).at (P := P) (t := T_laws_TaxLine) (by kernel_rfl) hjn
    subst hp
    have hjl : j < l.length := by omega
    have hm : l[j] ∈ l := List.getElem_mem hjl
    have hcode := hc _ hm; have hbl := hb _ hm
    have hrr := hr
    obtain ⟨a0, us, esa0, hv, hd, hrx, hcodex⟩ := hr.str hcode
    subst hv; clear hd
    obtain ⟨a1, us, esa1, hv, hd, hrxx, hcodexx⟩ := hrx.bool hcodex
    subst hv; clear hd
    obtain ⟨a2p, a2n, a2c, a2z, us, esa2, hv, hd, a2h, hrxxx, hcodexxx⟩ := hrxx.ints hcodexx
    subst hv; clear hd
    obtain ⟨a3, us, esa3, hv, hd, hrxxxx, hcodexxxx⟩ := hrxxx.bool hcodexxx
    subst hv; clear hd
    obtain ⟨a4p, a4n, a4c, a4z, us, esa4, hv, hd, a4h, hrxxxxx, hcodexxxxx⟩ := hrxxxx.ints hcodexxxx
    subst hv; clear hd
    obtain ⟨a5, us, esa5, hv, hd, hrxxxxxx, hcodexxxxxx⟩ := hrxxxxx.int hcodexxxxx
    subst hv; clear hd
    obtain ⟨hv, hd⟩ := hrxxxxxx.done hcodexxxxxx
    subst hv; clear hd
    refine ⟨⟨by omega, by omega⟩, _, _, _, _, _, _, _, _, _, _, by simpa using hl, ?_⟩
    refine Ret.at (laws_toTaxLine_c hrr (hc _ hm) hbl) ?_
    rintro v w2 ⟨vs, f, hv, ho, hnf, hy⟩
    subst hv
    have ho2 := ho.reps; have hoc := hc _ hm
    obtain ⟨b0, us, esb0, hv, hd, ho2x, hocx⟩ := ho2.str hoc
    subst hv; clear hd
    obtain ⟨b1, us, esb1, hv, hd, ho2xx, hocxx⟩ := ho2x.bool hocx
    subst hv; clear hd
    obtain ⟨b2p, b2n, b2c, b2z, us, esb2, hv, hd, b2h, ho2xxx, hocxxx⟩ := ho2xx.ints hocxx
    subst hv; clear hd
    obtain ⟨b3, us, esb3, hv, hd, ho2xxxx, hocxxxx⟩ := ho2xxx.bool hocxxx
    subst hv; clear hd
    obtain ⟨b4p, b4n, b4c, b4z, us, esb4, hv, hd, b4h, ho2xxxxx, hocxxxxx⟩ := ho2xxxx.ints hocxxxx
    subst hv; clear hd
    obtain ⟨b5, us, esb5, hv, hd, ho2xxxxxx, hocxxxxxx⟩ := ho2xxxxx.int hocxxxxx
    subst hv; clear hd
    obtain ⟨hv, hd⟩ := ho2xxxxxx.done hocxxxxxx
    subst hv; clear hd
    have hcl : ([.string b0, .bool b1, .slice b2p b2n b2c, .bool b3, .slice b4p b4n b4c, .int .i64 b5] : List Value).length = 6 := rfl
    have hfr := fill_row hxl hxt hcl hjn
    obtain ⟨w3, hst, hb3, hch, hs3⟩ := (hbk.ext hy).storeA (P := P) (t := T_impl_TaxLine) (k := j * 6) (by kernel_rfl) hfr.1 ho.reps.cells1
    have hrf : ∀ q ∈ f, q ∉ [r] := fun q hq hm => by have := (ho.lt q hq).1; simp at hm; omega
    have hrs : ∀ q ∈ fs.flatten, q ∉ [r] := fun q hq hm => by have := (ha.lt q hq).1; simp at hm; omega
    refine ⟨_, _, _, _, _, _, _, _, _, _, rfl, ⟨by omega, by omega⟩, w3, by simpa using hst, exW ⟨by omega, by omega⟩ ⟨⟨j + 1, css ++ [[.string b0, .bool b1, .slice b2p b2n b2c, .bool b3, .slice b4p b4n b4c, .int .i64 b5]], fs ++ [f], _, by omega, by omega, (hx.trans hy).chg hch (by simp; omega), by have := hy.le; omega, ?_, ?_, hb3, hfr.2.1, hfr.2.2⟩, by simp; omega⟩⟩
    · rw [List.take_add_one, List.getElem?_eq_getElem hjl]
      exact ((ha.ext hy).chg hch hrs).snoc hcl ((ho.mono hsz).chg hch hrf)
    · rw [List.flatten_append]
      exact nodup_append (m := wr.heap.size) hnd (by simpa using hnf) (fun q hq => (ha.lt q hq).2) (fun q hq => (ho.lt q (by simpa using hq)).1)
  · have hjn : j = n := by omega
    subst hjn
    rw [List.take_of_length_le (by omega)] at ha hxt
    subst hxt
    refine ⟨_, _, _, rfl, ⟨by omega, css, fs, ha.mono (by omega), Own.of_blk hbk (by omega) hxl (by simp only [maxLen]; omega), rfl, ?_⟩, hx⟩
    refine nodup_append (m := w1.heap.size) (by simp) hnd (fun q hq => ?_) (fun q hq => (ha.lt q hq).1)
    simp at hq; omega
theorem laws_eqTaxLineS_c {w : World} {p q : Option Addr} {n c m d : Nat} {l s : List (List D0)} (h : RowsR w 6 p n c l) (k : RowsR w 6 q m d s) (hc : ∀ x ∈ l, x.map D0.code = [.str, .bool, .ints, .bool, .ints, .int]) (kc : ∀ x ∈ s, x.map D0.code = [.str, .bool, .ints, .bool, .ints, .int]) :
    Ret P n_laws_eqTaxLineS [.slice p n c, .slice q m d] w fun v w' => v = .bool (decide (l = s)) ∧ Ext w w' := by
  refine laws_eqTaxLineS_ret ?_
  unfold laws_eqTaxLineS
  have hz := h.1; have hy := k.1; have hcap := h.2.1; have hcm := h.2.2.1
  refine ifD (fun hne => ⟨dec_no (fun e => hne (by rw [← hz, ← hy, e])), Ext.refl _⟩) (fun heq => ?_)
  have hnm : n = m := by omega
  refine ⟨fun i wr => ∃ j : Nat, i = j ∧ j ≤ n ∧ Ext w wr ∧ l.take j = s.take j, fun i _ => n - i.toNat, ⟨0, rfl, by omega, Ext.refl _, by simp⟩, ?_⟩
  intro junk wr i ⟨j, hij, hj, hx, he⟩
  subst hij
  refine ifD (fun hlt => ?_) (fun hge => ⟨?_, hx⟩)
  · have hjn : j < n := by omega
    have hx' := hx.trans (Ext.drew wr)
    have hjl : j < l.length := by omega
    have hjs : j < s.length := by omega
    obtain ⟨kb1, ko1, hp, hs1⟩ := (h.ext hx').2.2.2 (by omega)
    obtain ⟨cs, hk, hr, hg1⟩ := hs1 j _ (List.getElem?_eq_getElem hjl)
    obtain ⟨kb2, ko2, hq, hs2⟩ := (k.ext hx').2.2.2 (by omega)
    obtain ⟨ds, hk2, hr2, hg2⟩ := hs2 j _ (List.getElem?_eq_getElem hjs)
    subst hp; subst hq
    have hrr := hr; have hrr2 := hr2
    have hc1 := hc _ (List.getElem_mem hjl); have hc2 := kc _ (List.getElem_mem hjs)
    obtain ⟨a0, us, esa0, hv, hd, hrx, hc1x⟩ := hr.str hc1
    subst hv; clear hd
    obtain ⟨a1, us, esa1, hv, hd, hrxx, hc1xx⟩ := hrx.bool hc1x
    subst hv; clear hd
    obtain ⟨a2p, a2n, a2c, a2z, us, esa2, hv, hd, a2h, hrxxx, hc1xxx⟩ := hrxx.ints hc1xx
    subst hv; clear hd
    obtain ⟨a3, us, esa3, hv, hd, hrxxxx, hc1xxxx⟩ := hrxxx.bool hc1xxx
    subst hv; clear hd
    obtain ⟨a4p, a4n, a4c, a4z, us, esa4, hv, hd, a4h, hrxxxxx, hc1xxxxx⟩ := hrxxxx.ints hc1xxxx
    subst hv; clear hd
    obtain ⟨a5, us, esa5, hv, hd, hrxxxxxx, hc1xxxxxx⟩ := hrxxxxx.int hc1xxxxx
    subst hv; clear hd
    obtain ⟨hv, hd⟩ := hrxxxxxx.done hc1xxxxxx
    subst hv; clear hd
    obtain ⟨b0, us, esb0, hv, hd, hr2x, hc2x⟩ := hr2.str hc2
    subst hv; clear hd
    obtain ⟨b1, us, esb1, hv, hd, hr2xx, hc2xx⟩ := hr2x.bool hc2x
    subst hv; clear hd
    obtain ⟨b2p, b2n, b2c, b2z, us, esb2, hv, hd, b2h, hr2xxx, hc2xxx⟩ := hr2xx.ints hc2xx
    subst hv; clear hd
    obtain ⟨b3, us, esb3, hv, hd, hr2xxxx, hc2xxxx⟩ := hr2xxx.bool hc2xxx
    subst hv; clear hd
    obtain ⟨b4p, b4n, b4c, b4z, us, esb4, hv, hd, b4h, hr2xxxxx, hc2xxxxx⟩ := hr2xxxx.ints hc2xxxx
    subst hv; clear hd
    obtain ⟨b5, us, esb5, hv, hd, hr2xxxxxx, hc2xxxxxx⟩ := hr2xxxxx.int hc2xxxxx
    subst hv; clear hd
    obtain ⟨hv, hd⟩ := hr2xxxxxx.done hc2xxxxxx
    subst hv; clear hd
    have l1 : ∀ w', Ext wr.drew w' → Loads P T_impl_TaxLine ((⟨kb1, ko1, none⟩ : Addr).add ((j : Int).toNat * 6)) (.agg ⟨[.string a0, .bool a1, .slice a2p a2n a2c, .bool a3, .slice a4p a4n a4c, .int .i64 a5]⟩) w' := fun w' hw => by
      rw [addr_add]; exact loadsA (by kernel_rfl) (by simpa using hg1.ext hw)
    have l2 : ∀ w', Ext wr.drew w' → Loads P T_impl_TaxLine ((⟨kb2, ko2, none⟩ : Addr).add ((j : Int).toNat * 6)) (.agg ⟨[.string b0, .bool b1, .slice b2p b2n b2c, .bool b3, .slice b4p b4n b4c, .int .i64 b5]⟩) w' := fun w' hw => by
      rw [addr_add]; exact loadsA (by kernel_rfl) (by simpa using hg2.ext hw)
    refine ⟨⟨by omega, by omega⟩, _, _, _, _, _, _, _, _, _, _, l1, ⟨by omega, by omega⟩, _, _, _, _, _, _, _, _, _, _, l2, ?_⟩
    refine Ret.at (laws_eqTaxLine_c hrr hrr2 (hc _ (List.getElem_mem hjl)) (kc _ (List.getElem_mem hjs))) ?_
    rintro v w2 ⟨hv, hy2⟩
    subst hv
    refine ⟨_, rfl, ifN (fun hne => ⟨dec_no (fun e => ?_), hx'.trans hy2⟩) (fun heq2 => ?_)⟩
    · exact of_decide_eq_false hne (by subst e; rfl)
    · have e2 := of_decide_eq_true heq2
      refine exW ⟨by omega, by omega⟩ ⟨⟨j + 1, by omega, by omega, hx'.trans hy2, ?_⟩, by simp; omega⟩
      rw [List.take_add_one, List.take_add_one, he, List.getElem?_eq_getElem hjl, List.getElem?_eq_getElem hjs, e2]
  · have hjn : j = n := by omega
    subst hjn
    rw [List.take_of_length_le (by omega), List.take_of_length_le (by omega)] at he
    exact dec_yes he
theorem open_TaxSum {w : World} {vs : List Value} {ds : List D0} (h : Reps w vs ds) (hc : ds.map D0.code = [.bool, .ints, .int, .str, .bool, .ints, .str, .bool, .ints]) :
    ∃ (a0 : Bool) (a1p : Option Addr) (a1n a1c : Nat) (a1z : List Int) (a2 : Int) (a3 : ByteArray) (a4 : Bool) (a5p : Option Addr) (a5n a5c : Nat) (a5z : List Int) (a6 : ByteArray) (a7 : Bool) (a8p : Option Addr) (a8n a8c : Nat) (a8z : List Int), vs = [.bool a0, .slice a1p a1n a1c, .int .i64 a2, .string a3, .bool a4, .slice a5p a5n a5c, .string a6, .bool a7, .slice a8p a8n a8c] ∧ ds = [.bool a0, .ints a1z, .int a2, .str a3, .bool a4, .ints a5z, .str a6, .bool a7, .ints a8z] ∧ IntsR w a1p a1n a1c a1z ∧ IntsR w a5p a5n a5c a5z ∧ IntsR w a8p a8n a8c a8z := by
  obtain ⟨b0, us, es, hv, hd, h2, hc2⟩ := h.bool hc
  subst hv; subst hd
  clear h hc
  have h := h2; have hc := hc2; clear h2 hc2
  obtain ⟨b1p, b1n, b1c, b1z, us, es, hv, hd, b1h, h2, hc2⟩ := h.ints hc
  subst hv; subst hd
  clear h hc
  have h := h2; have hc := hc2; clear h2 hc2
  obtain ⟨b2, us, es, hv, hd, h2, hc2⟩ := h.int hc
  subst hv; subst hd
  clear h hc
  have h := h2; have hc := hc2; clear h2 hc2
  obtain ⟨b3, us, es, hv, hd, h2, hc2⟩ := h.str hc
  subst hv; subst hd
  clear h hc
  have h := h2; have hc := hc2; clear h2 hc2
  obtain ⟨b4, us, es, hv, hd, h2, hc2⟩ := h.bool hc
  subst hv; subst hd
  clear h hc
  have h := h2; have hc := hc2; clear h2 hc2
  obtain ⟨b5p, b5n, b5c, b5z, us, es, hv, hd, b5h, h2, hc2⟩ := h.ints hc
  subst hv; subst hd
  clear h hc
  have h := h2; have hc := hc2; clear h2 hc2
  obtain ⟨b6, us, es, hv, hd, h2, hc2⟩ := h.str hc
  subst hv; subst hd
  clear h hc
  have h := h2; have hc := hc2; clear h2 hc2
  obtain ⟨b7, us, es, hv, hd, h2, hc2⟩ := h.bool hc
  subst hv; subst hd
  clear h hc
  have h := h2; have hc := hc2; clear h2 hc2
  obtain ⟨b8p, b8n, b8c, b8z, us, es, hv, hd, b8h, h2, hc2⟩ := h.ints hc
  subst hv; subst hd
  clear h hc
  have h := h2; have hc := hc2; clear h2 hc2
  obtain ⟨hv, hd⟩ := h.done hc
  subst hv; subst hd; clear h hc
  exact ⟨_, _, _, _, _, _, _, _, _, _, _, _, _, _, _, _, _, _, rfl, rfl, b1h, b5h, b8h⟩
theorem laws_eqTaxSum_c {w : World} {xs ys : List Value} {dx dy : List D0} (h : Reps w xs dx) (k : Reps w ys dy) (hc : dx.map D0.code = [.bool, .ints, .int, .str, .bool, .ints, .str, .bool, .ints]) (kc : dy.map D0.code = [.bool, .ints, .int, .str, .bool, .ints, .str, .bool, .ints]) :
    Ret P n_laws_eqTaxSum [.agg ⟨xs⟩, .agg ⟨ys⟩] w fun v w' => v = .bool (decide (dx = dy)) ∧ Ext w w' := by
  obtain ⟨a0, us, es, hv, hd, h2, hc2⟩ := h.bool hc
  subst hv; subst hd
  clear h hc
  have h := h2; have hc := hc2; clear h2 hc2
  obtain ⟨a1p, a1n, a1c, a1z, us, es, hv, hd, a1h, h2, hc2⟩ := h.ints hc
  subst hv; subst hd
  clear h hc
  have h := h2; have hc := hc2; clear h2 hc2
  obtain ⟨a2, us, es, hv, hd, h2, hc2⟩ := h.int hc
  subst hv; subst hd
  clear h hc
  have h := h2; have hc := hc2; clear h2 hc2
  obtain ⟨a3, us, es, hv, hd, h2, hc2⟩ := h.str hc
  subst hv; subst hd
  clear h hc
  have h := h2; have hc := hc2; clear h2 hc2
  obtain ⟨a4, us, es, hv, hd, h2, hc2⟩ := h.bool hc
  subst hv; subst hd
  clear h hc
  have h := h2; have hc := hc2; clear h2 hc2
  obtain ⟨a5p, a5n, a5c, a5z, us, es, hv, hd, a5h, h2, hc2⟩ := h.ints hc
  subst hv; subst hd
  clear h hc
  have h := h2; have hc := hc2; clear h2 hc2
  obtain ⟨a6, us, es, hv, hd, h2, hc2⟩ := h.str hc
  subst hv; subst hd
  clear h hc
  have h := h2; have hc := hc2; clear h2 hc2
  obtain ⟨a7, us, es, hv, hd, h2, hc2⟩ := h.bool hc
  subst hv; subst hd
  clear h hc
  have h := h2; have hc := hc2; clear h2 hc2
  obtain ⟨a8p, a8n, a8c, a8z, us, es, hv, hd, a8h, h2, hc2⟩ := h.ints hc
  subst hv; subst hd
  clear h hc
  have h := h2; have hc := hc2; clear h2 hc2
  obtain ⟨hv, hd⟩ := h.done hc
  subst hv; subst hd; clear h hc
  obtain ⟨bb0, us, es, hv, hd, k2, kc2⟩ := k.bool kc
  subst hv; subst hd
  clear k kc
  have k := k2; have kc := kc2; clear k2 kc2
  obtain ⟨bb1p, bb1n, bb1c, bb1z, us, es, hv, hd, bb1h, k2, kc2⟩ := k.ints kc
  subst hv; subst hd
  clear k kc
  have k := k2; have kc := kc2; clear k2 kc2
  obtain ⟨bb2, us, es, hv, hd, k2, kc2⟩ := k.int kc
  subst hv; subst hd
  clear k kc
  have k := k2; have kc := kc2; clear k2 kc2
  obtain ⟨bb3, us, es, hv, hd, k2, kc2⟩ := k.str kc
  subst hv; subst hd
  clear k kc
  have k := k2; have kc := kc2; clear k2 kc2
  obtain ⟨bb4, us, es, hv, hd, k2, kc2⟩ := k.bool kc
  subst hv; subst hd
  clear k kc
  have k := k2; have kc := kc2; clear k2 kc2
  obtain ⟨bb5p, bb5n, bb5c, bb5z, us, es, hv, hd, bb5h, k2, kc2⟩ := k.ints kc
  subst hv; subst hd
  clear k kc
  have k := k2; have kc := kc2; clear k2 kc2
  obtain ⟨bb6, us, es, hv, hd, k2, kc2⟩ := k.str kc
  subst hv; subst hd
  clear k kc
  have k := k2; have kc := kc2; clear k2 kc2
  obtain ⟨bb7, us, es, hv, hd, k2, kc2⟩ := k.bool kc
  subst hv; subst hd
  clear k kc
  have k := k2; have kc := kc2; clear k2 kc2
  obtain ⟨bb8p, bb8n, bb8c, bb8z, us, es, hv, hd, bb8h, k2, kc2⟩ := k.ints kc
  subst hv; subst hd
  clear k kc
  have k := k2; have kc := kc2; clear k2 kc2
  obtain ⟨hv, hd⟩ := k.done kc
  subst hv; subst hd; clear k kc
  refine laws_eqTaxSum_ret ?_
  unfold laws_eqTaxSum
  intro r w1 hn1 r1 w2 hn2
  have x := hn1.ext.trans hn2.ext
  have b0 := hn1.blk.ext hn2.ext
  have b1 := hn2.blk
  have ha : Reps w [.bool a0, .slice a1p a1n a1c, .int .i64 a2] [.bool a0, .ints a1z, .int a2] := ⟨rfl, ⟨⟨_, _, _, rfl, a1h⟩, ⟨rfl, trivial⟩⟩⟩
  have hb : Reps w [.bool bb0, .slice bb1p bb1n bb1c, .int .i64 bb2] [.bool bb0, .ints bb1z, .int bb2] := ⟨rfl, ⟨⟨_, _, _, rfl, bb1h⟩, ⟨rfl, trivial⟩⟩⟩
  refine ⟨_, _, _, _, _, b0.loadA (xs := [.bool a0, .slice a1p a1n a1c, .int .i64 a2]) (by kernel_rfl) rfl, _, _, _, _, _, b1.loadA (xs := [.bool bb0, .slice bb1p bb1n bb1c, .int .i64 bb2]) (by kernel_rfl) rfl, ?_⟩
  refine Ret.at (laws_eqDec_c (ha.ext x) (hb.ext x) rfl rfl) ?_
  rintro v w3 ⟨hv, y⟩
  subst hv
  have x := x.trans y; have b0 := b0.ext y; have b1 := b1.ext y
  refine ⟨_, rfl, ifN (fun hne => ⟨dec_no (fun e => ?_), x⟩) (fun heq => ?_)⟩
  · have e2 := congrArg (fun l : List D0 => (l.drop 0).take 3) e
    exact of_decide_eq_false hne e2
  have heq := of_decide_eq_true heq
  cases heq
  have ha : Reps w [.string a3, .bool a4, .slice a5p a5n a5c] [.str a3, .bool a4, .ints a5z] := ⟨rfl, ⟨rfl, ⟨⟨_, _, _, rfl, a5h⟩, trivial⟩⟩⟩
  have hb : Reps w [.string bb3, .bool bb4, .slice bb5p bb5n bb5c] [.str bb3, .bool bb4, .ints bb5z] := ⟨rfl, ⟨rfl, ⟨⟨_, _, _, rfl, bb5h⟩, trivial⟩⟩⟩
  refine ⟨_, _, _, _, _, b0.loadA (xs := [.string a3, .bool a4, .slice a5p a5n a5c]) (by kernel_rfl) rfl, _, _, _, _, _, b1.loadA (xs := [.string bb3, .bool bb4, .slice bb5p bb5n bb5c]) (by kernel_rfl) rfl, ?_⟩
  refine Ret.at (laws_eqMoney_c (ha.ext x) (hb.ext x) rfl rfl) ?_
  rintro v w4 ⟨hv, y⟩
  subst hv
  have x := x.trans y; have b0 := b0.ext y; have b1 := b1.ext y
  refine ⟨_, rfl, ifN (fun hne => ⟨dec_no (fun e => ?_), x⟩) (fun heq => ?_)⟩
  · have e2 := congrArg (fun l : List D0 => (l.drop 3).take 3) e
    exact of_decide_eq_false hne e2
  have heq := of_decide_eq_true heq
  cases heq
  have ha : Reps w [.string a6, .bool a7, .slice a8p a8n a8c] [.str a6, .bool a7, .ints a8z] := ⟨rfl, ⟨rfl, ⟨⟨_, _, _, rfl, a8h⟩, trivial⟩⟩⟩
  have hb : Reps w [.string bb6, .bool bb7, .slice bb8p bb8n bb8c] [.str bb6, .bool bb7, .ints bb8z] := ⟨rfl, ⟨rfl, ⟨⟨_, _, _, rfl, bb8h⟩, trivial⟩⟩⟩
  refine ⟨_, _, _, _, _, b0.loadA (xs := [.string a6, .bool a7, .slice a8p a8n a8c]) (by kernel_rfl) rfl, _, _, _, _, _, b1.loadA (xs := [.string bb6, .bool bb7, .slice bb8p bb8n bb8c]) (by kernel_rfl) rfl, ?_⟩
  refine Ret.at (laws_eqMoney_c (ha.ext x) (hb.ext x) rfl rfl) ?_
  rintro v w5 ⟨hv, y⟩
  subst hv
  have x := x.trans y; have b0 := b0.ext y; have b1 := b1.ext y
  refine ⟨_, rfl, ifN (fun hne => ⟨dec_no (fun e => ?_), x⟩) (fun heq => ?_)⟩
  · have e2 := congrArg (fun l : List D0 => (l.drop 6).take 3) e
    exact of_decide_eq_false hne e2
  have heq := of_decide_eq_true heq
  cases heq
  exact ⟨dec_yes rfl, x⟩
theorem laws_eqTaxSumS_c {w : World} {p q : Option Addr} {n c m d : Nat} {l s : List (List D0)} (h : RowsR w 9 p n c l) (k : RowsR w 9 q m d s) (hc : ∀ x ∈ l, x.map D0.code = [.bool, .ints, .int, .str, .bool, .ints, .str, .bool, .ints]) (kc : ∀ x ∈ s, x.map D0.code = [.bool, .ints, .int, .str, .bool, .ints, .str, .bool, .ints]) :
    Ret P n_laws_eqTaxSumS [.slice p n c, .slice q m d] w fun v w' => v = .bool (decide (l = s)) ∧ Ext w w' := by
  refine laws_eqTaxSumS_ret ?_
  unfold laws_eqTaxSumS
  have hz := h.1; have hy := k.1; have hcap := h.2.1; have hcm := h.2.2.1
  refine ifD (fun hne => ⟨dec_no (fun e => hne (by rw [← hz, ← hy, e])), Ext.refl _⟩) (fun heq => ?_)
  have hnm : n = m := by omega
  refine ⟨fun i wr => ∃ j : Nat, i = j ∧ j ≤ n ∧ Ext w wr ∧ l.take j = s.take j, fun i _ => n - i.toNat, ⟨0, rfl, by omega, Ext.refl _, by simp⟩, ?_⟩
  intro junk wr i ⟨j, hij, hj, hx, he⟩
  subst hij
  refine ifD (fun hlt => ?_) (fun hge => ⟨?_, hx⟩)
  · have hjn : j < n := by omega
    have hx' := hx.trans (Ext.drew wr)
    have hjl : j < l.length := by omega
    have hjs : j < s.length := by omega
    obtain ⟨kb1, ko1, hp, hs1⟩ := (h.ext hx').2.2.2 (by omega)
    obtain ⟨cs, hk, hr, hg1⟩ := hs1 j _ (List.getElem?_eq_getElem hjl)
    obtain ⟨kb2, ko2, hq, hs2⟩ := (k.ext hx').2.2.2 (by omega)
    obtain ⟨ds, hk2, hr2, hg2⟩ := hs2 j _ (List.getElem?_eq_getElem hjs)
    subst hp; subst hq
    have hrr := hr; have hrr2 := hr2
    have hc1 := hc _ (List.getElem_mem hjl); have hc2 := kc _ (List.getElem_mem hjs)
    obtain ⟨a0, us, esa0, hv, hd, hrx, hc1x⟩ := hr.bool hc1
    subst hv; clear hd
    obtain ⟨a1p, a1n, a1c, a1z, us, esa1, hv, hd, a1h, hrxx, hc1xx⟩ := hrx.ints hc1x
    subst hv; clear hd
    obtain ⟨a2, us, esa2, hv, hd, hrxxx, hc1xxx⟩ := hrxx.int hc1xx
    subst hv; clear hd
    obtain ⟨a3, us, esa3, hv, hd, hrxxxx, hc1xxxx⟩ := hrxxx.str hc1xxx
    subst hv; clear hd
    obtain ⟨a4, us, esa4, hv, hd, hrxxxxx, hc1xxxxx⟩ := hrxxxx.bool hc1xxxx
    subst hv; clear hd
    obtain ⟨a5p, a5n, a5c, a5z, us, esa5, hv, hd, a5h, hrxxxxxx, hc1xxxxxx⟩ := hrxxxxx.ints hc1xxxxx
    subst hv; clear hd
    obtain ⟨a6, us, esa6, hv, hd, hrxxxxxxx, hc1xxxxxxx⟩ := hrxxxxxx.str hc1xxxxxx
    subst hv; clear hd
    obtain ⟨a7, us, esa7, hv, hd, hrxxxxxxxx, hc1xxxxxxxx⟩ := hrxxxxxxx.bool hc1xxxxxxx
    subst hv; clear hd
    obtain ⟨a8p, a8n, a8c, a8z, us, esa8, hv, hd, a8h, hrxxxxxxxxx, hc1xxxxxxxxx⟩ := hrxxxxxxxx.ints hc1xxxxxxxx
    subst hv; clear hd
    obtain ⟨hv, hd⟩ := hrxxxxxxxxx.done hc1xxxxxxxxx
    subst hv; clear hd
    obtain ⟨b0, us, esb0, hv, hd, hr2x, hc2x⟩ := hr2.bool hc2
    subst hv; clear hd
    obtain ⟨b1p, b1n, b1c, b1z, us, esb1, hv, hd, b1h, hr2xx, hc2xx⟩ := hr2x.ints hc2x
    subst hv; clear hd
    obtain ⟨b2, us, esb2, hv, hd, hr2xxx, hc2xxx⟩ := hr2xx.int hc2xx
    subst hv; clear hd
    obtain ⟨b3, us, esb3, hv, hd, hr2xxxx, hc2xxxx⟩ := hr2xxx.str hc2xxx
    subst hv; clear hd
    obtain ⟨b4, us, esb4, hv, hd, hr2xxxxx, hc2xxxxx⟩ := hr2xxxx.bool hc2xxxx
    subst hv; clear hd
    obtain ⟨b5p, b5n, b5c, b5z, us, esb5, hv, hd, b5h, hr2xxxxxx, hc2xxxxxx⟩ := hr2xxxxx.ints hc2xxxxx
    subst hv; clear hd
    obtain ⟨b6, us, esb6, hv, hd, hr2xxxxxxx, hc2xxxxxxx⟩ := hr2xxxxxx.str hc2xxxxxx
    subst hv; clear hd
    obtain ⟨b7, us, esb7, hv, hd, hr2xxxxxxxx, hc2xxxxxxxx⟩ := hr2xxxxxxx.bool hc2xxxxxxx
    subst hv; clear hd
    obtain ⟨b8p, b8n, b8c, b8z, us, esb8, hv, hd, b8h, hr2xxxxxxxxx, hc2xxxxxxxxx⟩ := hr2xxxxxxxx.ints hc2xxxxxxxx
    subst hv; clear hd
    obtain ⟨hv, hd⟩ := hr2xxxxxxxxx.done hc2xxxxxxxxx
    subst hv; clear hd
    have l1 : ∀ w', Ext wr.drew w' → Loads P T_impl_TaxSum ((⟨kb1, ko1, none⟩ : Addr).add ((j : Int).toNat * 9)) (.agg ⟨[.bool a0, .slice a1p a1n a1c, .int .i64 a2, .string a3, .bool a4, .slice a5p a5n a5c, .string a6, .bool a7, .slice a8p a8n a8c]⟩) w' := fun w' hw => by
      rw [addr_add]; exact loadsA (by kernel_rfl) (by simpa using hg1.ext hw)
    have l2 : ∀ w', Ext wr.drew w' → Loads P T_impl_TaxSum ((⟨kb2, ko2, none⟩ : Addr).add ((j : Int).toNat * 9)) (.agg ⟨[.bool b0, .slice b1p b1n b1c, .int .i64 b2, .string b3, .bool b4, .slice b5p b5n b5c, .string b6, .bool b7, .slice b8p b8n b8c]⟩) w' := fun w' hw => by
      rw [addr_add]; exact loadsA (by kernel_rfl) (by simpa using hg2.ext hw)
    refine ⟨⟨by omega, by omega⟩, _, _, _, _, _, _, _, _, _, _, _, _, _, _, _, l1, ⟨by omega, by omega⟩, _, _, _, _, _, _, _, _, _, _, _, _, _, _, _, l2, ?_⟩
    refine Ret.at (laws_eqTaxSum_c hrr hrr2 (hc _ (List.getElem_mem hjl)) (kc _ (List.getElem_mem hjs))) ?_
    rintro v w2 ⟨hv, hy2⟩
    subst hv
    refine ⟨_, rfl, ifN (fun hne => ⟨dec_no (fun e => ?_), hx'.trans hy2⟩) (fun heq2 => ?_)⟩
    · exact of_decide_eq_false hne (by subst e; rfl)
    · have e2 := of_decide_eq_true heq2
      refine exW ⟨by omega, by omega⟩ ⟨⟨j + 1, by omega, by omega, hx'.trans hy2, ?_⟩, by simp; omega⟩
      rw [List.take_add_one, List.take_add_one, he, List.getElem?_eq_getElem hjl, List.getElem?_eq_getElem hjs, e2]
  · have hjn : j = n := by omega
    subst hjn
    rw [List.take_of_length_le (by omega), List.take_of_length_le (by omega)] at he
    exact dec_yes he
end Go.Proofs.YtfehpaekbbmkcaaGreatDoor

namespace Go.Proofs.YtfehpaekbbmkcaaGreatDoor
open Go Go.Proofs.YtfehpaekbbmkcaaGreatDoor.Sx
set_option linter.unusedVariables false
set_option linter.unusedSimpArgs false
theorem ints_at {w : World} {p : Option Addr} {n c : Nat} {zs : List Int} (h : IntsR w p n c zs) {i : Int} (h0 : 0 ≤ i) (h1 : i < n) :
    ∃ a, p = some a ∧ Loads P T_int (a.add (i.toNat * 1)) (.int .i64 (zs.getD i.toNat 0)) w := by
  obtain ⟨a, hp, hl⟩ := h.at (P := P) (t := T_int) (k := i.toNat) (by kernel_rfl) (by omega)
  have hz : i.toNat < zs.length := by rw [h.1]; omega
  refine ⟨a, hp, ?_⟩
  rw [List.getD_eq_getElem?_getD, List.getElem?_eq_getElem hz]
  simpa using hl
theorem spec_l01In_c (n lo hi : Int) (w : World) : Ret P n_spec_l01In [.int .i64 n, .int .i64 lo, .int .i64 hi] w fun v w' => v = .bool (decide (lo ≤ n ∧ n ≤ hi)) ∧ w' = w := by
  refine spec_l01In_ret ?_
  unfold spec_l01In
  refine ifD (fun h => ⟨?_, rfl⟩) (fun h => ⟨?_, rfl⟩) <;> simp [h]
def isLimb (z : Int) : Bool := decide (0 ≤ z ∧ z ≤ 999999999)
def natOk (zs : List Int) : Bool := zs.all isLimb && decide (zs.length ≤ 50) && !(decide (zs.getLast? = some 0))
theorem getLast_getD {zs : List Int} (h : 0 < zs.length) : zs.getLast? = some (zs.getD (zs.length - 1) 0) := by
  rw [List.getLast?_eq_getElem?, List.getD_eq_getElem?_getD, List.getElem?_eq_getElem (by omega)]
  rfl
theorem all_getD {zs : List Int} (h : ∀ k < zs.length, isLimb (zs.getD k 0) = true) : zs.all isLimb = true := by
  rw [List.all_eq_true]
  intro z hz
  obtain ⟨i, hi, rfl⟩ := List.getElem_of_mem hz
  have := h i hi
  rwa [List.getD_eq_getElem?_getD, List.getElem?_eq_getElem hi] at this
theorem not_all_getD {zs : List Int} {k : Nat} (hk : k < zs.length) (h : isLimb (zs.getD k 0) = false) : zs.all isLimb = false := by
  rw [List.getD_eq_getElem?_getD, List.getElem?_eq_getElem hk] at h
  rw [List.all_eq_false]
  exact ⟨_, List.getElem_mem hk, by simpa using h⟩
theorem spec_NatOk_c {w : World} {p : Option Addr} {n c : Nat} {zs : List Int} (h : IntsR w p n c zs) : Ret P n_spec_NatOk [.slice p n c] w fun v w' => v = .bool (natOk zs) ∧ Ext w w' := by
  refine spec_NatOk_ret ?_
  unfold spec_NatOk
  have hlen := h.1; have hcap := h.2.1; have hcm := h.2.2.1
  refine ⟨fun i wr => ∃ k : Nat, i = k ∧ k ≤ n ∧ Ext w wr ∧ ∀ j < k, isLimb (zs.getD j 0) = true, fun i _ => n - i.toNat, ⟨0, rfl, by omega, Ext.refl _, fun j hj => by omega⟩, ?_⟩
  intro junk wr i ⟨k, hik, hk, hx, hall⟩
  subst hik
  refine ifD (fun hlt => ?_) (fun hge => ?_)
  · obtain ⟨a, rfl, hl⟩ := ints_at (h.ext hx) (i := (k : Int)) (by omega) (by omega)
    refine ⟨⟨by omega, by omega⟩, _, hl, ?_⟩
    refine Ret.at (spec_l01In_c _ 0 999999999 wr) ?_
    rintro v w1 ⟨hv, hw⟩
    subst hv; subst hw
    refine ⟨_, rfl, ifN (fun hb => ⟨?_, hx⟩) (fun hb => ?_)⟩
    · have : zs.all isLimb = false := not_all_getD (k := k) (by omega) (by simpa [isLimb] using hb)
      simp [natOk, this]
    · refine exW ⟨by omega, by omega⟩ ⟨⟨k + 1, by omega, by omega, hx, fun j hj => ?_⟩, by simp; omega⟩
      by_cases hjk : j < k
      · exact hall j hjk
      · obtain rfl : j = k := by omega
        simpa [isLimb] using hb
  · have hkn : k = n := by omega
    subst hkn
    have hal : zs.all isLimb = true := all_getD (fun j hj => hall j (by omega))
    refine ifD (fun hle => ifD (fun h0 => ⟨?_, hx⟩) (fun h0 => ?_)) (fun hgt => ⟨?_, hx⟩)
    · have : zs = [] := List.eq_nil_of_length_eq_zero (by omega)
      subst this; rfl
    · obtain ⟨a, rfl, hl⟩ := ints_at (h.ext hx) (i := (k : Int) - 1) (by omega) (by omega)
      refine exW ⟨by omega, by omega⟩ ⟨⟨by omega, by omega⟩, _, hl, ?_, hx⟩
      have e : ((k : Int) - 1).toNat = zs.length - 1 := by omega
      simp only [natOk, hal, getLast_getD (show 0 < zs.length by omega), e, Option.some.injEq, Bool.true_and]
      rw [show decide (zs.length ≤ 50) = true by simp; omega]
      simp
    · simp [natOk, hal, show ¬ zs.length ≤ 50 by omega]
theorem impl_NatOk_c {w : World} {p : Option Addr} {n c : Nat} {zs : List Int} (h : IntsR w p n c zs) : Ret P n_impl_NatOk [.slice p n c] w fun v w' => v = .bool (natOk zs) ∧ Ext w w' := by
  have hlen := h.1; have hcap := h.2.1; have hcm := h.2.2.1
  have J : ∀ wr, Ext w wr → zs.length ≤ 50 → zs.getLast? ≠ some 0 → impl_NatOk_j0 p n wr fun v w' => v = .bool (natOk zs) ∧ Ext w w' := by
    intro wr hx0 h50 hl0
    unfold impl_NatOk_j0
    refine ⟨fun i wr => ∃ k : Nat, i = k ∧ k ≤ n ∧ Ext w wr ∧ ∀ j < k, isLimb (zs.getD j 0) = true, fun i _ => n - i.toNat, ⟨0, rfl, by omega, hx0, fun j hj => by omega⟩, ?_⟩
    intro junk wr i ⟨k, hik, hk, hx, hall⟩
    subst hik
    refine ifD (fun hlt => ?_) (fun hge => ⟨?_, hx⟩)
    · obtain ⟨a, rfl, hl⟩ := ints_at (h.ext hx) (i := (k : Int)) (by omega) (by omega)
      have no : isLimb (zs.getD k 0) = false → Value.bool false = .bool (natOk zs) := fun hf => by
        have : zs.all isLimb = false := not_all_getD (k := k) (by omega) hf
        simp [natOk, this]
      refine ⟨⟨by omega, by omega⟩, _, hl, ifD (fun hb => ifT ⟨no (by simp [isLimb]; simp at hb; omega), hx⟩) (fun hb => ifD (fun hb2 => ⟨no (by simp [isLimb]; simp at hb2; omega), hx⟩) (fun hb2 => ?_))⟩
      refine exW ⟨by omega, by omega⟩ ⟨⟨k + 1, by omega, by omega, hx, fun j hj => ?_⟩, by simp; omega⟩
      by_cases hjk : j < k
      · exact hall j hjk
      · obtain rfl : j = k := by omega
        simp [isLimb]; simp at hb hb2; omega
    · have hal : zs.all isLimb = true := all_getD (fun j hj => hall j (by omega))
      simp [natOk, hal, h50, hl0]
  refine impl_NatOk_ret ?_
  unfold impl_NatOk
  refine ifD (fun hgt => ifT ⟨by simp [natOk, show ¬ zs.length ≤ 50 by omega], Ext.refl _⟩) (fun hle => ifD (fun hpos => ?_) (fun h0 => ifF ?_))
  · obtain ⟨a, rfl, hl⟩ := ints_at h (i := (n : Int) - 1) (by omega) (by omega)
    have e : ((n : Int) - 1).toNat = zs.length - 1 := by omega
    have hg := getLast_getD (show 0 < zs.length by omega)
    rw [← e] at hg
    refine exW ⟨by omega, by omega⟩ ⟨⟨by omega, by omega⟩, _, hl, ifD (fun hz => ⟨?_, Ext.refl _⟩) (fun hz => J w (Ext.refl _) (by omega) (by rw [hg]; simpa using hz))⟩
    simp only [natOk, hg, hz]; simp
  · have : zs = [] := List.eq_nil_of_length_eq_zero (by omega)
    exact J w (Ext.refl _) (by omega) (by rw [this]; simp)
def lexR : List Int → List Int → Int
  | x :: xs, y :: ys => if x < y then -1 else if y < x then 1 else lexR xs ys
  | _, _ => 0
def cmpL (a b : List Int) : Int := if a.length < b.length then -1 else if b.length < a.length then 1 else lexR a.reverse b.reverse
theorem lexR_same : ∀ (a : List Int), lexR a a = 0
  | [] => rfl
  | x :: xs => by simp [lexR, lexR_same xs]
theorem lexR_at : ∀ (t : List Int) {x y : Int} {s r : List Int}, x ≠ y → lexR (t ++ x :: s) (t ++ y :: r) = if x < y then -1 else 1
  | [], x, y, s, r, h => by
    simp only [List.nil_append, lexR]
    by_cases h1 : x < y
    · simp [h1]
    · simp [h1, show y < x by omega]
  | z :: t, x, y, s, r, h => by simp [lexR, lexR_at t h]
theorem lexR_zero : ∀ (a b : List Int), a.length = b.length → lexR a b = 0 → a = b
  | [], [], _, _ => rfl
  | x :: xs, y :: ys, hl, h => by
    simp only [lexR] at h
    by_cases h1 : x < y
    · simp [h1] at h
    · by_cases h2 : y < x
      · simp [h1, h2] at h
      · simp only [h1, h2, if_false] at h
        rw [lexR_zero xs ys (by simpa using hl) h, show x = y by omega]
theorem cmpL_zero {a b : List Int} : cmpL a b = 0 ↔ a = b := by
  constructor
  · intro h
    unfold cmpL at h
    split at h
    · cases h
    · split at h
      · cases h
      · have := lexR_zero _ _ (by simp; omega) h
        simpa using this
  · rintro rfl; simp [cmpL, lexR_same]
theorem cmpL_at {a b : List Int} {i : Nat} (hl : a.length = b.length) (hi : i < a.length) (ht : ∀ j, i < j → a.getD j 0 = b.getD j 0) (hne : a.getD i 0 ≠ b.getD i 0) : cmpL a b = if a.getD i 0 < b.getD i 0 then -1 else 1 := by
  have hi2 : i < b.length := by omega
  have e1 : a = a.take i ++ a.getD i 0 :: a.drop (i + 1) := by
    rw [List.getD_eq_getElem?_getD, List.getElem?_eq_getElem hi, Option.getD_some, ← List.drop_eq_getElem_cons, List.take_append_drop]
  have e2 : b = b.take i ++ b.getD i 0 :: b.drop (i + 1) := by
    rw [List.getD_eq_getElem?_getD, List.getElem?_eq_getElem hi2, Option.getD_some, ← List.drop_eq_getElem_cons, List.take_append_drop]
  have ed : a.drop (i + 1) = b.drop (i + 1) := by
    apply List.ext_getElem (by simp; omega)
    intro k h1 h2
    have := ht (i + 1 + k) (by omega)
    simp only [List.length_drop] at h1 h2
    rw [List.getD_eq_getElem?_getD, List.getD_eq_getElem?_getD, List.getElem?_eq_getElem (by omega), List.getElem?_eq_getElem (by omega)] at this
    simpa using this
  have r1 : a.reverse = (a.drop (i + 1)).reverse ++ a.getD i 0 :: (a.take i).reverse := (congrArg List.reverse e1).trans (by simp)
  have r2 : b.reverse = (a.drop (i + 1)).reverse ++ b.getD i 0 :: (b.take i).reverse := (congrArg List.reverse e2).trans (by simp [ed])
  unfold cmpL
  rw [if_neg (by omega), if_neg (by omega), r1, r2, lexR_at _ hne]
theorem cmpL_all {a b : List Int} (hl : a.length = b.length) (ht : ∀ j, a.getD j 0 = b.getD j 0) : cmpL a b = 0 := by
  have : a = b := by
    apply List.ext_getElem hl
    intro k h1 h2
    have := ht k
    rw [List.getD_eq_getElem?_getD, List.getD_eq_getElem?_getD, List.getElem?_eq_getElem h1, List.getElem?_eq_getElem h2] at this
    simpa using this
  exact cmpL_zero.2 this
theorem getD_beyond {a : List Int} {j : Nat} (h : a.length ≤ j) : a.getD j 0 = 0 := by
  rw [List.getD_eq_getElem?_getD, List.getElem?_eq_none h]; rfl
theorem spec_l02Cmp_c {w : World} {p q : Option Addr} {n c m d : Nat} {zs ys : List Int} (h : IntsR w p n c zs) (k : IntsR w q m d ys) :
    Ret P n_spec_l02Cmp [.slice p n c, .slice q m d] w fun v w' => v = .int .i64 (cmpL zs ys) ∧ Ext w w' := by
  refine spec_l02Cmp_ret ?_
  unfold spec_l02Cmp
  have hz := h.1; have hy := k.1; have hcap := h.2.1; have hcm := h.2.2.1
  refine ifD (fun hne => ifD (fun hlt => ⟨?_, Ext.refl _⟩) (fun hge => ⟨?_, Ext.refl _⟩)) (fun heq => ?_)
  · rw [cmpL, if_pos (by omega)]
  · rw [cmpL, if_neg (by omega), if_pos (by omega)]
  · have hnm : n = m := by omega
    refine exW ⟨by omega, by omega⟩ ⟨fun i wr => -1 ≤ i ∧ i < n ∧ Ext w wr ∧ ∀ j : Nat, i < j → zs.getD j 0 = ys.getD j 0, fun i _ => (i + 1).toNat, ⟨by omega, by omega, Ext.refl _, fun j hj => by rw [getD_beyond (by omega), getD_beyond (by omega)]⟩, ?_⟩
    intro junk wr i ⟨h1, h2, hx, ht⟩
    refine ifD (fun h0 => ?_) (fun hneg => ⟨?_, hx⟩)
    · have hx1 := hx.trans (Ext.drew wr)
      have hx2 := hx1.trans (Ext.drew _)
      obtain ⟨a, hpa, _⟩ := ints_at h h0 h2
      obtain ⟨b, hqb, _⟩ := ints_at k h0 (show i < m by omega)
      subst hpa; subst hqb
      have l1 : ∀ w', Ext w w' → Loads P T_int (a.add (i.toNat * 1)) (.int .i64 (zs.getD i.toNat 0)) w' := fun w' hw => by
        obtain ⟨a', ha, hl⟩ := ints_at (h.ext hw) h0 h2
        cases ha; exact hl
      have l2 : ∀ w', Ext w w' → Loads P T_int (b.add (i.toNat * 1)) (.int .i64 (ys.getD i.toNat 0)) w' := fun w' hw => by
        obtain ⟨a', ha, hl⟩ := ints_at (k.ext hw) h0 (show i < m by omega)
        cases ha; exact hl
      have ht' : ∀ j : Nat, i.toNat < j → zs.getD j 0 = ys.getD j 0 := fun j hj => ht j (by omega)
      refine ⟨⟨by omega, by omega⟩, _, fun w' hw => l1 w' (hx1.trans hw), ⟨by omega, by omega⟩, _, fun w' hw => l2 w' (hx1.trans hw), ifD (fun hlt => ⟨?_, hx1⟩) (fun hge => ?_)⟩
      · rw [cmpL_at (by omega) (by omega) ht' (by omega), if_pos hlt]
      · refine ⟨⟨by omega, by omega⟩, _, fun w' hw => l1 w' (hx2.trans hw), ⟨by omega, by omega⟩, _, fun w' hw => l2 w' (hx2.trans hw), ifD (fun hlt => ⟨?_, hx2⟩) (fun hge2 => ?_)⟩
        · rw [cmpL_at (by omega) (by omega) ht' (by omega), if_neg (by omega)]
        · refine exW ⟨by omega, by omega⟩ ⟨⟨by omega, by omega, hx2, fun j hj => ?_⟩, by show (i - 1 + 1).toNat < (i + 1).toNat; omega⟩
          by_cases e : j = i.toNat
          · subst e; omega
          · exact ht j (by omega)
    · rw [cmpL_all (by omega) (fun j => ht j (by omega))]
theorem impl_natCmp_c {w : World} {p q : Option Addr} {n c m d : Nat} {zs ys : List Int} (h : IntsR w p n c zs) (k : IntsR w q m d ys) :
    Ret P n_impl_natCmp [.slice p n c, .slice q m d] w fun v w' => v = .int .i64 (cmpL zs ys) ∧ Ext w w' := by
  refine impl_natCmp_ret ?_
  unfold impl_natCmp
  have hz := h.1; have hy := k.1; have hcap := h.2.1; have hcm := h.2.2.1
  refine ifD (fun hne => ifD (fun hlt => ⟨?_, Ext.refl _⟩) (fun hge => ⟨?_, Ext.refl _⟩)) (fun heq => ?_)
  · rw [cmpL, if_pos (by omega)]
  · rw [cmpL, if_neg (by omega), if_pos (by omega)]
  · have hnm : n = m := by omega
    refine exW ⟨by omega, by omega⟩ ⟨fun i wr => -1 ≤ i ∧ i < n ∧ Ext w wr ∧ ∀ j : Nat, i < j → zs.getD j 0 = ys.getD j 0, fun i _ => (i + 1).toNat, ⟨by omega, by omega, Ext.refl _, fun j hj => by rw [getD_beyond (by omega), getD_beyond (by omega)]⟩, ?_⟩
    intro junk wr i ⟨h1, h2, hx, ht⟩
    refine ifD (fun h0 => ?_) (fun hneg => ⟨?_, hx⟩)
    · have hx1 := hx.trans (Ext.drew wr)
      have hx2 := hx1.trans (Ext.drew _)
      obtain ⟨a, hpa, _⟩ := ints_at h h0 h2
      obtain ⟨b, hqb, _⟩ := ints_at k h0 (show i < m by omega)
      subst hpa; subst hqb
      have l1 : ∀ w', Ext w w' → Loads P T_int (a.add (i.toNat * 1)) (.int .i64 (zs.getD i.toNat 0)) w' := fun w' hw => by
        obtain ⟨a', ha, hl⟩ := ints_at (h.ext hw) h0 h2
        cases ha; exact hl
      have l2 : ∀ w', Ext w w' → Loads P T_int (b.add (i.toNat * 1)) (.int .i64 (ys.getD i.toNat 0)) w' := fun w' hw => by
        obtain ⟨a', ha, hl⟩ := ints_at (k.ext hw) h0 (show i < m by omega)
        cases ha; exact hl
      have ht' : ∀ j : Nat, i.toNat < j → zs.getD j 0 = ys.getD j 0 := fun j hj => ht j (by omega)
      refine ⟨⟨by omega, by omega⟩, _, fun w' hw => l1 w' (hx1.trans hw), ⟨by omega, by omega⟩, _, fun w' hw => l2 w' (hx1.trans hw), ifD (fun hne => ?_) (fun heq2 => ?_)⟩
      · refine ⟨⟨by omega, by omega⟩, _, fun w' hw => l1 w' (hx2.trans hw), ⟨by omega, by omega⟩, _, fun w' hw => l2 w' (hx2.trans hw), ifD (fun hlt => ⟨?_, hx2⟩) (fun hge => ⟨?_, hx2⟩)⟩
        · rw [cmpL_at (by omega) (by omega) ht' hne, if_pos hlt]
        · rw [cmpL_at (by omega) (by omega) ht' hne, if_neg hge]
      · have heq2 : zs.getD i.toNat 0 = ys.getD i.toNat 0 := by simpa using heq2
        refine exW ⟨by omega, by omega⟩ ⟨⟨by omega, by omega, hx1, fun j hj => ?_⟩, by show (i - 1 + 1).toNat < (i + 1).toNat; omega⟩
        by_cases e : j = i.toNat
        · subst e; omega
        · exact ht j (by omega)
    · rw [cmpL_all (by omega) (fun j => ht j (by omega))]
end Go.Proofs.YtfehpaekbbmkcaaGreatDoor

namespace Go.Proofs.YtfehpaekbbmkcaaGreatDoor
open Go Go.Proofs.YtfehpaekbbmkcaaGreatDoor.Sx
set_option linter.unusedVariables false
set_option linter.unusedSimpArgs false
def intOk : List D0 → Bool
  | [.bool b, .ints z] => natOk z && (!b || !z.isEmpty)
  | _ => false
theorem intOk_len {b : Bool} {z : List Int} {n : Nat} (h : z.length = n) : (decide ((0 : Int) < (n : Nat))) = !z.isEmpty := by
  cases z with
  | nil => simp at h; simp [← h]
  | cons a r => simp at h; simp [← h]
theorem spec_IntOk_c {w : World} {xs : List Value} {dx : List D0} (h : Reps w xs dx) (hc : dx.map D0.code = [.bool, .ints]) :
    Ret P n_spec_IntOk [.agg ⟨xs⟩] w fun v w' => v = .bool (intOk dx) ∧ Ext w w' := by
  obtain ⟨a0, a1p, a1n, a1c, a1z, rfl, rfl, ha⟩ := open_Signed h hc
  refine spec_IntOk_ret ?_
  unfold spec_IntOk
  intro r w1 hn
  have x := hn.ext
  refine ⟨_, _, _, hn.blk.load (by kernel_rfl) rfl, ?_⟩
  refine Ret.at (spec_NatOk_c (ha.ext x)) ?_
  rintro v w2 ⟨hv, y⟩
  subst hv
  have b := hn.blk.ext y; have x := x.trans y
  refine ⟨_, rfl, fun e => ⟨_, b.load (by kernel_rfl) rfl, ifN (fun hb => ⟨?_, x⟩) (fun hb => ?_)⟩, fun e => ⟨by simp [intOk, e], x⟩⟩
  · simp [intOk, e, hb]
  · exact ⟨_, _, _, b.load (by kernel_rfl) rfl, by rw [intOk_len (b := a0) ha.1]; simp [intOk, e, hb], x⟩
theorem impl_IntOk_c {w : World} {xs : List Value} {dx : List D0} (h : Reps w xs dx) (hc : dx.map D0.code = [.bool, .ints]) :
    Ret P n_impl_IntOk [.agg ⟨xs⟩] w fun v w' => v = .bool (intOk dx) ∧ Ext w w' := by
  obtain ⟨a0, a1p, a1n, a1c, a1z, rfl, rfl, ha⟩ := open_Signed h hc
  refine impl_IntOk_ret ?_
  unfold impl_IntOk
  intro r w1 hn
  have x := hn.ext
  refine ⟨_, _, _, hn.blk.load (by kernel_rfl) rfl, ?_⟩
  refine Ret.at (impl_NatOk_c (ha.ext x)) ?_
  rintro v w2 ⟨hv, y⟩
  subst hv
  have b := hn.blk.ext y; have x := x.trans y
  refine ⟨_, rfl, fun e => ⟨_, b.load (by kernel_rfl) rfl, ifN (fun hb => ⟨?_, x⟩) (fun hb => ?_)⟩, fun e => ⟨by simp [intOk, e], x⟩⟩
  · simp [intOk, e, hb]
  · exact ⟨_, _, _, b.load (by kernel_rfl) rfl, by rw [intOk_len (b := a0) ha.1]; simp [intOk, e, hb], x⟩
def icmp : List D0 → List D0 → Int
  | [.bool a, .ints x], [.bool b, .ints y] => if !(intOk [.bool a, .ints x]) || !(intOk [.bool b, .ints y]) then 0 else if a && !b then -1 else if !a && b then 1 else if a then cmpL y x else cmpL x y
  | _, _ => 0
theorem spec_IntCmp_c {w : World} {xs ys : List Value} {dx dy : List D0} (h : Reps w xs dx) (k : Reps w ys dy) (hc : dx.map D0.code = [.bool, .ints]) (kc : dy.map D0.code = [.bool, .ints]) :
    Ret P n_spec_IntCmp [.agg ⟨xs⟩, .agg ⟨ys⟩] w fun v w' => v = .int .i64 (icmp dx dy) ∧ Ext w w' := by
  have hr := h; have kr := k
  obtain ⟨a0, a1p, a1n, a1c, a1z, rfl, rfl, ha⟩ := open_Signed h hc
  obtain ⟨b0, b1p, b1n, b1c, b1z, rfl, rfl, hb⟩ := open_Signed k kc
  refine spec_IntCmp_ret ?_
  unfold spec_IntCmp
  intro r w1 hn1 r1 w2 hn2
  have x := hn1.ext.trans hn2.ext
  have k0 := hn1.blk.ext hn2.ext; have k1 := hn2.blk
  have L : ∀ W, Ext w2 W → Ext w W := fun W hW => x.trans hW
  -- the tail: both right
  have J1 : ∀ W t, Ext w2 W → intOk [.bool a0, .ints a1z] = true → intOk [.bool b0, .ints b1z] = true → t = (a0 && !b0) → spec_IntCmp_j1 r r1 t W fun v w' => v = .int .i64 (icmp [.bool a0, .ints a1z] [.bool b0, .ints b1z]) ∧ Ext w w' := by
    intro W t hW h1 h2 ht
    have q0 := k0.ext hW; have q1 := k1.ext hW; have x := x.trans hW
    unfold spec_IntCmp_j1
    have fin : ∀ t32, t32 = a0 → (a0 && !b0) = false → (!a0 && b0) = false →
        ((t32 = true → ∃ (t34_p : Option Addr) (t34_n : Nat) (t34_c : Nat), Loads P T_s_int ((⟨r1, 0, none⟩ : Addr).add 1) (.slice t34_p t34_n t34_c) W ∧ ∃ (t36_p : Option Addr) (t36_n : Nat) (t36_c : Nat), Loads P T_s_int ((⟨r, 0, none⟩ : Addr).add 1) (.slice t36_p t36_n t36_c) W ∧ Calls P n_spec_l02Cmp ⟨[(.slice t34_p t34_n t34_c), (.slice t36_p t36_n t36_c)]⟩ W fun e wv_3 =>
          ∃ (t37 : Int), e = .returned (.int .i64 t37) ∧ (Value.int .i64 t37 = .int .i64 (icmp [.bool a0, .ints a1z] [.bool b0, .ints b1z]) ∧ Ext w wv_3)) ∧
        (t32 = false → ∃ (t39_p : Option Addr) (t39_n : Nat) (t39_c : Nat), Loads P T_s_int ((⟨r, 0, none⟩ : Addr).add 1) (.slice t39_p t39_n t39_c) W ∧ ∃ (t41_p : Option Addr) (t41_n : Nat) (t41_c : Nat), Loads P T_s_int ((⟨r1, 0, none⟩ : Addr).add 1) (.slice t41_p t41_n t41_c) W ∧ Calls P n_spec_l02Cmp ⟨[(.slice t39_p t39_n t39_c), (.slice t41_p t41_n t41_c)]⟩ W fun e wv_4 =>
          ∃ (t42 : Int), e = .returned (.int .i64 t42) ∧ (Value.int .i64 t42 = .int .i64 (icmp [.bool a0, .ints a1z] [.bool b0, .ints b1z]) ∧ Ext w wv_4))) := by
      intro t32 ht32 e1 e2
      subst ht32
      refine ⟨fun e => ⟨_, _, _, q1.load (by kernel_rfl) rfl, _, _, _, q0.load (by kernel_rfl) rfl, ?_⟩, fun e => ⟨_, _, _, q0.load (by kernel_rfl) rfl, _, _, _, q1.load (by kernel_rfl) rfl, ?_⟩⟩
      · refine Ret.at (spec_l02Cmp_c (hb.ext x) (ha.ext x)) ?_
        rintro v w3 ⟨hv, y⟩
        subst hv
        exact ⟨_, rfl, by simp only [icmp, h1, h2, e1, e2]; simp [e], x.trans y⟩
      · refine Ret.at (spec_l02Cmp_c (ha.ext x) (hb.ext x)) ?_
        rintro v w3 ⟨hv, y⟩
        subst hv
        exact ⟨_, rfl, by simp only [icmp, h1, h2, e1, e2]; simp [e], x.trans y⟩
    refine ⟨fun e => ⟨?_, x⟩, fun e => ?_⟩
    · rw [ht] at e; simp only [icmp, h1, h2, e]; rfl
    · rw [ht] at e
      refine ⟨_, q0.load (by kernel_rfl) rfl, ifN (fun ha0 => ?_) (fun ha0 => ?_)⟩
      · refine ⟨_, q1.load (by kernel_rfl) rfl, fun hb0 => ⟨?_, x⟩, fun hb0 => ⟨_, q0.load (by kernel_rfl) rfl, fin _ rfl e (by simp [ha0, hb0])⟩⟩
        subst ha0; subst hb0; simp only [icmp, h1, h2]; rfl
      · exact ifF ⟨_, q0.load (by kernel_rfl) rfl, fin _ rfl e (by simp [ha0])⟩
  have J0 : ∀ W t, Ext w2 W → t = (!(intOk [.bool a0, .ints a1z]) || !(intOk [.bool b0, .ints b1z])) → spec_IntCmp_j0 r r1 t W fun v w' => v = .int .i64 (icmp [.bool a0, .ints a1z] [.bool b0, .ints b1z]) ∧ Ext w w' := by
    intro W t hW ht
    have q0 := k0.ext hW; have q1 := k1.ext hW
    unfold spec_IntCmp_j0
    refine ⟨fun e => ⟨?_, L W hW⟩, fun e => ?_⟩
    · rw [ht] at e; simp only [icmp, e]; rfl
    · rw [ht] at e
      simp only [Bool.or_eq_false_iff, Bool.not_eq_false'] at e
      refine ⟨_, q0.load (by kernel_rfl) rfl, fun h0 => ⟨_, q1.load (by kernel_rfl) rfl, J1 W _ hW e.1 e.2 (by simp [h0])⟩, fun h0 => J1 W _ hW e.1 e.2 (by simp [h0])⟩
  refine ⟨_, _, _, _, k0.loadA0 (by kernel_rfl), ?_⟩
  refine Ret.at (spec_IntOk_c (hr.ext x) rfl) ?_
  rintro v w3 ⟨hv, y⟩
  subst hv
  refine ⟨_, rfl, ifN (fun e => J0 w3 _ y (by simp [e])) (fun e => ?_)⟩
  refine ⟨_, _, _, _, (k1.ext y).loadA0 (by kernel_rfl), ?_⟩
  refine Ret.at (spec_IntOk_c (kr.ext (x.trans y)) rfl) ?_
  rintro v w4 ⟨hv, y2⟩
  subst hv
  exact ⟨_, rfl, J0 w4 _ (y.trans y2) (by simp [e])⟩
end Go.Proofs.YtfehpaekbbmkcaaGreatDoor

namespace Go.Proofs.YtfehpaekbbmkcaaGreatDoor
open Go Go.Proofs.YtfehpaekbbmkcaaGreatDoor.Sx
set_option linter.unusedVariables false
set_option linter.unusedSimpArgs false
def val : List Int → Int
  | [] => 0
  | x :: r => x + 1000000000 * val r
def Limbs (l : List Int) : Prop := ∀ x ∈ l, 0 ≤ x ∧ x < 1000000000
def Canon (l : List Int) : Prop := Limbs l ∧ l.getLast? ≠ some 0
def digs (n : Nat) : List Int := if h : n = 0 then [] else ((n % 1000000000 : Nat) : Int) :: digs (n / 1000000000)
termination_by n
decreasing_by omega
theorem natOk_spec {l : List Int} : natOk l = true ↔ Canon l ∧ l.length ≤ 50 := by
  unfold natOk Canon Limbs
  simp only [Bool.and_eq_true, List.all_eq_true, isLimb, decide_eq_true_eq, Bool.not_eq_true', decide_eq_false_iff_not]
  constructor
  · rintro ⟨⟨h1, h2⟩, h3⟩
    exact ⟨⟨fun x hx => by have := h1 x hx; omega, h3⟩, h2⟩
  · rintro ⟨⟨h1, h3⟩, h2⟩
    exact ⟨⟨fun x hx => by have := h1 x hx; omega, h2⟩, h3⟩
theorem Limbs.nil : Limbs [] := fun x hx => by simp at hx
theorem Limbs.cons {x : Int} {r : List Int} : Limbs (x :: r) ↔ (0 ≤ x ∧ x < 1000000000) ∧ Limbs r := by simp [Limbs]
theorem Limbs.append {a b : List Int} : Limbs (a ++ b) ↔ Limbs a ∧ Limbs b := by
  simp only [Limbs, List.mem_append]
  exact ⟨fun h => ⟨fun x hx => h x (.inl hx), fun x hx => h x (.inr hx)⟩, fun h x hx => hx.elim (h.1 x) (h.2 x)⟩
theorem Limbs.take {a : List Int} (h : Limbs a) (k : Nat) : Limbs (a.take k) := fun x hx => h x (List.mem_of_mem_take hx)
theorem Limbs.getD {a : List Int} (h : Limbs a) (k : Nat) : 0 ≤ a.getD k 0 ∧ a.getD k 0 < 1000000000 := by
  by_cases hk : k < a.length
  · rw [List.getD_eq_getElem?_getD, List.getElem?_eq_getElem hk]
    exact h _ (List.getElem_mem hk)
  · rw [getD_beyond (by omega)]; omega
theorem val_nonneg : ∀ {l : List Int}, Limbs l → 0 ≤ val l
  | [], _ => Int.le_refl _
  | x :: r, h => by
    have h := Limbs.cons.1 h
    have := val_nonneg h.2
    simp only [val]; omega
theorem val_append : ∀ (a b : List Int), val (a ++ b) = val a + 1000000000 ^ a.length * val b
  | [], b => by simp [val]
  | x :: r, b => by
    simp only [List.cons_append, val, val_append r b, List.length_cons, Int.pow_succ]
    rw [Int.mul_add, ← Int.add_assoc, ← Int.mul_assoc, Int.mul_comm 1000000000 (1000000000 ^ r.length)]
theorem val_lt : ∀ {l : List Int}, Limbs l → val l < 1000000000 ^ l.length
  | [], _ => by simp [val]
  | x :: r, h => by
    have h := Limbs.cons.1 h
    have := val_lt h.2
    simp only [val, List.length_cons, Int.pow_succ]
    omega
theorem val_take_succ (l : List Int) (k : Nat) : val (l.take (k + 1)) = val (l.take k) + 1000000000 ^ k * l.getD k 0 := by
  by_cases hk : k < l.length
  · rw [List.take_add_one, List.getElem?_eq_getElem hk, Option.toList_some, val_append, List.getD_eq_getElem?_getD, List.getElem?_eq_getElem hk]
    have : (l.take k).length = k := by simp; omega
    rw [this]; simp [val]
  · rw [List.take_of_length_le (by omega), List.take_of_length_le (by omega), getD_beyond (by omega)]; simp
theorem val_snoc (a : List Int) (x : Int) : val (a ++ [x]) = val a + 1000000000 ^ a.length * x := by
  rw [val_append]; simp [val]
theorem digs_zero : digs 0 = [] := by rw [digs]; simp
theorem digs_pos {n : Nat} (h : n ≠ 0) : digs n = ((n % 1000000000 : Nat) : Int) :: digs (n / 1000000000) := by rw [digs]; simp [h]
theorem digs_limbs : ∀ (n : Nat), Limbs (digs n) := by
  intro n
  induction n using Nat.strongRecOn with
  | ind n ih =>
    by_cases h : n = 0
    · subst h; rw [digs_zero]; exact Limbs.nil
    · rw [digs_pos h, Limbs.cons]
      exact ⟨by omega, ih _ (by omega)⟩
theorem val_digs : ∀ (n : Nat), val (digs n) = n := by
  intro n
  induction n using Nat.strongRecOn with
  | ind n ih =>
    by_cases h : n = 0
    · subst h; rw [digs_zero]; rfl
    · rw [digs_pos h, val, ih _ (by omega)]
      omega
theorem digs_last : ∀ (n : Nat), (digs n).getLast? ≠ some 0 := by
  intro n
  induction n using Nat.strongRecOn with
  | ind n ih =>
    by_cases h : n = 0
    · subst h; rw [digs_zero]; simp
    · rw [digs_pos h]
      by_cases h2 : n / 1000000000 = 0
      · rw [h2, digs_zero]
        simp; omega
      · have := ih (n / 1000000000) (by omega)
        rw [digs_pos h2, List.getLast?_cons_cons, ← digs_pos h2]
        exact this
theorem digs_canon (n : Nat) : Canon (digs n) := ⟨digs_limbs n, digs_last n⟩
theorem digs_nil {n : Nat} : digs n = [] ↔ n = 0 := by
  constructor
  · intro h
    by_cases h0 : n = 0
    · exact h0
    · rw [digs_pos h0] at h; cases h
  · rintro rfl; exact digs_zero
theorem Canon.cons {x : Int} {r : List Int} (h : Canon (x :: r)) : (0 ≤ x ∧ x < 1000000000) ∧ Canon r ∧ (r = [] → x ≠ 0) := by
  obtain ⟨h1, h2⟩ := h
  have h1 := Limbs.cons.1 h1
  refine ⟨h1.1, ⟨h1.2, ?_⟩, fun e => ?_⟩
  · intro e
    rw [List.getLast?_cons, e] at h2
    simp at h2
  · subst e; simpa using h2
theorem canon_pos : ∀ {l : List Int}, Canon l → l ≠ [] → 0 < val l
  | [], _, h => absurd rfl h
  | x :: r, h, _ => by
    obtain ⟨h1, h2, h3⟩ := h.cons
    simp only [val]
    have := val_nonneg h2.1
    by_cases hr : r = []
    · have := h3 hr; subst hr; simp [val]; omega
    · have := canon_pos h2 hr; omega
theorem digs_val : ∀ {l : List Int}, Canon l → digs (val l).toNat = l
  | [], _ => by simp [val, digs_zero]
  | x :: r, h => by
    obtain ⟨h1, h2, h3⟩ := h.cons
    have hp := canon_pos h (by simp)
    have hv := val_nonneg h2.1
    have e := digs_val h2
    rw [digs_pos (by omega)]
    simp only [val] at hp ⊢
    have e1 : (x + 1000000000 * val r).toNat % 1000000000 = x.toNat := by omega
    have e2 : (x + 1000000000 * val r).toNat / 1000000000 = (val r).toNat := by omega
    rw [e1, e2, e]
    congr 1; omega
theorem canon_inj {a b : List Int} (ha : Canon a) (hb : Canon b) (h : val a = val b) : a = b := by
  rw [← digs_val ha, ← digs_val hb, h]
def trimL (l : List Int) : List Int := (l.reverse.dropWhile (fun x => decide (x = 0))).reverse
theorem trimL_snoc (l : List Int) (x : Int) : trimL (l ++ [x]) = if x = 0 then trimL l else l ++ [x] := by
  unfold trimL
  by_cases h : x = 0 <;> simp [h]
theorem trimL_take {l : List Int} {k : Nat} (hk : k < l.length) : trimL (l.take (k + 1)) = if l.getD k 0 = 0 then trimL (l.take k) else l.take (k + 1) := by
  have e : l.take (k + 1) = l.take k ++ [l.getD k 0] := by
    rw [List.take_add_one, List.getD_eq_getElem?_getD, List.getElem?_eq_getElem hk]; rfl
  rw [e, trimL_snoc]
theorem trimL_digs : ∀ (n : Nat) {l : List Int}, l.length = n → Limbs l → trimL l = digs (val l).toNat
  | 0, l, hn, h => by
    have : l = [] := List.eq_nil_of_length_eq_zero hn
    subst this; simp [val, digs_zero, trimL]
  | n + 1, l, hn, h => by
    have e : l = l.take n ++ [l.getD n 0] := by
      have : l.take (n + 1) = l := List.take_of_length_le (by omega)
      conv => lhs; rw [← this]
      rw [List.take_add_one, List.getD_eq_getElem?_getD, List.getElem?_eq_getElem (by omega)]; rfl
    rw [e, trimL_snoc]
    have ht := h.take n
    by_cases hx : l.getD n 0 = 0
    · rw [if_pos hx, trimL_digs n (by simp; omega) ht, val_snoc, hx]
      simp
    · rw [if_neg hx, ← e]
      refine (digs_val ⟨h, ?_⟩).symm
      rw [e]; simpa using hx
theorem trimL_eq {l : List Int} (h : Limbs l) : trimL l = digs (val l).toNat := trimL_digs _ rfl h
theorem trimL_len (l : List Int) : (trimL l).length ≤ l.length := by
  unfold trimL
  rw [List.length_reverse]
  calc (l.reverse.dropWhile _).length ≤ l.reverse.length := (List.dropWhile_sublist _).length_le
    _ = l.length := by simp
theorem trimL_prefix (l : List Int) : trimL l = l.take (trimL l).length := by
  unfold trimL
  obtain ⟨t, ht⟩ := List.dropWhile_suffix (fun x : Int => decide (x = 0)) (l := l.reverse)
  generalize l.reverse.dropWhile (fun x => decide (x = 0)) = d at ht ⊢
  have : l = d.reverse ++ t.reverse := by
    have := congrArg List.reverse ht
    simpa using this.symm
  rw [this, List.take_left']
  rfl
theorem lex_val : ∀ (a b : List Int), a.length = b.length → Limbs a → Limbs b →
    (lexR a.reverse b.reverse = -1 ∧ val a < val b) ∨ (lexR a.reverse b.reverse = 0 ∧ val a = val b) ∨ (lexR a.reverse b.reverse = 1 ∧ val b < val a) := by
  have key : ∀ (n : Nat) (a b : List Int), a.length = n → b.length = n → Limbs a → Limbs b →
    (lexR a.reverse b.reverse = -1 ∧ val a < val b) ∨ (lexR a.reverse b.reverse = 0 ∧ val a = val b) ∨ (lexR a.reverse b.reverse = 1 ∧ val b < val a) := by
    intro n
    induction n with
    | zero =>
      intro a b ha hb _ _
      rw [List.eq_nil_of_length_eq_zero ha, List.eq_nil_of_length_eq_zero hb]
      exact .inr (.inl ⟨rfl, rfl⟩)
    | succ n ih =>
      intro a b ha hb la lb
      have split : ∀ {l : List Int}, l.length = n + 1 → l = l.take n ++ [l.getD n 0] := by
        intro l hl
        have : l.take (n + 1) = l := List.take_of_length_le (by omega)
        conv => lhs; rw [← this]
        rw [List.take_add_one, List.getD_eq_getElem?_getD, List.getElem?_eq_getElem (by omega)]; rfl
      have ea := split ha; have eb := split hb
      have lta : (a.take n).length = n := by simp; omega
      have ltb : (b.take n).length = n := by simp; omega
      have i := ih (a.take n) (b.take n) lta ltb (la.take n) (lb.take n)
      have va := val_nonneg (la.take n); have vb := val_nonneg (lb.take n)
      have wa := val_lt (la.take n); have wb := val_lt (lb.take n)
      rw [lta] at wa; rw [ltb] at wb
      have e1 : val a = val (a.take n) + 1000000000 ^ n * a.getD n 0 := by conv => lhs; rw [ea, val_snoc, lta]
      have e2 : val b = val (b.take n) + 1000000000 ^ n * b.getD n 0 := by conv => lhs; rw [eb, val_snoc, ltb]
      have r1 : a.reverse = a.getD n 0 :: (a.take n).reverse := (congrArg List.reverse ea).trans (by simp)
      have r2 : b.reverse = b.getD n 0 :: (b.take n).reverse := (congrArg List.reverse eb).trans (by simp)
      rw [r1, r2, lexR]
      have pow : (0 : Int) < 1000000000 ^ n := Int.pow_pos (by decide)
      by_cases h1 : a.getD n 0 < b.getD n 0
      · rw [if_pos h1]
        refine .inl ⟨rfl, ?_⟩
        have : (1000000000 : Int) ^ n * (a.getD n 0 + 1) ≤ 1000000000 ^ n * b.getD n 0 := Int.mul_le_mul_of_nonneg_left (by omega) (by omega)
        rw [Int.mul_add, Int.mul_one] at this
        omega
      · rw [if_neg h1]
        by_cases h2 : b.getD n 0 < a.getD n 0
        · rw [if_pos h2]
          refine .inr (.inr ⟨rfl, ?_⟩)
          have : (1000000000 : Int) ^ n * (b.getD n 0 + 1) ≤ 1000000000 ^ n * a.getD n 0 := Int.mul_le_mul_of_nonneg_left (by omega) (by omega)
          rw [Int.mul_add, Int.mul_one] at this
          omega
        · rw [if_neg h2]
          have he : a.getD n 0 = b.getD n 0 := by omega
          rw [e1, e2, he]
          rcases i with ⟨h, h'⟩ | ⟨h, h'⟩ | ⟨h, h'⟩
          · exact .inl ⟨h, by omega⟩
          · exact .inr (.inl ⟨h, by omega⟩)
          · exact .inr (.inr ⟨h, by omega⟩)
  intro a b hl la lb
  exact key _ a b rfl hl.symm la lb
theorem canon_len {a b : List Int} (ha : Canon a) (hb : Canon b) (h : a.length < b.length) : val a < val b := by
  have h1 := val_lt ha.1
  have hb0 : b ≠ [] := by intro e; subst e; simp at h
  obtain ⟨n, hn⟩ : ∃ n, b.length = n + 1 := ⟨b.length - 1, by omega⟩
  have eb : b = b.take n ++ [b.getD n 0] := by
    have : b.take (n + 1) = b := List.take_of_length_le (by omega)
    conv => lhs; rw [← this]
    rw [List.take_add_one, List.getD_eq_getElem?_getD, List.getElem?_eq_getElem (by omega)]; rfl
  have hlast : b.getD n 0 ≠ 0 := by
    have := hb.2
    rw [eb] at this
    simpa using this
  have hp := hb.1.getD n
  have ltb : (b.take n).length = n := by simp; omega
  have e2 : val b = val (b.take n) + 1000000000 ^ n * b.getD n 0 := by conv => lhs; rw [eb, val_snoc, ltb]
  have v0 := val_nonneg (hb.1.take n)
  have p1 : (1000000000 : Int) ^ n * 1 ≤ 1000000000 ^ n * b.getD n 0 := Int.mul_le_mul_of_nonneg_left (by omega) (Int.le_of_lt (Int.pow_pos (by decide)))
  have p2 : (1000000000 : Int) ^ a.length ≤ 1000000000 ^ n := by
    have : (1000000000 : Nat) ^ a.length ≤ 1000000000 ^ n := Nat.pow_le_pow_right (by decide) (by omega)
    have := Int.ofNat_le.2 this
    simpa using this
  omega
theorem cmpL_val {a b : List Int} (ha : Canon a) (hb : Canon b) : (cmpL a b = -1 ∧ val a < val b) ∨ (cmpL a b = 0 ∧ val a = val b) ∨ (cmpL a b = 1 ∧ val b < val a) := by
  unfold cmpL
  by_cases h1 : a.length < b.length
  · rw [if_pos h1]; exact .inl ⟨rfl, canon_len ha hb h1⟩
  · rw [if_neg h1]
    by_cases h2 : b.length < a.length
    · rw [if_pos h2]; exact .inr (.inr ⟨rfl, canon_len hb ha h2⟩)
    · rw [if_neg h2]
      exact lex_val a b (by omega) ha.1 hb.1
end Go.Proofs.YtfehpaekbbmkcaaGreatDoor

namespace Go.Proofs.YtfehpaekbbmkcaaGreatDoor
open Go Go.Proofs.YtfehpaekbbmkcaaGreatDoor.Sx
set_option linter.unusedVariables false
set_option linter.unusedSimpArgs false
theorem sliceT_int : sliceT P T_s_int T_int (.int .i64 0) 1 8 := ⟨by kernel_rfl, by kernel_rfl, rfl, by decide⟩
theorem run_append_none {P : Program} (w : World) (base : Nat) (t ty e : TypeId) (i : TypeInfo) (size : Nat) (ht : P.underlying t = some (.slice e)) (hi : P.info? e = some i)
    (v : Value) (n c : Nat) (xs : List Value) (hown : w.ownsRow base e size v n xs) :
    (Builtin.append_ #[t, t] ty #[v, .slice none 0 c]).run P w = .ok v w := by
  rcases hown.2 with ⟨rfl, rfl⟩ | ⟨g, cap, cur, rfl, _, _, hnc, _⟩
  · simp [Builtin.append_, run_underlying ht, sizeOf, typeInfo, hi, Builtin.lenOf, Builtin.firstCells]
  · simp [Builtin.append_, run_underlying ht, sizeOf, typeInfo, hi, Builtin.lenOf, Builtin.firstCells, hnc, storeCells]
theorem Sx.Own.appendI {w : World} {base : Nat} {p q : Option Addr} {n c m d : Nat} {zs ys : List Int} (h : Own w base T_int 1 p n c (zs.map (Value.int .i64))) (hb : base ≤ w.heap.size) (k : IntsR w q m d ys) (hn : n + m ≤ 100000000) :
    ∃ p' c' w', Appends P [T_s_int, T_s_int] [.slice p n c, .slice q m d] (.slice p' (n + m) c') w w' ∧ Own w' base T_int 1 p' (n + m) c' ((zs ++ ys).map (Value.int .i64)) ∧
      (∀ w0, Ext w0 w → w0.heap.size ≤ base → Ext w0 w') := by
  obtain ⟨hu, hi, hz, hs⟩ := sliceT_int
  cases hinf : P.info? T_int with
  | none => rw [hinf] at hi; cases hi
  | some i =>
    rw [hinf] at hi
    simp only [Option.map_some, Option.some.injEq, Prod.mk.injEq] at hi
    cases q with
    | none =>
      have hm : m = 0 := by
        rcases Nat.eq_zero_or_pos m with h0 | h0
        · exact h0
        · obtain ⟨b, off, hp, _⟩ := k.2.2.2 h0; cases hp
      subst hm
      have : ys = [] := List.eq_nil_of_length_eq_zero k.1
      subst this
      exact ⟨p, c, w, run_append_none w base T_s_int 0 T_int i 1 hu hinf _ n d _ h, by simpa using h, fun w0 h _ => h⟩
    | some a =>
      have hcells : ∀ j u, (ys.map (Value.int .i64))[j]? = some u → w.cell? (a.add j) = some u := by
        intro j u hj
        have hl : j < m := by
          have := (List.getElem?_eq_some_iff.1 hj).1
          rw [List.length_map, k.1] at this; exact this
        obtain ⟨b, off, hp, hseg⟩ := k.2.2.2 (by omega)
        cases hp
        rw [addr_add]
        exact hseg j u hj
      have hmax : n + m ≤ maxLen := by simp only [maxLen]; omega
      obtain ⟨v', w', hrun, hown, hgr, _⟩ := run_append_own (P := P) w base T_s_int 0 T_int i (.int .i64 0) 1 8 hu hinf hi.1 hi.2.1 hi.2.2 hz hs (.slice p n c) n (zs.map (Value.int .i64)) h a m d (ys.map (Value.int .i64)) (by simp [k.1])
        hcells (by simp [Value.oneCell']) hmax (by omega) hb
      have hlt := World.ownsRow.lt h
      have hv : ∃ p' c', v' = .slice p' (n + m) c' := by
        rcases hown.2 with ⟨e1, e2⟩ | ⟨g, cap, cur, e1, _⟩
        · exact ⟨none, 0, by rw [e1, e2]⟩
        · exact ⟨_, _, e1⟩
      obtain ⟨p', c', rfl⟩ := hv
      have hob : (Value.slice p n c).ownBlock = p.map (·.block) := by cases p <;> rfl
      refine ⟨p', c', w', hrun, by rw [List.map_append]; exact hown, fun w0 hx hb0 => ?_⟩
      refine hx.chg (S := (p.map (·.block)).toList) ⟨hgr.os, hgr.tape, hgr.output, hgr.size, fun k hk hn => hgr.block k hk ?_⟩ ?_
      · rw [hob]; intro e; rw [← e] at hn; simp at hn
      · intro x hx'
        have := (hlt x (by rw [hob]; cases p <;> simp_all)).1
        omega
theorem Sx.Own.push {w w1 : World} {base : Nat} {p : Option Addr} {n c r : Nat} {zs : List Int} {x : Int} (h : Own w base T_int 1 p n c (zs.map (Value.int .i64))) (hb : base ≤ w.heap.size) (hn : New w (.cells ⟨[.int .i64 x]⟩ T_int (0, 0)) r w1) (hlen : n ≤ 99999999) :
    ∃ p' c' w', Appends P [T_s_int, T_s_int] [.slice p n c, .slice (some ⟨r, 0, none⟩) 1 1] (.slice p' (n + 1) c') w1 w' ∧ Own w' base T_int 1 p' (n + 1) c' ((zs ++ [x]).map (Value.int .i64)) ∧
      (∀ w0, Ext w0 w → w0.heap.size ≤ base → Ext w0 w') := by
  obtain ⟨p', c', w', h1, h2, h3⟩ := Own.appendI (h.ext hn.ext) (by have := hn.ext.le; omega) (q := some ⟨r, 0, none⟩) (m := 1) (d := 1) (ys := [x]) ⟨rfl, Nat.le_refl _, by omega, fun _ => ⟨r, 0, rfl, hn.blk.seg⟩⟩ (by omega)
  exact ⟨p', c', w', h1, h2, fun w0 hx hb0 => h3 w0 (hx.trans hn.ext) hb0⟩
theorem Sx.Own.fresh {w w1 : World} {r : Nat} (hn : New w (.cells ⟨[]⟩ T_int (0, 0)) r w1) : Own w1 w.heap.size T_int 1 (some ⟨r, 0, none⟩) 0 0 (([] : List Int).map (Value.int .i64)) :=
  Own.of_blk (n := 0) hn.blk (by rw [hn.r_eq]; exact Nat.le_refl _) rfl (by simp [maxLen])
theorem Sx.Own.sub {w : World} {base : Nat} {p : Option Addr} {n c m : Nat} {zs : List Int} (h : Own w base T_int 1 p n c (zs.map (Value.int .i64))) (hm : m ≤ n) : Own w base T_int 1 p m c ((zs.take m).map (Value.int .i64)) := by
  have hl := h.1
  simp only [List.length_map, Nat.mul_one] at hl
  refine ⟨by simp; omega, ?_⟩
  rcases h.2 with ⟨h1, h2⟩ | ⟨g, cap, cur, h1, h2, h3, h4, h5, h6, h7⟩
  · simp only [Value.slice.injEq] at h1
    left
    exact ⟨by rw [h1.1, h1.2.2, show m = 0 by omega], by omega⟩
  · simp only [Value.slice.injEq] at h1
    right
    refine ⟨g, cap, cur, by rw [h1.1, h1.2.2], h2, h3, by omega, h5, h6, ?_⟩
    rw [List.map_take, ← h7, List.take_take]
    congr 1
    omega
theorem Sx.IntsR.sub {w : World} {p : Option Addr} {n c m : Nat} {zs : List Int} (h : IntsR w p n c zs) (hm : m ≤ n) : IntsR w p m c (zs.take m) :=
  ⟨by simp [h.1]; omega, by have := h.2.1; omega, h.2.2.1, fun h0 => let ⟨b, off, hp, hs⟩ := h.2.2.2 (by omega); ⟨b, off, hp, by rw [List.map_take]; exact hs.take m⟩⟩
theorem sub0 (p : Option Addr) (c : Nat) : Sx.sub p 0 c 1 = p := by
  unfold Sx.sub
  split
  · rfl
  · cases p <;> simp [Addr.add]
theorem spec_l02Trim_c {w : World} {p : Option Addr} {n c : Nat} {zs : List Int} (h : IntsR w p n c zs) : Ret P n_spec_l02Trim [.slice p n c] w fun v w' => v = .slice p (trimL zs).length c ∧ w' = w ∧ IntsR w p (trimL zs).length c (trimL zs) := by
  refine spec_l02Trim_ret ?_
  unfold spec_l02Trim
  have hlen := h.1; have hcap := h.2.1; have hcm := h.2.2.1
  have fin : ∀ k : Nat, k ≤ n → trimL zs = zs.take k → (trimL zs).length = k ∧ IntsR w p (trimL zs).length c (trimL zs) := fun k hk e => by
    have : (trimL zs).length = k := by rw [e]; simp; omega
    exact ⟨this, by rw [this, e]; exact h.sub hk⟩
  refine ⟨fun i wr => ∃ k : Nat, i = k ∧ k ≤ n ∧ wr = w ∧ trimL zs = trimL (zs.take k), fun i _ => i.toNat, ⟨n, rfl, Nat.le_refl _, rfl, by rw [List.take_of_length_le (by omega)]⟩, ?_⟩
  intro junk wr i ⟨k, hik, hk, hw, ht⟩
  subst hik; subst hw
  refine ifD (fun hpos => ?_) (fun h0 => ifF ?_)
  · obtain ⟨a, rfl, hl⟩ := ints_at h (i := (k : Int) - 1) (by omega) (by omega)
    have e : ((k : Int) - 1).toNat = k - 1 := by omega
    have ek : k = (k - 1) + 1 := by omega
    have htk := trimL_take (l := zs) (k := k - 1) (by omega)
    rw [← ek] at htk
    refine exW ⟨by omega, by omega⟩ ⟨⟨by omega, by omega⟩, _, hl, ifD (fun hz => ?_) (fun hz => ?_)⟩
    · rw [e] at hz
      rw [if_pos hz] at htk
      exact exW ⟨by omega, by omega⟩ ⟨⟨k - 1, by omega, by omega, rfl, ht.trans htk⟩, by show ((k : Int) - 1).toNat < (k : Int).toNat; omega⟩
    · rw [e] at hz
      rw [if_neg hz] at htk
      obtain ⟨f1, f2⟩ := fin k hk (ht.trans htk)
      refine ⟨⟨by omega, by omega⟩, ?_, rfl, f2⟩
      rw [sub0, f1]; rfl
  · obtain ⟨f1, f2⟩ := fin 0 (by omega) (by rw [ht, show k = 0 by omega]; rfl)
    refine ⟨⟨by omega, by omega⟩, ?_, rfl, f2⟩
    rw [sub0, f1, show k = 0 by omega]; rfl
theorem impl_trim_c {w : World} {p : Option Addr} {n c : Nat} {zs : List Int} (h : IntsR w p n c zs) : Ret P n_impl_trim [.slice p n c] w fun v w' => v = .slice p (trimL zs).length c ∧ w' = w ∧ IntsR w p (trimL zs).length c (trimL zs) := by
  refine impl_trim_ret ?_
  unfold impl_trim
  have hlen := h.1; have hcap := h.2.1; have hcm := h.2.2.1
  have fin : ∀ k : Nat, k ≤ n → trimL zs = zs.take k → (trimL zs).length = k ∧ IntsR w p (trimL zs).length c (trimL zs) := fun k hk e => by
    have : (trimL zs).length = k := by rw [e]; simp; omega
    exact ⟨this, by rw [this, e]; exact h.sub hk⟩
  refine ⟨fun q k d wr => q = p ∧ d = c ∧ k ≤ n ∧ wr = w ∧ trimL zs = trimL (zs.take k), fun _ k _ _ => k, ⟨rfl, rfl, Nat.le_refl _, rfl, by rw [List.take_of_length_le (by omega)]⟩, ?_⟩
  intro junk wr q k d ⟨hq, hd, hk, hw, ht⟩
  subst hq; subst hd; subst hw
  refine ifD (fun hpos => ?_) (fun h0 => ifF ?_)
  · obtain ⟨a, rfl, hl⟩ := ints_at h (i := (k : Int) - 1) (by omega) (by omega)
    have e : ((k : Int) - 1).toNat = k - 1 := by omega
    have ek : k = (k - 1) + 1 := by omega
    have htk := trimL_take (l := zs) (k := k - 1) (by omega)
    rw [← ek] at htk
    refine exW ⟨by omega, by omega⟩ ⟨⟨by omega, by omega⟩, _, hl, ifD (fun hz => ?_) (fun hz => ?_)⟩
    · rw [e] at hz
      rw [if_pos hz] at htk
      refine exW ⟨by omega, by omega⟩ ⟨⟨by omega, by omega⟩, ⟨sub0 _ _, rfl, by omega, rfl, ?_⟩, by show ((k : Int) - 1).toNat - 0 < k; omega⟩
      rw [e]; exact ht.trans htk
    · rw [e] at hz
      rw [if_neg hz] at htk
      obtain ⟨f1, f2⟩ := fin k hk (ht.trans htk)
      exact ⟨by rw [f1], rfl, f2⟩
  · obtain ⟨f1, f2⟩ := fin 0 (by omega) (by rw [ht, show k = 0 by omega]; rfl)
    exact ⟨by rw [f1, show k = 0 by omega], rfl, f2⟩
def capL (l : List Int) : List Int := if l.length ≤ 50 then l else []
theorem spec_l02Cap_c {w : World} {p : Option Addr} {n c : Nat} {zs : List Int} (h : IntsR w p n c zs) : Ret P n_spec_l02Cap [.slice p n c] w fun v w' => ∃ p' n' c', v = .slice p' n' c' ∧ w' = w ∧ IntsR w p' n' c' (capL (trimL zs)) := by
  refine spec_l02Cap_ret ?_
  unfold spec_l02Cap
  refine Ret.at (spec_l02Trim_c h) ?_
  rintro v w1 ⟨hv, hw, hr⟩
  subst hv; subst hw
  refine ⟨_, _, _, rfl, ifD (fun hgt => ?_) (fun hle => ?_)⟩
  · exact ⟨none, 0, 0, rfl, rfl, by rw [capL, if_neg (by omega)]; exact IntsR.nil _ _ (by omega)⟩
  · exact ⟨_, _, _, rfl, rfl, by rw [capL, if_pos (by omega)]; exact hr⟩
theorem impl_natCopy_c {w : World} {p : Option Addr} {n c : Nat} {zs : List Int} (h : IntsR w p n c zs) (hn : n ≤ 100000000) : Ret P n_impl_natCopy [.slice p n c] w fun v w' => ∃ p' c', v = .slice p' n c' ∧ Own w' w.heap.size T_int 1 p' n c' (zs.map (Value.int .i64)) ∧ Ext w w' := by
  refine impl_natCopy_ret ?_
  unfold impl_natCopy
  intro r w1 hn1
  obtain ⟨p', c', w', h1, h2, h3⟩ := Own.appendI (Own.fresh hn1) hn1.ext.le (h.ext hn1.ext) (by omega)
  rw [Nat.zero_add] at h1 h2
  exact ⟨_, _, _, _, h1, _, _, rfl, by simpa using h2, h3 w hn1.ext (Nat.le_refl _)⟩
end Go.Proofs.YtfehpaekbbmkcaaGreatDoor

namespace Go.Proofs.YtfehpaekbbmkcaaGreatDoor
open Go Go.Proofs.YtfehpaekbbmkcaaGreatDoor.Sx
set_option linter.unusedVariables false
set_option linter.unusedSimpArgs false
theorem tmod_limb {t : Int} (h : 0 ≤ t) : Int.tmod t 1000000000 = t % 1000000000 := Int.tmod_eq_emod_of_nonneg h
theorem tdiv_limb {t : Int} (h : 0 ≤ t) : Int.tdiv t 1000000000 = t / 1000000000 := Int.tdiv_eq_ediv_of_nonneg h
theorem add_step {a b o : List Int} {k : Nat} {carry t : Int} (hl : o.length = k) (hv : val o + 1000000000 ^ k * carry = val (a.take k) + val (b.take k)) (ht : t = carry + a.getD k 0 + b.getD k 0) :
    val (o ++ [t % 1000000000]) + 1000000000 ^ (k + 1) * (t / 1000000000) = val (a.take (k + 1)) + val (b.take (k + 1)) := by
  rw [val_snoc, hl, val_take_succ, val_take_succ, Int.pow_succ, Int.mul_assoc]
  have e : (1000000000 : Int) ^ k * (t % 1000000000) + 1000000000 ^ k * (1000000000 * (t / 1000000000)) = 1000000000 ^ k * t := by
    rw [← Int.mul_add]; congr 1; omega
  have e2 : (1000000000 : Int) ^ k * t = 1000000000 ^ k * carry + 1000000000 ^ k * a.getD k 0 + 1000000000 ^ k * b.getD k 0 := by
    rw [ht, Int.mul_add, Int.mul_add]
  omega
theorem limb_mod (t : Int) : 0 ≤ t % 1000000000 ∧ t % 1000000000 < 1000000000 := by omega
theorem Limbs.snoc {o : List Int} {x : Int} (h : Limbs o) (hx : 0 ≤ x ∧ x < 1000000000) : Limbs (o ++ [x]) := Limbs.append.2 ⟨h, Limbs.cons.2 ⟨hx, Limbs.nil⟩⟩
def AddInv (w : World) (a b : List Int) (p : Option Addr) (n c : Nat) (carry i : Int) (wr : World) : Prop :=
 ∃ (k : Nat) (o : List Int), i = k ∧ n = k ∧ k ≤ a.length + b.length ∧ Own wr w.heap.size T_int 1 p n c (o.map (Value.int .i64)) ∧ Ext w wr ∧ Limbs o ∧ o.length = k ∧ 0 ≤ carry ∧ carry ≤ 1 ∧ val o + 1000000000 ^ k * carry = val (a.take k) + val (b.take k)
theorem impl_natAdd_c {w : World} {p q : Option Addr} {n c m d : Nat} {a b : List Int} (h : IntsR w p n c a) (k : IntsR w q m d b) (ha : Limbs a) (hb : Limbs b) (hn : n ≤ 10000000) (hm : m ≤ 10000000) :
    Ret P n_impl_natAdd [.slice p n c, .slice q m d] w fun v w' => ∃ p' n' c', v = .slice p' n' c' ∧ Own w' w.heap.size T_int 1 p' n' c' ((digs (val a + val b).toNat).map (Value.int .i64)) ∧ Ext w w' := by
  refine impl_natAdd_ret ?_
  unfold impl_natAdd
  have hla := h.1; have hlb := k.1
  obtain ⟨M, hM⟩ : ∃ M : Nat, M = max n m := ⟨_, rfl⟩
  have e12 : (if ((m : Nat) : Int) > ((n : Nat) : Int) then ((m : Nat) : Int) else ((n : Nat) : Int)) = M := by split <;> omega
  refine ⟨_, rfl, ?_⟩
  rw [e12]
  refine exW ⟨by omega, by omega⟩ ⟨⟨by omega, by omega, by omega⟩, fun r w1 hn1 => ?_⟩
  refine ⟨AddInv w a b, fun _ _ _ _ i _ => M + 1 - i.toNat, ⟨0, [], rfl, rfl, by omega, ?_, hn1.ext, Limbs.nil, rfl, by omega, by omega, by simp [val]⟩, ?_⟩
  · exact Own.of_blk0 (n := ((M : Int) + 1).toNat) hn1.blk (by rw [hn1.r_eq]; exact Nat.le_refl _) (by simp [zeroRow]) (by simp only [maxLen]; omega)
  intro junk wr op on oc carry i ⟨j, o, hi, hon, hkl, hown, hx, hlo, hol, hc0, hc1, hv⟩
  subst hi; subst hon
  have A := ha.getD on; have B := hb.getD on
  have ab : (on : Int) < n ∨ a.getD on 0 = 0 := by
    by_cases e : on < n
    · left; omega
    · right; exact getD_beyond (by omega)
  have bb : (on : Int) < m ∨ b.getD on 0 = 0 := by
    by_cases e : on < m
    · left; omega
    · right; exact getD_beyond (by omega)
  have J1 : ∀ t, t = carry + a.getD on 0 + b.getD on 0 → (on : Int) < M → impl_natAdd_j1 wr (AddInv w a b) (fun _ _ _ _ i _ => M + 1 - i.toNat) op on oc carry on t wr fun v w' => ∃ p' n' c', v = .slice p' n' c' ∧ Own w' w.heap.size T_int 1 p' n' c' ((digs (val a + val b).toNat).map (Value.int .i64)) ∧ Ext w w' := by
    intro t ht hlt
    unfold impl_natAdd_j1
    refine ⟨by decide, _, rfl, fun r1 w2 hn2 => ?_⟩
    rw [tmod_limb (by omega)] at hn2
    obtain ⟨p', c', w3, h1, h2, h3⟩ := Own.push hown hx.le hn2 (by omega)
    refine ⟨_, _, _, _, h1, by decide, ?_⟩
    rw [tdiv_limb (by omega)]
    refine exW ⟨by omega, by omega⟩ (exW ⟨by omega, by omega⟩ ⟨⟨on + 1, o ++ [t % 1000000000], by omega, rfl, by omega, h2, h3 w hx (Nat.le_refl _), hlo.snoc (limb_mod t), by simp [hol], by omega, by omega, add_step hol hv ht⟩, ?_⟩)
    show M + 1 - ((on : Int) + 1).toNat < M + 1 - (on : Int).toNat
    omega
  have J0 : ∀ t, t = carry + a.getD on 0 → (on : Int) < M → impl_natAdd_j0 q m wr (AddInv w a b) (fun _ _ _ _ i _ => M + 1 - i.toNat) op on oc carry on t wr fun v w' => ∃ p' n' c', v = .slice p' n' c' ∧ Own w' w.heap.size T_int 1 p' n' c' ((digs (val a + val b).toNat).map (Value.int .i64)) ∧ Ext w w' := by
    intro t ht hlt
    unfold impl_natAdd_j0
    refine ifD (fun hlm => ?_) (fun hge => J1 _ (by rw [bb.resolve_left hge]; omega) hlt)
    obtain ⟨ad, rfl, hl⟩ := ints_at (k.ext hx) (i := (on : Int)) (by omega) hlm
    exact ⟨⟨by omega, by omega⟩, _, hl, exW ⟨by simp only [Int.toNat_natCast]; omega, by simp only [Int.toNat_natCast]; omega⟩ (J1 _ (by simp only [Int.toNat_natCast]; omega) hlt)⟩
  refine ⟨_, rfl, ?_⟩
  refine ifD (fun hlt => ifD (fun hln => ?_) (fun hge => J0 _ (by rw [ab.resolve_left hge]; omega) hlt)) (fun hge => ?_)
  · obtain ⟨ad, rfl, hl⟩ := ints_at (h.ext hx) (i := (on : Int)) (by omega) hln
    exact ⟨⟨by omega, by omega⟩, _, hl, exW ⟨by simp only [Int.toNat_natCast]; omega, by simp only [Int.toNat_natCast]; omega⟩ (J0 _ (by simp only [Int.toNat_natCast]) hlt)⟩
  · intro r2 w2 hn2
    have hk : on ≤ 20000000 := by omega
    obtain ⟨p', c', w3, h1, h2, h3⟩ := Own.push hown hx.le hn2 (by omega)
    refine ⟨_, _, _, _, h1, ?_⟩
    have hlim : Limbs (o ++ [carry]) := hlo.snoc (by omega)
    have hval : val (o ++ [carry]) = val a + val b := by
      rw [val_snoc, hol, hv, List.take_of_length_le (by omega), List.take_of_length_le (by omega)]
    refine Ret.at (impl_trim_c h2.ints) ?_
    rintro v w4 ⟨hv4, hw4, hr4⟩
    subst hv4; subst hw4
    refine ⟨_, _, _, rfl, _, _, _, rfl, ?_, h3 w hx (Nat.le_refl _)⟩
    have e := trimL_eq hlim
    rw [hval] at e
    rw [← e]
    have hle := trimL_len (o ++ [carry])
    have := h2.sub (m := (trimL (o ++ [carry])).length) (by simp [hol] at hle ⊢; omega)
    rwa [← trimL_prefix] at this
theorem sub_step {a b o : List Int} {k : Nat} {less t u less' : Int} (hl : o.length = k) (hv : val o - 1000000000 ^ k * less = val (a.take k) - val (b.take k)) (ht : t = a.getD k 0 - less - b.getD k 0) (hu : u = t + 1000000000 * less') :
    val (o ++ [u]) - 1000000000 ^ (k + 1) * less' = val (a.take (k + 1)) - val (b.take (k + 1)) := by
  rw [val_snoc, hl, val_take_succ, val_take_succ, Int.pow_succ, Int.mul_assoc]
  have e2 : (1000000000 : Int) ^ k * u = 1000000000 ^ k * a.getD k 0 - 1000000000 ^ k * less - 1000000000 ^ k * b.getD k 0 + 1000000000 ^ k * (1000000000 * less') := by
    rw [hu, ht, Int.mul_add, Int.mul_sub, Int.mul_sub]
  omega
theorem sub_end {a b o : List Int} {less : Int} (hlo : Limbs o) (ho : o.length = a.length) (hbl : b.length ≤ a.length) (hab : val b ≤ val a) (h0 : 0 ≤ less) (h1 : less ≤ 1)
    (hv : val o - 1000000000 ^ a.length * less = val (a.take a.length) - val (b.take a.length)) : val o = val a - val b := by
  rw [List.take_of_length_le (Nat.le_refl _), List.take_of_length_le hbl] at hv
  have h := val_lt hlo
  rw [ho] at h
  have : less = 0 ∨ less = 1 := by omega
  rcases this with e | e
  · subst e; omega
  · subst e; omega
theorem impl_natSub_c {w : World} {p q : Option Addr} {n c m d : Nat} {a b : List Int} (h : IntsR w p n c a) (k : IntsR w q m d b) (ha : Limbs a) (hb : Limbs b) (hn : n ≤ 10000000) (hbl : m ≤ n) (hab : val b ≤ val a) :
    Ret P n_impl_natSub [.slice p n c, .slice q m d] w fun v w' => ∃ p' n' c', v = .slice p' n' c' ∧ Own w' w.heap.size T_int 1 p' n' c' ((digs (val a - val b).toNat).map (Value.int .i64)) ∧ Ext w w' := by
  refine impl_natSub_ret ?_
  unfold impl_natSub
  have hla := h.1; have hlb := k.1
  refine ⟨⟨by omega, by omega, by omega⟩, fun r w1 hn1 => ?_⟩
  have hre := hn1.r_eq
  let Inv : Int → Int → World → Prop := fun less i wr => ∃ (j : Nat) (o : List Int), i = j ∧ j ≤ n ∧ Blk wr r T_int (o.map (Value.int .i64) ++ List.replicate (n - j) (Value.int .i64 0)) ∧ Ext w wr ∧ Limbs o ∧ o.length = j ∧ 0 ≤ less ∧ less ≤ 1 ∧ val o - 1000000000 ^ j * less = val (a.take j) - val (b.take j)
  refine ⟨Inv, fun _ i _ => n - i.toNat, ⟨0, [], rfl, by omega, ?_, hn1.ext, Limbs.nil, rfl, by omega, by omega, by simp [val]⟩, ?_⟩
  · have := hn1.blk
    rw [zeroRow_int, Nat.mul_one] at this
    simpa using this
  intro junk wr less i ⟨j, o, hi, hjn, hblk, hx, hlo, hol, hc0, hc1, hv⟩
  subst hi
  have A := ha.getD j; have B := hb.getD j
  have bb : (j : Int) < m ∨ b.getD j 0 = 0 := by
    by_cases e : j < m
    · left; omega
    · right; exact getD_beyond (by omega)
  have J1 : ∀ l' u, (j : Int) < n → u = a.getD j 0 - less - b.getD j 0 + 1000000000 * l' → 0 ≤ u → u < 1000000000 → 0 ≤ l' → l' ≤ 1 →
      impl_natSub_j1 n r wr Inv (fun _ i _ => n - i.toNat) less j l' u wr fun v w' => ∃ p' n' c', v = .slice p' n' c' ∧ Own w' w.heap.size T_int 1 p' n' c' ((digs (val a - val b).toNat).map (Value.int .i64)) ∧ Ext w w' := by
    intro l' u hlt hu h0 h1 h2 h3
    unfold impl_natSub_j1
    have hlen : (o.map (Value.int .i64) ++ List.replicate (n - j) (Value.int .i64 0)).length = n := by simp [hol]; omega
    obtain ⟨w2, hst, hb2, hc, hs⟩ := hblk.store (P := P) (t := T_int) (k := j) (v := .int .i64 u) (by kernel_rfl) (by omega) rfl
    refine ⟨⟨by omega, by omega⟩, w2, by simpa using hst, exW ⟨by omega, by omega⟩ ⟨⟨j + 1, o ++ [u], by omega, by omega, ?_, hx.chg hc (by simp; omega), hlo.snoc ⟨h0, h1⟩, by simp [hol], h2, h3, sub_step hol hv rfl hu⟩, ?_⟩⟩
    · rw [List.set_append_right _ _ (by simp [hol]), List.length_map, hol, Nat.sub_self] at hb2
      obtain ⟨z, hz⟩ : ∃ z, n - j = z + 1 := ⟨n - j - 1, by omega⟩
      rw [hz, List.replicate_succ, List.set_cons_zero] at hb2
      rw [show n - (j + 1) = z by omega]
      simpa using hb2
    · show n - ((j : Int) + 1).toNat < n - (j : Int).toNat
      omega
  have J0 : ∀ t, (j : Int) < n → t = a.getD j 0 - less - b.getD j 0 →
      impl_natSub_j0 n r wr Inv (fun _ i _ => n - i.toNat) less j t wr fun v w' => ∃ p' n' c', v = .slice p' n' c' ∧ Own w' w.heap.size T_int 1 p' n' c' ((digs (val a - val b).toNat).map (Value.int .i64)) ∧ Ext w w' := by
    intro t hlt ht
    unfold impl_natSub_j0
    exact ifD (fun hneg => exW ⟨by omega, by omega⟩ (J1 1 _ hlt (by omega) (by omega) (by omega) (by omega) (by omega))) (fun hpos => J1 0 _ hlt (by omega) (by omega) (by omega) (by omega) (by omega))
  refine ifD (fun hlt => ?_) (fun hge => ?_)
  · obtain ⟨ad, rfl, hl⟩ := ints_at (h.ext hx) (i := (j : Int)) (by omega) hlt
    refine ⟨⟨by omega, by omega⟩, _, hl, exW ⟨by simp only [Int.toNat_natCast]; omega, by simp only [Int.toNat_natCast]; omega⟩ (ifD (fun hlm => ?_) (fun hge => J0 _ hlt (by simp only [Int.toNat_natCast]; rw [bb.resolve_left hge]; omega)))⟩
    obtain ⟨ad2, rfl, hl2⟩ := ints_at (k.ext hx) (i := (j : Int)) (by omega) hlm
    exact ⟨⟨by omega, by omega⟩, _, hl2, exW ⟨by simp only [Int.toNat_natCast]; omega, by simp only [Int.toNat_natCast]; omega⟩ (J0 _ hlt (by simp only [Int.toNat_natCast]))⟩
  · have hjn' : j = n := by omega
    subst hjn'
    rw [Nat.sub_self, List.replicate_zero, List.append_nil] at hblk
    have hown : Own wr w.heap.size T_int 1 (some ⟨r, 0, none⟩) j j (o.map (Value.int .i64)) := Own.of_blk hblk (by omega) (by simp [hol]) (by simp only [maxLen]; omega)
    rw [← hla] at hv
    have hval := sub_end hlo (by omega) (by omega) hab hc0 hc1 hv
    refine Ret.at (impl_trim_c hown.ints) ?_
    rintro v w4 ⟨hv4, hw4, hr4⟩
    subst hv4; subst hw4
    refine ⟨_, _, _, rfl, _, _, _, rfl, ?_, hx⟩
    have e := trimL_eq hlo
    rw [hval] at e
    rw [← e]
    have hle := trimL_len o
    have := hown.sub (m := (trimL o).length) (by omega)
    rwa [← trimL_prefix] at this
theorem spec_l02Sub_c {w : World} {p q : Option Addr} {n c m d : Nat} {a b : List Int} (h : IntsR w p n c a) (k : IntsR w q m d b) (ha : Limbs a) (hb : Limbs b) (hn : n ≤ 10000000) (hbl : m ≤ n) (hab : val b ≤ val a) :
    Ret P n_spec_l02Sub [.slice p n c, .slice q m d] w fun v w' => ∃ p' n' c', v = .slice p' n' c' ∧ IntsR w' p' n' c' (digs (val a - val b).toNat) ∧ Ext w w' := by
  refine spec_l02Sub_ret ?_
  unfold spec_l02Sub
  have hla := h.1; have hlb := k.1
  intro r w1 hn1
  let Inv : Option Addr → Nat → Nat → Int → Int → World → Prop := fun p on c less i wr => ∃ (o : List Int), i = on ∧ on ≤ n ∧ Own wr w.heap.size T_int 1 p on c (o.map (Value.int .i64)) ∧ Ext w wr ∧ Limbs o ∧ o.length = on ∧ 0 ≤ less ∧ less ≤ 1 ∧ val o - 1000000000 ^ on * less = val (a.take on) - val (b.take on)
  refine ⟨Inv, fun _ _ _ _ i _ => n - i.toNat, ⟨[], rfl, by omega, Own.fresh hn1, hn1.ext, Limbs.nil, rfl, by omega, by omega, by simp [val]⟩, ?_⟩
  intro junk wr op j oc less i ⟨o, hi, hjn, hown, hx, hlo, hol, hc0, hc1, hv⟩
  subst hi
  have A := ha.getD j; have B := hb.getD j
  have bb : (j : Int) < m ∨ b.getD j 0 = 0 := by
    by_cases e : j < m
    · left; omega
    · right; exact getD_beyond (by omega)
  have J1 : ∀ l' u, (j : Int) < n → u = a.getD j 0 - less - b.getD j 0 + 1000000000 * l' → 0 ≤ u → u < 1000000000 → 0 ≤ l' → l' ≤ 1 →
      spec_l02Sub_j1 wr Inv (fun _ _ _ _ i _ => n - i.toNat) op j oc less j l' u wr fun v w' => ∃ p' n' c', v = .slice p' n' c' ∧ IntsR w' p' n' c' (digs (val a - val b).toNat) ∧ Ext w w' := by
    intro l' u hlt hu h0 h1 h2 h3
    unfold spec_l02Sub_j1
    intro r1 w2 hn2
    obtain ⟨p', c', w3, g1, g2, g3⟩ := Own.push hown hx.le hn2 (by omega)
    refine ⟨_, _, _, _, g1, exW ⟨by omega, by omega⟩ ⟨⟨o ++ [u], by omega, by omega, g2, g3 w hx (Nat.le_refl _), hlo.snoc ⟨h0, h1⟩, by simp [hol], h2, h3, sub_step hol hv rfl hu⟩, ?_⟩⟩
    show n - ((j : Int) + 1).toNat < n - (j : Int).toNat
    omega
  have J0 : ∀ t, (j : Int) < n → t = a.getD j 0 - less - b.getD j 0 →
      spec_l02Sub_j0 wr Inv (fun _ _ _ _ i _ => n - i.toNat) op j oc less j t wr fun v w' => ∃ p' n' c', v = .slice p' n' c' ∧ IntsR w' p' n' c' (digs (val a - val b).toNat) ∧ Ext w w' := by
    intro t hlt ht
    unfold spec_l02Sub_j0
    exact ifD (fun hneg => exW ⟨by omega, by omega⟩ (J1 1 _ hlt (by omega) (by omega) (by omega) (by omega) (by omega))) (fun hpos => J1 0 _ hlt (by omega) (by omega) (by omega) (by omega) (by omega))
  refine ifD (fun hlt => ?_) (fun hge => ?_)
  · obtain ⟨ad, rfl, hl⟩ := ints_at (h.ext hx) (i := (j : Int)) (by omega) hlt
    refine ⟨⟨by omega, by omega⟩, _, hl, exW ⟨by simp only [Int.toNat_natCast]; omega, by simp only [Int.toNat_natCast]; omega⟩ (ifD (fun hlm => ?_) (fun hge => J0 _ hlt (by simp only [Int.toNat_natCast]; rw [bb.resolve_left hge]; omega)))⟩
    obtain ⟨ad2, rfl, hl2⟩ := ints_at (k.ext hx) (i := (j : Int)) (by omega) hlm
    exact ⟨⟨by omega, by omega⟩, _, hl2, exW ⟨by simp only [Int.toNat_natCast]; omega, by simp only [Int.toNat_natCast]; omega⟩ (J0 _ hlt (by simp only [Int.toNat_natCast]))⟩
  · have hjn' : j = n := by omega
    subst hjn'
    rw [← hla] at hv
    have hval := sub_end hlo (by omega) (by omega) hab hc0 hc1 hv
    refine Ret.at (spec_l02Trim_c hown.ints) ?_
    rintro v w4 ⟨hv4, hw4, hr4⟩
    subst hv4; subst hw4
    refine ⟨_, _, _, rfl, _, _, _, rfl, ?_, hx⟩
    have e := trimL_eq hlo
    rw [hval] at e
    rw [← e]
    exact hr4
theorem spec_l02Add_c {w : World} {p q : Option Addr} {n c m d : Nat} {a b : List Int} (h : IntsR w p n c a) (k : IntsR w q m d b) (ha : Limbs a) (hb : Limbs b) (hn : n ≤ 10000000) (hm : m ≤ 10000000) :
    Ret P n_spec_l02Add [.slice p n c, .slice q m d] w fun v w' => ∃ p' n' c' o, v = .slice p' n' c' ∧ IntsR w' p' n' c' o ∧ Limbs o ∧ n' ≤ n + m + 1 ∧ val o = val a + val b ∧ Ext w w' := by
  refine spec_l02Add_ret ?_
  unfold spec_l02Add
  have hla := h.1; have hlb := k.1
  intro r w1 hn1
  let Inv : Option Addr → Nat → Nat → Int → Int → World → Prop := fun p on c carry i wr => ∃ (o : List Int), i = on ∧ on ≤ n + m + 1 ∧ (0 < carry → on ≤ n + m) ∧ Own wr w.heap.size T_int 1 p on c (o.map (Value.int .i64)) ∧ Ext w wr ∧ Limbs o ∧ o.length = on ∧ 0 ≤ carry ∧ carry ≤ 1 ∧ val o + 1000000000 ^ on * carry = val (a.take on) + val (b.take on)
  refine ⟨Inv, fun _ _ _ _ i _ => n + m + 2 - i.toNat, ⟨[], rfl, by omega, by omega, Own.fresh hn1, hn1.ext, Limbs.nil, rfl, by omega, by omega, by simp [val]⟩, ?_⟩
  intro junk wr op j oc carry i ⟨o, hi, hjn, hcj, hown, hx, hlo, hol, hc0, hc1, hv⟩
  subst hi
  have A := ha.getD j; have B := hb.getD j
  have ab : (j : Int) < n ∨ a.getD j 0 = 0 := by
    by_cases e : j < n
    · left; omega
    · right; exact getD_beyond (by omega)
  have bb : (j : Int) < m ∨ b.getD j 0 = 0 := by
    by_cases e : j < m
    · left; omega
    · right; exact getD_beyond (by omega)
  have J2 : ∀ t, t = carry + a.getD j 0 + b.getD j 0 → (j < n ∨ j < m ∨ 0 < carry) → spec_l02Add_j2 wr Inv (fun _ _ _ _ i _ => n + m + 2 - i.toNat) op j oc carry j t wr fun v w' => ∃ p' n' c' o, v = .slice p' n' c' ∧ IntsR w' p' n' c' o ∧ Limbs o ∧ n' ≤ n + m + 1 ∧ val o = val a + val b ∧ Ext w w' := by
    intro t ht hlt
    unfold spec_l02Add_j2
    refine ⟨by decide, _, rfl, fun r1 w2 hn2 => ?_⟩
    rw [tmod_limb (by omega)] at hn2
    obtain ⟨p', c', w3, g1, g2, g3⟩ := Own.push hown hx.le hn2 (by omega)
    refine ⟨_, _, _, _, g1, by decide, ?_⟩
    rw [tdiv_limb (by omega)]
    have hcar : 0 < t / 1000000000 → j < n ∨ j < m := by
      intro h0
      by_cases e : j < n
      · exact .inl e
      · by_cases e2 : j < m
        · exact .inr e2
        · have e3 := ab.resolve_left (by omega); have e4 := bb.resolve_left (by omega)
          rw [e3, e4] at ht; omega
    refine exW ⟨by omega, by omega⟩ (exW ⟨by omega, by omega⟩ ⟨⟨o ++ [t % 1000000000], by omega, by rcases hlt with h | h | h <;> omega, fun h0 => by rcases hcar h0 with h | h <;> omega, g2, g3 w hx (Nat.le_refl _), hlo.snoc (limb_mod t), by simp [hol], by omega, by omega, add_step hol hv ht⟩, ?_⟩)
    show n + m + 2 - ((j : Int) + 1).toNat < n + m + 2 - (j : Int).toNat
    rcases hlt with h | h | h <;> omega
  have J1 : ∀ t, t = carry + a.getD j 0 → (j < n ∨ j < m ∨ 0 < carry) → spec_l02Add_j1 q m wr Inv (fun _ _ _ _ i _ => n + m + 2 - i.toNat) op j oc carry j t wr fun v w' => ∃ p' n' c' o, v = .slice p' n' c' ∧ IntsR w' p' n' c' o ∧ Limbs o ∧ n' ≤ n + m + 1 ∧ val o = val a + val b ∧ Ext w w' := by
    intro t ht hlt
    unfold spec_l02Add_j1
    refine ifD (fun hlm => ?_) (fun hge => J2 _ (by rw [bb.resolve_left hge]; omega) hlt)
    obtain ⟨ad, rfl, hl⟩ := ints_at (k.ext hx) (i := (j : Int)) (by omega) hlm
    exact ⟨⟨by omega, by omega⟩, _, hl, exW ⟨by simp only [Int.toNat_natCast]; omega, by simp only [Int.toNat_natCast]; omega⟩ (J2 _ (by simp only [Int.toNat_natCast]; omega) hlt)⟩
  have J0 : (j < n ∨ j < m ∨ 0 < carry) → spec_l02Add_j0 p n q m wr Inv (fun _ _ _ _ i _ => n + m + 2 - i.toNat) op j oc carry j wr fun v w' => ∃ p' n' c' o, v = .slice p' n' c' ∧ IntsR w' p' n' c' o ∧ Limbs o ∧ n' ≤ n + m + 1 ∧ val o = val a + val b ∧ Ext w w' := by
    intro hlt
    unfold spec_l02Add_j0
    refine ifD (fun hln => ?_) (fun hge => J1 _ (by rw [ab.resolve_left hge]; omega) hlt)
    obtain ⟨ad, hp, hl⟩ := ints_at (h.ext hx) (i := (j : Int)) (by omega) hln
    subst hp
    exact ⟨⟨by omega, by omega⟩, _, hl, exW ⟨by simp only [Int.toNat_natCast]; omega, by simp only [Int.toNat_natCast]; omega⟩ (J1 _ (by simp only [Int.toNat_natCast]) hlt)⟩
  have fin : ¬ (j : Int) < n → ¬ (j : Int) < m → ¬ 0 < carry → ∃ p' n' c' o, Value.slice op j oc = .slice p' n' c' ∧ IntsR wr p' n' c' o ∧ Limbs o ∧ n' ≤ n + m + 1 ∧ val o = val a + val b ∧ Ext w wr := by
    intro h1 h2 h3
    have hc : carry = 0 := by omega
    subst hc
    rw [List.take_of_length_le (by omega), List.take_of_length_le (by omega)] at hv
    exact ⟨_, _, _, o, rfl, hown.ints, hlo, hjn, by omega, hx⟩
  exact ifD (fun h1 => ifT (ifT (J0 (.inl (by omega))))) (fun h1 => ifD (fun h2 => ifT (J0 (.inr (.inl (by omega))))) (fun h2 => ifD (fun h3 => J0 (.inr (.inr h3))) (fun h3 => fin h1 h2 h3)))
end Go.Proofs.YtfehpaekbbmkcaaGreatDoor

namespace Go.Proofs.YtfehpaekbbmkcaaGreatDoor
open Go Go.Proofs.YtfehpaekbbmkcaaGreatDoor.Sx
set_option linter.unusedVariables false
set_option linter.unusedSimpArgs false
def mkS (neg : Bool) (m : List Int) : List D0 := [.bool (neg && !m.isEmpty), .ints m]
def enc (z : Int) : List D0 := [.bool (decide (z < 0)), .ints (digs z.natAbs)]
def ival : List D0 → Int
  | [.bool b, .ints z] => if b then - val z else val z
  | _ => 0
def icap (z : Int) : List D0 := mkS (decide (z < 0)) (capL (digs z.natAbs))
theorem isEmpty_digs {n : Nat} : (digs n).isEmpty = decide (n = 0) := by
  cases h : (digs n) with
  | nil => simp [digs_nil.1 h]
  | cons a r =>
    have : n ≠ 0 := fun e => by rw [digs_nil.2 e] at h; cases h
    simp [this]
theorem mkS_pos (n : Nat) : mkS false (digs n) = enc n := by
  simp [mkS, enc] <;> omega
theorem mkS_neg (n : Nat) : mkS true (digs n) = enc (-n) := by
  simp only [mkS, enc, isEmpty_digs, Bool.true_and, Int.natAbs_neg, Int.natAbs_natCast]
  by_cases h : n = 0
  · subst h; simp
  · simp [h]; omega
theorem enc_code (z : Int) : (enc z).map D0.code = [.bool, .ints] := rfl
theorem ival_enc (z : Int) : ival (enc z) = z := by
  simp only [ival, enc, val_digs]
  by_cases h : z < 0
  · simp [h]; omega
  · simp [h]; omega
theorem intOk_enc {d : List D0} (h : intOk d = true) : d = enc (ival d) ∧ ∃ b z, d = [.bool b, .ints z] ∧ Canon z ∧ z.length ≤ 50 := by
  match d, h with
  | [.bool b, .ints z], h =>
    simp only [intOk, Bool.and_eq_true, natOk_spec, Bool.or_eq_true, Bool.not_eq_true'] at h
    obtain ⟨⟨hc, hl⟩, hb⟩ := h
    refine ⟨?_, b, z, rfl, hc, hl⟩
    have hv := val_nonneg hc.1
    have hd := digs_val hc
    cases b with
    | false =>
      simp only [ival, enc, Bool.false_eq_true, if_false]
      rw [show (val z).natAbs = (val z).toNat by omega, hd]
      have : ¬ val z < 0 := by omega
      simp [this]
    | true =>
      have hne : z ≠ [] := by
        rcases hb with hb | hb
        · cases hb
        · cases z with
          | nil => simp at hb
          | cons a r => simp
      have hp := canon_pos hc hne
      simp only [ival, enc, if_true]
      rw [show (-val z).natAbs = (val z).toNat by omega, hd]
      have : -val z < 0 := by omega
      simp [hp]
theorem Sx.Owns.int2 {w : World} {B : Nat} {b : Bool} {p : Option Addr} {n c : Nat} {z : List Int} (h : Own w B T_int 1 p n c (z.map (Value.int .i64))) : Owns w B [.bool b, .slice p n c] [.bool b, .ints z] (p.map (·.block)).toList :=
  (Owns.bool w B b).append (Owns.ints h)
theorem nodup_opt (p : Option Addr) : ((p.map (·.block)).toList : List Nat).Nodup := by cases p <;> simp
theorem len_bool {z : List Int} {n : Nat} (h : z.length = n) : decide ((0 : Int) < (n : Nat)) = !z.isEmpty := intOk_len (b := true) h
theorem impl_signed_c {w : World} {neg : Bool} {p : Option Addr} {n c : Nat} {z : List Int} (hl : z.length = n) : Ret P n_impl_signed [.bool neg, .slice p n c] w fun v w' => v = .agg ⟨[.bool (neg && !z.isEmpty), .slice p n c]⟩ ∧ Ext w w' := by
  refine impl_signed_ret ?_
  unfold impl_signed
  intro r w1 hn
  refine ⟨fun e => ?_, fun e => ?_⟩
  · obtain ⟨w2, st, hb, y⟩ := hn.fill (P := P) (t := T_impl_Signed) (xs := [.bool (decide ((0 : Int) < (n : Nat))), .slice p n c]) (by simp [Value.oneCell']) (by kernel_rfl) rfl
    exact ⟨w2, st, _, _, _, _, hb.loadA0 (by kernel_rfl), by rw [len_bool hl, e]; rfl, y⟩
  · obtain ⟨w2, st, hb, y⟩ := hn.fill (P := P) (t := T_impl_Signed) (xs := [.bool false, .slice p n c]) (by simp [Value.oneCell']) (by kernel_rfl) rfl
    exact ⟨w2, st, _, _, _, _, hb.loadA0 (by kernel_rfl), by rw [e]; rfl, y⟩
theorem impl_intAdd_c {w : World} {xs ys : List Value} {x y : Int} (h : Reps w xs (enc x)) (k : Reps w ys (enc y)) (hx : (digs x.natAbs).length ≤ 10000000) (hy : (digs y.natAbs).length ≤ 10000000) :
    Ret P n_impl_intAdd [.agg ⟨xs⟩, .agg ⟨ys⟩] w fun v w' => ∃ p n c, v = .agg ⟨[.bool (decide (x + y < 0)), .slice p n c]⟩ ∧ Own w' w.heap.size T_int 1 p n c ((digs (x + y).natAbs).map (Value.int .i64)) ∧ Ext w w' := by
  obtain ⟨a0, a1p, a1n, a1c, a1z, rfl, hd, ha⟩ := open_Signed h rfl
  obtain ⟨b0, b1p, b1n, b1c, b1z, rfl, he, hb⟩ := open_Signed k rfl
  simp only [enc, List.cons.injEq, D0.bool.injEq, D0.ints.injEq, and_true] at hd he
  obtain ⟨rfl, rfl⟩ := hd
  obtain ⟨rfl, rfl⟩ := he
  have la := ha.1; have lb := hb.1
  have ca := digs_canon x.natAbs; have cb := digs_canon y.natAbs
  have va := val_digs x.natAbs; have vb := val_digs y.natAbs
  refine impl_intAdd_ret ?_
  unfold impl_intAdd
  intro r w1 hn1 r1 w2 hn2 r2 w3 hn3
  have X := (hn1.ext.trans hn2.ext).trans hn3.ext
  have e1 := hn1.r_eq; have e2 := hn2.r_eq; have e3 := hn3.r_eq; have s1 := hn1.size; have s2 := hn2.size; have s3 := hn3.size
  have k0 := (hn1.blk.ext hn2.ext).ext hn3.ext; have k1 := hn2.blk.ext hn3.ext; have k2 := hn3.blk
  -- the end of every way: the sign, and what was added or subtracted
  have fin : ∀ (W : World) (neg : Bool) (p : Option Addr) (n c : Nat) (m : Nat), Own W w.heap.size T_int 1 p n c ((digs m).map (Value.int .i64)) → Ext w W → Blk W r2 T_impl_Signed [.bool false, .slice none 0 0] → (∀ q, p.map (·.block) = some q → q ≠ r2) → m = (x + y).natAbs → (m ≠ 0 → neg = decide (x + y < 0)) →
      Calls P n_impl_signed ⟨[.bool neg, .slice p n c]⟩ W fun e_1 wv_7 => ∃ (t170 : Bool) (t171_p : Option Addr) (t171_n : Nat) (t171_c : Nat), e_1 = .returned (.agg #[(.bool t170), (.slice t171_p t171_n t171_c)]) ∧
        ∃ wv_8, Stores P T_impl_Signed ⟨r2, 0, none⟩ (.agg #[(.bool t170), (.slice t171_p t171_n t171_c)]) wv_7 wv_8 ∧
        ∃ (r0 : Bool) (r1_p : Option Addr) (r1_n : Nat) (r1_c : Nat), Loads P T_impl_Signed ⟨r2, 0, none⟩ (.agg #[(.bool r0), (.slice r1_p r1_n r1_c)]) wv_8 ∧ (fun (v : Value) (w' : World) => ∃ p n c, v = .agg ⟨[.bool (decide (x + y < 0)), .slice p n c]⟩ ∧ Own w' w.heap.size T_int 1 p n c ((digs (x + y).natAbs).map (Value.int .i64)) ∧ Ext w w') (.agg #[(.bool r0), (.slice r1_p r1_n r1_c)]) wv_8 := by
    intro W neg p n c m hown hX hk2 hq hm hs
    refine Ret.at (impl_signed_c hown.ints.1) ?_
    rintro v W2 ⟨hv, y2⟩
    subst hv
    obtain ⟨W3, st, hb3, ch, sz⟩ := (hk2.ext y2).storeA0 (P := P) (t := T_impl_Signed) (xs := [.bool (neg && !(digs m).isEmpty), .slice p n c]) (by kernel_rfl) rfl (by simp [Value.oneCell'])
    refine ⟨_, _, _, _, rfl, W3, st, _, _, _, _, hb3.loadA0 (by kernel_rfl), p, n, c, ?_, ?_, (hX.trans y2).chg ch (by simp; omega)⟩
    · rw [isEmpty_digs]
      by_cases h0 : m = 0
      · have : ¬ (x + y < 0) := by omega
        simp [h0, this]
      · simp [h0, hs h0]
    · rw [← hm]
      exact (hown.ext y2).chg ch (fun q hq' => by simp only [List.mem_singleton]; exact hq q hq')
  have ne2 : ∀ {W : World} {B : Nat} {p : Option Addr} {n c : Nat} {zs : List Value}, Own W B T_int 1 p n c zs → r2 < B → ∀ q, p.map (·.block) = some q → q ≠ r2 := fun ho hB q hq => by
    have := (World.ownsRow.lt ho q (by rw [← hq]; rename_i p n c _; cases p <;> rfl)).1
    omega
  refine ⟨_, k0.load (by kernel_rfl) rfl, _, k1.load (by kernel_rfl) rfl, fun es => ?_, fun es => ?_⟩
  · have es' : decide (x < 0) = decide (y < 0) := by simpa using es
    have D := Ext.drew w3
    refine ⟨_, fun W hW => (k0.ext (D.trans hW)).load (by kernel_rfl) rfl, _, _, _, fun W hW => (k0.ext (D.trans hW)).load (by kernel_rfl) rfl, _, _, _, fun W hW => (k1.ext (D.trans hW)).load (by kernel_rfl) rfl, ?_⟩
    refine Ret.at (impl_natAdd_c (ha.ext (X.trans D)) (hb.ext (X.trans D)) ca.1 cb.1 (by omega) (by omega)) ?_
    rintro v w4 ⟨p, n, c, hv, hown, y4⟩
    subst hv
    rw [va, vb] at hown
    refine ⟨_, _, _, rfl, y4, fin w4 _ p n c _ (hown.mono ?_) ((X.trans D).trans y4) ((k2.ext D).ext y4) (ne2 hown ?_) ?_ ?_⟩
    · have := (X.trans D).le; omega
    · have := D.le; omega
    · by_cases hx0 : x < 0 <;> by_cases hy0 : y < 0 <;> simp [hx0, hy0] at es' <;> omega
    · intro h0
      by_cases hx0 : x < 0 <;> by_cases hy0 : y < 0 <;> simp [hx0, hy0] at es' ⊢ <;> omega
  · have es' : ¬ (decide (x < 0) = decide (y < 0)) := by simpa using es
    refine ⟨_, _, _, k0.load (by kernel_rfl) rfl, _, _, _, k1.load (by kernel_rfl) rfl, ?_⟩
    refine Ret.at (impl_natCmp_c (ha.ext X) (hb.ext X)) ?_
    rintro v w4 ⟨hv, y4⟩
    subst hv
    have cv := cmpL_val ca cb
    rw [va, vb] at cv
    have X4 := X.trans y4
    have k0 := k0.ext y4; have k1 := k1.ext y4; have k2 := k2.ext y4
    have s4 := y4.le
    refine ⟨_, rfl, ifD (fun hlt => ?_) (fun hge => ?_)⟩
    · have hlt' : x.natAbs < y.natAbs := by
        rcases cv with h | h | h <;> omega
      refine ⟨_, _, _, _, k1.loadA0 (by kernel_rfl), _, _, _, _, k0.loadA0 (by kernel_rfl), ?_⟩
      obtain ⟨w5, st5, k0', ch5, sz5⟩ := k0.storeA0 (P := P) (t := T_impl_Signed) (xs := [.bool (decide (y < 0)), .slice b1p b1n b1c]) (by kernel_rfl) rfl (by simp [Value.oneCell'])
      have k1 := k1.chg ch5 (by simp; omega); have k2 := k2.chg ch5 (by simp; omega); have X5 := X4.chg ch5 (by simp; omega)
      obtain ⟨w6, st6, k1', ch6, sz6⟩ := k1.storeA0 (P := P) (t := T_impl_Signed) (xs := [.bool (decide (x < 0)), .slice a1p a1n a1c]) (by kernel_rfl) rfl (by simp [Value.oneCell'])
      have k0' := k0'.chg ch6 (by simp; omega); have k2 := k2.chg ch6 (by simp; omega); have X6 := X5.chg ch6 (by simp; omega)
      refine ⟨w5, st5, w6, st6, ?_⟩
      unfold impl_intAdd_j0
      have D := Ext.drew w6
      refine ⟨_, fun W hW => (k0'.ext (D.trans hW)).load (by kernel_rfl) rfl, _, _, _, fun W hW => (k0'.ext (D.trans hW)).load (by kernel_rfl) rfl, _, _, _, fun W hW => (k1'.ext (D.trans hW)).load (by kernel_rfl) rfl, ?_⟩
      have hll : a1n ≤ b1n := by
        rcases Nat.lt_or_ge b1n a1n with h | h
        · have := canon_len cb ca (by omega); omega
        · exact h
      refine Ret.at (impl_natSub_c (hb.ext (X6.trans D)) (ha.ext (X6.trans D)) cb.1 ca.1 (by omega) hll (by omega)) ?_
      rintro v w7 ⟨p, n, c, hv, hown, y7⟩
      subst hv
      rw [va, vb] at hown
      refine ⟨_, _, _, rfl, y7, fin w7 _ p n c _ (hown.mono ?_) ((X6.trans D).trans y7) ((k2.ext D).ext y7) (ne2 hown ?_) ?_ ?_⟩
      · have := (X6.trans D).le; omega
      · have := D.le; omega
      · by_cases hx0 : x < 0 <;> by_cases hy0 : y < 0 <;> simp [hx0, hy0] at es' <;> omega
      · intro h0
        by_cases hx0 : x < 0 <;> by_cases hy0 : y < 0 <;> simp [hx0, hy0] at es' ⊢ <;> omega
    · have hge' : y.natAbs ≤ x.natAbs := by
        rcases cv with h | h | h <;> omega
      unfold impl_intAdd_j0
      have D := Ext.drew w4
      refine ⟨_, fun W hW => (k0.ext (D.trans hW)).load (by kernel_rfl) rfl, _, _, _, fun W hW => (k0.ext (D.trans hW)).load (by kernel_rfl) rfl, _, _, _, fun W hW => (k1.ext (D.trans hW)).load (by kernel_rfl) rfl, ?_⟩
      have hll : b1n ≤ a1n := by
        rcases Nat.lt_or_ge a1n b1n with h | h
        · have := canon_len ca cb (by omega); omega
        · exact h
      refine Ret.at (impl_natSub_c (ha.ext (X4.trans D)) (hb.ext (X4.trans D)) ca.1 cb.1 (by omega) hll (by omega)) ?_
      rintro v w7 ⟨p, n, c, hv, hown, y7⟩
      subst hv
      rw [va, vb] at hown
      refine ⟨_, _, _, rfl, y7, fin w7 _ p n c _ (hown.mono ?_) ((X4.trans D).trans y7) ((k2.ext D).ext y7) (ne2 hown ?_) ?_ ?_⟩
      · have := (X4.trans D).le; omega
      · have := D.le; omega
      · by_cases hx0 : x < 0 <;> by_cases hy0 : y < 0 <;> simp [hx0, hy0] at es' <;> omega
      · intro h0
        by_cases hx0 : x < 0 <;> by_cases hy0 : y < 0 <;> simp [hx0, hy0] at es' ⊢ <;> omega
end Go.Proofs.YtfehpaekbbmkcaaGreatDoor

namespace Go.Proofs.YtfehpaekbbmkcaaGreatDoor.Sx
open Go
set_option linter.unusedVariables false
set_option linter.unusedSimpArgs false
def mkI (n : Nat) (k : Int) : List Int := (List.range n).map fun i => k + (i : Nat)
def mdig (k : Nat) (acc : ByteArray) : ByteArray := if h : k = 0 then acc else mdig (k / 10) (strOfNums [((48 + k % 10 : Nat) : Int)] ++ acc)
termination_by k
decreasing_by omega
theorem mdig_zero (acc : ByteArray) : mdig 0 acc = acc := by rw [mdig]; simp
theorem mdig_pos {k : Nat} (h : k ≠ 0) (acc : ByteArray) : mdig k acc = mdig (k / 10) (strOfNums [((48 + k % 10 : Nat) : Int)] ++ acc) := by rw [mdig]; simp [h]
def mtext (k : Int) : ByteArray := if k ≤ 0 then ⟨#[109, 48]⟩ else (⟨#[109]⟩ : ByteArray) ++ mdig k.toNat ByteArray.empty
def D0.mark (k : Int) : D0 → D0
  | .int _ => .int k
  | .bool _ => .bool (decide (k % 3 = 0))
  | .str _ => .str (mtext k)
  | .ints z => .ints (mkI z.length k)
def D0.cnt : D0 → Int
  | .ints z => (z.length : Nat)
  | _ => 1
def marks : List D0 → Int → List D0
  | [], _ => []
  | d :: r, k => d.mark k :: marks r (k + d.cnt)
def cnts : List D0 → Int
  | [] => 0
  | d :: r => d.cnt + cnts r
def tcnts : List D0 → Int
  | [] => 0
  | .ints z :: r => (z.length : Nat) + tcnts r
  | _ :: r => tcnts r
def markL : List (List D0) → Int → List (List D0)
  | [], _ => []
  | x :: l, k => marks x k :: markL l (k + cnts x)
def cntL : List (List D0) → Int
  | [] => 0
  | x :: l => cnts x + cntL l
theorem mkI_len (n : Nat) (k : Int) : (mkI n k).length = n := by simp [mkI]
theorem mkI_get (n : Nat) (k : Int) (i : Nat) (h : i < (mkI n k).length) : (mkI n k)[i] = k + (i : Nat) := by simp [mkI]
theorem mkI_succ (n : Nat) (k : Int) : mkI (n + 1) k = mkI n k ++ [k + (n : Nat)] := by simp [mkI, List.range_succ]
theorem cnt_nonneg (d : D0) : 0 ≤ d.cnt := by cases d <;> simp [D0.cnt]
theorem cnts_nonneg : ∀ (l : List D0), 0 ≤ cnts l
  | [] => Int.le_refl _
  | d :: r => by have := cnt_nonneg d; have := cnts_nonneg r; simp only [cnts]; omega
theorem cntL_nonneg : ∀ (l : List (List D0)), 0 ≤ cntL l
  | [] => Int.le_refl _
  | d :: r => by have := cnts_nonneg d; have := cntL_nonneg r; simp only [cntL]; omega
theorem markL_len : ∀ (l : List (List D0)) (k : Int), (markL l k).length = l.length
  | [], _ => rfl
  | x :: l, k => by simp [markL, markL_len l]
theorem markL_snoc : ∀ (l : List (List D0)) (x : List D0) (k : Int), markL (l ++ [x]) k = markL l k ++ [marks x (k + cntL l)]
  | [], x, k => by simp [markL, cntL]
  | y :: l, x, k => by
    simp only [List.cons_append, markL, markL_snoc l x, cntL]
    congr 4; omega
theorem markL_get : ∀ (l : List (List D0)) (k : Int) (i : Nat) (x : List D0), l[i]? = some x → (markL l k)[i]? = some (marks x (k + cntL (l.take i)))
  | [], _, _, _, h => by simp at h
  | y :: l, k, 0, x, h => by simp at h; subst h; simp [markL, cntL]
  | y :: l, k, i + 1, x, h => by
    simp only [List.getElem?_cons_succ] at h
    simp only [markL, List.getElem?_cons_succ, markL_get l _ i x h, List.take_succ_cons, cntL]
    congr 2; omega
theorem cntL_snoc : ∀ (l : List (List D0)) (x : List D0), cntL (l ++ [x]) = cntL l + cnts x
  | [], x => by simp [cntL]
  | y :: l, x => by simp only [List.cons_append, cntL, cntL_snoc l x]; omega
theorem take_snoc {α : Type} {l : List α} {i : Nat} {x : α} (h : l[i]? = some x) : l.take (i + 1) = l.take i ++ [x] := by
  rw [List.take_add_one, h]; rfl
theorem cntL_take_le : ∀ (l : List (List D0)) (i : Nat), cntL (l.take i) ≤ cntL l
  | [], i => by simp
  | x :: l, 0 => by have := cntL_nonneg (x :: l); simpa [cntL] using this
  | x :: l, i + 1 => by
    have := cntL_take_le l i
    simp only [List.take_succ_cons, cntL] at this ⊢
    omega
theorem cntL_row {l : List (List D0)} {i : Nat} {x : List D0} (h : l[i]? = some x) : cntL (l.take (i + 1)) = cntL (l.take i) + cnts x ∧ cntL (l.take i) + cnts x ≤ cntL l := by
  have h1 : cntL (l.take (i + 1)) = cntL (l.take i) + cnts x := by rw [take_snoc h, cntL_snoc]
  have h2 := cntL_take_le l (i + 1)
  exact ⟨h1, by omega⟩
theorem markL_set {l : List (List D0)} {k : Int} {i : Nat} {x : List D0} (h : l[i]? = some x) :
    (markL (l.take i) k ++ l.drop i).set i (marks x (k + cntL (l.take i))) = markL (l.take (i + 1)) k ++ l.drop (i + 1) := by
  have hi : i < l.length := (List.getElem?_eq_some_iff.1 h).1
  have hl : (markL (l.take i) k).length = i := by rw [markL_len]; simp; omega
  rw [List.set_append_right _ _ (by omega), hl, Nat.sub_self, take_snoc h, markL_snoc]
  have hd : l.drop i = x :: l.drop (i + 1) := by
    obtain ⟨h1, h2⟩ := List.getElem?_eq_some_iff.1 h
    rw [← h2]; exact List.drop_eq_getElem_cons h1
  rw [hd]; simp
theorem markL_at {l : List (List D0)} {k : Int} {i : Nat} {x : List D0} (h : l[i]? = some x) : (markL (l.take i) k ++ l.drop i)[i]? = some x := by
  have hi : i < l.length := (List.getElem?_eq_some_iff.1 h).1
  have hl : (markL (l.take i) k).length = i := by rw [markL_len]; simp; omega
  rw [List.getElem?_append_right (by omega), hl, Nat.sub_self, List.getElem?_drop, Nat.add_zero, h]
theorem cnts_le : ∀ (l : List D0), cnts l ≤ ((bulks l + l.length : Nat) : Int)
  | [] => by simp [cnts]
  | d :: r => by
    have h2 := cnts_le r
    have h1 : d.cnt ≤ (d.bulk : Nat) + 1 := by cases d <;> simp [D0.cnt, D0.bulk] <;> omega
    simp only [cnts, bulks, List.map_cons, List.sum_cons, List.length_cons] at h2 ⊢
    omega
theorem cntL_le {m : Nat} : ∀ (l : List (List D0)), (∀ x ∈ l, x.length ≤ m) → cntL l ≤ (((l.map bulks).sum + l.length * m : Nat) : Int)
  | [], _ => by simp [cntL]
  | x :: l, h => by
    have h1 := cnts_le x; have h2 := cntL_le l fun y hy => h y (.tail _ hy); have h3 := h x (.head _)
    simp only [cntL, List.map_cons, List.sum_cons, List.length_cons, Nat.succ_mul] at h2 ⊢
    omega
theorem code_len {x : List D0} {cs : List C0} (h : x.map D0.code = cs) : x.length = cs.length := by rw [← h]; simp
theorem mem_opt {o : Option Nat} {q : Nat} (h : o = some q) : q ∈ o.toList := by subst h; simp
theorem opt_mem {o : Option Nat} {q : Nat} (h : q ∈ o.toList) : o = some q := by cases o <;> simp_all
theorem code_ints {ds : List D0} {cs : List C0} (h : ds.map D0.code = .ints :: cs) : ∃ z es, ds = .ints z :: es ∧ es.map D0.code = cs := by
  match ds, h with
  | .ints z :: es, h => exact ⟨z, es, rfl, (List.cons.inj h).2⟩
theorem code_str {ds : List D0} {cs : List C0} (h : ds.map D0.code = .str :: cs) : ∃ z es, ds = .str z :: es ∧ es.map D0.code = cs := by
  match ds, h with
  | .str z :: es, h => exact ⟨z, es, rfl, (List.cons.inj h).2⟩
theorem code_bool {ds : List D0} {cs : List C0} (h : ds.map D0.code = .bool :: cs) : ∃ z es, ds = .bool z :: es ∧ es.map D0.code = cs := by
  match ds, h with
  | .bool z :: es, h => exact ⟨z, es, rfl, (List.cons.inj h).2⟩
theorem code_int {ds : List D0} {cs : List C0} (h : ds.map D0.code = .int :: cs) : ∃ z es, ds = .int z :: es ∧ es.map D0.code = cs := by
  match ds, h with
  | .int z :: es, h => exact ⟨z, es, rfl, (List.cons.inj h).2⟩
theorem code_nil {ds : List D0} (h : ds.map D0.code = []) : ds = [] := by simpa using h
theorem Owns.consInts {w : World} {B : Nat} {vs : List Value} {ds : List D0} {f : List Nat} {cs : List C0} (h : Owns w B vs ds f) (hc : ds.map D0.code = .ints :: cs) :
    ∃ p n c z us es f2, vs = .slice p n c :: us ∧ ds = .ints z :: es ∧ f = (p.map (·.block)).toList ++ f2 ∧ Own w B T_int 1 p n c (z.map (Value.int .i64)) ∧ Owns w B us es f2 ∧ es.map D0.code = cs := by
  match vs, ds, h, hc with
  | v :: us, .ints z :: es, h, hc =>
    obtain ⟨f1, f2, hf, ⟨p, n, c, hv, ho, hf1⟩, h2⟩ := h
    exact ⟨p, n, c, z, us, es, f2, by rw [hv], rfl, by rw [hf, hf1], ho, h2, (List.cons.inj hc).2⟩
  | [], .ints z :: es, h, _ => exact h.elim
theorem Owns.consStr {w : World} {B : Nat} {vs : List Value} {ds : List D0} {f : List Nat} {cs : List C0} (h : Owns w B vs ds f) (hc : ds.map D0.code = .str :: cs) :
    ∃ s us es, vs = .string s :: us ∧ ds = .str s :: es ∧ Owns w B us es f ∧ es.map D0.code = cs := by
  match vs, ds, h, hc with
  | v :: us, .str z :: es, h, hc =>
    obtain ⟨f1, f2, hf, ⟨hv, hf1⟩, h2⟩ := h
    exact ⟨z, us, es, by rw [hv], rfl, by rw [hf, hf1]; exact h2, (List.cons.inj hc).2⟩
  | [], .str z :: es, h, _ => exact h.elim
theorem Owns.consBool {w : World} {B : Nat} {vs : List Value} {ds : List D0} {f : List Nat} {cs : List C0} (h : Owns w B vs ds f) (hc : ds.map D0.code = .bool :: cs) :
    ∃ s us es, vs = .bool s :: us ∧ ds = .bool s :: es ∧ Owns w B us es f ∧ es.map D0.code = cs := by
  match vs, ds, h, hc with
  | v :: us, .bool z :: es, h, hc =>
    obtain ⟨f1, f2, hf, ⟨hv, hf1⟩, h2⟩ := h
    exact ⟨z, us, es, by rw [hv], rfl, by rw [hf, hf1]; exact h2, (List.cons.inj hc).2⟩
  | [], .bool z :: es, h, _ => exact h.elim
theorem Owns.consInt {w : World} {B : Nat} {vs : List Value} {ds : List D0} {f : List Nat} {cs : List C0} (h : Owns w B vs ds f) (hc : ds.map D0.code = .int :: cs) :
    ∃ s us es, vs = .int .i64 s :: us ∧ ds = .int s :: es ∧ Owns w B us es f ∧ es.map D0.code = cs := by
  match vs, ds, h, hc with
  | v :: us, .int z :: es, h, hc =>
    obtain ⟨f1, f2, hf, ⟨hv, hf1⟩, h2⟩ := h
    exact ⟨z, us, es, by rw [hv], rfl, by rw [hf, hf1]; exact h2, (List.cons.inj hc).2⟩
  | [], .int z :: es, h, _ => exact h.elim
theorem Owns.done {w : World} {B : Nat} {vs : List Value} {ds : List D0} {f : List Nat} (h : Owns w B vs ds f) (hc : ds.map D0.code = []) : vs = [] ∧ ds = [] ∧ f = [] := by
  match vs, ds, h, hc with
  | [], [], h, _ => exact ⟨rfl, rfl, h⟩
  | v :: us, [], h, _ => exact h.elim
theorem Blk.segMid {w : World} {b o : Nat} {e : TypeId} {xs cur zs : List Value} (h : Blk w b e (xs ++ cur ++ zs)) (hA : xs.length = o) : Seg w b o cur := by
  subst hA
  have h1 := h.seg
  have h2 := (h1.drop xs.length).take cur.length
  rw [List.append_assoc, List.drop_left, List.take_left] at h2
  simpa using h2
theorem Blk.storeMid {P : Program} {w : World} {t : TypeId} {b o : Nat} {e : TypeId} {xs cur zs : List Value} {v : Value} (h : Blk w b e (xs ++ cur ++ zs)) (hA : xs.length = o) (j : Nat) (hj : j < cur.length) (ht : cellT P t = true) (hv : v.oneCell' = true) {a : Addr} (ha : a = ⟨b, o + j, none⟩) :
    ∃ w', Stores P t a v w w' ∧ Blk w' b e (xs ++ cur.set j v ++ zs) ∧ Chg [b] w w' ∧ w'.heap.size = w.heap.size := by
  subst ha; subst hA
  obtain ⟨w', h1, h2, h3, h4⟩ := h.store (P := P) (k := xs.length + j) (v := v) ht (by simp; omega) hv
  refine ⟨w', by rw [addr_add, Nat.zero_add] at h1; exact h1, ?_, h3, h4⟩
  rw [List.append_assoc, List.set_append_right _ _ (by omega), Nat.add_sub_cancel_left, List.set_append_left _ _ hj, ← List.append_assoc] at h2
  exact h2
theorem Own.blk {w : World} {B : Nat} {e : TypeId} {size : Nat} {p : Option Addr} {n c : Nat} {xs : List Value} (h : Own w B e size p n c xs) (hn : 0 < n) :
    ∃ b ys, p = some ⟨b, 0, none⟩ ∧ B ≤ b ∧ Blk w b e ys ∧ ys.length = c * size ∧ n ≤ c ∧ c ≤ maxLen ∧ ys.take (n * size) = xs := by
  rcases h.2 with ⟨h1, h2⟩ | ⟨g, cap, cur, h1, hb, hg, h3, h4, h5, h6⟩
  · omega
  · simp only [Value.slice.injEq] at h1
    obtain ⟨e1, _, e3⟩ := h1
    have e3 : c = cap := by omega
    subst e3
    exact ⟨g, cur.toList, e1, hb, hg, by simpa using h5, h3, h4, h6⟩
theorem Own.of_blk' {w : World} {B : Nat} {e : TypeId} {size : Nat} {b n c : Nat} {ys : List Value} (h : Blk w b e ys) (hb : B ≤ b) (hl : ys.length = c * size) (hn : n ≤ c) (hc : c ≤ maxLen) : Own w B e size (some ⟨b, 0, none⟩) n c (ys.take (n * size)) :=
  ⟨by
    have : n * size ≤ c * size := Nat.mul_le_mul_right _ hn
    simp; omega, .inr ⟨b, c, ⟨ys⟩, rfl, hb, h, hn, hc, by simpa using hl, rfl⟩⟩
theorem Own.set {P : Program} {w : World} {B : Nat} {e : TypeId} {size : Nat} {p : Option Addr} {n c : Nat} {xs : List Value} (h : Own w B e size p n c xs) {t : TypeId} {i : Nat} {v : Value} (hi : i < xs.length) (ht : cellT P t = true) (hv : v.oneCell' = true) :
    ∃ b w', p = some ⟨b, 0, none⟩ ∧ Stores P t ((⟨b, 0, none⟩ : Addr).add i) v w w' ∧ Own w' B e size p n c (xs.set i v) ∧ Chg (p.map (·.block)).toList w w' ∧ w'.heap.size = w.heap.size := by
  have hl := h.len
  have hn : 0 < n := by
    rcases Nat.eq_zero_or_pos n with h0 | h0
    · subst h0; simp at hl; rw [hl] at hi; simp at hi
    · exact h0
  obtain ⟨b, ys, rfl, hb, hblk, hyl, hnc, hc, hx⟩ := h.blk hn
  have hle : n * size ≤ c * size := Nat.mul_le_mul_right _ hnc
  obtain ⟨w', st, hb', ch, sz⟩ := hblk.store (P := P) (t := t) (k := i) (v := v) ht (by omega) hv
  refine ⟨b, w', rfl, st, ?_, by simpa using ch, sz⟩
  have := Own.of_blk' (n := n) hb' hb (by simpa using hyl) hnc hc
  rw [List.take_set, hx] at this
  exact this
theorem AllO.focus {w : World} {B k : Nat} : ∀ {css : List (List Value)} {l : List (List D0)} {fs : List (List Nat)}, AllO w B k css l fs → ∀ (i : Nat) (x : List D0), l[i]? = some x →
    ∃ cs fi, css[i]? = some cs ∧ fs[i]? = some fi ∧ cs.length = k ∧ Owns w B cs x fi
  | [], [], [], _, i, x, hx => by simp at hx
  | cs :: css, y :: l, f :: fs, h, 0, x, hx => by
    simp only [List.getElem?_cons_zero, Option.some.injEq] at hx
    subst hx
    exact ⟨cs, f, rfl, rfl, h.1, h.2.1⟩
  | cs :: css, y :: l, f :: fs, h, i + 1, x, hx => by
    simp only [List.getElem?_cons_succ] at hx ⊢
    exact AllO.focus h.2.2 i x hx
  | [], [], _ :: _, h, _, _, _ => h.elim
  | [], _ :: _, _, h, _, _, _ => h.elim
  | _ :: _, [], _, h, _, _, _ => h.elim
  | _ :: _, _ :: _, [], h, _, _, _ => h.elim
theorem AllO.set {S : List Nat} {w w' : World} {B k : Nat} {cs' : List Value} {x' : List D0} (hc : Chg S w w') (hk : cs'.length = k) : ∀ {css : List (List Value)} {l : List (List D0)} {fs : List (List Nat)}, AllO w B k css l fs → ∀ (i : Nat) (fi : List Nat), fs[i]? = some fi →
    Owns w' B cs' x' fi → (∀ (j : Nat) (f : List Nat), j ≠ i → fs[j]? = some f → ∀ y ∈ f, y ∉ S) → AllO w' B k (css.set i cs') (l.set i x') fs
  | [], [], [], _, i, fi, hx, _, _ => by simp at hx
  | cs :: css, y :: l, f :: fs, h, 0, fi, hx, ho, hS => by
    simp only [List.getElem?_cons_zero, Option.some.injEq] at hx
    subst hx
    refine ⟨hk, ho, h.2.2.chg hc fun y hy => ?_⟩
    obtain ⟨f', hf, hyf⟩ := List.mem_flatten.1 hy
    obtain ⟨j, hj, e⟩ := List.getElem_of_mem hf
    exact hS (j + 1) f' (by omega) (by simp [List.getElem?_eq_getElem hj, e]) y hyf
  | cs :: css, y :: l, f :: fs, h, i + 1, fi, hx, ho, hS => by
    simp only [List.getElem?_cons_succ] at hx
    refine ⟨h.1, h.2.1.chg hc fun y hy => hS 0 f (by omega) rfl y hy, AllO.set hc hk h.2.2 i fi hx ho fun j f' hj hf => hS (j + 1) f' (by omega) (by simpa using hf)⟩
  | [], [], _ :: _, h, _, _, _, _, _ => h.elim
  | [], _ :: _, _, h, _, _, _, _, _ => h.elim
  | _ :: _, [], _, h, _, _, _, _, _ => h.elim
  | _ :: _, _ :: _, [], h, _, _, _, _, _ => h.elim
theorem flat_len {α : Type} {k : Nat} : ∀ {css : List (List α)}, (∀ c ∈ css, c.length = k) → css.flatten.length = css.length * k
  | [], _ => by simp
  | c :: css, h => by
    rw [List.flatten_cons, List.length_append, flat_len fun c hc => h c (.tail _ hc), h c (.head _), List.length_cons, Nat.succ_mul, Nat.add_comm]
theorem cons_at {α : Type} {l : List α} {i : Nat} {x : α} (h : l[i]? = some x) : l = l.take i ++ x :: l.drop (i + 1) := by
  obtain ⟨h1, h2⟩ := List.getElem?_eq_some_iff.1 h
  conv => lhs; rw [← List.take_append_drop i l]
  rw [List.drop_eq_getElem_cons h1, h2]
theorem set_split {α : Type} {l : List α} {i : Nat} {x y : α} (h : l[i]? = some x) : l.set i y = l.take i ++ y :: l.drop (i + 1) := by
  obtain ⟨h1, h2⟩ := List.getElem?_eq_some_iff.1 h
  rw [List.set_eq_take_append_cons_drop, if_pos h1]
theorem AllO.lens {w : World} {B k : Nat} : ∀ {css : List (List Value)} {l : List (List D0)} {fs : List (List Nat)}, AllO w B k css l fs → (∀ c ∈ css, c.length = k) ∧ css.length = l.length ∧ fs.length = l.length
  | [], [], [], _ => ⟨fun _ h => by simp at h, rfl, rfl⟩
  | cs :: css, y :: l, f :: fs, h => by
    obtain ⟨h1, h2, h3⟩ := AllO.lens h.2.2
    refine ⟨fun c hc => ?_, by simp [h2], by simp [h3]⟩
    rcases List.mem_cons.1 hc with h4 | h4
    · rw [h4]; exact h.1
    · exact h1 c h4
  | [], [], _ :: _, h => h.elim
  | [], _ :: _, _, h => h.elim
  | _ :: _, [], _, h => h.elim
  | _ :: _, _ :: _, [], h => h.elim
theorem OwnRows.focus {w : World} {B : Nat} {e : TypeId} {k : Nat} {p : Option Addr} {n c : Nat} {l : List (List D0)} {f : List Nat} (h : OwnRows w B e k p n c l f) {i : Nat} {x : List D0} (hx : l[i]? = some x) :
    ∃ b xs cs zs fi, p = some ⟨b, 0, none⟩ ∧ B ≤ b ∧ xs.length = i * k ∧ cs.length = k ∧ Blk w b e (xs ++ cs ++ zs) ∧ Owns w B cs x fi ∧ fi.Nodup ∧ b ∉ fi ∧ b ∈ f ∧ (∀ y ∈ fi, y ∈ f) ∧
      ∀ w' cs' x', Chg (b :: fi) w w' → cs'.length = k → Blk w' b e (xs ++ cs' ++ zs) → Owns w' B cs' x' fi → OwnRows w' B e k p n c (l.set i x') f := by
  obtain ⟨hl, css, fs, ha, ho, hf, hnd⟩ := h
  have hi : i < l.length := (List.getElem?_eq_some_iff.1 hx).1
  obtain ⟨cs, fi, hcs, hfi, hk, how⟩ := ha.focus i x hx
  obtain ⟨hlen, hcl, hfl⟩ := ha.lens
  obtain ⟨b, ys, rfl, hb, hblk, hyl, hnc, hc, hy⟩ := ho.blk (by omega)
  have hsp := congrArg List.flatten (cons_at hcs)
  rw [List.flatten_append, List.flatten_cons] at hsp
  have hA : (css.take i).flatten.length = i * k := by
    rw [flat_len fun c hc => hlen c (List.mem_of_mem_take hc), List.length_take, Nat.min_eq_left (by omega)]
  have hys : ys = (css.take i).flatten ++ cs ++ ((css.drop (i + 1)).flatten ++ ys.drop (n * k)) := by
    conv => lhs; rw [← List.take_append_drop (n * k) ys, hy, hsp]
    simp
  have hnd' := hnd
  rw [hf] at hnd'
  simp only [Option.map_some, Option.toList_some, List.singleton_append, List.nodup_cons] at hnd'
  obtain ⟨hbn, hfn⟩ := hnd'
  obtain ⟨hf1, hf2⟩ := List.pairwise_flatten.1 hfn
  have hmem : ∀ y ∈ fi, y ∈ fs.flatten := fun y hy => List.mem_flatten.2 ⟨fi, List.mem_of_getElem? hfi, hy⟩
  rw [hys] at hblk
  refine ⟨b, _, cs, _, fi, rfl, hb, hA, hk, hblk, how, hf1 _ (List.mem_of_getElem? hfi), fun hm => hbn (hmem _ hm), by rw [hf]; simp, fun y hy => by rw [hf]; simp only [List.mem_append]; exact .inr (hmem y hy), ?_⟩
  intro w' cs' x' hch hk' hblk' how'
  refine ⟨by simpa using hl, css.set i cs', fs, ha.set hch hk' i fi hfi how' ?_, ?_, hf, hnd⟩
  · intro j g hj hg y hy hm
    have hyf : y ∈ fs.flatten := List.mem_flatten.2 ⟨g, List.mem_of_getElem? hg, hy⟩
    rcases List.mem_cons.1 hm with rfl | hm
    · exact hbn hyf
    · obtain ⟨j1, e1⟩ := List.getElem?_eq_some_iff.1 hg
      obtain ⟨i1, e2⟩ := List.getElem?_eq_some_iff.1 hfi
      rw [List.pairwise_iff_getElem] at hf2
      rcases Nat.lt_or_ge j i with hlt | hge
      · have := hf2 j i j1 i1 hlt
        rw [e1, e2] at this
        exact this y hy y hm rfl
      · have := hf2 i j i1 j1 (by omega)
        rw [e1, e2] at this
        exact this y hm y hy rfl
  · have hlen2 : ((css.take i).flatten ++ cs' ++ ((css.drop (i + 1)).flatten ++ ys.drop (n * k))).length = c * k := by
      have := congrArg List.length hys
      simp only [List.length_append] at this ⊢
      omega
    have := Own.of_blk' (n := n) hblk' hb hlen2 hnc hc
    have e : ((css.take i).flatten ++ cs' ++ ((css.drop (i + 1)).flatten ++ ys.drop (n * k))).take (n * k) = (css.set i cs').flatten := by
      rw [set_split hcs, List.flatten_append, List.flatten_cons, ← List.append_assoc, ← List.append_assoc, List.take_left']
      have h1 := congrArg List.length hsp
      have h2 := flat_len hlen
      simp only [List.length_append] at h1 ⊢
      rw [hcl, hl] at h2
      omega
    rwa [e] at this
end Go.Proofs.YtfehpaekbbmkcaaGreatDoor.Sx

namespace Go.Proofs.YtfehpaekbbmkcaaGreatDoor.Sx
open Go Go.RowKit
set_option linter.unusedVariables false
set_option linter.unusedSimpArgs false
theorem Own.push1 {P : Program} {w : World} {B : Nat} {t e : TypeId} {z : Value} {size bytes : Nat} {p : Option Addr} {n c r : Nat} {xs news : List Value} (h : Own w B e size p n c xs)
    (hT : sliceT P t e z size bytes) (hb : B ≤ w.heap.size) (hr : Blk w r e news) (hl : news.length = size) (h1 : ∀ u ∈ news, u.oneCell' = true)
    (hbytes : (n + 1) * bytes ≤ 140737488355328) (hby : 1 ≤ bytes) :
    ∃ p' c' w', Appends P [t, t] [.slice p n c, .slice (some ⟨r, 0, none⟩) 1 1] (.slice p' (n + 1) c') w w' ∧ Own w' B e size p' (n + 1) c' (xs ++ news) ∧ Chg (p.map (·.block)).toList w w' ∧
      (p'.map (·.block) = p.map (·.block) ∨ ∀ q, p'.map (·.block) = some q → w.heap.size ≤ q) := by
  obtain ⟨hu, hi, hz, hs⟩ := hT
  cases hinf : P.info? e with
  | none => rw [hinf] at hi; cases hi
  | some i =>
    rw [hinf] at hi
    simp only [Option.map_some, Option.some.injEq, Prod.mk.injEq] at hi
    have hnm : n + 1 ≤ maxLen := by
      have : n + 1 ≤ (n + 1) * bytes := Nat.le_mul_of_pos_right _ hby
      simp only [maxLen]; omega
    have hcells : ∀ j u, news[j]? = some u → w.cell? ((⟨r, 0, none⟩ : Addr).add j) = some u := fun j u hj => by rw [addr_add, Nat.zero_add, hr.cell, hj]
    obtain ⟨v', w', hrun, hown, hgr, _⟩ := run_append_own (P := P) w B t 0 e i z size bytes hu hinf hi.1 hi.2.1 hi.2.2 hz hs (.slice p n c) n xs h ⟨r, 0, none⟩ 1 1 news (by rw [hl, Nat.one_mul]) hcells h1 hnm hbytes hb
    have hv : ∃ p' c', v' = .slice p' (n + 1) c' := by
      rcases hown.2 with ⟨e1, e2⟩ | ⟨g, cap, cur, e1, _⟩
      · omega
      · exact ⟨_, _, e1⟩
    obtain ⟨p', c', rfl⟩ := hv
    have hob : (Value.slice p n c).ownBlock = p.map (·.block) := by cases p <;> rfl
    refine ⟨p', c', w', hrun, hown, ⟨hgr.os, hgr.tape, hgr.output, hgr.size, fun k hk hn => hgr.block k hk ?_⟩, ?_⟩
    · rw [hob]; intro e; rw [← e] at hn; simp at hn
    have hrun : (Builtin.append_ #[t, t] 0 #[.slice p n c, .slice (some ⟨r, 0, none⟩) 1 1]).run P w = .ok (.slice p' (n + 1) c') w' := hrun
    rcases h.2 with ⟨e1, e2⟩ | ⟨g, cap, cur, e1, hB, hg, h3, h4, h5, h6⟩
    · simp only [Value.slice.injEq] at e1
      obtain ⟨rfl, rfl, rfl⟩ := e1
      have h0 := run_append_nil (P := P) w t 0 e i z hu hinf hi.1 ⟨r, 0, none⟩ 1 1 news (by rw [hl, hi.2.1, Nat.one_mul]) hcells (by omega) (by omega) (by rw [hi.2.2]; omega)
      rw [h0] at hrun
      injection hrun with hv _
      simp only [Value.slice.injEq] at hv
      exact .inr fun q hq => by rw [← hv.1] at hq; simp at hq; omega
    · simp only [Value.slice.injEq] at e1
      obtain ⟨rfl, _, rfl⟩ := e1
      by_cases hroom : n + 1 ≤ c
      · have hsz : n * i.size + news.length ≤ cur.size := by
          have : (n + 1) * size ≤ c * size := Nat.mul_le_mul_right _ hroom
          rw [hi.2.1, hl, h5, Nat.succ_mul] at *
          omega
        have h0 := run_append_room (P := P) w t 0 e i hu hinf g n c cur hg ⟨r, 0, none⟩ 1 1 news (by rw [hl, hi.2.1, Nat.one_mul]) hcells h1 hroom hsz
        rw [h0] at hrun
        injection hrun with hv _
        simp only [Value.slice.injEq] at hv
        exact .inl (by rw [← hv.1])
      · have holds : ∀ j v, xs[j]? = some v → w.cell? ((⟨g, 0, none⟩ : Addr).add j) = some v := World.ownsRow.cells h rfl
        have hfit : Builtin.nextslicecap (n + 1) c * i.bytes ≤ 281474976710656 := by
          rw [hi.2.2]; exact growslice_fits (by omega) hbytes
        have h0 := run_append_grow (P := P) w t 0 e i z hu hinf hi.1 ⟨g, 0, none⟩ n c xs (by rw [h.len, hi.2.1]) holds ⟨r, 0, none⟩ 1 1 news (by rw [hl, hi.2.1, Nat.one_mul]) hcells (by omega) (by simp only [maxLen] at hnm; omega) hfit
        rw [h0] at hrun
        injection hrun with hv _
        simp only [Value.slice.injEq] at hv
        exact .inr fun q hq => by rw [← hv.1] at hq; simp at hq; omega
theorem OwnRows.fresh {w w' : World} {B : Nat} {e : TypeId} {k r : Nat} (hn : New w (.cells ⟨[]⟩ e (0, 0)) r w') (hb : B ≤ w.heap.size) : OwnRows w' B e k (some ⟨r, 0, none⟩) 0 0 [] [r] :=
  ⟨rfl, [], [], trivial, Own.of_blk0 hn.blk (by have := hn.r_eq; omega) (by simp) (by decide), by simp, by simp⟩
theorem OwnRows.push {P : Program} {w : World} {B : Nat} {t e : TypeId} {z : Value} {k bytes : Nat} {p : Option Addr} {n c r : Nat} {l : List (List D0)} {f fx : List Nat} {cs : List Value} {x : List D0} (h : OwnRows w B e k p n c l f)
    (hT : sliceT P t e z k bytes) (hb : B ≤ w.heap.size) (hr : Blk w r e cs) (hl : cs.length = k) (ho : Owns w B cs x fx) (hfx : fx.Nodup) (hdis : ∀ q ∈ fx, q ∉ f)
    (hbytes : (n + 1) * bytes ≤ 140737488355328) (hby : 1 ≤ bytes) :
    ∃ p' c' w' f', Appends P [t, t] [.slice p n c, .slice (some ⟨r, 0, none⟩) 1 1] (.slice p' (n + 1) c') w w' ∧ OwnRows w' B e k p' (n + 1) c' (l ++ [x]) f' ∧ Chg (p.map (·.block)).toList w w' ∧
      (∀ w0, Ext w0 w → w0.heap.size ≤ B → Ext w0 w') := by
  obtain ⟨hln, css, fs, ha, hown, rfl, hnd⟩ := h
  obtain ⟨p', c', w', hrun, hown', hch, hp⟩ := hown.push1 hT hb hr hl ho.reps.cells1 hbytes hby
  have hpl : ∀ q ∈ (p.map (·.block)).toList, B ≤ q := fun q hq => (World.ownsRow.lt hown q (by cases p <;> simp_all [Value.ownBlock])).1
  have hnd1 := (List.nodup_append.1 hnd)
  have hpin : ∀ q ∈ fs.flatten, q ∉ (p.map (·.block)).toList := fun q hq hm => hnd1.2.2 q hm q hq rfl
  have hpx : ∀ q ∈ fx, q ∉ (p.map (·.block)).toList := fun q hq hm => hdis q hq (List.mem_append_left _ hm)
  have hlt : ∀ q ∈ fs.flatten ++ fx, q < w.heap.size := fun q hq => by
    rcases List.mem_append.1 hq with hq | hq
    · exact (ha.lt q hq).2
    · exact (ho.lt q hq).2
  refine ⟨p', c', w', (p'.map (·.block)).toList ++ (fs ++ [fx]).flatten, hrun, ⟨by simp [hln], css ++ [cs], fs ++ [fx], (ha.chg hch hpin).snoc hl (ho.chg hch hpx), by simpa using hown', rfl, ?_⟩, hch, fun w0 hx hb0 => hx.chg hch fun q hq => Nat.le_trans hb0 (hpl q hq)⟩
  have e : (fs ++ [fx]).flatten = fs.flatten ++ fx := by simp
  rw [e, List.nodup_append]
  refine ⟨by cases p' <;> simp, ?_, ?_⟩
  · rw [List.nodup_append]
    exact ⟨hnd1.2.1, hfx, fun a ha b hb e => hdis b hb (by rw [← e]; exact List.mem_append_right _ ha)⟩
  · intro a ha b hb hab
    subst hab
    have hpa := opt_mem ha
    rcases hp with hp | hp
    · rw [hp] at hpa
      have ham : a ∈ (p.map (·.block)).toList := mem_opt hpa
      rcases List.mem_append.1 hb with hb | hb
      · exact hpin a hb ham
      · exact hpx a hb ham
    · have := hp a hpa
      have := hlt a hb
      omega
end Go.Proofs.YtfehpaekbbmkcaaGreatDoor.Sx

namespace Go.Proofs.YtfehpaekbbmkcaaGreatDoor.Sx
open Go Go.RowKit
set_option linter.unusedVariables false
set_option linter.unusedSimpArgs false
theorem copies_row {P : Program} {w : World} {dT sT e t : TypeId} {size g o dLen dCap sLen sCap : Nat} {a : Addr} {cur cs : List Value} (hu : P.underlying dT = some (.slice e)) (hs : (P.info? e).map (·.size) = some size)
    (hg : Blk w g t cur) (hn : cs.length = Nat.min sLen dLen * size) (hsrc : ∀ j v, cs[j]? = some v → w.cell? (a.add j) = some v) (hfit : o + cs.length ≤ cur.length) (h1 : ∀ v ∈ cs, v.oneCell' = true) :
    ∃ w', Copies P [dT, sT] [.slice (some ⟨g, o, none⟩) dLen dCap, .slice (some a) sLen sCap] (.int .i64 ((Nat.min sLen dLen : Nat) : Int)) w w' ∧ Blk w' g t (cur.take o ++ cs ++ cur.drop (o + cs.length)) ∧ Chg [g] w w' ∧ w'.heap.size = w.heap.size := by
  have hl := run_loadCells_list (P := P) w a cs hsrc
  have hst := run_storeCells_at P g o t cs 0 ⟨cur⟩ w hg (by simpa using hfit) h1
  refine ⟨_, ?_, setRow_heap w g ⟨cur⟩ _ t _ hg, setRow_chg _ _ _, by simp⟩
  unfold Copies
  cases hq : P.info? e with
  | none => simp [hq] at hs
  | some i =>
    have hi : i.size = size := by simpa [hq] using hs
    rw [hn] at hl
    simp only [Builtin.copy_, run_underlying hu, Builtin.lenOf, Builtin.firstCells, sizeOf, typeInfo, hq, hi, hl, hst, Sem.run_bind, Sem.run_pure, Result.andThen_ok, goInt]
    simp [typeInfo, hq, hi, hl, hst, run_underlying hu]
theorem Own.take {w : World} {B : Nat} {e : TypeId} {size : Nat} {p : Option Addr} {n c : Nat} {xs : List Value} (h : Own w B e size p n c xs) {i : Nat} (hi : i ≤ n) : Own w B e size p i c (xs.take (i * size)) := by
  have hl := h.len
  have him : i * size ≤ n * size := Nat.mul_le_mul_right _ hi
  refine ⟨by simp; omega, ?_⟩
  rcases h.2 with ⟨h1, h2⟩ | ⟨g, cap, cur, h1, hb, hg, h3, h4, h5, h6⟩
  · simp only [Value.slice.injEq] at h1
    obtain ⟨rfl, rfl, rfl⟩ := h1
    have : i = 0 := by omega
    subst this
    exact .inl ⟨rfl, rfl⟩
  · simp only [Value.slice.injEq] at h1
    obtain ⟨rfl, _, rfl⟩ := h1
    refine .inr ⟨g, c, cur, rfl, hb, hg, by omega, h4, h5, ?_⟩
    rw [← h6, List.take_take, Nat.min_eq_left him]
theorem Own.pushN {P : Program} {w : World} {B : Nat} {t e : TypeId} {z : Value} {size bytes : Nat} {p : Option Addr} {n c m mc : Nat} {a : Addr} {xs news : List Value} (h : Own w B e size p n c xs)
    (hT : sliceT P t e z size bytes) (hb : B ≤ w.heap.size) (hcells : ∀ j u, news[j]? = some u → w.cell? (a.add j) = some u) (hl : news.length = m * size) (h1 : ∀ u ∈ news, u.oneCell' = true)
    (hbytes : (n + m) * bytes ≤ 140737488355328) (hby : 1 ≤ bytes) (hm0 : 0 < m) :
    ∃ p' c' w', Appends P [t, t] [.slice p n c, .slice (some a) m mc] (.slice p' (n + m) c') w w' ∧ Own w' B e size p' (n + m) c' (xs ++ news) ∧ Chg (p.map (·.block)).toList w w' ∧
      ((p'.map (·.block) = p.map (·.block) ∧ n + m ≤ c) ∨ ((∀ q, p'.map (·.block) = some q → w.heap.size ≤ q) ∧ (p = none ∨ c < n + m))) := by
  obtain ⟨hu, hi, hz, hs⟩ := hT
  cases hinf : P.info? e with
  | none => rw [hinf] at hi; cases hi
  | some i =>
    rw [hinf] at hi
    simp only [Option.map_some, Option.some.injEq, Prod.mk.injEq] at hi
    have hnm : n + m ≤ maxLen := by
      have : n + m ≤ (n + m) * bytes := Nat.le_mul_of_pos_right _ hby
      simp only [maxLen]; omega
    obtain ⟨v', w', hrun, hown, hgr, _⟩ := run_append_own (P := P) w B t 0 e i z size bytes hu hinf hi.1 hi.2.1 hi.2.2 hz hs (.slice p n c) n xs h a m mc news hl hcells h1 hnm hbytes hb
    have hv : ∃ p' c', v' = .slice p' (n + m) c' := by
      rcases hown.2 with ⟨e1, e2⟩ | ⟨g, cap, cur, e1, _⟩
      · omega
      · exact ⟨_, _, e1⟩
    obtain ⟨p', c', rfl⟩ := hv
    have hob : (Value.slice p n c).ownBlock = p.map (·.block) := by cases p <;> rfl
    refine ⟨p', c', w', hrun, hown, ⟨hgr.os, hgr.tape, hgr.output, hgr.size, fun k hk hn => hgr.block k hk ?_⟩, ?_⟩
    · rw [hob]; intro e; rw [← e] at hn; simp at hn
    have hrun : (Builtin.append_ #[t, t] 0 #[.slice p n c, .slice (some a) m mc]).run P w = .ok (.slice p' (n + m) c') w' := hrun
    rcases h.2 with ⟨e1, e2⟩ | ⟨g, cap, cur, e1, hB, hg, h3, h4, h5, h6⟩
    · simp only [Value.slice.injEq] at e1
      obtain ⟨rfl, rfl, rfl⟩ := e1
      have h0 := run_append_nil (P := P) w t 0 e i z hu hinf hi.1 a m mc news (by rw [hl, hi.2.1]) hcells (by omega) (by simp only [maxLen] at hnm; omega) (by rw [hi.2.2]; rw [Nat.zero_add] at hbytes; omega)
      rw [h0] at hrun
      injection hrun with hv _
      simp only [Value.slice.injEq] at hv
      exact .inr ⟨fun q hq => by rw [← hv.1] at hq; simp at hq; omega, .inl rfl⟩
    · simp only [Value.slice.injEq] at e1
      obtain ⟨rfl, _, rfl⟩ := e1
      by_cases hroom : n + m ≤ c
      · have hsz : n * i.size + news.length ≤ cur.size := by
          have : (n + m) * size ≤ c * size := Nat.mul_le_mul_right _ hroom
          rw [hi.2.1, hl, h5, Nat.add_mul] at *
          omega
        have h0 := run_append_room (P := P) w t 0 e i hu hinf g n c cur hg a m mc news (by rw [hl, hi.2.1]) hcells h1 hroom hsz
        rw [h0] at hrun
        injection hrun with hv _
        simp only [Value.slice.injEq] at hv
        exact .inl ⟨by rw [← hv.1], hroom⟩
      · have holds : ∀ j v, xs[j]? = some v → w.cell? ((⟨g, 0, none⟩ : Addr).add j) = some v := World.ownsRow.cells h rfl
        have hfit : Builtin.nextslicecap (n + m) c * i.bytes ≤ 281474976710656 := by
          rw [hi.2.2]; exact growslice_fits (by omega) hbytes
        have h0 := run_append_grow (P := P) w t 0 e i z hu hinf hi.1 ⟨g, 0, none⟩ n c xs (by rw [h.len, hi.2.1]) holds a m mc news (by rw [hl, hi.2.1]) hcells (by omega) (by simp only [maxLen] at hnm; omega) hfit
        rw [h0] at hrun
        injection hrun with hv _
        simp only [Value.slice.injEq] at hv
        exact .inr ⟨fun q hq => by rw [← hv.1] at hq; simp at hq; omega, .inr (by omega)⟩
theorem Own.growZeros {P : Program} {w : World} {B : Nat} {t tn e : TypeId} {z : Value} {size bytes g i c k : Nat} {xs : List Value} (h : Own w B e size (some ⟨g, 0, none⟩) i c xs)
    (hT : sliceT P t e z size bytes) (htn : P.underlying tn = some (.int .i64)) (hk : 0 < k) (hg : c < i + k) (hbytes : (i + k) * bytes ≤ 140737488355328) (hby : 1 ≤ bytes) :
    ∃ r c' w' ys, Appends P [t, tn] [.slice (some ⟨g, 0, none⟩) i c, .int .i64 ((k : Nat) : Int)] (.slice (some ⟨r, 0, none⟩) (i + k) c') w w' ∧ Blk w' r e ys ∧ ys.length = c' * size ∧ i + k ≤ c' ∧ c' ≤ maxLen ∧ ys.take (i * size) = xs ∧ w.heap.size ≤ r ∧ Ext w w' := by
  obtain ⟨hu, hi, hz, hs⟩ := hT
  cases hinf : P.info? e with
  | none => rw [hinf] at hi; cases hi
  | some inf =>
    rw [hinf] at hi
    simp only [Option.map_some, Option.some.injEq, Prod.mk.injEq] at hi
    have hnm : i + k ≤ maxLen := by
      have : i + k ≤ (i + k) * bytes := Nat.le_mul_of_pos_right _ hby
      simp only [maxLen]; omega
    have hcells : ∀ j u, xs[j]? = some u → w.drew.cell? ((⟨g, 0, none⟩ : Addr).add j) = some u := World.ownsRow.cells h rfl
    have hold : (Builtin.firstCells inf.size i (.slice (some ⟨g, 0, none⟩) i c)).run P w.drew = .ok xs.toArray w.drew := by
      rw [hi.2.1]
      exact run_firstCells_some w.drew size i ⟨g, 0, none⟩ i c xs h.len hcells
    have hkb : k * inf.bytes ≤ 281474976710656 := by
      rw [hi.2.2]
      have : k * bytes ≤ (i + k) * bytes := Nat.mul_le_mul_right _ (by omega)
      omega
    have hr := Lib.run_append_grow_zeros (P := P) w t tn 0 e inf z .i64 .i64 hu htn hinf hi.1 (some ⟨g, 0, none⟩) i c xs hold k hk (by rw [hi.2.1]; exact hs) hg (by simp only [maxLen] at hnm; omega) hkb (by rw [hi.2.2]; exact growslice_fits hg hbytes)
    have hge := grownCap_ge w (i + k) c e
    have hcm : grownCap w (i + k) c e ≤ maxLen := grownCap_le_maxLen w (i + k) c e hnm
    have hb : Blk (w.drew.alloc (.cells (xs.toArray ++ Builtin.zeroCells z.cells k ++ Builtin.zeroCells z.cells (grownCap w (i + k) c e - (i + k))) e)) w.heap.size e (xs ++ (Builtin.zeroCells z.cells k).toList ++ (Builtin.zeroCells z.cells (grownCap w (i + k) c e - (i + k))).toList) := by
      have := heap_alloc_new w.drew (.cells (xs.toArray ++ Builtin.zeroCells z.cells k ++ Builtin.zeroCells z.cells (grownCap w (i + k) c e - (i + k))) e)
      refine Eq.trans this ?_
      congr 2
      apply Array.ext'
      simp
    refine ⟨_, _, _, _, hr, hb, ?_, hge, hcm, ?_, Nat.le_refl _, ((Below.refl _ _).drew).alloc (Nat.le_refl _) _⟩
    · simp only [List.length_append, Array.length_toList, size_zeroCells, hz, h.len, ← Nat.add_mul]
      congr 1
      omega
    · rw [List.append_assoc, ← h.len, List.take_left]
theorem externs_apart {P : Program} {f : Nat} {fn : Func} {tS tR e tA tB : TypeId} {size a la ca lb cb b off : Nat} {xs ys : List Value} {w : World} (hf : P.funcs[f]? = some fn) (hname : (fn.name == "runtime.NumGoroutine") = false)
    (hb : fn.body.isNone = true) (hn : Extern.findNext fn = none) (he : Extern.find fn = some (Extern.SlicesOverlaps.overlaps #[tS, tS] #[tR])) (ht : P.underlying tS = some (.slice e)) (hz : ∀ w, (Go.sizeOf e).run P w = .ok size w)
    (hA : Blk w a tA xs) (hB : Blk w b tB ys) (hne : a ≠ b) (hy : ys.length ≠ 0) :
    Externs P f [.slice (some ⟨a, 0, none⟩) la ca, .slice (some ⟨b, off, none⟩) lb cb] (.bool false) w w := by
  have hA' : w.heap[a]? = some (.cells ⟨xs⟩ tA (0, 0)) := hA
  have hB' : w.heap[b]? = some (.cells ⟨ys⟩ tB (0, 0)) := hB
  unfold Externs
  rw [run_callFunc_extern hf hname hb hn he]
  rw [Lib.run_overlaps_apart w tS tR e ht size hz ⟨a, 0, none⟩ ⟨b, off, none⟩ la ca lb cb hne tA tB xs.length ys.length (by simp [World.shape?, hA']) (by simp [World.shape?, hB']) hy (by simp [World.frozen?, hA']) (by simp [World.frozen?, hA'])]
  rfl
theorem AllO.ins {w : World} {B k : Nat} {cs : List Value} {x : List D0} {f : List Nat} (hk : cs.length = k) (ho : Owns w B cs x f) : ∀ {css : List (List Value)} {l : List (List D0)} {fs : List (List Nat)} (i : Nat), i ≤ l.length → AllO w B k css l fs → AllO w B k (css.take i ++ cs :: css.drop i) (l.take i ++ x :: l.drop i) (fs.take i ++ f :: fs.drop i)
  | css, l, fs, 0, _, h => by
    simp only [List.take_zero, List.drop_zero, List.nil_append]
    exact ⟨hk, ho, h⟩
  | _ :: _, _ :: _, _ :: _, i + 1, hi, h => ⟨h.1, h.2.1, AllO.ins hk ho i (by simpa using hi) h.2.2⟩
  | [], [], [], i + 1, hi, _ => by simp at hi
  | [], [], _ :: _, _, _, h => h.elim
  | [], _ :: _, _, _, _, h => h.elim
  | _ :: _, [], _, _, _, h => h.elim
  | _ :: _, _ :: _, [], _, _, h => h.elim
theorem AllO.put {w : World} {B k : Nat} {cs : List Value} {x : List D0} {f : List Nat} (hk : cs.length = k) (ho : Owns w B cs x f) : ∀ {css : List (List Value)} {l : List (List D0)} {fs : List (List Nat)} (i : Nat), AllO w B k css l fs → AllO w B k (css.set i cs) (l.set i x) (fs.set i f)
  | [], [], [], _, _ => trivial
  | _ :: _, _ :: _, _ :: _, 0, h => ⟨hk, ho, h.2.2⟩
  | _ :: _, _ :: _, _ :: _, i + 1, h => ⟨h.1, h.2.1, AllO.put hk ho i h.2.2⟩
  | [], [], _ :: _, _, h => h.elim
  | [], _ :: _, _, _, h => h.elim
  | _ :: _, [], _, _, h => h.elim
  | _ :: _, _ :: _, [], _, h => h.elim
theorem mem_ins {α : Type} {fs : List (List α)} {f : List α} {i : Nat} {y : α} (h : y ∈ (fs.take i ++ f :: fs.drop i).flatten) : y ∈ f ∨ y ∈ fs.flatten := by
  rw [List.flatten_append, List.flatten_cons, List.mem_append, List.mem_append] at h
  rcases h with h | h | h
  · obtain ⟨g, hg, hy⟩ := List.mem_flatten.1 h
    exact .inr (List.mem_flatten.2 ⟨g, List.mem_of_mem_take hg, hy⟩)
  · exact .inl h
  · obtain ⟨g, hg, hy⟩ := List.mem_flatten.1 h
    exact .inr (List.mem_flatten.2 ⟨g, List.mem_of_mem_drop hg, hy⟩)
theorem nodup_ins {α : Type} {fs : List (List α)} {f : List α} (h : fs.flatten.Nodup) (hf : f.Nodup) (hd : ∀ y ∈ f, y ∉ fs.flatten) (i : Nat) : (fs.take i ++ f :: fs.drop i).flatten.Nodup := by
  have e : fs.flatten = (fs.take i).flatten ++ (fs.drop i).flatten := by rw [← List.flatten_append, List.take_append_drop]
  rw [e] at h hd
  rw [List.nodup_append] at h
  rw [List.flatten_append, List.flatten_cons, List.nodup_append]
  refine ⟨h.1, ?_, ?_⟩
  · rw [List.nodup_append]
    exact ⟨hf, h.2.1, fun a ha b hb e => hd a ha (by rw [e]; exact List.mem_append_right _ hb)⟩
  · intro a ha b hb e
    rcases List.mem_append.1 hb with hb | hb
    · exact hd b hb (by rw [← e]; exact List.mem_append_left _ ha)
    · exact h.2.2 a ha b hb e
theorem mem_put {α : Type} {fs : List (List α)} {f : List α} {i : Nat} {y : α} (h : y ∈ (fs.set i f).flatten) : y ∈ f ∨ y ∈ fs.flatten := by
  obtain ⟨g, hg, hy⟩ := List.mem_flatten.1 h
  rcases List.mem_or_eq_of_mem_set hg with h1 | h1
  · exact .inr (List.mem_flatten.2 ⟨g, h1, hy⟩)
  · rw [h1] at hy; exact .inl hy
theorem nodup_put {α : Type} {fs : List (List α)} {f : List α} (h : fs.flatten.Nodup) (hf : f.Nodup) (hd : ∀ y ∈ f, y ∉ fs.flatten) (i : Nat) : (fs.set i f).flatten.Nodup := by
  induction fs generalizing i with
  | nil => simp
  | cons g fs ih =>
    rw [List.flatten_cons, List.nodup_append] at h
    cases i with
    | zero =>
      rw [List.set_cons_zero, List.flatten_cons, List.nodup_append]
      exact ⟨hf, h.2.1, fun a ha b hb e => hd a ha (by rw [e, List.flatten_cons]; exact List.mem_append_right _ hb)⟩
    | succ i =>
      rw [List.set_cons_succ, List.flatten_cons, List.nodup_append]
      refine ⟨h.1, ih h.2.1 (fun y hy hm => hd y hy (by rw [List.flatten_cons]; exact List.mem_append_right _ hm)) i, fun a ha b hb e => ?_⟩
      rcases mem_put hb with hb | hb
      · exact hd b hb (by rw [← e, List.flatten_cons]; exact List.mem_append_left _ ha)
      · exact h.2.2 a ha b hb e
theorem flat_ins {α : Type} {k : Nat} : ∀ {css : List (List α)}, (∀ c ∈ css, c.length = k) → ∀ (i : Nat) (cs : List α), i ≤ css.length → (css.take i ++ cs :: css.drop i).flatten = css.flatten.take (i * k) ++ cs ++ css.flatten.drop (i * k)
  | css, h, 0, cs, _ => by simp
  | c :: css, h, i + 1, cs, hi => by
    have ih := flat_ins (css := css) (fun d hd => h d (List.mem_cons_of_mem _ hd)) i cs (by simpa using hi)
    have hc := h c List.mem_cons_self
    have e : (i + 1) * k = c.length + i * k := by rw [hc, Nat.succ_mul, Nat.add_comm]
    rw [List.take_succ_cons, List.drop_succ_cons, List.cons_append, List.flatten_cons, ih, List.flatten_cons, e, List.take_length_add_append, List.drop_length_add_append]
    simp
theorem OwnRows.ins {w : World} {B : Nat} {e : TypeId} {k : Nat} {p : Option Addr} {n c : Nat} {l : List (List D0)} {f : List Nat} (h : OwnRows w B e k p n c l f) {i : Nat} (hi : i ≤ n) :
    ∃ xs, Own w B e k p n c xs ∧ (∀ v ∈ xs, v.oneCell' = true) ∧ ∀ w' p' c' cs x fx, Own w' B e k p' (n + 1) c' (xs.take (i * k) ++ cs ++ xs.drop (i * k)) → Chg (p.map (·.block)).toList w w' →
      (p'.map (·.block) = p.map (·.block) ∨ ∀ q, p'.map (·.block) = some q → w.heap.size ≤ q) → cs.length = k → Owns w' B cs x fx → fx.Nodup → (∀ q ∈ fx, q ∉ f) → (∀ q ∈ fx, p'.map (·.block) ≠ some q) →
      ∃ f', OwnRows w' B e k p' (n + 1) c' (l.take i ++ x :: l.drop i) f' ∧ ∀ q ∈ f', q ∈ f ∨ q ∈ fx ∨ w.heap.size ≤ q := by
  obtain ⟨hl, css, fs, ha, ho, rfl, hnd⟩ := h
  obtain ⟨hlen, hcl, hfl⟩ := ha.lens
  refine ⟨css.flatten, ho, ha.cells1, ?_⟩
  intro w' p' c' cs x fx ho' hch hp hcs hox hnx hdis hpx
  have hnd1 := List.nodup_append.1 hnd
  have hpin : ∀ q ∈ fs.flatten, q ∉ (p.map (·.block)).toList := fun q hq hm => hnd1.2.2 q hm q hq rfl
  have ha' := AllO.ins hcs hox i (by omega) (ha.chg hch hpin)
  have hlt : ∀ q ∈ fs.flatten, q < w.heap.size := fun q hq => (ha.lt q hq).2
  refine ⟨(p'.map (·.block)).toList ++ (fs.take i ++ fx :: fs.drop i).flatten, ⟨by simp; omega, _, _, ha', by rw [flat_ins hlen i cs (by omega)]; exact ho', rfl, ?_⟩, ?_⟩
  · rw [List.nodup_append]
    refine ⟨by cases p' <;> simp, nodup_ins hnd1.2.1 hnx (fun y hy hm => hdis y hy (List.mem_append_right _ hm)) i, ?_⟩
    intro a ha b hb hab
    subst hab
    have hpa := opt_mem ha
    rcases mem_ins hb with hb | hb
    · exact hpx a hb hpa
    · rcases hp with hp | hp
      · rw [hp] at hpa
        exact hpin a hb (mem_opt hpa)
      · have := hp a hpa
        have := hlt a hb
        omega
  · intro q hq
    rcases List.mem_append.1 hq with hq | hq
    · have hpa := opt_mem hq
      rcases hp with hp | hp
      · rw [hp] at hpa
        exact .inl (List.mem_append_left _ (mem_opt hpa))
      · exact .inr (.inr (hp q hpa))
    · rcases mem_ins hq with hq | hq
      · exact .inr (.inl hq)
      · exact .inl (List.mem_append_right _ hq)
theorem OwnRows.put {w : World} {B : Nat} {e : TypeId} {k : Nat} {p : Option Addr} {n c : Nat} {l : List (List D0)} {f : List Nat} (h : OwnRows w B e k p n c l f) {i : Nat} {x : List D0} (hx : l[i]? = some x) :
    ∃ b xs cs zs, p = some ⟨b, 0, none⟩ ∧ B ≤ b ∧ b ∈ f ∧ xs.length = i * k ∧ cs.length = k ∧ Blk w b e (xs ++ cs ++ zs) ∧ Reps w cs x ∧
      ∀ w' cs' x' f', Chg [b] w w' → cs'.length = k → Blk w' b e (xs ++ cs' ++ zs) → Owns w' B cs' x' f' → f'.Nodup → (∀ y ∈ f', y ∉ f) → ∃ f'', OwnRows w' B e k p n c (l.set i x') f'' ∧ ∀ q ∈ f'', q ∈ f ∨ q ∈ f' := by
  obtain ⟨hl, css, fs, ha, ho, rfl, hnd⟩ := h
  have hi : i < l.length := (List.getElem?_eq_some_iff.1 hx).1
  obtain ⟨cs, fi, hcs, hfi, hk, how⟩ := ha.focus i x hx
  obtain ⟨hlen, hcl, hfl⟩ := ha.lens
  obtain ⟨b, ys, rfl, hb, hblk, hyl, hnc, hc, hy⟩ := ho.blk (by omega)
  have hsp := congrArg List.flatten (cons_at hcs)
  rw [List.flatten_append, List.flatten_cons] at hsp
  have hA : (css.take i).flatten.length = i * k := by
    rw [flat_len fun c hc => hlen c (List.mem_of_mem_take hc), List.length_take, Nat.min_eq_left (by omega)]
  have hys : ys = (css.take i).flatten ++ cs ++ ((css.drop (i + 1)).flatten ++ ys.drop (n * k)) := by
    conv => lhs; rw [← List.take_append_drop (n * k) ys, hy, hsp]
    simp
  have hnd1 := List.nodup_append.1 hnd
  have hpin : ∀ q ∈ fs.flatten, q ∉ [b] := fun q hq hm => hnd1.2.2 q (by simpa using hm) q hq rfl
  rw [hys] at hblk
  refine ⟨b, _, cs, _, rfl, hb, by simp, hA, hk, hblk, how.reps, ?_⟩
  intro w' cs' x' f' hch hk' hblk' how' hnf hdis
  have ha' := AllO.put hk' how' i (ha.chg hch hpin)
  have hset : (css.set i cs').flatten = (css.take i).flatten ++ cs' ++ (css.drop (i + 1)).flatten := by
    rw [List.set_eq_take_append_cons_drop, if_pos (by omega), List.flatten_append, List.flatten_cons, List.append_assoc]
  refine ⟨[b] ++ (fs.set i f').flatten, ⟨by simpa using hl, _, _, ha', ?_, by simp, ?_⟩, ?_⟩
  · rw [hset]
    have hlen2 : ((css.take i).flatten ++ cs' ++ (css.drop (i + 1)).flatten).length = n * k := by
      rw [← hset, flat_len (k := k) (fun c hc => by
        rcases List.mem_or_eq_of_mem_set hc with h1 | h1
        · exact hlen c h1
        · rw [h1]; exact hk')]
      rw [List.length_set, show css.length = n by omega]
    have hyl2 : ((css.take i).flatten ++ cs' ++ ((css.drop (i + 1)).flatten ++ ys.drop (n * k))).length = c * k := by
      rw [← hyl]
      conv => rhs; rw [hys]
      simp only [List.length_append, hk, hk']
    have := Own.of_blk' (B := B) (n := n) hblk' hb hyl2 hnc hc
    rwa [← List.append_assoc, List.take_left' hlen2] at this
  · rw [List.nodup_append]
    refine ⟨by simp, nodup_put hnd1.2.1 hnf (fun y hy hm => hdis y hy (List.mem_append_right _ hm)) i, ?_⟩
    intro a ha b' hb' hab
    subst hab
    rcases mem_put hb' with hb' | hb'
    · exact hdis a hb' (by simp at ha; subst ha; simp)
    · exact hpin a hb' ha
  · intro q hq
    rcases List.mem_append.1 hq with hq | hq
    · exact .inl (by simp at hq; subst hq; simp)
    · rcases mem_put hq with hq | hq
      · exact .inr hq
      · exact .inl (List.mem_append_right _ hq)
end Go.Proofs.YtfehpaekbbmkcaaGreatDoor.Sx

namespace Go.Proofs.YtfehpaekbbmkcaaGreatDoor
open Go Go.Proofs.YtfehpaekbbmkcaaGreatDoor.Sx
set_option linter.unusedVariables false
set_option linter.unusedSimpArgs false
theorem sub0g (p : Option Addr) (c k : Nat) : Sx.sub p 0 c k = p := by
  unfold Sx.sub
  split
  · rfl
  · cases p <;> simp [Addr.add]
theorem subS {b i c k : Nat} (h : i < c) : Sx.sub (some ⟨b, 0, none⟩) i c k = some ⟨b, i * k, none⟩ := by
  unfold Sx.sub
  rw [if_neg (by omega)]
  show some ((⟨b, 0, none⟩ : Addr).add (i * k)) = _
  rw [addr_add, Nat.zero_add]
theorem len_copy {α : Type} {cur cs : List α} {o : Nat} (h : o + cs.length ≤ cur.length) : (cur.take o ++ cs ++ cur.drop (o + cs.length)).length = cur.length := by
  simp only [List.length_append, List.length_take, List.length_drop]
  omega
theorem list_grow {α : Type} {ys A news D : List α} {a m : Nat} (hA : ys.take a = A) (ha : A.length = a) (hm : news.length = m) :
    (((ys.take a ++ news ++ ys.drop (a + m)).take (a + m) ++ D ++ (ys.take a ++ news ++ ys.drop (a + m)).drop (a + m + D.length)).take (a + m + D.length)) = A ++ news ++ D := by
  have h1 : (A ++ news).length = a + m := by simp [ha, hm]
  rw [hA, List.take_left' h1, List.take_left' (by simp [ha, hm]; omega)]
theorem list_shift {α : Type} {ys A news D : List α} {a m : Nat} (hA : ys.take a = A) (hy : a + m ≤ ys.length) (ha : A.length = a) (hm : news.length = m) :
    (((ys.take (a + m) ++ D ++ ys.drop (a + m + D.length)).take a ++ news ++ (ys.take (a + m) ++ D ++ ys.drop (a + m + D.length)).drop (a + m)).take (a + m + D.length)) = A ++ news ++ D := by
  have h1 : (ys.take (a + m)).length = a + m := by simp; omega
  have h2 : (ys.take (a + m) ++ D ++ ys.drop (a + m + D.length)).take a = A := by
    rw [List.append_assoc, List.take_append_of_le_length (by omega), List.take_take, Nat.min_eq_left (by omega), hA]
  have h3 : (ys.take (a + m) ++ D ++ ys.drop (a + m + D.length)).drop (a + m) = D ++ ys.drop (a + m + D.length) := by
    rw [List.append_assoc, List.drop_left' h1]
  rw [h2, h3, ← List.append_assoc, List.take_left' (by simp [ha, hm]; omega)]
theorem ins_sliceT_TaxSum : sliceT P T_s_impl_TaxSum T_impl_TaxSum (.agg ⟨[.bool false, .slice none 0 0, .int .i64 0, .string ByteArray.empty, .bool false, .slice none 0 0, .string ByteArray.empty, .bool false, .slice none 0 0]⟩) 9 136 := ⟨by kernel_rfl, by kernel_rfl, rfl, by decide⟩
theorem ins_overlaps_TaxSum {a b off lb cb : Nat} {xs ys : List Value} {w : World} {tA tB : TypeId} (hA : Blk w a tA xs) (hB : Blk w b tB ys) (hne : a ≠ b) (hy : ys.length ≠ 0) :
    Externs P n_slices_overlaps_impl_TaxSum [.slice (some ⟨a, 0, none⟩) 1 1, .slice (some ⟨b, off, none⟩) lb cb] (.bool false) w w :=
  externs_apart Tryz.func269 (by kernel_rfl) (by kernel_rfl) (by kernel_rfl) (by kernel_rfl) (tR := T_bool) (show P.underlying T_s_impl_TaxSum = some (.slice T_impl_TaxSum) by kernel_rfl) (size := 9) (fun w => by
    have h := ins_sliceT_TaxSum.2.1
    cases hq : P.info? T_impl_TaxSum with
    | none => rw [hq] at h; cases h
    | some i =>
      rw [hq] at h
      simp only [Option.map_some, Option.some.injEq, Prod.mk.injEq] at h
      rw [sizeOf_run hq, h.2.1]) hA hB hne hy
theorem ins_TaxSum_c {w : World} {B : Nat} {p : Option Addr} {n c r i : Nat} {xs news : List Value} (h : Own w B T_impl_TaxSum 9 p n c xs) (h1 : ∀ v ∈ xs, v.oneCell' = true) (hr : Blk w r T_impl_TaxSum news) (hl : news.length = 9) (hn1 : ∀ v ∈ news, v.oneCell' = true)
    (hpr : p.map (·.block) ≠ some r) (hi : i ≤ n) (hB : B ≤ w.heap.size) (hbytes : (n + 1) * 136 ≤ 140737488355328) :
    Ret P n_slices_Insert_impl_TaxSum_impl_TaxSum [.slice p n c, .int .i64 ((i : Nat) : Int), .slice (some ⟨r, 0, none⟩) 1 1] w fun v w' => ∃ p' c', v = .slice p' (n + 1) c' ∧ Own w' B T_impl_TaxSum 9 p' (n + 1) c' (xs.take (i * 9) ++ news ++ xs.drop (i * 9)) ∧ Chg (p.map (·.block)).toList w w' ∧
      (p'.map (·.block) = p.map (·.block) ∨ ∀ q, p'.map (·.block) = some q → w.heap.size ≤ q) := by
  have hlen := h.len
  have hseg : ∀ W, Ext w W → ∀ j u, news[j]? = some u → W.cell? ((⟨r, 0, none⟩ : Addr).add j) = some u := fun W hW j u hj => by rw [addr_add, Nat.zero_add, (hr.ext hW).cell, hj]
  refine slices_Insert_impl_TaxSum_impl_TaxSum_ret ?_
  unfold slices_Insert_impl_TaxSum_impl_TaxSum
  simp only [Int.toNat_natCast, Nat.sub_zero, sub0g]
  refine ⟨⟨by omega, by omega⟩, ifD (fun hh => absurd hh (by decide)) (fun _ => ifD (fun he => ?_) (fun hne => exW ⟨by omega, by omega⟩ (ifD (fun hgr => ?_) (fun hroom => ?_))))⟩
  · have hin : i = n := by omega
    subst hin
    obtain ⟨p', c', w', hrun, hown, hch, hp⟩ := h.pushN (mc := 1) (m := 1) ins_sliceT_TaxSum hB (hseg w (Ext.refl w)) (by rw [hl]) hn1 hbytes (by decide) (by decide)
    refine ⟨p', i + 1, c', w', hrun, p', c', rfl, ?_, hch, ?_⟩
    · rw [List.take_of_length_le (by omega), List.drop_of_length_le (by omega), List.append_nil]
      exact hown
    · rcases hp with ⟨hp, _⟩ | ⟨hp, _⟩
      · exact .inl hp
      · exact .inr hp
  · have hin : i < n := by omega
    obtain ⟨b, ys, rfl, hb, hblk, hyl, hnc, hcm, hy⟩ := h.blk (by omega)
    have hcn : c = n := by omega
    subst hcn
    have hnr : r ≠ b := fun e => hpr (by rw [e]; rfl)
    have hbl := hblk.lt
    refine ⟨⟨by omega, by omega⟩, exW ⟨by omega, by omega⟩ (exW ⟨by omega, by omega⟩ ?_)⟩
    rw [show ((c : Nat) : Int) + ((1 : Nat) : Int) - ((i : Nat) : Int) = ((c + 1 - i : Nat) : Int) by omega]
    obtain ⟨r', c', w1, ys1, hA, hb1, hyl1, hle1, hcm1, htk, hr', hx1⟩ := (h.take (i := i) (by omega)).growZeros (tn := T_int) (k := c + 1 - i) ins_sliceT_TaxSum (by kernel_rfl) (by omega) (by omega) (by rw [show i + (c + 1 - i) = c + 1 by omega]; exact hbytes) (by decide)
    rw [show i + (c + 1 - i) = c + 1 by omega] at hA hle1
    have hAl : (xs.take (i * 9)).length = i * 9 := by simp; omega
    obtain ⟨w2, hC2, hb2, ch2, sz2⟩ := copies_row (P := P) (dT := T_s_impl_TaxSum) (sT := T_s_impl_TaxSum) (e := T_impl_TaxSum) (size := 9) (o := i * 9) (dLen := c + 1 - i) (dCap := c' - i) (sLen := 1) (sCap := 1) (cs := news) (by kernel_rfl) (by kernel_rfl) hb1 (by rw [hl, show Nat.min 1 (c + 1 - i) = 1 from Nat.min_eq_left (by omega)]) (hseg w1 hx1) (by omega) hn1
    have hblk2 := (hblk.ext hx1).chg ch2 (by simp; omega)
    have hdr := Ext.drew w2
    have hD : (xs.drop (i * 9)).length = (c - i) * 9 := by simp; omega
    have hsrc : ∀ j u, (xs.drop (i * 9))[j]? = some u → w2.drew.cell? ((⟨b, i * 9, none⟩ : Addr).add j) = some u := fun j u hj => by
      rw [addr_add, (hblk2.ext hdr).cell]
      rw [List.getElem?_drop, ← hy, List.getElem?_take] at hj
      split at hj
      · exact hj
      · cases hj
    obtain ⟨w3, hC3, hb3, ch3, sz3⟩ := copies_row (P := P) (dT := T_s_impl_TaxSum) (sT := T_s_impl_TaxSum) (e := T_impl_TaxSum) (size := 9) (o := (i + 1) * 9) (dLen := c + 1 - (i + 1)) (dCap := c' - (i + 1)) (sLen := c - i) (sCap := c - i) (cs := xs.drop (i * 9)) (by kernel_rfl) (by kernel_rfl) (hb2.ext hdr) (by rw [hD, show Nat.min (c - i) (c + 1 - (i + 1)) = c - i from Nat.min_eq_left (by omega)]) hsrc (by simp; omega) (fun v hv => h1 v (List.mem_of_mem_drop hv))
    refine ⟨_, _, _, w1, hA, ⟨by omega, by omega⟩, ((Nat.min 1 (c + 1 - i) : Nat) : Int), w2, ?_, exW ⟨by omega, by omega⟩ ⟨⟨by omega, by omega⟩, ⟨by omega, by omega⟩, ((Nat.min (c - i) (c + 1 - (i + 1)) : Nat) : Int), w3, ?_, _, c', rfl, ?_, ?_, .inr fun q hq => by simp at hq; omega⟩⟩
    · rw [subS (by omega)]; exact hC2
    · rw [show (((i : Nat) : Int) + ((1 : Nat) : Int)).toNat = i + 1 by omega, subS (by omega), subS (by omega)]; exact hC3
    · have hL2 := len_copy (cur := ys1) (cs := news) (o := i * 9) (by omega)
      have hL3 := len_copy (cur := ys1.take (i * 9) ++ news ++ ys1.drop (i * 9 + news.length)) (cs := xs.drop (i * 9)) (o := (i + 1) * 9) (by omega)
      rw [hL2] at hL3
      rw [show (i + 1) * 9 = i * 9 + 9 by omega, hl] at hL3
      have hfin := list_grow (D := xs.drop (i * 9)) (m := 9) htk hAl hl
      have hyl3 := hb3
      rw [show (i + 1) * 9 = i * 9 + 9 by omega, hl] at hb3
      have := Own.of_blk' (B := B) (n := c + 1) (c := c') hb3 (by omega) (hL3.trans hyl1) hle1 hcm1
      rw [show (c + 1) * 9 = i * 9 + 9 + (xs.drop (i * 9)).length by omega, hfin] at this
      exact this
    · have h12 : Ext w w2 := hx1.chg ch2 (by simp; omega)
      exact ((h12.trans hdr).chg ch3 (by simp; omega)).toChg
  · have hin : i < n := by omega
    obtain ⟨b, ys, rfl, hb, hblk, hyl, hnc, hcm, hy⟩ := h.blk (by omega)
    have hnr : r ≠ b := fun e => hpr (by rw [e]; rfl)
    have hD : (xs.drop (i * 9)).length = (n - i) * 9 := by simp; omega
    have hAl : (xs.take (i * 9)).length = i * 9 := by simp; omega
    have hdr := Ext.drew w
    have hsrc : ∀ j u, (xs.drop (i * 9))[j]? = some u → w.drew.cell? ((⟨b, i * 9, none⟩ : Addr).add j) = some u := fun j u hj => by
      rw [addr_add, (hblk.ext hdr).cell]
      rw [List.getElem?_drop, ← hy, List.getElem?_take] at hj
      split at hj
      · exact hj
      · cases hj
    obtain ⟨w2, hC2, hb2, ch2, sz2⟩ := copies_row (P := P) (dT := T_s_impl_TaxSum) (sT := T_s_impl_TaxSum) (e := T_impl_TaxSum) (size := 9) (o := (i + 1) * 9) (dLen := n + 1 - (i + 1)) (dCap := c - (i + 1)) (sLen := n + 1 - i) (sCap := c - i) (cs := xs.drop (i * 9)) (by kernel_rfl) (by kernel_rfl) (hblk.ext hdr) (by rw [hD, show Nat.min (n + 1 - i) (n + 1 - (i + 1)) = n - i from (Nat.min_eq_right (by omega)).trans (by omega)]) hsrc (by omega) (fun v hv => h1 v (List.mem_of_mem_drop hv))
    have hseg2 : ∀ j u, news[j]? = some u → w2.cell? ((⟨r, 0, none⟩ : Addr).add j) = some u := fun j u hj => by rw [addr_add, Nat.zero_add, ((hr.ext hdr).chg ch2 (by simpa using hnr)).cell, hj]
    obtain ⟨w3, hC3, hb3, ch3, sz3⟩ := copies_row (P := P) (dT := T_s_impl_TaxSum) (sT := T_s_impl_TaxSum) (e := T_impl_TaxSum) (size := 9) (o := i * 9) (dLen := n + 1 - i) (dCap := c - i) (sLen := 1) (sCap := 1) (cs := news) (by kernel_rfl) (by kernel_rfl) hb2 (by rw [hl, show Nat.min 1 (n + 1 - i) = 1 from Nat.min_eq_left (by omega)]) hseg2 (by simp; omega) hn1
    refine exW ⟨by omega, by omega⟩ ?_
    rw [show (((n : Nat) : Int) + ((1 : Nat) : Int)).toNat = n + 1 by omega]
    refine ⟨⟨by omega, by omega⟩, exW ⟨by omega, by omega⟩ ⟨⟨by omega, by omega⟩, false, w, ?_, ifN (fun _ => exW ⟨by omega, by omega⟩ ⟨⟨by omega, by omega⟩, ⟨by omega, by omega⟩, ((Nat.min (n + 1 - i) (n + 1 - (i + 1)) : Nat) : Int), w2, ?_, ⟨by omega, by omega⟩, ((Nat.min 1 (n + 1 - i) : Nat) : Int), w3, ?_, _, c, rfl, ?_, ?_, .inl rfl⟩) (fun hh => absurd hh (by simp))⟩⟩
    · rw [show (((i : Nat) : Int) + ((1 : Nat) : Int)).toNat = i + 1 by omega, subS (by omega)]
      exact ins_overlaps_TaxSum hr hblk hnr (by omega)
    · rw [show (((i : Nat) : Int) + ((1 : Nat) : Int)).toNat = i + 1 by omega, subS (by omega), subS (by omega)]; exact hC2
    · rw [subS (by omega)]; exact hC3
    · have hA : ys.take (i * 9) = xs.take (i * 9) := by rw [← hy, List.take_take, Nat.min_eq_left (by omega)]
      have hL2 := len_copy (cur := ys) (cs := xs.drop (i * 9)) (o := (i + 1) * 9) (by omega)
      have hL3 := len_copy (cur := ys.take ((i + 1) * 9) ++ xs.drop (i * 9) ++ ys.drop ((i + 1) * 9 + (xs.drop (i * 9)).length)) (cs := news) (o := i * 9) (by omega)
      rw [hL2] at hL3
      rw [show (i + 1) * 9 = i * 9 + 9 by omega, hl] at hL3
      have hfin := list_shift (D := xs.drop (i * 9)) (m := 9) hA (by omega) hAl hl
      rw [show (i + 1) * 9 = i * 9 + 9 by omega, hl] at hb3
      have := Own.of_blk' (B := B) (n := n + 1) (c := c) hb3 hb (hL3.trans hyl) (by omega) hcm
      rw [show (n + 1) * 9 = i * 9 + 9 + (xs.drop (i * 9)).length by omega, hfin] at this
      exact this
    · exact (hdr.toChg.trans ch2).trans ch3
end Go.Proofs.YtfehpaekbbmkcaaGreatDoor

namespace Go.Proofs.YtfehpaekbbmkcaaGreatDoor
open Go Go.Proofs.YtfehpaekbbmkcaaGreatDoor.Sx
set_option linter.unusedVariables false
set_option linter.unusedSimpArgs false
theorem wrapU {n : Int} (h0 : 0 ≤ n) (h1 : n < 18446744073709551616) : IntKind.wrap .u64 n = n := by
  have : (IntKind.wrap .u64 n) = n % 18446744073709551616 := rfl
  rw [this]; exact Int.emod_eq_of_lt h0 h1
theorem half {n : Int} (h0 : 0 ≤ n) : Int.fdiv n (2 ^ (min (1 : Int).toNat (IntKind.bits .u64))) = n / 2 := by
  have : ((2 : Int) ^ (min (1 : Int).toNat (IntKind.bits .u64))) = 2 := rfl
  rw [this, Int.fdiv_eq_ediv_of_nonneg _ (by decide)]
end Go.Proofs.YtfehpaekbbmkcaaGreatDoor

namespace Go.Proofs.YtfehpaekbbmkcaaGreatDoor
open Go Go.Proofs.YtfehpaekbbmkcaaGreatDoor.Sx
set_option linter.unusedVariables false
set_option linter.unusedSimpArgs false
theorem bs_TaxSum_c {w : World} {p : Option Addr} {n c : Nat} {l : List (List D0)} {xs : List Value} {dt : List D0} (h : RowsR w 9 p n c l) (hc : ∀ x ∈ l, x.map D0.code = [.bool, .ints, .int, .str, .bool, .ints, .str, .bool, .ints]) (g : Reps w xs dt) (gc : dt.map D0.code = [.bool, .ints, .int, .str, .bool, .ints, .str, .bool, .ints]) (f : Value) (q : List D0 → Int)
    (hf : ∀ cs x w', Ext w w' → x ∈ l → Reps w' cs x → Reps w' xs dt → CallW P f [.agg ⟨cs⟩, .agg ⟨xs⟩] w' fun e w'' => e = .returned (.int .i64 (q x)) ∧ Ext w' w'') (k : Nat) (hk : k ≤ n)
    (hlo : ∀ j x, l[j]? = some x → j < k → q x < 0) (hhi : ∀ j x, l[j]? = some x → k ≤ j → ¬ q x < 0) (hn : n ≤ 4611686018427387904) :
    Ret P n_slices_BinarySearchFunc_impl_TaxSum_impl_TaxSum_impl_TaxSum [.slice p n c, .agg ⟨xs⟩, f] w fun v w' => v = .tuple #[.int .i64 (k : Nat), .bool (match l[k]? with | some x => decide (q x = 0) | none => false)] ∧ Ext w w' := by
  have hln := h.1
  have gr := g
  obtain ⟨t0, t1p, t1n, t1c, t1z, t2, t3, t4, t5p, t5n, t5c, t5z, t6, t7, t8p, t8n, t8c, t8z, rfl, rfl, _⟩ := open_TaxSum g gc
  refine slices_BinarySearchFunc_impl_TaxSum_impl_TaxSum_impl_TaxSum_ret ?_
  unfold slices_BinarySearchFunc_impl_TaxSum_impl_TaxSum_impl_TaxSum
  intro r w1 hn1
  have q0 := hn1.blk
  have row : ∀ j (hj : j < n), ∃ b off cs, p = some ⟨b, off, none⟩ ∧ cs.length = 9 ∧ Reps w cs (l[j]'(by omega)) ∧ Seg w b (off + j * 9) cs := fun j hj => by
    obtain ⟨b, off, hp, hs⟩ := h.2.2.2 (by omega)
    obtain ⟨cs, h1, h2, h3⟩ := hs j _ (List.getElem?_eq_getElem (by omega))
    exact ⟨b, off, cs, hp, h1, h2, h3⟩
  refine ⟨fun i j wr => ∃ a b : Nat, i = a ∧ j = b ∧ a ≤ k ∧ k ≤ b ∧ b ≤ n ∧ Ext w1 wr, fun i j _ => (j - i).toNat, ⟨0, n, rfl, rfl, Nat.zero_le _, hk, Nat.le_refl _, Ext.refl _⟩, ?_⟩
  intro junk wr i j ⟨a, b, hia, hjb, ha, hb, hbn, hx⟩
  subst hia
  subst hjb
  have hd := hx.trans (Ext.drew wr)
  have X := hn1.ext.trans hd
  refine ifD (fun hlt => ?_) (fun hge => ?_)
  · have hm : (a + b) / 2 < n := by omega
    obtain ⟨pb, po, cs, hp, hcs, hr, hsg⟩ := row ((a + b) / 2) hm
    subst hp
    have hml : (a + b) / 2 < l.length := by omega
    have hmem : l[(a + b) / 2] ∈ l := List.getElem_mem hml
    have hr2 := hr
    obtain ⟨c0, c1p, c1n, c1c, c1z, c2, c3, c4, c5p, c5n, c5c, c5z, c6, c7, c8p, c8n, c8c, c8z, rfl, hdd, _⟩ := open_TaxSum hr (hc _ hmem)
    refine exW ⟨by omega, by omega⟩ ⟨_, (wrapU (by omega) (by omega)).symm, by decide, _, (half (by omega)).symm, exW ⟨by omega, by omega⟩ ⟨⟨by omega, by omega⟩, ?_⟩⟩
    rw [show ((((a : Nat) : Int) + ((b : Nat) : Int)) / 2).toNat = (a + b) / 2 by omega]
    refine ⟨_, _, _, _, _, _, _, _, _, _, _, _, _, _, _, fun W hW => (hsg.ext (X.trans hW)).loadAAt 0 [.bool c0, .slice c1p c1n c1c, .int .i64 c2, .string c3, .bool c4, .slice c5p c5n c5c, .string c6, .bool c7, .slice c8p c8n c8c] (by rw [addr_add, Nat.add_zero]) (by kernel_rfl) rfl, _, _, _, _, _, _, _, _, _, _, _, _, _, _, _, fun W hW => (q0.ext (hd.trans hW)).loadA0 (by kernel_rfl), ?_⟩
    obtain ⟨g1, first, captured, h1, h2, h3⟩ := hf _ _ _ X hmem (hr2.ext X) (gr.ext X)
    refine ⟨g1, first, captured, h1, h2, Calls.mono h3 fun e w2 ⟨he, hy⟩ => ?_⟩
    refine ⟨_, he, ifD (fun hneg => exW ⟨by omega, by omega⟩ ⟨⟨(a + b) / 2 + 1, b, by omega, rfl, ?_, hb, hbn, hd.trans hy⟩, ?_⟩) (fun hpos => ⟨⟨a, (a + b) / 2, rfl, by omega, ha, ?_, by omega, hd.trans hy⟩, ?_⟩)⟩
    · rcases Nat.lt_or_ge ((a + b) / 2) k with h | h
      · omega
      · exact absurd hneg (hhi _ _ (List.getElem?_eq_getElem hml) h)
    · show (((b : Nat) : Int) - (((a : Int) + (b : Int)) / 2 + 1)).toNat < (((b : Nat) : Int) - ((a : Nat) : Int)).toNat
      omega
    · rcases Nat.lt_or_ge ((a + b) / 2) k with h | h
      · exact absurd (hlo _ _ (List.getElem?_eq_getElem hml) h) hpos
      · omega
    · show ((((a : Int) + (b : Int)) / 2) - ((a : Nat) : Int)).toNat < (((b : Nat) : Int) - ((a : Nat) : Int)).toNat
      omega
  · have hak : a = k := by omega
    subst hak
    refine ifD (fun hlt => ?_) (fun hge2 => ?_)
    · obtain ⟨pb, po, cs, hp, hcs, hr, hsg⟩ := row a (by omega)
      subst hp
      have hml : a < l.length := by omega
      have hmem : l[a] ∈ l := List.getElem_mem hml
      have hr2 := hr
      obtain ⟨c0, c1p, c1n, c1c, c1z, c2, c3, c4, c5p, c5n, c5c, c5z, c6, c7, c8p, c8n, c8c, c8z, rfl, hdd, _⟩ := open_TaxSum hr (hc _ hmem)
      refine ⟨⟨by omega, by omega⟩, ?_⟩
      rw [Int.toNat_natCast]
      refine ⟨_, _, _, _, _, _, _, _, _, _, _, _, _, _, _, fun W hW => (hsg.ext (X.trans hW)).loadAAt 0 [.bool c0, .slice c1p c1n c1c, .int .i64 c2, .string c3, .bool c4, .slice c5p c5n c5c, .string c6, .bool c7, .slice c8p c8n c8c] (by rw [addr_add, Nat.add_zero]) (by kernel_rfl) rfl, _, _, _, _, _, _, _, _, _, _, _, _, _, _, _, fun W hW => (q0.ext (hd.trans hW)).loadA0 (by kernel_rfl), ?_⟩
      obtain ⟨g1, first, captured, h1, h2, h3⟩ := hf _ _ _ X hmem (hr2.ext X) (gr.ext X)
      refine ⟨g1, first, captured, h1, h2, Calls.mono h3 fun e w2 ⟨he, hy⟩ => ?_⟩
      exact ⟨_, he, by rw [List.getElem?_eq_getElem hml], X.trans hy⟩
    · exact ⟨by rw [List.getElem?_eq_none (by omega)], X⟩
def putAt (Q : List D0 → Int) (k : Nat) (l : List (List D0)) (x : List D0) : List (List D0) := if (match l[k]? with | some x => decide (Q x = 0) | none => false) then l else l.take k ++ x :: l.drop k
theorem at_TaxSum_c {w : World} {B q : Nat} {p : Option Addr} {n c : Nat} {l : List (List D0)} {f fx : List Nat} {cf : Value} {xs : List Value} {dt : List D0} (hq : Blk w q T_impl_ordered_loop_example_g00793_impl_TaxSum [.slice p n c, cf]) (ho : OwnRows w B T_impl_TaxSum 9 p n c l f) (hqf : q ∉ f) (hB : B ≤ w.heap.size) (hn : n ≤ 4000000)
    (hc : ∀ x ∈ l, x.map D0.code = [.bool, .ints, .int, .str, .bool, .ints, .str, .bool, .ints]) (ox : Owns w B xs dt fx) (gc : dt.map D0.code = [.bool, .ints, .int, .str, .bool, .ints, .str, .bool, .ints]) (hfx : fx.Nodup) (hdis : ∀ y ∈ fx, y ∉ f) (hqx : q ∉ fx) (Q : List D0 → Int)
    (hcf : ∀ cs x w', Ext w w' → x ∈ l → Reps w' cs x → Reps w' xs dt → CallW P cf [.agg ⟨cs⟩, .agg ⟨xs⟩] w' fun e w'' => e = .returned (.int .i64 (Q x)) ∧ Ext w' w'') (k : Nat) (hk : k ≤ n)
    (hlo : ∀ j x, l[j]? = some x → j < k → Q x < 0) (hhi : ∀ j x, l[j]? = some x → k ≤ j → ¬ Q x < 0) :
    Ret P n_impl_ordered_impl_TaxSum_at [.pointer (some ⟨q, 0, none⟩), .agg ⟨xs⟩] w fun v w' => ∃ b n' c' f', v = .pointer (some ⟨b, k * 9, none⟩) ∧ Blk w' q T_impl_ordered_loop_example_g00793_impl_TaxSum [.slice (some ⟨b, 0, none⟩) n' c', cf] ∧
      OwnRows w' B T_impl_TaxSum 9 (some ⟨b, 0, none⟩) n' c' (putAt Q k l dt) f' ∧ k < n' ∧ Chg (q :: (p.map (·.block)).toList) w w' ∧ (∀ y ∈ f', y ∈ f ∨ y ∈ fx ∨ w.heap.size ≤ y) := by
  have hsl : l.length = n := ho.1
  have hql := hq.lt
  have hgx := ox.reps
  obtain ⟨t0, t1p, t1n, t1c, t1z, t2, t3, t4, t5p, t5n, t5c, t5z, t6, t7, t8p, t8n, t8c, t8z, rfl, hdt, _⟩ := open_TaxSum hgx gc
  refine impl_ordered_impl_TaxSum_at_ret ?_
  unfold impl_ordered_impl_TaxSum_at
  intro r w1 hn1
  have q0 := hn1.blk
  have hd := Ext.drew w1
  have X1 := hn1.ext.trans hd
  refine ⟨_, _, _, fun W hW => (hq.ext (X1.trans hW)).loadAt 0 rfl (by kernel_rfl) rfl, _, _, _, _, _, _, _, _, _, _, _, _, _, _, _, fun W hW => (q0.ext (hd.trans hW)).loadA0 (by kernel_rfl), _, fun W hW => (hq.ext (X1.trans hW)).loadAt 1 rfl (by kernel_rfl) rfl, ?_⟩
  refine Ret.at (bs_TaxSum_c (ho.rows.ext X1) hc (hgx.ext X1) gc cf Q (fun cs x w' hx hm hr hr2 => hcf cs x w' (X1.trans hx) hm hr hr2) k hk hlo hhi (by omega)) ?_
  rintro v w2 ⟨hv, y2⟩
  subst hv
  have X2 := X1.trans y2
  have fin : ∀ (W : World) (b n' c' : Nat) (f' : List Nat), Blk W q T_impl_ordered_loop_example_g00793_impl_TaxSum [.slice (some ⟨b, 0, none⟩) n' c', cf] → OwnRows W B T_impl_TaxSum 9 (some ⟨b, 0, none⟩) n' c' (putAt Q k l dt) f' → k < n' → Chg (q :: (p.map (·.block)).toList) w W → (∀ y ∈ f', y ∈ f ∨ y ∈ fx ∨ w.heap.size ≤ y) →
      impl_ordered_impl_TaxSum_at_j0 (some ⟨q, 0, none⟩) (k : Int) W (fun v w' => ∃ b n' c' f', v = .pointer (some ⟨b, k * 9, none⟩) ∧ Blk w' q T_impl_ordered_loop_example_g00793_impl_TaxSum [.slice (some ⟨b, 0, none⟩) n' c', cf] ∧ OwnRows w' B T_impl_TaxSum 9 (some ⟨b, 0, none⟩) n' c' (putAt Q k l dt) f' ∧ k < n' ∧ Chg (q :: (p.map (·.block)).toList) w w' ∧ (∀ y ∈ f', y ∈ f ∨ y ∈ fx ∨ w.heap.size ≤ y)) := by
    intro W b n' c' f' h1 h2 h3 h4 h5
    unfold impl_ordered_impl_TaxSum_at_j0
    refine ⟨_, _, _, h1.loadAt 0 rfl (by kernel_rfl) rfl, ⟨by omega, by omega⟩, ?_⟩
    rw [Int.toNat_natCast]
    exact ⟨b, n', c', f', by rw [addr_add, Nat.zero_add], h1, h2, h3, h4, h5⟩
  refine ⟨_, _, rfl, ifN (fun hno => ?_) (fun hyes => ?_)⟩
  · have hput : putAt Q k l dt = l.take k ++ dt :: l.drop k := by unfold putAt; rw [hno]; rfl
    have hd2 := Ext.drew w2
    have X3 := X2.trans hd2
    refine ⟨_, _, _, fun W hW => (hq.ext (X3.trans hW)).loadAt 0 rfl (by kernel_rfl) rfl, _, _, _, _, _, _, _, _, _, _, _, _, _, _, _, fun W hW => (q0.ext ((hd.trans y2).trans (hd2.trans hW))).loadA0 (by kernel_rfl), ?_⟩
    intro r1 w3 hn3
    have e3 := hn3.r_eq
    have z3 := hn3.size
    refine ⟨hn3.ext, ?_⟩
    have X4 := X3.trans hn3.ext
    have l3 := X3.le
    obtain ⟨xs, hown, h1, hins⟩ := (ho.ext X4).ins (i := k) (by omega)
    have hpf : ∀ y, p.map (·.block) = some y → y ∈ f := fun y e => by obtain ⟨_, _, _, _, _, hf, _⟩ := ho; rw [hf]; exact List.mem_append_left _ (mem_opt e)
    have hpb : p.map (·.block) ≠ some r1 := fun e => by
      have h2 := (ho.lt r1 (hpf r1 e)).2
      have := X3.le
      omega
    refine Ret.at (ins_TaxSum_c hown h1 hn3.blk rfl hgx.cells1 hpb (by omega) (by have := X4.le; omega) (by omega)) ?_
    rintro v w4 ⟨p', c', hv, hown', hch, hp⟩
    subst hv
    have hpx : ∀ y ∈ fx, y ∉ (p.map (·.block)).toList := fun y hy hm => hdis y hy (hpf y (opt_mem hm))
    have ox4 := (ox.ext X4).chg hch hpx
    obtain ⟨f', hor, hf'⟩ := hins w4 p' c' _ dt fx hown' hch hp rfl ox4 hfx hdis (fun y hy e => by
      rcases hp with hp | hp
      · rw [hp] at e; exact hdis y hy (hpf y e)
      · have h8 := hp y e; have h9 := (ox.lt y hy).2; have := X4.le; omega)
    have hpq : q ∉ (p.map (·.block)).toList := fun hm => hqf (hpf q (opt_mem hm))
    obtain ⟨w5, st5, hb5, ch5, sz5⟩ := ((hq.ext X4).chg hch hpq).store0 (P := P) (t := T_s_impl_TaxSum) (k := 0) (v := .slice p' (n + 1) c') (by kernel_rfl) (by simp) rfl
    refine ⟨_, _, _, rfl, w5, st5, ?_⟩
    rw [← hput] at hor
    have hqf' : q ∉ f' := fun hm => by
      rcases hf' q hm with h | h | h
      · exact hqf h
      · exact hqx h
      · have := X4.le; omega
    have hor5 := hor.chg ch5 (fun k hk hm => hqf' (by simp at hm; rwa [← hm]))
    obtain ⟨b', ys, rfl, _⟩ := hown'.blk (by omega)
    refine fin w5 b' (n + 1) c' f' hb5 hor5 (by omega) ?_ (fun k hk => ?_)
    · exact (X4.toChg.trans (hch.mono (fun k hk => List.mem_cons_of_mem _ hk))).trans (ch5.mono (fun k hk => by simp at hk; simp [hk]))
    · rcases hf' k hk with h | h | h
      · exact .inl h
      · exact .inr (.inl h)
      · exact .inr (.inr (by have := X4.le; omega))
  · have hput : putAt Q k l dt = l := by unfold putAt; rw [hyes]; rfl
    have hlt : k < n := by
      cases hx : l[k]? with
      | none => rw [hx] at hyes; cases hyes
      | some x => have := (List.getElem?_eq_some_iff.1 hx).1; omega
    obtain ⟨xs, hown, _, _⟩ := ho.ins (i := 0) (by omega)
    obtain ⟨b', ys, rfl, _⟩ := hown.blk (by omega)
    refine fin w2 b' n c f (hq.ext X2) ?_ hlt X2.toChg (fun k hk => .inl hk)
    rw [hput]
    exact ho.ext X2
end Go.Proofs.YtfehpaekbbmkcaaGreatDoor

namespace Go.Proofs.YtfehpaekbbmkcaaGreatDoor
set_option linter.unusedVariables false
set_option linter.unusedSimpArgs false
def lowS (m s : Nat) : Nat := ((List.range (s + 1)).find? fun t => decide (m % 10 ^ (s - t) = 0)).getD s
theorem lowS_eq {m s t : Nat} (ht : t ≤ s) (hd : m % 10 ^ (s - t) = 0) (hm : ∀ u < t, m % 10 ^ (s - u) ≠ 0) : lowS m s = t := by
  have : (List.range (s + 1)).find? (fun t => decide (m % 10 ^ (s - t) = 0)) = some t := by
    rw [List.find?_range_eq_some]
    exact ⟨by simpa using hd, by simp; omega, fun j hj => by simpa using hm j hj⟩
  rw [lowS, this]; rfl
theorem low_ex (m s : Nat) : ∃ t, t ≤ s ∧ m % 10 ^ (s - t) = 0 ∧ ∀ u < t, m % 10 ^ (s - u) ≠ 0 := by
  cases e : (List.range (s + 1)).find? (fun t => decide (m % 10 ^ (s - t) = 0)) with
  | none =>
    rw [List.find?_range_eq_none] at e
    have := e s (by omega)
    simp [Nat.mod_one] at this
  | some t =>
    rw [List.find?_range_eq_some] at e
    obtain ⟨h1, h2, h3⟩ := e
    refine ⟨t, by simp at h2; omega, by simpa using h1, fun u hu => by simpa using h3 u hu⟩
theorem lowS_spec (m s : Nat) : lowS m s ≤ s ∧ m % 10 ^ (s - lowS m s) = 0 ∧ ∀ u < lowS m s, m % 10 ^ (s - u) ≠ 0 := by
  obtain ⟨t, h1, h2, h3⟩ := low_ex m s
  rw [lowS_eq h1 h2 h3]
  exact ⟨h1, h2, h3⟩
def lowM (m s : Nat) : Nat := m / 10 ^ (s - lowS m s)
theorem lowM_le (m s : Nat) : lowM m s ≤ m := Nat.div_le_self _ _
end Go.Proofs.YtfehpaekbbmkcaaGreatDoor

namespace Go.Proofs.YtfehpaekbbmkcaaGreatDoor
open Go Go.Proofs.YtfehpaekbbmkcaaGreatDoor.Sx
set_option linter.unusedVariables false
set_option linter.unusedSimpArgs false
def iadd (d e : List D0) : List D0 := if intOk d && intOk e then icap (ival d + ival e) else enc 0
theorem enc0 : enc 0 = [.bool false, .ints []] := by simp [enc, digs_zero]
theorem icap_code (z : Int) : (icap z).map D0.code = [.bool, .ints] := rfl
theorem capL_canon {n : Nat} : Canon (capL (digs n)) ∧ (capL (digs n)).length ≤ 50 := by
  unfold capL
  split
  · exact ⟨digs_canon n, by assumption⟩
  · exact ⟨⟨Limbs.nil, by simp⟩, by simp⟩
theorem icap_ok (z : Int) : intOk (icap z) = true := by
  have h := capL_canon (n := z.natAbs)
  simp only [icap, mkS, intOk, natOk_spec.2 h, Bool.true_and]
  cases decide (z < 0) <;> cases (capL (digs z.natAbs)) <;> simp
theorem mkS_digs {neg : Bool} {m : Nat} {z : Int} (hm : m = z.natAbs) (hs : m ≠ 0 → neg = decide (z < 0)) : mkS neg (capL (digs m)) = icap z := by
  subst hm
  by_cases h0 : z.natAbs = 0
  · have hz : z = 0 := by omega
    subst hz
    simp [icap, mkS, digs_zero, capL]
  · rw [hs h0]; rfl
theorem impl_intsOk_c {w : World} {xs ys : List Value} {dx dy : List D0} (h : Reps w xs dx) (k : Reps w ys dy) (hc : dx.map D0.code = [.bool, .ints]) (kc : dy.map D0.code = [.bool, .ints]) :
    Ret P n_impl_intsOk [.agg ⟨xs⟩, .agg ⟨ys⟩] w fun v w' => v = .bool (intOk dx && intOk dy) ∧ Ext w w' := by
  have hr := h; have kr := k
  obtain ⟨a0, a1p, a1n, a1c, a1z, rfl, rfl, ha⟩ := open_Signed h hc
  obtain ⟨b0, b1p, b1n, b1c, b1z, rfl, rfl, hb⟩ := open_Signed k kc
  refine impl_intsOk_ret ?_
  unfold impl_intsOk
  intro r w1 hn1 r1 w2 hn2
  have x := hn1.ext.trans hn2.ext
  have k0 := hn1.blk.ext hn2.ext; have k1 := hn2.blk
  refine ⟨_, _, _, _, k0.loadA0 (by kernel_rfl), ?_⟩
  refine Ret.at (impl_IntOk_c (hr.ext x) rfl) ?_
  rintro v w3 ⟨hv, y⟩
  subst hv
  refine ⟨_, rfl, fun e => ⟨_, _, _, _, (k1.ext y).loadA0 (by kernel_rfl), ?_⟩, fun e => ⟨by rw [e]; rfl, x.trans y⟩⟩
  refine Ret.at (impl_IntOk_c (kr.ext (x.trans y)) rfl) ?_
  rintro v w4 ⟨hv, y2⟩
  subst hv
  exact ⟨_, rfl, by rw [e]; rfl, (x.trans y).trans y2⟩
end Go.Proofs.YtfehpaekbbmkcaaGreatDoor

namespace Go.Proofs.YtfehpaekbbmkcaaGreatDoor
open Go Go.Proofs.YtfehpaekbbmkcaaGreatDoor.Sx
set_option linter.unusedVariables false
set_option linter.unusedSimpArgs false
theorem digs_len : ∀ (k : Nat) {n : Nat}, n < 1000000000 ^ k → (digs n).length ≤ k
  | 0, n, h => by
    have : n = 0 := by simpa using h
    subst this; simp [digs_zero]
  | k + 1, n, h => by
    by_cases h0 : n = 0
    · subst h0; simp [digs_zero]
    · rw [digs_pos h0, List.length_cons]
      have := digs_len k (n := n / 1000000000) (Nat.div_lt_of_lt_mul (by rw [Nat.mul_comm, ← Nat.pow_succ]; exact h))
      omega
theorem icap_fit {z : Int} (h : (digs z.natAbs).length ≤ 50) : icap z = enc z := by
  unfold icap capL
  rw [if_pos h]
  simp only [mkS, enc, isEmpty_digs]
  by_cases h0 : z < 0
  · have : z.natAbs ≠ 0 := by omega
    simp [h0]; omega
  · simp [h0]
theorem spec_l04Make_c {w : World} {neg : Bool} {p : Option Addr} {n c : Nat} {z : List Int} (h : IntsR w p n c z) (hl : Limbs z) :
    Ret P n_spec_l04Make [.bool neg, .slice p n c] w fun v w' => ∃ b p n c, v = .agg ⟨[.bool b, .slice p n c]⟩ ∧ b = (neg && !(capL (digs (val z).toNat)).isEmpty) ∧ Own w' w.heap.size T_int 1 p n c ((capL (digs (val z).toNat)).map (Value.int .i64)) ∧ Ext w w' := by
  refine spec_l04Make_ret ?_
  unfold spec_l04Make
  intro r w1 hn1
  refine Ret.at (spec_l02Cap_c (h.ext hn1.ext)) ?_
  rintro v w2 ⟨p', n', c', hv, hw, hr⟩
  subst hv; subst hw
  rw [trimL_eq hl] at hr
  have hn' := hr.1
  have h50 : n' ≤ 50 := by
    have := (capL_canon (n := (val z).toNat)).2
    omega
  have e1 := hn1.r_eq
  refine ⟨_, _, _, rfl, fun e => ?_, fun e => ?_⟩
  all_goals
    intro r1 w3 hn3
    obtain ⟨p2, c2, w4, g1, g2, g3⟩ := Own.appendI (Own.fresh hn3) hn3.ext.le (hr.ext hn3.ext) (by omega)
    rw [Nat.zero_add] at g1 g2
    rw [List.nil_append] at g2
    have y4 : Ext w2 w4 := g3 w2 hn3.ext (Nat.le_refl _)
    refine ⟨_, _, _, _, g1, ?_⟩
  · obtain ⟨w5, st, hb5, ch, sz⟩ := (hn1.blk.ext y4).storeA0 (P := P) (t := T_impl_Signed) (xs := [.bool (decide ((0 : Int) < (n' : Nat))), .slice p2 n' c2]) (by kernel_rfl) rfl (by simp [Value.oneCell'])
    refine ⟨w5, st, _, _, _, _, hb5.loadA0 (by kernel_rfl), _, _, _, _, rfl, by rw [len_bool hn', e]; rfl, (g2.chg ch (fun q hq => ?_)).mono hn1.ext.le, (hn1.ext.trans y4).chg ch (by simp; omega)⟩
    have := (World.ownsRow.lt g2 q (by rw [← hq]; cases p2 <;> rfl)).1
    have := hn1.size
    simp; omega
  · obtain ⟨w5, st, hb5, ch, sz⟩ := (hn1.blk.ext y4).storeA0 (P := P) (t := T_impl_Signed) (xs := [.bool false, .slice p2 n' c2]) (by kernel_rfl) rfl (by simp [Value.oneCell'])
    refine ⟨w5, st, _, _, _, _, hb5.loadA0 (by kernel_rfl), _, _, _, _, rfl, by rw [e]; rfl, (g2.chg ch (fun q hq => ?_)).mono hn1.ext.le, (hn1.ext.trans y4).chg ch (by simp; omega)⟩
    have := (World.ownsRow.lt g2 q (by rw [← hq]; cases p2 <;> rfl)).1
    have := hn1.size
    simp; omega
theorem spec_l04Add_c {w : World} {xs ys : List Value} {x y : Int} (h : Reps w xs (enc x)) (k : Reps w ys (enc y)) (hx : (digs x.natAbs).length ≤ 1000000) (hy : (digs y.natAbs).length ≤ 1000000) :
    Ret P n_spec_l04Add [.agg ⟨xs⟩, .agg ⟨ys⟩] w fun v w' => ∃ vs' f, v = .agg ⟨vs'⟩ ∧ Owns w' w.heap.size vs' (icap (x + y)) f ∧ f.Nodup ∧ Ext w w' := by
  obtain ⟨a0, a1p, a1n, a1c, a1z, rfl, hd, ha⟩ := open_Signed h rfl
  obtain ⟨b0, b1p, b1n, b1c, b1z, rfl, he, hb⟩ := open_Signed k rfl
  simp only [enc, List.cons.injEq, D0.bool.injEq, D0.ints.injEq, and_true] at hd he
  obtain ⟨rfl, rfl⟩ := hd
  obtain ⟨rfl, rfl⟩ := he
  have la := ha.1; have lb := hb.1
  have ca := digs_canon x.natAbs; have cb := digs_canon y.natAbs
  have va := val_digs x.natAbs; have vb := val_digs y.natAbs
  refine spec_l04Add_ret ?_
  unfold spec_l04Add
  intro r w1 hn1 r1 w2 hn2 r2 w3 hn3
  have X := (hn1.ext.trans hn2.ext).trans hn3.ext
  have e1 := hn1.r_eq; have e2 := hn2.r_eq; have e3 := hn3.r_eq; have s1 := hn1.size; have s2 := hn2.size; have s3 := hn3.size
  have k0 := (hn1.blk.ext hn2.ext).ext hn3.ext; have k1 := hn2.blk.ext hn3.ext; have k2 := hn3.blk
  have fin : ∀ (W : World) (neg : Bool) (p : Option Addr) (n c : Nat) (z : List Int), IntsR W p n c z → Limbs z → Ext w3 W → (val z).toNat = (x + y).natAbs → ((val z).toNat ≠ 0 → neg = decide (x + y < 0)) →
      Calls P n_spec_l04Make ⟨[.bool neg, .slice p n c]⟩ W fun e_1 wv_7 => ∃ (t170 : Bool) (t171_p : Option Addr) (t171_n : Nat) (t171_c : Nat), e_1 = .returned (.agg #[(.bool t170), (.slice t171_p t171_n t171_c)]) ∧
        ∃ wv_8, Stores P T_impl_Signed ⟨r2, 0, none⟩ (.agg #[(.bool t170), (.slice t171_p t171_n t171_c)]) wv_7 wv_8 ∧
        ∃ (r0 : Bool) (r1_p : Option Addr) (r1_n : Nat) (r1_c : Nat), Loads P T_impl_Signed ⟨r2, 0, none⟩ (.agg #[(.bool r0), (.slice r1_p r1_n r1_c)]) wv_8 ∧ (fun (v : Value) (w' : World) => ∃ vs' f, v = .agg ⟨vs'⟩ ∧ Owns w' w.heap.size vs' (icap (x + y)) f ∧ f.Nodup ∧ Ext w w') (.agg #[(.bool r0), (.slice r1_p r1_n r1_c)]) wv_8 := by
    intro W neg p n c z hz hlz hW hm hs
    refine Ret.at (spec_l04Make_c hz hlz) ?_
    rintro v W2 ⟨b, q, qn, qc, hv, hbb, ho, y2⟩
    subst hv
    have hW0 := hW.le
    obtain ⟨W3, st, hb3, ch, sz⟩ := ((k2.ext hW).ext y2).storeA0 (P := P) (t := T_impl_Signed) (xs := [.bool b, .slice q qn qc]) (by kernel_rfl) rfl (by simp [Value.oneCell'])
    have ow := Owns.int2 (b := b) ho
    rw [hbb] at ow
    have ow2 : Owns W2 W.heap.size [.bool b, .slice q qn qc] (icap (x + y)) (q.map (·.block)).toList := by
      rw [← mkS_digs hm hs, hbb]; exact ow
    refine ⟨_, _, _, _, rfl, W3, st, _, _, _, _, hb3.loadA0 (by kernel_rfl), _, _, rfl, (ow2.chg1 ch (by omega)).mono (by have := X.le; omega), nodup_opt q, ((X.trans hW).trans y2).chg ch (by simp; omega)⟩
  refine ⟨_, k0.load (by kernel_rfl) rfl, _, k1.load (by kernel_rfl) rfl, fun es => ?_, fun es => ?_⟩
  · have es' : decide (x < 0) = decide (y < 0) := by simpa using es
    have D := Ext.drew w3
    refine ⟨_, fun W hW => (k0.ext (D.trans hW)).load (by kernel_rfl) rfl, _, _, _, fun W hW => (k0.ext (D.trans hW)).load (by kernel_rfl) rfl, _, _, _, fun W hW => (k1.ext (D.trans hW)).load (by kernel_rfl) rfl, ?_⟩
    refine Ret.at (spec_l02Add_c (ha.ext (X.trans D)) (hb.ext (X.trans D)) ca.1 cb.1 (by omega) (by omega)) ?_
    rintro v w4 ⟨p, n, c, o, hv, hr, hlo, hln, hvo, y4⟩
    subst hv
    rw [va, vb] at hvo
    refine ⟨_, _, _, rfl, y4, fin w4 _ p n c o hr hlo (D.trans y4) ?_ ?_⟩
    · by_cases hx0 : x < 0 <;> by_cases hy0 : y < 0 <;> simp [hx0, hy0] at es' <;> omega
    · intro h0
      by_cases hx0 : x < 0 <;> by_cases hy0 : y < 0 <;> simp [hx0, hy0] at es' ⊢ <;> omega
  · have es' : ¬ (decide (x < 0) = decide (y < 0)) := by simpa using es
    refine ⟨_, _, _, k0.load (by kernel_rfl) rfl, _, _, _, k1.load (by kernel_rfl) rfl, ?_⟩
    refine Ret.at (spec_l02Cmp_c (ha.ext X) (hb.ext X)) ?_
    rintro v w4 ⟨hv, y4⟩
    subst hv
    have cv := cmpL_val ca cb
    rw [va, vb] at cv
    have X4 := X.trans y4
    have k0 := k0.ext y4; have k1 := k1.ext y4
    have D := Ext.drew w4
    refine ⟨_, rfl, ifD (fun hge => ?_) (fun hlt => ?_)⟩
    · have hge' : y.natAbs ≤ x.natAbs := by
        rcases cv with h | h | h <;> omega
      refine ⟨_, fun W hW => (k0.ext (D.trans hW)).load (by kernel_rfl) rfl, _, _, _, fun W hW => (k0.ext (D.trans hW)).load (by kernel_rfl) rfl, _, _, _, fun W hW => (k1.ext (D.trans hW)).load (by kernel_rfl) rfl, ?_⟩
      have hll : b1n ≤ a1n := by
        rcases Nat.lt_or_ge a1n b1n with h | h
        · have := canon_len ca cb (by omega); omega
        · exact h
      refine Ret.at (spec_l02Sub_c (ha.ext (X4.trans D)) (hb.ext (X4.trans D)) ca.1 cb.1 (by omega) hll (by omega)) ?_
      rintro v w7 ⟨p, n, c, hv, hr, y7⟩
      subst hv
      rw [va, vb] at hr
      have vd := val_digs ((x.natAbs : Int) - y.natAbs).toNat
      refine ⟨_, _, _, rfl, y7, fin w7 _ p n c _ hr (digs_limbs _) ((y4.trans D).trans y7) ?_ ?_⟩
      · by_cases hx0 : x < 0 <;> by_cases hy0 : y < 0 <;> simp [hx0, hy0] at es' <;> omega
      · intro h0
        by_cases hx0 : x < 0 <;> by_cases hy0 : y < 0 <;> simp [hx0, hy0] at es' ⊢ <;> omega
    · have hlt' : x.natAbs < y.natAbs := by
        rcases cv with h | h | h <;> omega
      refine ⟨_, fun W hW => (k1.ext (D.trans hW)).load (by kernel_rfl) rfl, _, _, _, fun W hW => (k1.ext (D.trans hW)).load (by kernel_rfl) rfl, _, _, _, fun W hW => (k0.ext (D.trans hW)).load (by kernel_rfl) rfl, ?_⟩
      have hll : a1n ≤ b1n := by
        rcases Nat.lt_or_ge b1n a1n with h | h
        · have := canon_len cb ca (by omega); omega
        · exact h
      refine Ret.at (spec_l02Sub_c (hb.ext (X4.trans D)) (ha.ext (X4.trans D)) cb.1 ca.1 (by omega) hll (by omega)) ?_
      rintro v w7 ⟨p, n, c, hv, hr, y7⟩
      subst hv
      rw [va, vb] at hr
      have vd := val_digs ((y.natAbs : Int) - x.natAbs).toNat
      refine ⟨_, _, _, rfl, y7, fin w7 _ p n c _ hr (digs_limbs _) ((y4.trans D).trans y7) ?_ ?_⟩
      · by_cases hx0 : x < 0 <;> by_cases hy0 : y < 0 <;> simp [hx0, hy0] at es' <;> omega
      · intro h0
        by_cases hx0 : x < 0 <;> by_cases hy0 : y < 0 <;> simp [hx0, hy0] at es' ⊢ <;> omega
theorem spec_IntAdd_c {w : World} {xs ys : List Value} {dx dy : List D0} (h : Reps w xs dx) (k : Reps w ys dy) (hc : dx.map D0.code = [.bool, .ints]) (kc : dy.map D0.code = [.bool, .ints]) :
    Ret P n_spec_IntAdd [.agg ⟨xs⟩, .agg ⟨ys⟩] w fun v w' => ∃ vs' f, v = .agg ⟨vs'⟩ ∧ Owns w' w.heap.size vs' (iadd dx dy) f ∧ f.Nodup ∧ Ext w w' := by
  have hr := h; have kr := k
  obtain ⟨a0, a1p, a1n, a1c, a1z, rfl, hd, ha⟩ := open_Signed h hc
  obtain ⟨b0, b1p, b1n, b1c, b1z, rfl, he, hb⟩ := open_Signed k kc
  refine spec_IntAdd_ret ?_
  unfold spec_IntAdd
  intro r w1 hn1 r1 w2 hn2 r2 w3 hn3
  have X := (hn1.ext.trans hn2.ext).trans hn3.ext
  have e1 := hn1.r_eq; have e2 := hn2.r_eq; have e3 := hn3.r_eq; have s1 := hn1.size; have s2 := hn2.size; have s3 := hn3.size
  have k0 := (hn1.blk.ext hn2.ext).ext hn3.ext; have k1 := hn2.blk.ext hn3.ext; have k2 := hn3.blk
  have bad : ∀ W, Ext w3 W → (intOk dx && intOk dy) = false → ∃ wv_8, Stores P T_impl_Signed ⟨r2, 0, none⟩ (.agg #[(.bool false), (.slice none 0 0)]) W wv_8 ∧
      ∃ (r0 : Bool) (r1_p : Option Addr) (r1_n : Nat) (r1_c : Nat), Loads P T_impl_Signed ⟨r2, 0, none⟩ (.agg #[(.bool r0), (.slice r1_p r1_n r1_c)]) wv_8 ∧ (fun (v : Value) (w' : World) => ∃ vs' f, v = .agg ⟨vs'⟩ ∧ Owns w' w.heap.size vs' (iadd dx dy) f ∧ f.Nodup ∧ Ext w w') (.agg #[(.bool r0), (.slice r1_p r1_n r1_c)]) wv_8 := by
    intro W hW hno
    obtain ⟨w5, st, hb5, ch, sz⟩ := (k2.ext hW).storeA0 (P := P) (t := T_impl_Signed) (xs := [.bool false, .slice none 0 0]) (by kernel_rfl) rfl (by simp [Value.oneCell'])
    refine ⟨w5, st, _, _, _, _, hb5.loadA0 (by kernel_rfl), _, _, rfl, ?_, nodup_opt none, (X.trans hW).chg ch (by simp; omega)⟩
    have : iadd dx dy = [.bool false, .ints []] := by rw [iadd, hno, ← enc0]; rfl
    rw [this]
    exact Owns.int2 (z := []) (Own.nil w5 _ T_int 1 : Own w5 w.heap.size T_int 1 none 0 0 (([] : List Int).map (Value.int .i64)))
  refine ⟨_, _, _, _, k0.loadA0 (by kernel_rfl), ?_⟩
  refine Ret.at (spec_IntOk_c (hr.ext X) hc) ?_
  rintro v w4 ⟨hv, y4⟩
  subst hv
  refine ⟨_, rfl, ifN (fun hno => ifT (bad w4 y4 (by simp [hno]))) (fun hok1 => ?_)⟩
  refine ⟨_, _, _, _, (k1.ext y4).loadA0 (by kernel_rfl), ?_⟩
  refine Ret.at (spec_IntOk_c (kr.ext (X.trans y4)) kc) ?_
  rintro v w5 ⟨hv, y5⟩
  subst hv
  refine ⟨_, rfl, ifN (fun hno => bad w5 (y4.trans y5) (by simp [hno])) (fun hok2 => ?_)⟩
  have X5 := (X.trans y4).trans y5
  obtain ⟨ex, _, zx, hx1, cx, lx⟩ := intOk_enc hok1
  obtain ⟨ey, _, zy, hy1, cy, ly⟩ := intOk_enc hok2
  have lenx : (digs (ival dx).natAbs).length ≤ 50 := by
    rw [ex] at hx1
    simp only [enc, List.cons.injEq, D0.ints.injEq, and_true] at hx1
    rw [hx1.2]; exact lx
  have leny : (digs (ival dy).natAbs).length ≤ 50 := by
    rw [ey] at hy1
    simp only [enc, List.cons.injEq, D0.ints.injEq, and_true] at hy1
    rw [hy1.2]; exact ly
  refine ⟨_, _, _, _, ((k0.ext y4).ext y5).loadA0 (by kernel_rfl), _, _, _, _, ((k1.ext y4).ext y5).loadA0 (by kernel_rfl), ?_⟩
  refine Ret.at (spec_l04Add_c (x := ival dx) (y := ival dy) (by rw [← ex]; exact hr.ext X5) (by rw [← ey]; exact kr.ext X5) (by omega) (by omega)) ?_
  rintro v w6 ⟨vs', f, hv, ho, hnd, y6⟩
  subst hv
  obtain ⟨q0, q1p, q1n, q1c, q1z, rfl, hq, hqi⟩ := open_Signed ho.reps (icap_code _)
  have X6 := X5.trans y6
  have s4 := X5.le; have s34 := y4.le; have s35 := y5.le
  obtain ⟨w7, st, hb7, ch, sz⟩ := (((k2.ext y4).ext y5).ext y6).storeA0 (P := P) (t := T_impl_Signed) (xs := [.bool q0, .slice q1p q1n q1c]) (by kernel_rfl) rfl ho.reps.cells1
  refine ⟨_, _, _, _, rfl, w7, st, _, _, _, _, hb7.loadA0 (by kernel_rfl), _, f, rfl, ?_, hnd, X6.chg ch (by simp; omega)⟩
  have : iadd dx dy = icap (ival dx + ival dy) := by rw [iadd, hok1, hok2]; rfl
  rw [this]
  exact (ho.chg1 ch (by omega)).mono (by omega)
end Go.Proofs.YtfehpaekbbmkcaaGreatDoor
