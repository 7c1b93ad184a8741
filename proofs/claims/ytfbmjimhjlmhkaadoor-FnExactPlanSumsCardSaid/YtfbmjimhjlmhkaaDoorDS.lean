/-
  Contracts of the laws' own helpers at structs and slices of structs, printed by a program of mine.
-/
import Derived.Test.YtfbmjimhjlmhkaaDoorDInts
namespace Go.Proofs.YtfbmjimhjlmhkaaDoor
open Go Go.Proofs.YtfbmjimhjlmhkaaDoor.Sx
set_option linter.unusedVariables false
set_option linter.unusedSimpArgs false

theorem open_Signed {w : World} {vs : List Value} {ds : List D0} (h : Reps w vs ds) (hc : ds.map D0.code = [.bool, .ints]) :
    ∃ (a0 : Bool) (a1p : Option Addr) (a1n a1c : Nat) (a1z : List Int), vs = [.bool a0, .slice a1p a1n a1c] ∧ ds = [.bool a0, .ints a1z] ∧ IntsR w a1p a1n a1c a1z := by
  obtain ⟨b0, us, es, hv, hd, h2, hc2⟩ := h.bool hc
  subst hv; subst hd
  clear h hc
  have h := h2; have hc := hc2; clear h2 hc2
  obtain ⟨b1p, b1n, b1c, b1z, us, es, hv, hd, b1h, h2, hc2⟩ := h.ints hc
  subst hv; subst hd
  clear h hc
  have h := h2; have hc := hc2; clear h2 hc2
  obtain ⟨hv, hd⟩ := h.done hc
  subst hv; subst hd; clear h hc
  exact ⟨_, _, _, _, _, rfl, rfl, b1h⟩

theorem laws_szSigned_c {w : World} {vs : List Value} {ds : List D0} (h : Reps w vs ds) (hc : ds.map D0.code = [.bool, .ints]) (hok : ∀ d ∈ ds, d.ok) {left : Int} (h0 : 0 ≤ left) (h1 : left ≤ 1048576) :
    Ret P n_laws_szSigned [.agg ⟨vs⟩, .int .i64 left] w fun v w' => ∃ r : Int, v = .int .i64 r ∧ (0 ≤ r → r + bulks ds ≤ left) ∧ r ≤ 1048576 ∧ Ext w w' := by
  obtain ⟨a0, us, es, hv, hd, h2, hc2⟩ := h.bool hc
  subst hv; subst hd
  clear h hc
  have h := h2; have hc := hc2; clear h2 hc2
  obtain ⟨a1p, a1n, a1c, a1z, us, es, hv, hd, a1h, h2, hc2⟩ := h.ints hc
  subst hv; subst hd
  clear h hc
  have h := h2; have hc := hc2; clear h2 hc2
  obtain ⟨hv, hd⟩ := h.done hc
  subst hv; subst hd; clear h hc
  simp only [List.mem_cons, List.not_mem_nil, or_false, forall_eq_or_imp, forall_eq, D0.ok] at hok
  have a1l := a1h.1; have a1k := a1h.2.1; have a1m := a1h.2.2.1
  simp only [bulks, D0.bulk, List.map_cons, List.map_nil, List.sum_cons, List.sum_nil]
  refine laws_szSigned_ret ?_
  unfold laws_szSigned
  intro r w1 hn1
  have x := hn1.ext; have b0 := hn1.blk
  refine ⟨_, _, _, b0.load (by kernel_rfl) rfl, ?_⟩
  refine Ret.at (laws_szIntS_c (by omega) (by omega) (by omega)) ?_
  rintro v w2 ⟨k0, hv, hk0, hm0, y⟩
  subst hv
  have x := x.trans y; have b0 := b0.ext y
  refine ⟨_, rfl, ifD (fun hl => ⟨_, rfl, by omega, by omega, x⟩) (fun hl => ?_)⟩
  exact ⟨_, rfl, by omega, by omega, x⟩

theorem laws_toSigned_c {w : World} {vs : List Value} {ds : List D0} (h : Reps w vs ds) (hc : ds.map D0.code = [.bool, .ints]) (hb : bulks ds ≤ 1048576) :
    Ret P n_laws_toSigned [.agg ⟨vs⟩] w fun v w' => ∃ vs' f, v = .agg ⟨vs'⟩ ∧ Owns w' w.heap.size vs' ds f ∧ f.Nodup ∧ Ext w w' := by
  obtain ⟨a0, us, es, hv, hd, h2, hc2⟩ := h.bool hc
  subst hv; subst hd
  clear h hc
  have h := h2; have hc := hc2; clear h2 hc2
  obtain ⟨a1p, a1n, a1c, a1z, us, es, hv, hd, a1h, h2, hc2⟩ := h.ints hc
  subst hv; subst hd
  clear h hc
  have h := h2; have hc := hc2; clear h2 hc2
  obtain ⟨hv, hd⟩ := h.done hc
  subst hv; subst hd; clear h hc
  simp only [bulks, D0.bulk, List.map_cons, List.map_nil, List.sum_cons, List.sum_nil] at hb
  have a1l := a1h.1
  refine laws_toSigned_ret ?_
  unfold laws_toSigned
  intro r w1 hn1 r1 w2 hn2 r2 w3 hn3
  have x := (hn1.ext.trans hn2.ext).trans hn3.ext
  have b0 := (hn1.blk.ext hn2.ext).ext hn3.ext
  have b1 := hn2.blk.ext hn3.ext
  have b2 := hn3.blk
  have e1 := hn1.r_eq; have e2 := hn2.r_eq; have e3 := hn3.r_eq; have s1 := hn1.size; have s2 := hn2.size; have s3 := hn3.size
  obtain ⟨w4, st, b2', ch, sz⟩ := b2.store (P := P) (t := T_bool) (k := 0) (v := .bool a0) (by kernel_rfl) (by simp) rfl
  refine ⟨_, b0.load (by kernel_rfl) rfl, _, st, ?_⟩
  have x := x.chg ch (by simp; omega); have b0 := b0.chg ch (by simp; omega); have b1 := b1.chg ch (by simp; omega)
  have b2 : Blk w4 r2 _ [.bool a0, .slice none 0 0] := b2'
  clear b2'
  refine ⟨_, _, _, b0.load (by kernel_rfl) rfl, ?_⟩
  refine Ret.at (laws_toIntS_c (a1h.ext x) (by omega)) ?_
  rintro v w5 ⟨q0, hv, o0, y⟩
  subst hv
  refine ⟨_, _, _, rfl, ?_⟩
  have o0 := Owns.ints o0
  have l0 : ∀ k ∈ _, k < w5.heap.size := fun k hk => (o0.lt k hk).2
  have nd0 : ([q0] : List Nat).Nodup := by simp
  have y0 := y.le; have b0 := b0.ext y; have b1 := b1.ext y; have b2 := b2.ext y; have x := x.trans y
  obtain ⟨w6, st, b2', ch, sz⟩ := b2.store (P := P) (t := T_s_int) (k := 1) (v := .slice (some ⟨q0, 0, none⟩) a1n a1n) (by kernel_rfl) (by simp) rfl
  refine ⟨_, st, ?_⟩
  have x := x.chg ch (by simp; omega); have b0 := b0.chg ch (by simp; omega); have b1 := b1.chg ch (by simp; omega)
  have b2 : Blk w6 r2 _ [.bool a0, .slice (some ⟨q0, 0, none⟩) a1n a1n] := b2'
  clear b2'
  have o0 := o0.chg1 ch (by omega)
  refine ⟨_, _, _, _, b2.loadA0 (by kernel_rfl), ?_⟩
  have ow : Owns w6 w.heap.size [.bool a0, .slice (some ⟨q0, 0, none⟩) a1n a1n] [.bool a0, .ints a1z] ([] ++ [q0]) := Owns.append (Owns.bool _ _ a0) (o0.mono (by omega))
  obtain ⟨w7, st, b1', ch, sz⟩ := b1.storeA0 (P := P) (t := T_impl_Signed) (xs := [.bool a0, .slice (some ⟨q0, 0, none⟩) a1n a1n]) (by kernel_rfl) rfl ow.reps.cells1
  refine ⟨_, st, _, _, _, _, b1'.loadA0 (by kernel_rfl), [.bool a0, .slice (some ⟨q0, 0, none⟩) a1n a1n], ([] ++ [q0]), rfl, Owns.append (Owns.bool _ _ a0) ((o0.chg1 ch (by omega)).mono (by omega)), ?_, x.chg ch (by simp; omega)⟩
  try simp only [List.nil_append, List.append_nil]
  exact nd0

theorem laws_eqSigned_c {w : World} {xs ys : List Value} {dx dy : List D0} (h : Reps w xs dx) (k : Reps w ys dy) (hc : dx.map D0.code = [.bool, .ints]) (kc : dy.map D0.code = [.bool, .ints]) :
    Ret P n_laws_eqSigned [.agg ⟨xs⟩, .agg ⟨ys⟩] w fun v w' => v = .bool (decide (dx = dy)) ∧ Ext w w' := by
  obtain ⟨a0, us, es, hv, hd, h2, hc2⟩ := h.bool hc
  subst hv; subst hd
  clear h hc
  have h := h2; have hc := hc2; clear h2 hc2
  obtain ⟨a1p, a1n, a1c, a1z, us, es, hv, hd, a1h, h2, hc2⟩ := h.ints hc
  subst hv; subst hd
  clear h hc
  have h := h2; have hc := hc2; clear h2 hc2
  obtain ⟨hv, hd⟩ := h.done hc
  subst hv; subst hd; clear h hc
  obtain ⟨bb0, us, es, hv, hd, k2, kc2⟩ := k.bool kc
  subst hv; subst hd
  clear k kc
  have k := k2; have kc := kc2; clear k2 kc2
  obtain ⟨bb1p, bb1n, bb1c, bb1z, us, es, hv, hd, bb1h, k2, kc2⟩ := k.ints kc
  subst hv; subst hd
  clear k kc
  have k := k2; have kc := kc2; clear k2 kc2
  obtain ⟨hv, hd⟩ := k.done kc
  subst hv; subst hd; clear k kc
  refine laws_eqSigned_ret ?_
  unfold laws_eqSigned
  intro r w1 hn1 r1 w2 hn2
  have x := hn1.ext.trans hn2.ext
  have b0 := hn1.blk.ext hn2.ext
  have b1 := hn2.blk
  refine ⟨_, b0.load (by kernel_rfl) rfl, _, b1.load (by kernel_rfl) rfl, ?_⟩
  refine ifN (fun hne => ⟨dec_no (fun e => ?_), x⟩) (fun heq => ?_)
  · have e2 := congrArg (fun l : List D0 => (l.drop 0).take 1) e
    simp at e2; simp [e2] at hne
  have heq : a0 = bb0 := by simpa using heq
  subst heq
  refine ⟨_, _, _, b0.load (by kernel_rfl) rfl, _, _, _, b1.load (by kernel_rfl) rfl, ?_⟩
  refine Ret.at (laws_eqIntS_c (a1h.ext x) (bb1h.ext x)) ?_
  rintro v w3 ⟨hv, y⟩
  subst hv
  have x := x.trans y; have b0 := b0.ext y; have b1 := b1.ext y
  refine ⟨_, rfl, ifN (fun hne => ⟨dec_no (fun e => ?_), x⟩) (fun heq => ?_)⟩
  · have e2 := congrArg (fun l : List D0 => (l.drop 1).take 1) e
    have hne := of_decide_eq_false hne; simp at e2; exact hne e2
  have heq := of_decide_eq_true heq
  subst heq
  exact ⟨dec_yes rfl, x⟩

theorem open_Dec {w : World} {vs : List Value} {ds : List D0} (h : Reps w vs ds) (hc : ds.map D0.code = [.bool, .ints, .int]) :
    ∃ (a0 : Bool) (a1p : Option Addr) (a1n a1c : Nat) (a1z : List Int) (a2 : Int), vs = [.bool a0, .slice a1p a1n a1c, .int .i64 a2] ∧ ds = [.bool a0, .ints a1z, .int a2] ∧ IntsR w a1p a1n a1c a1z := by
  obtain ⟨b0, us, es, hv, hd, h2, hc2⟩ := h.bool hc
  subst hv; subst hd
  clear h hc
  have h := h2; have hc := hc2; clear h2 hc2
  obtain ⟨b1p, b1n, b1c, b1z, us, es, hv, hd, b1h, h2, hc2⟩ := h.ints hc
  subst hv; subst hd
  clear h hc
  have h := h2; have hc := hc2; clear h2 hc2
  obtain ⟨b2, us, es, hv, hd, h2, hc2⟩ := h.int hc
  subst hv; subst hd
  clear h hc
  have h := h2; have hc := hc2; clear h2 hc2
  obtain ⟨hv, hd⟩ := h.done hc
  subst hv; subst hd; clear h hc
  exact ⟨_, _, _, _, _, _, rfl, rfl, b1h⟩

theorem laws_szDec_c {w : World} {vs : List Value} {ds : List D0} (h : Reps w vs ds) (hc : ds.map D0.code = [.bool, .ints, .int]) (hok : ∀ d ∈ ds, d.ok) {left : Int} (h0 : 0 ≤ left) (h1 : left ≤ 1048576) :
    Ret P n_laws_szDec [.agg ⟨vs⟩, .int .i64 left] w fun v w' => ∃ r : Int, v = .int .i64 r ∧ (0 ≤ r → r + bulks ds ≤ left) ∧ r ≤ 1048576 ∧ Ext w w' := by
  obtain ⟨a0, us, es, hv, hd, h2, hc2⟩ := h.bool hc
  subst hv; subst hd
  clear h hc
  have h := h2; have hc := hc2; clear h2 hc2
  obtain ⟨a1p, a1n, a1c, a1z, us, es, hv, hd, a1h, h2, hc2⟩ := h.ints hc
  subst hv; subst hd
  clear h hc
  have h := h2; have hc := hc2; clear h2 hc2
  obtain ⟨a2, us, es, hv, hd, h2, hc2⟩ := h.int hc
  subst hv; subst hd
  clear h hc
  have h := h2; have hc := hc2; clear h2 hc2
  obtain ⟨hv, hd⟩ := h.done hc
  subst hv; subst hd; clear h hc
  simp only [List.mem_cons, List.not_mem_nil, or_false, forall_eq_or_imp, forall_eq, D0.ok] at hok
  have a1l := a1h.1; have a1k := a1h.2.1; have a1m := a1h.2.2.1
  simp only [bulks, D0.bulk, List.map_cons, List.map_nil, List.sum_cons, List.sum_nil]
  refine laws_szDec_ret ?_
  unfold laws_szDec
  intro r w1 hn1
  have x := hn1.ext; have b0 := hn1.blk
  have hr : Reps w [.bool a0, .slice a1p a1n a1c] [.bool a0, .ints a1z] := ⟨rfl, ⟨⟨_, _, _, rfl, a1h⟩, trivial⟩⟩
  refine ⟨_, _, _, _, b0.loadA (xs := [.bool a0, .slice a1p a1n a1c]) (by kernel_rfl) rfl, ?_⟩
  refine Ret.at (laws_szSigned_c (hr.ext x) rfl (by simp only [List.mem_cons, List.not_mem_nil, or_false, forall_eq_or_imp, forall_eq, D0.ok]; simp only [hok, and_self]) (by omega) (by omega)) ?_
  rintro v w2 ⟨k0, hv, hk0, hm0, y⟩
  simp only [bulks, D0.bulk, List.map_cons, List.map_nil, List.sum_cons, List.sum_nil] at hk0
  subst hv
  have x := x.trans y; have b0 := b0.ext y
  refine ⟨_, rfl, ifD (fun hl => ⟨_, rfl, by omega, by omega, x⟩) (fun hl => ?_)⟩
  exact ⟨_, rfl, by omega, by omega, x⟩

theorem laws_toDec_c {w : World} {vs : List Value} {ds : List D0} (h : Reps w vs ds) (hc : ds.map D0.code = [.bool, .ints, .int]) (hb : bulks ds ≤ 1048576) :
    Ret P n_laws_toDec [.agg ⟨vs⟩] w fun v w' => ∃ vs' f, v = .agg ⟨vs'⟩ ∧ Owns w' w.heap.size vs' ds f ∧ f.Nodup ∧ Ext w w' := by
  obtain ⟨a0, us, es, hv, hd, h2, hc2⟩ := h.bool hc
  subst hv; subst hd
  clear h hc
  have h := h2; have hc := hc2; clear h2 hc2
  obtain ⟨a1p, a1n, a1c, a1z, us, es, hv, hd, a1h, h2, hc2⟩ := h.ints hc
  subst hv; subst hd
  clear h hc
  have h := h2; have hc := hc2; clear h2 hc2
  obtain ⟨a2, us, es, hv, hd, h2, hc2⟩ := h.int hc
  subst hv; subst hd
  clear h hc
  have h := h2; have hc := hc2; clear h2 hc2
  obtain ⟨hv, hd⟩ := h.done hc
  subst hv; subst hd; clear h hc
  simp only [bulks, D0.bulk, List.map_cons, List.map_nil, List.sum_cons, List.sum_nil] at hb
  have a1l := a1h.1
  refine laws_toDec_ret ?_
  unfold laws_toDec
  intro r w1 hn1 r1 w2 hn2 r2 w3 hn3
  have x := (hn1.ext.trans hn2.ext).trans hn3.ext
  have b0 := (hn1.blk.ext hn2.ext).ext hn3.ext
  have b1 := hn2.blk.ext hn3.ext
  have b2 := hn3.blk
  have e1 := hn1.r_eq; have e2 := hn2.r_eq; have e3 := hn3.r_eq; have s1 := hn1.size; have s2 := hn2.size; have s3 := hn3.size
  have hr : Reps w [.bool a0, .slice a1p a1n a1c] [.bool a0, .ints a1z] := ⟨rfl, ⟨⟨_, _, _, rfl, a1h⟩, trivial⟩⟩
  refine ⟨_, _, _, _, b0.loadA (xs := [.bool a0, .slice a1p a1n a1c]) (by kernel_rfl) rfl, ?_⟩
  refine Ret.at (laws_toSigned_c (hr.ext x) rfl (by simp only [bulks, D0.bulk, List.map_cons, List.map_nil, List.sum_cons, List.sum_nil]; omega)) ?_
  rintro v w4 ⟨us0, f0, hv, o0, nd0, y⟩
  subst hv
  have hq := o0.reps; have hqc : ([.bool a0, .ints a1z] : List D0).map D0.code = [.bool, .ints] := rfl
  obtain ⟨q00, us, es, hv, hd, hq2, hqc2⟩ := hq.bool hqc
  subst hv; cases hd; clear hq hqc; have hq := hq2; have hqc := hqc2; clear hq2 hqc2
  obtain ⟨q01p, q01n, q01c, q01z, us, es, hv, hd, q01h, hq2, hqc2⟩ := hq.ints hqc
  subst hv; cases hd; clear hq hqc; have hq := hq2; have hqc := hqc2; clear hq2 hqc2
  obtain ⟨hv, _⟩ := hq.done hqc; subst hv; clear hq hqc
  refine ⟨_, _, _, _, rfl, ?_⟩
  have l0 : ∀ k ∈ _, k < w4.heap.size := fun k hk => (o0.lt k hk).2
  have y0 := y.le; have b0 := b0.ext y; have b1 := b1.ext y; have b2 := b2.ext y; have x := x.trans y
  obtain ⟨w5, st, b2', ch, sz⟩ := b2.storeA (P := P) (t := T_impl_Signed) (k := 0) (xs := [.bool a0, .slice q01p q01n q01c]) (by kernel_rfl) (by simp) o0.reps.cells1
  refine ⟨_, st, ?_⟩
  have x := x.chg ch (by simp; omega); have b0 := b0.chg ch (by simp; omega); have b1 := b1.chg ch (by simp; omega)
  have b2 : Blk w5 r2 _ [.bool a0, .slice q01p q01n q01c, .int .i64 0] := b2'
  clear b2'
  have o0 := o0.chg1 ch (by omega)
  obtain ⟨w6, st, b2', ch, sz⟩ := b2.store (P := P) (t := T_int) (k := 2) (v := .int .i64 a2) (by kernel_rfl) (by simp) rfl
  refine ⟨_, b0.load (by kernel_rfl) rfl, _, st, ?_⟩
  have x := x.chg ch (by simp; omega); have b0 := b0.chg ch (by simp; omega); have b1 := b1.chg ch (by simp; omega)
  have b2 : Blk w6 r2 _ [.bool a0, .slice q01p q01n q01c, .int .i64 a2] := b2'
  clear b2'
  have o0 := o0.chg1 ch (by omega)
  refine ⟨_, _, _, _, _, b2.loadA0 (by kernel_rfl), ?_⟩
  have ow : Owns w6 w.heap.size [.bool a0, .slice q01p q01n q01c, .int .i64 a2] [.bool a0, .ints a1z, .int a2] (f0 ++ []) := Owns.append (o0.mono (by omega)) (Owns.int _ _ a2)
  obtain ⟨w7, st, b1', ch, sz⟩ := b1.storeA0 (P := P) (t := T_impl_Dec) (xs := [.bool a0, .slice q01p q01n q01c, .int .i64 a2]) (by kernel_rfl) rfl ow.reps.cells1
  refine ⟨_, st, _, _, _, _, _, b1'.loadA0 (by kernel_rfl), [.bool a0, .slice q01p q01n q01c, .int .i64 a2], (f0 ++ []), rfl, Owns.append ((o0.chg1 ch (by omega)).mono (by omega)) (Owns.int _ _ a2), ?_, x.chg ch (by simp; omega)⟩
  try simp only [List.nil_append, List.append_nil]
  exact nd0

theorem laws_eqDec_c {w : World} {xs ys : List Value} {dx dy : List D0} (h : Reps w xs dx) (k : Reps w ys dy) (hc : dx.map D0.code = [.bool, .ints, .int]) (kc : dy.map D0.code = [.bool, .ints, .int]) :
    Ret P n_laws_eqDec [.agg ⟨xs⟩, .agg ⟨ys⟩] w fun v w' => v = .bool (decide (dx = dy)) ∧ Ext w w' := by
  obtain ⟨a0, us, es, hv, hd, h2, hc2⟩ := h.bool hc
  subst hv; subst hd
  clear h hc
  have h := h2; have hc := hc2; clear h2 hc2
  obtain ⟨a1p, a1n, a1c, a1z, us, es, hv, hd, a1h, h2, hc2⟩ := h.ints hc
  subst hv; subst hd
  clear h hc
  have h := h2; have hc := hc2; clear h2 hc2
  obtain ⟨a2, us, es, hv, hd, h2, hc2⟩ := h.int hc
  subst hv; subst hd
  clear h hc
  have h := h2; have hc := hc2; clear h2 hc2
  obtain ⟨hv, hd⟩ := h.done hc
  subst hv; subst hd; clear h hc
  obtain ⟨bb0, us, es, hv, hd, k2, kc2⟩ := k.bool kc
  subst hv; subst hd
  clear k kc
  have k := k2; have kc := kc2; clear k2 kc2
  obtain ⟨bb1p, bb1n, bb1c, bb1z, us, es, hv, hd, bb1h, k2, kc2⟩ := k.ints kc
  subst hv; subst hd
  clear k kc
  have k := k2; have kc := kc2; clear k2 kc2
  obtain ⟨bb2, us, es, hv, hd, k2, kc2⟩ := k.int kc
  subst hv; subst hd
  clear k kc
  have k := k2; have kc := kc2; clear k2 kc2
  obtain ⟨hv, hd⟩ := k.done kc
  subst hv; subst hd; clear k kc
  refine laws_eqDec_ret ?_
  unfold laws_eqDec
  intro r w1 hn1 r1 w2 hn2
  have x := hn1.ext.trans hn2.ext
  have b0 := hn1.blk.ext hn2.ext
  have b1 := hn2.blk
  have ha : Reps w [.bool a0, .slice a1p a1n a1c] [.bool a0, .ints a1z] := ⟨rfl, ⟨⟨_, _, _, rfl, a1h⟩, trivial⟩⟩
  have hb : Reps w [.bool bb0, .slice bb1p bb1n bb1c] [.bool bb0, .ints bb1z] := ⟨rfl, ⟨⟨_, _, _, rfl, bb1h⟩, trivial⟩⟩
  refine ⟨_, _, _, _, b0.loadA (xs := [.bool a0, .slice a1p a1n a1c]) (by kernel_rfl) rfl, _, _, _, _, b1.loadA (xs := [.bool bb0, .slice bb1p bb1n bb1c]) (by kernel_rfl) rfl, ?_⟩
  refine Ret.at (laws_eqSigned_c (ha.ext x) (hb.ext x) rfl rfl) ?_
  rintro v w3 ⟨hv, y⟩
  subst hv
  have x := x.trans y; have b0 := b0.ext y; have b1 := b1.ext y
  refine ⟨_, rfl, ifN (fun hne => ⟨dec_no (fun e => ?_), x⟩) (fun heq => ?_)⟩
  · have e2 := congrArg (fun l : List D0 => (l.drop 0).take 2) e
    exact of_decide_eq_false hne e2
  have heq := of_decide_eq_true heq
  cases heq
  refine ⟨_, b0.load (by kernel_rfl) rfl, _, b1.load (by kernel_rfl) rfl, ?_⟩
  refine ifD (fun hne => ⟨dec_no (fun e => ?_), x⟩) (fun heq => ?_)
  · have e2 := congrArg (fun l : List D0 => (l.drop 2).take 1) e
    simp at e2; exact hne e2
  have heq : a2 = bb2 := by simpa using heq
  subst heq
  exact ⟨dec_yes rfl, x⟩

theorem open_Money {w : World} {vs : List Value} {ds : List D0} (h : Reps w vs ds) (hc : ds.map D0.code = [.str, .bool, .ints]) :
    ∃ (a0 : ByteArray) (a1 : Bool) (a2p : Option Addr) (a2n a2c : Nat) (a2z : List Int), vs = [.string a0, .bool a1, .slice a2p a2n a2c] ∧ ds = [.str a0, .bool a1, .ints a2z] ∧ IntsR w a2p a2n a2c a2z := by
  obtain ⟨b0, us, es, hv, hd, h2, hc2⟩ := h.str hc
  subst hv; subst hd
  clear h hc
  have h := h2; have hc := hc2; clear h2 hc2
  obtain ⟨b1, us, es, hv, hd, h2, hc2⟩ := h.bool hc
  subst hv; subst hd
  clear h hc
  have h := h2; have hc := hc2; clear h2 hc2
  obtain ⟨b2p, b2n, b2c, b2z, us, es, hv, hd, b2h, h2, hc2⟩ := h.ints hc
  subst hv; subst hd
  clear h hc
  have h := h2; have hc := hc2; clear h2 hc2
  obtain ⟨hv, hd⟩ := h.done hc
  subst hv; subst hd; clear h hc
  exact ⟨_, _, _, _, _, _, rfl, rfl, b2h⟩

theorem laws_szMoney_c {w : World} {vs : List Value} {ds : List D0} (h : Reps w vs ds) (hc : ds.map D0.code = [.str, .bool, .ints]) (hok : ∀ d ∈ ds, d.ok) {left : Int} (h0 : 0 ≤ left) (h1 : left ≤ 1048576) :
    Ret P n_laws_szMoney [.agg ⟨vs⟩, .int .i64 left] w fun v w' => ∃ r : Int, v = .int .i64 r ∧ (0 ≤ r → r + bulks ds ≤ left) ∧ r ≤ 1048576 ∧ Ext w w' := by
  obtain ⟨a0, us, es, hv, hd, h2, hc2⟩ := h.str hc
  subst hv; subst hd
  clear h hc
  have h := h2; have hc := hc2; clear h2 hc2
  obtain ⟨a1, us, es, hv, hd, h2, hc2⟩ := h.bool hc
  subst hv; subst hd
  clear h hc
  have h := h2; have hc := hc2; clear h2 hc2
  obtain ⟨a2p, a2n, a2c, a2z, us, es, hv, hd, a2h, h2, hc2⟩ := h.ints hc
  subst hv; subst hd
  clear h hc
  have h := h2; have hc := hc2; clear h2 hc2
  obtain ⟨hv, hd⟩ := h.done hc
  subst hv; subst hd; clear h hc
  simp only [List.mem_cons, List.not_mem_nil, or_false, forall_eq_or_imp, forall_eq, D0.ok] at hok
  have a2l := a2h.1; have a2k := a2h.2.1; have a2m := a2h.2.2.1
  simp only [bulks, D0.bulk, List.map_cons, List.map_nil, List.sum_cons, List.sum_nil]
  refine laws_szMoney_ret ?_
  unfold laws_szMoney
  intro r w1 hn1
  have x := hn1.ext; have b0 := hn1.blk
  refine ⟨_, b0.load (by kernel_rfl) rfl, exW ⟨by omega, by omega⟩ (ifD (fun hl => ⟨_, rfl, by omega, by omega, x⟩) (fun hl => ?_))⟩
  have hr : Reps w [.bool a1, .slice a2p a2n a2c] [.bool a1, .ints a2z] := ⟨rfl, ⟨⟨_, _, _, rfl, a2h⟩, trivial⟩⟩
  refine ⟨_, _, _, _, b0.loadA (xs := [.bool a1, .slice a2p a2n a2c]) (by kernel_rfl) rfl, ?_⟩
  refine Ret.at (laws_szSigned_c (hr.ext x) rfl (by simp only [List.mem_cons, List.not_mem_nil, or_false, forall_eq_or_imp, forall_eq, D0.ok]; simp only [hok, and_self]) (by omega) (by omega)) ?_
  rintro v w2 ⟨k0, hv, hk0, hm0, y⟩
  simp only [bulks, D0.bulk, List.map_cons, List.map_nil, List.sum_cons, List.sum_nil] at hk0
  subst hv
  have x := x.trans y; have b0 := b0.ext y
  refine ⟨_, rfl, ifD (fun hl => ⟨_, rfl, by omega, by omega, x⟩) (fun hl => ?_)⟩
  exact ⟨_, rfl, by omega, by omega, x⟩

theorem laws_toMoney_c {w : World} {vs : List Value} {ds : List D0} (h : Reps w vs ds) (hc : ds.map D0.code = [.str, .bool, .ints]) (hb : bulks ds ≤ 1048576) :
    Ret P n_laws_toMoney [.agg ⟨vs⟩] w fun v w' => ∃ vs' f, v = .agg ⟨vs'⟩ ∧ Owns w' w.heap.size vs' ds f ∧ f.Nodup ∧ Ext w w' := by
  obtain ⟨a0, us, es, hv, hd, h2, hc2⟩ := h.str hc
  subst hv; subst hd
  clear h hc
  have h := h2; have hc := hc2; clear h2 hc2
  obtain ⟨a1, us, es, hv, hd, h2, hc2⟩ := h.bool hc
  subst hv; subst hd
  clear h hc
  have h := h2; have hc := hc2; clear h2 hc2
  obtain ⟨a2p, a2n, a2c, a2z, us, es, hv, hd, a2h, h2, hc2⟩ := h.ints hc
  subst hv; subst hd
  clear h hc
  have h := h2; have hc := hc2; clear h2 hc2
  obtain ⟨hv, hd⟩ := h.done hc
  subst hv; subst hd; clear h hc
  simp only [bulks, D0.bulk, List.map_cons, List.map_nil, List.sum_cons, List.sum_nil] at hb
  have a2l := a2h.1
  refine laws_toMoney_ret ?_
  unfold laws_toMoney
  intro r w1 hn1 r1 w2 hn2 r2 w3 hn3
  have x := (hn1.ext.trans hn2.ext).trans hn3.ext
  have b0 := (hn1.blk.ext hn2.ext).ext hn3.ext
  have b1 := hn2.blk.ext hn3.ext
  have b2 := hn3.blk
  have e1 := hn1.r_eq; have e2 := hn2.r_eq; have e3 := hn3.r_eq; have s1 := hn1.size; have s2 := hn2.size; have s3 := hn3.size
  obtain ⟨w4, st, b2', ch, sz⟩ := b2.store (P := P) (t := T_string) (k := 0) (v := .string a0) (by kernel_rfl) (by simp) rfl
  refine ⟨_, b0.load (by kernel_rfl) rfl, _, st, ?_⟩
  have x := x.chg ch (by simp; omega); have b0 := b0.chg ch (by simp; omega); have b1 := b1.chg ch (by simp; omega)
  have b2 : Blk w4 r2 _ [.string a0, .bool false, .slice none 0 0] := b2'
  clear b2'
  have hr : Reps w [.bool a1, .slice a2p a2n a2c] [.bool a1, .ints a2z] := ⟨rfl, ⟨⟨_, _, _, rfl, a2h⟩, trivial⟩⟩
  refine ⟨_, _, _, _, b0.loadA (xs := [.bool a1, .slice a2p a2n a2c]) (by kernel_rfl) rfl, ?_⟩
  refine Ret.at (laws_toSigned_c (hr.ext x) rfl (by simp only [bulks, D0.bulk, List.map_cons, List.map_nil, List.sum_cons, List.sum_nil]; omega)) ?_
  rintro v w5 ⟨us0, f0, hv, o0, nd0, y⟩
  subst hv
  have hq := o0.reps; have hqc : ([.bool a1, .ints a2z] : List D0).map D0.code = [.bool, .ints] := rfl
  obtain ⟨q00, us, es, hv, hd, hq2, hqc2⟩ := hq.bool hqc
  subst hv; cases hd; clear hq hqc; have hq := hq2; have hqc := hqc2; clear hq2 hqc2
  obtain ⟨q01p, q01n, q01c, q01z, us, es, hv, hd, q01h, hq2, hqc2⟩ := hq.ints hqc
  subst hv; cases hd; clear hq hqc; have hq := hq2; have hqc := hqc2; clear hq2 hqc2
  obtain ⟨hv, _⟩ := hq.done hqc; subst hv; clear hq hqc
  refine ⟨_, _, _, _, rfl, ?_⟩
  have l0 : ∀ k ∈ _, k < w5.heap.size := fun k hk => (o0.lt k hk).2
  have y0 := y.le; have b0 := b0.ext y; have b1 := b1.ext y; have b2 := b2.ext y; have x := x.trans y
  obtain ⟨w6, st, b2', ch, sz⟩ := b2.storeA (P := P) (t := T_impl_Signed) (k := 1) (xs := [.bool a1, .slice q01p q01n q01c]) (by kernel_rfl) (by simp) o0.reps.cells1
  refine ⟨_, st, ?_⟩
  have x := x.chg ch (by simp; omega); have b0 := b0.chg ch (by simp; omega); have b1 := b1.chg ch (by simp; omega)
  have b2 : Blk w6 r2 _ [.string a0, .bool a1, .slice q01p q01n q01c] := b2'
  clear b2'
  have o0 := o0.chg1 ch (by omega)
  refine ⟨_, _, _, _, _, b2.loadA0 (by kernel_rfl), ?_⟩
  have ow : Owns w6 w.heap.size [.string a0, .bool a1, .slice q01p q01n q01c] [.str a0, .bool a1, .ints a2z] ([] ++ f0) := Owns.append (Owns.str _ _ a0) (o0.mono (by omega))
  obtain ⟨w7, st, b1', ch, sz⟩ := b1.storeA0 (P := P) (t := T_impl_Money) (xs := [.string a0, .bool a1, .slice q01p q01n q01c]) (by kernel_rfl) rfl ow.reps.cells1
  refine ⟨_, st, _, _, _, _, _, b1'.loadA0 (by kernel_rfl), [.string a0, .bool a1, .slice q01p q01n q01c], ([] ++ f0), rfl, Owns.append (Owns.str _ _ a0) ((o0.chg1 ch (by omega)).mono (by omega)), ?_, x.chg ch (by simp; omega)⟩
  try simp only [List.nil_append, List.append_nil]
  exact nd0

theorem laws_eqMoney_c {w : World} {xs ys : List Value} {dx dy : List D0} (h : Reps w xs dx) (k : Reps w ys dy) (hc : dx.map D0.code = [.str, .bool, .ints]) (kc : dy.map D0.code = [.str, .bool, .ints]) :
    Ret P n_laws_eqMoney [.agg ⟨xs⟩, .agg ⟨ys⟩] w fun v w' => v = .bool (decide (dx = dy)) ∧ Ext w w' := by
  obtain ⟨a0, us, es, hv, hd, h2, hc2⟩ := h.str hc
  subst hv; subst hd
  clear h hc
  have h := h2; have hc := hc2; clear h2 hc2
  obtain ⟨a1, us, es, hv, hd, h2, hc2⟩ := h.bool hc
  subst hv; subst hd
  clear h hc
  have h := h2; have hc := hc2; clear h2 hc2
  obtain ⟨a2p, a2n, a2c, a2z, us, es, hv, hd, a2h, h2, hc2⟩ := h.ints hc
  subst hv; subst hd
  clear h hc
  have h := h2; have hc := hc2; clear h2 hc2
  obtain ⟨hv, hd⟩ := h.done hc
  subst hv; subst hd; clear h hc
  obtain ⟨bb0, us, es, hv, hd, k2, kc2⟩ := k.str kc
  subst hv; subst hd
  clear k kc
  have k := k2; have kc := kc2; clear k2 kc2
  obtain ⟨bb1, us, es, hv, hd, k2, kc2⟩ := k.bool kc
  subst hv; subst hd
  clear k kc
  have k := k2; have kc := kc2; clear k2 kc2
  obtain ⟨bb2p, bb2n, bb2c, bb2z, us, es, hv, hd, bb2h, k2, kc2⟩ := k.ints kc
  subst hv; subst hd
  clear k kc
  have k := k2; have kc := kc2; clear k2 kc2
  obtain ⟨hv, hd⟩ := k.done kc
  subst hv; subst hd; clear k kc
  refine laws_eqMoney_ret ?_
  unfold laws_eqMoney
  intro r w1 hn1 r1 w2 hn2
  have x := hn1.ext.trans hn2.ext
  have b0 := hn1.blk.ext hn2.ext
  have b1 := hn2.blk
  refine ⟨_, b0.load (by kernel_rfl) rfl, _, b1.load (by kernel_rfl) rfl, ?_⟩
  refine ifD (fun hne => ⟨dec_no (fun e => ?_), x⟩) (fun heq => ?_)
  · have e2 := congrArg (fun l : List D0 => (l.drop 0).take 1) e
    simp at e2; exact hne e2
  have heq : a0 = bb0 := by simpa using heq
  subst heq
  have ha : Reps w [.bool a1, .slice a2p a2n a2c] [.bool a1, .ints a2z] := ⟨rfl, ⟨⟨_, _, _, rfl, a2h⟩, trivial⟩⟩
  have hb : Reps w [.bool bb1, .slice bb2p bb2n bb2c] [.bool bb1, .ints bb2z] := ⟨rfl, ⟨⟨_, _, _, rfl, bb2h⟩, trivial⟩⟩
  refine ⟨_, _, _, _, b0.loadA (xs := [.bool a1, .slice a2p a2n a2c]) (by kernel_rfl) rfl, _, _, _, _, b1.loadA (xs := [.bool bb1, .slice bb2p bb2n bb2c]) (by kernel_rfl) rfl, ?_⟩
  refine Ret.at (laws_eqSigned_c (ha.ext x) (hb.ext x) rfl rfl) ?_
  rintro v w3 ⟨hv, y⟩
  subst hv
  have x := x.trans y; have b0 := b0.ext y; have b1 := b1.ext y
  refine ⟨_, rfl, ifN (fun hne => ⟨dec_no (fun e => ?_), x⟩) (fun heq => ?_)⟩
  · have e2 := congrArg (fun l : List D0 => (l.drop 1).take 2) e
    exact of_decide_eq_false hne e2
  have heq := of_decide_eq_true heq
  cases heq
  exact ⟨dec_yes rfl, x⟩

theorem open_TaxSum {w : World} {vs : List Value} {ds : List D0} (h : Reps w vs ds) (hc : ds.map D0.code = [.bool, .ints, .int, .str, .bool, .ints, .str, .bool, .ints]) :
    ∃ (a0 : Bool) (a1p : Option Addr) (a1n a1c : Nat) (a1z : List Int) (a2 : Int) (a3 : ByteArray) (a4 : Bool) (a5p : Option Addr) (a5n a5c : Nat) (a5z : List Int) (a6 : ByteArray) (a7 : Bool) (a8p : Option Addr) (a8n a8c : Nat) (a8z : List Int), vs = [.bool a0, .slice a1p a1n a1c, .int .i64 a2, .string a3, .bool a4, .slice a5p a5n a5c, .string a6, .bool a7, .slice a8p a8n a8c] ∧ ds = [.bool a0, .ints a1z, .int a2, .str a3, .bool a4, .ints a5z, .str a6, .bool a7, .ints a8z] ∧ IntsR w a1p a1n a1c a1z ∧ IntsR w a5p a5n a5c a5z ∧ IntsR w a8p a8n a8c a8z := by
  obtain ⟨b0, us, es, hv, hd, h2, hc2⟩ := h.bool hc
  subst hv; subst hd
  clear h hc
  have h := h2; have hc := hc2; clear h2 hc2
  obtain ⟨b1p, b1n, b1c, b1z, us, es, hv, hd, b1h, h2, hc2⟩ := h.ints hc
  subst hv; subst hd
  clear h hc
  have h := h2; have hc := hc2; clear h2 hc2
  obtain ⟨b2, us, es, hv, hd, h2, hc2⟩ := h.int hc
  subst hv; subst hd
  clear h hc
  have h := h2; have hc := hc2; clear h2 hc2
  obtain ⟨b3, us, es, hv, hd, h2, hc2⟩ := h.str hc
  subst hv; subst hd
  clear h hc
  have h := h2; have hc := hc2; clear h2 hc2
  obtain ⟨b4, us, es, hv, hd, h2, hc2⟩ := h.bool hc
  subst hv; subst hd
  clear h hc
  have h := h2; have hc := hc2; clear h2 hc2
  obtain ⟨b5p, b5n, b5c, b5z, us, es, hv, hd, b5h, h2, hc2⟩ := h.ints hc
  subst hv; subst hd
  clear h hc
  have h := h2; have hc := hc2; clear h2 hc2
  obtain ⟨b6, us, es, hv, hd, h2, hc2⟩ := h.str hc
  subst hv; subst hd
  clear h hc
  have h := h2; have hc := hc2; clear h2 hc2
  obtain ⟨b7, us, es, hv, hd, h2, hc2⟩ := h.bool hc
  subst hv; subst hd
  clear h hc
  have h := h2; have hc := hc2; clear h2 hc2
  obtain ⟨b8p, b8n, b8c, b8z, us, es, hv, hd, b8h, h2, hc2⟩ := h.ints hc
  subst hv; subst hd
  clear h hc
  have h := h2; have hc := hc2; clear h2 hc2
  obtain ⟨hv, hd⟩ := h.done hc
  subst hv; subst hd; clear h hc
  exact ⟨_, _, _, _, _, _, _, _, _, _, _, _, _, _, _, _, _, _, rfl, rfl, b1h, b5h, b8h⟩

theorem laws_szTaxSum_c {w : World} {vs : List Value} {ds : List D0} (h : Reps w vs ds) (hc : ds.map D0.code = [.bool, .ints, .int, .str, .bool, .ints, .str, .bool, .ints]) (hok : ∀ d ∈ ds, d.ok) {left : Int} (h0 : 0 ≤ left) (h1 : left ≤ 1048576) :
    Ret P n_laws_szTaxSum [.agg ⟨vs⟩, .int .i64 left] w fun v w' => ∃ r : Int, v = .int .i64 r ∧ (0 ≤ r → r + bulks ds ≤ left) ∧ r ≤ 1048576 ∧ Ext w w' := by
  obtain ⟨a0, us, es, hv, hd, h2, hc2⟩ := h.bool hc
  subst hv; subst hd
  clear h hc
  have h := h2; have hc := hc2; clear h2 hc2
  obtain ⟨a1p, a1n, a1c, a1z, us, es, hv, hd, a1h, h2, hc2⟩ := h.ints hc
  subst hv; subst hd
  clear h hc
  have h := h2; have hc := hc2; clear h2 hc2
  obtain ⟨a2, us, es, hv, hd, h2, hc2⟩ := h.int hc
  subst hv; subst hd
  clear h hc
  have h := h2; have hc := hc2; clear h2 hc2
  obtain ⟨a3, us, es, hv, hd, h2, hc2⟩ := h.str hc
  subst hv; subst hd
  clear h hc
  have h := h2; have hc := hc2; clear h2 hc2
  obtain ⟨a4, us, es, hv, hd, h2, hc2⟩ := h.bool hc
  subst hv; subst hd
  clear h hc
  have h := h2; have hc := hc2; clear h2 hc2
  obtain ⟨a5p, a5n, a5c, a5z, us, es, hv, hd, a5h, h2, hc2⟩ := h.ints hc
  subst hv; subst hd
  clear h hc
  have h := h2; have hc := hc2; clear h2 hc2
  obtain ⟨a6, us, es, hv, hd, h2, hc2⟩ := h.str hc
  subst hv; subst hd
  clear h hc
  have h := h2; have hc := hc2; clear h2 hc2
  obtain ⟨a7, us, es, hv, hd, h2, hc2⟩ := h.bool hc
  subst hv; subst hd
  clear h hc
  have h := h2; have hc := hc2; clear h2 hc2
  obtain ⟨a8p, a8n, a8c, a8z, us, es, hv, hd, a8h, h2, hc2⟩ := h.ints hc
  subst hv; subst hd
  clear h hc
  have h := h2; have hc := hc2; clear h2 hc2
  obtain ⟨hv, hd⟩ := h.done hc
  subst hv; subst hd; clear h hc
  simp only [List.mem_cons, List.not_mem_nil, or_false, forall_eq_or_imp, forall_eq, D0.ok] at hok
  have a1l := a1h.1; have a1k := a1h.2.1; have a1m := a1h.2.2.1
  have a5l := a5h.1; have a5k := a5h.2.1; have a5m := a5h.2.2.1
  have a8l := a8h.1; have a8k := a8h.2.1; have a8m := a8h.2.2.1
  simp only [bulks, D0.bulk, List.map_cons, List.map_nil, List.sum_cons, List.sum_nil]
  refine laws_szTaxSum_ret ?_
  unfold laws_szTaxSum
  intro r w1 hn1
  have x := hn1.ext; have b0 := hn1.blk
  have hr : Reps w [.bool a0, .slice a1p a1n a1c, .int .i64 a2] [.bool a0, .ints a1z, .int a2] := ⟨rfl, ⟨⟨_, _, _, rfl, a1h⟩, ⟨rfl, trivial⟩⟩⟩
  refine ⟨_, _, _, _, _, b0.loadA (xs := [.bool a0, .slice a1p a1n a1c, .int .i64 a2]) (by kernel_rfl) rfl, ?_⟩
  refine Ret.at (laws_szDec_c (hr.ext x) rfl (by simp only [List.mem_cons, List.not_mem_nil, or_false, forall_eq_or_imp, forall_eq, D0.ok]; simp only [hok, and_self]) (by omega) (by omega)) ?_
  rintro v w2 ⟨k0, hv, hk0, hm0, y⟩
  simp only [bulks, D0.bulk, List.map_cons, List.map_nil, List.sum_cons, List.sum_nil] at hk0
  subst hv
  have x := x.trans y; have b0 := b0.ext y
  refine ⟨_, rfl, ifD (fun hl => ⟨_, rfl, by omega, by omega, x⟩) (fun hl => ?_)⟩
  have hr : Reps w [.string a3, .bool a4, .slice a5p a5n a5c] [.str a3, .bool a4, .ints a5z] := ⟨rfl, ⟨rfl, ⟨⟨_, _, _, rfl, a5h⟩, trivial⟩⟩⟩
  refine ⟨_, _, _, _, _, b0.loadA (xs := [.string a3, .bool a4, .slice a5p a5n a5c]) (by kernel_rfl) rfl, ?_⟩
  refine Ret.at (laws_szMoney_c (hr.ext x) rfl (by simp only [List.mem_cons, List.not_mem_nil, or_false, forall_eq_or_imp, forall_eq, D0.ok]; simp only [hok, and_self]) (by omega) (by omega)) ?_
  rintro v w3 ⟨k1, hv, hk1, hm1, y⟩
  simp only [bulks, D0.bulk, List.map_cons, List.map_nil, List.sum_cons, List.sum_nil] at hk1
  subst hv
  have x := x.trans y; have b0 := b0.ext y
  refine ⟨_, rfl, ifD (fun hl => ⟨_, rfl, by omega, by omega, x⟩) (fun hl => ?_)⟩
  have hr : Reps w [.string a6, .bool a7, .slice a8p a8n a8c] [.str a6, .bool a7, .ints a8z] := ⟨rfl, ⟨rfl, ⟨⟨_, _, _, rfl, a8h⟩, trivial⟩⟩⟩
  refine ⟨_, _, _, _, _, b0.loadA (xs := [.string a6, .bool a7, .slice a8p a8n a8c]) (by kernel_rfl) rfl, ?_⟩
  refine Ret.at (laws_szMoney_c (hr.ext x) rfl (by simp only [List.mem_cons, List.not_mem_nil, or_false, forall_eq_or_imp, forall_eq, D0.ok]; simp only [hok, and_self]) (by omega) (by omega)) ?_
  rintro v w4 ⟨k2, hv, hk2, hm2, y⟩
  simp only [bulks, D0.bulk, List.map_cons, List.map_nil, List.sum_cons, List.sum_nil] at hk2
  subst hv
  have x := x.trans y; have b0 := b0.ext y
  refine ⟨_, rfl, ifD (fun hl => ⟨_, rfl, by omega, by omega, x⟩) (fun hl => ?_)⟩
  exact ⟨_, rfl, by omega, by omega, x⟩

theorem laws_toTaxSum_c {w : World} {vs : List Value} {ds : List D0} (h : Reps w vs ds) (hc : ds.map D0.code = [.bool, .ints, .int, .str, .bool, .ints, .str, .bool, .ints]) (hb : bulks ds ≤ 1048576) :
    Ret P n_laws_toTaxSum [.agg ⟨vs⟩] w fun v w' => ∃ vs' f, v = .agg ⟨vs'⟩ ∧ Owns w' w.heap.size vs' ds f ∧ f.Nodup ∧ Ext w w' := by
  obtain ⟨a0, us, es, hv, hd, h2, hc2⟩ := h.bool hc
  subst hv; subst hd
  clear h hc
  have h := h2; have hc := hc2; clear h2 hc2
  obtain ⟨a1p, a1n, a1c, a1z, us, es, hv, hd, a1h, h2, hc2⟩ := h.ints hc
  subst hv; subst hd
  clear h hc
  have h := h2; have hc := hc2; clear h2 hc2
  obtain ⟨a2, us, es, hv, hd, h2, hc2⟩ := h.int hc
  subst hv; subst hd
  clear h hc
  have h := h2; have hc := hc2; clear h2 hc2
  obtain ⟨a3, us, es, hv, hd, h2, hc2⟩ := h.str hc
  subst hv; subst hd
  clear h hc
  have h := h2; have hc := hc2; clear h2 hc2
  obtain ⟨a4, us, es, hv, hd, h2, hc2⟩ := h.bool hc
  subst hv; subst hd
  clear h hc
  have h := h2; have hc := hc2; clear h2 hc2
  obtain ⟨a5p, a5n, a5c, a5z, us, es, hv, hd, a5h, h2, hc2⟩ := h.ints hc
  subst hv; subst hd
  clear h hc
  have h := h2; have hc := hc2; clear h2 hc2
  obtain ⟨a6, us, es, hv, hd, h2, hc2⟩ := h.str hc
  subst hv; subst hd
  clear h hc
  have h := h2; have hc := hc2; clear h2 hc2
  obtain ⟨a7, us, es, hv, hd, h2, hc2⟩ := h.bool hc
  subst hv; subst hd
  clear h hc
  have h := h2; have hc := hc2; clear h2 hc2
  obtain ⟨a8p, a8n, a8c, a8z, us, es, hv, hd, a8h, h2, hc2⟩ := h.ints hc
  subst hv; subst hd
  clear h hc
  have h := h2; have hc := hc2; clear h2 hc2
  obtain ⟨hv, hd⟩ := h.done hc
  subst hv; subst hd; clear h hc
  simp only [bulks, D0.bulk, List.map_cons, List.map_nil, List.sum_cons, List.sum_nil] at hb
  have a1l := a1h.1
  have a5l := a5h.1
  have a8l := a8h.1
  refine laws_toTaxSum_ret ?_
  unfold laws_toTaxSum
  intro r w1 hn1 r1 w2 hn2 r2 w3 hn3
  have x := (hn1.ext.trans hn2.ext).trans hn3.ext
  have b0 := (hn1.blk.ext hn2.ext).ext hn3.ext
  have b1 := hn2.blk.ext hn3.ext
  have b2 := hn3.blk
  have e1 := hn1.r_eq; have e2 := hn2.r_eq; have e3 := hn3.r_eq; have s1 := hn1.size; have s2 := hn2.size; have s3 := hn3.size
  have hr : Reps w [.bool a0, .slice a1p a1n a1c, .int .i64 a2] [.bool a0, .ints a1z, .int a2] := ⟨rfl, ⟨⟨_, _, _, rfl, a1h⟩, ⟨rfl, trivial⟩⟩⟩
  refine ⟨_, _, _, _, _, b0.loadA (xs := [.bool a0, .slice a1p a1n a1c, .int .i64 a2]) (by kernel_rfl) rfl, ?_⟩
  refine Ret.at (laws_toDec_c (hr.ext x) rfl (by simp only [bulks, D0.bulk, List.map_cons, List.map_nil, List.sum_cons, List.sum_nil]; omega)) ?_
  rintro v w4 ⟨us0, f0, hv, o0, nd0, y⟩
  subst hv
  have hq := o0.reps; have hqc : ([.bool a0, .ints a1z, .int a2] : List D0).map D0.code = [.bool, .ints, .int] := rfl
  obtain ⟨q00, us, es, hv, hd, hq2, hqc2⟩ := hq.bool hqc
  subst hv; cases hd; clear hq hqc; have hq := hq2; have hqc := hqc2; clear hq2 hqc2
  obtain ⟨q01p, q01n, q01c, q01z, us, es, hv, hd, q01h, hq2, hqc2⟩ := hq.ints hqc
  subst hv; cases hd; clear hq hqc; have hq := hq2; have hqc := hqc2; clear hq2 hqc2
  obtain ⟨q02, us, es, hv, hd, hq2, hqc2⟩ := hq.int hqc
  subst hv; cases hd; clear hq hqc; have hq := hq2; have hqc := hqc2; clear hq2 hqc2
  obtain ⟨hv, _⟩ := hq.done hqc; subst hv; clear hq hqc
  refine ⟨_, _, _, _, _, rfl, ?_⟩
  have l0 : ∀ k ∈ _, k < w4.heap.size := fun k hk => (o0.lt k hk).2
  have y0 := y.le; have b0 := b0.ext y; have b1 := b1.ext y; have b2 := b2.ext y; have x := x.trans y
  obtain ⟨w5, st, b2', ch, sz⟩ := b2.storeA (P := P) (t := T_impl_Dec) (k := 0) (xs := [.bool a0, .slice q01p q01n q01c, .int .i64 a2]) (by kernel_rfl) (by simp) o0.reps.cells1
  refine ⟨_, st, ?_⟩
  have x := x.chg ch (by simp; omega); have b0 := b0.chg ch (by simp; omega); have b1 := b1.chg ch (by simp; omega)
  have b2 : Blk w5 r2 _ [.bool a0, .slice q01p q01n q01c, .int .i64 a2, .string ByteArray.empty, .bool false, .slice none 0 0, .string ByteArray.empty, .bool false, .slice none 0 0] := b2'
  clear b2'
  have o0 := o0.chg1 ch (by omega)
  have hr : Reps w [.string a3, .bool a4, .slice a5p a5n a5c] [.str a3, .bool a4, .ints a5z] := ⟨rfl, ⟨rfl, ⟨⟨_, _, _, rfl, a5h⟩, trivial⟩⟩⟩
  refine ⟨_, _, _, _, _, b0.loadA (xs := [.string a3, .bool a4, .slice a5p a5n a5c]) (by kernel_rfl) rfl, ?_⟩
  refine Ret.at (laws_toMoney_c (hr.ext x) rfl (by simp only [bulks, D0.bulk, List.map_cons, List.map_nil, List.sum_cons, List.sum_nil]; omega)) ?_
  rintro v w6 ⟨us1, f1, hv, o1, nd1, y⟩
  subst hv
  have hq := o1.reps; have hqc : ([.str a3, .bool a4, .ints a5z] : List D0).map D0.code = [.str, .bool, .ints] := rfl
  obtain ⟨q10, us, es, hv, hd, hq2, hqc2⟩ := hq.str hqc
  subst hv; cases hd; clear hq hqc; have hq := hq2; have hqc := hqc2; clear hq2 hqc2
  obtain ⟨q11, us, es, hv, hd, hq2, hqc2⟩ := hq.bool hqc
  subst hv; cases hd; clear hq hqc; have hq := hq2; have hqc := hqc2; clear hq2 hqc2
  obtain ⟨q12p, q12n, q12c, q12z, us, es, hv, hd, q12h, hq2, hqc2⟩ := hq.ints hqc
  subst hv; cases hd; clear hq hqc; have hq := hq2; have hqc := hqc2; clear hq2 hqc2
  obtain ⟨hv, _⟩ := hq.done hqc; subst hv; clear hq hqc
  refine ⟨_, _, _, _, _, rfl, ?_⟩
  have l1 : ∀ k ∈ _, k < w6.heap.size := fun k hk => (o1.lt k hk).2
  have y1 := y.le; have b0 := b0.ext y; have b1 := b1.ext y; have b2 := b2.ext y; have x := x.trans y
  have o0 := o0.ext y
  obtain ⟨w7, st, b2', ch, sz⟩ := b2.storeA (P := P) (t := T_impl_Money) (k := 3) (xs := [.string a3, .bool a4, .slice q12p q12n q12c]) (by kernel_rfl) (by simp) o1.reps.cells1
  refine ⟨_, st, ?_⟩
  have x := x.chg ch (by simp; omega); have b0 := b0.chg ch (by simp; omega); have b1 := b1.chg ch (by simp; omega)
  have b2 : Blk w7 r2 _ [.bool a0, .slice q01p q01n q01c, .int .i64 a2, .string a3, .bool a4, .slice q12p q12n q12c, .string ByteArray.empty, .bool false, .slice none 0 0] := b2'
  clear b2'
  have o0 := o0.chg1 ch (by omega)
  have o1 := o1.chg1 ch (by omega)
  have hr : Reps w [.string a6, .bool a7, .slice a8p a8n a8c] [.str a6, .bool a7, .ints a8z] := ⟨rfl, ⟨rfl, ⟨⟨_, _, _, rfl, a8h⟩, trivial⟩⟩⟩
  refine ⟨_, _, _, _, _, b0.loadA (xs := [.string a6, .bool a7, .slice a8p a8n a8c]) (by kernel_rfl) rfl, ?_⟩
  refine Ret.at (laws_toMoney_c (hr.ext x) rfl (by simp only [bulks, D0.bulk, List.map_cons, List.map_nil, List.sum_cons, List.sum_nil]; omega)) ?_
  rintro v w8 ⟨us2, f2, hv, o2, nd2, y⟩
  subst hv
  have hq := o2.reps; have hqc : ([.str a6, .bool a7, .ints a8z] : List D0).map D0.code = [.str, .bool, .ints] := rfl
  obtain ⟨q20, us, es, hv, hd, hq2, hqc2⟩ := hq.str hqc
  subst hv; cases hd; clear hq hqc; have hq := hq2; have hqc := hqc2; clear hq2 hqc2
  obtain ⟨q21, us, es, hv, hd, hq2, hqc2⟩ := hq.bool hqc
  subst hv; cases hd; clear hq hqc; have hq := hq2; have hqc := hqc2; clear hq2 hqc2
  obtain ⟨q22p, q22n, q22c, q22z, us, es, hv, hd, q22h, hq2, hqc2⟩ := hq.ints hqc
  subst hv; cases hd; clear hq hqc; have hq := hq2; have hqc := hqc2; clear hq2 hqc2
  obtain ⟨hv, _⟩ := hq.done hqc; subst hv; clear hq hqc
  refine ⟨_, _, _, _, _, rfl, ?_⟩
  have l2 : ∀ k ∈ _, k < w8.heap.size := fun k hk => (o2.lt k hk).2
  have y2 := y.le; have b0 := b0.ext y; have b1 := b1.ext y; have b2 := b2.ext y; have x := x.trans y
  have o0 := o0.ext y
  have o1 := o1.ext y
  obtain ⟨w9, st, b2', ch, sz⟩ := b2.storeA (P := P) (t := T_impl_Money) (k := 6) (xs := [.string a6, .bool a7, .slice q22p q22n q22c]) (by kernel_rfl) (by simp) o2.reps.cells1
  refine ⟨_, st, ?_⟩
  have x := x.chg ch (by simp; omega); have b0 := b0.chg ch (by simp; omega); have b1 := b1.chg ch (by simp; omega)
  have b2 : Blk w9 r2 _ [.bool a0, .slice q01p q01n q01c, .int .i64 a2, .string a3, .bool a4, .slice q12p q12n q12c, .string a6, .bool a7, .slice q22p q22n q22c] := b2'
  clear b2'
  have o0 := o0.chg1 ch (by omega)
  have o1 := o1.chg1 ch (by omega)
  have o2 := o2.chg1 ch (by omega)
  refine ⟨_, _, _, _, _, _, _, _, _, _, _, _, _, _, _, b2.loadA0 (by kernel_rfl), ?_⟩
  have ow : Owns w9 w.heap.size [.bool a0, .slice q01p q01n q01c, .int .i64 a2, .string a3, .bool a4, .slice q12p q12n q12c, .string a6, .bool a7, .slice q22p q22n q22c] [.bool a0, .ints a1z, .int a2, .str a3, .bool a4, .ints a5z, .str a6, .bool a7, .ints a8z] (f0 ++ (f1 ++ f2)) := Owns.append (o0.mono (by omega)) (Owns.append (o1.mono (by omega)) (o2.mono (by omega)))
  obtain ⟨w10, st, b1', ch, sz⟩ := b1.storeA0 (P := P) (t := T_impl_TaxSum) (xs := [.bool a0, .slice q01p q01n q01c, .int .i64 a2, .string a3, .bool a4, .slice q12p q12n q12c, .string a6, .bool a7, .slice q22p q22n q22c]) (by kernel_rfl) rfl ow.reps.cells1
  refine ⟨_, st, _, _, _, _, _, _, _, _, _, _, _, _, _, _, _, b1'.loadA0 (by kernel_rfl), [.bool a0, .slice q01p q01n q01c, .int .i64 a2, .string a3, .bool a4, .slice q12p q12n q12c, .string a6, .bool a7, .slice q22p q22n q22c], (f0 ++ (f1 ++ f2)), rfl, Owns.append ((o0.chg1 ch (by omega)).mono (by omega)) (Owns.append ((o1.chg1 ch (by omega)).mono (by omega)) ((o2.chg1 ch (by omega)).mono (by omega))), ?_, x.chg ch (by simp; omega)⟩
  try simp only [List.nil_append, List.append_nil]
  have p2 := nd2
  have m2 : ∀ k ∈ f2, w7.heap.size ≤ k := fun k hk => (o2.lt k hk).1
  have p1 := nodup_append nd1 p2 (m := w7.heap.size) (fun k hk => Nat.lt_of_lt_of_le (l1 k hk) (by omega)) m2
  have m1 : ∀ k ∈ (f1 ++ f2), w5.heap.size ≤ k := fun k hk => by
    rcases List.mem_append.1 hk with hk | hk
    · exact (o1.lt k hk).1
    · have := m2 k hk; omega
  have p0 := nodup_append nd0 p1 (m := w5.heap.size) (fun k hk => Nat.lt_of_lt_of_le (l0 k hk) (by omega)) m1
  exact p0

theorem laws_eqTaxSum_c {w : World} {xs ys : List Value} {dx dy : List D0} (h : Reps w xs dx) (k : Reps w ys dy) (hc : dx.map D0.code = [.bool, .ints, .int, .str, .bool, .ints, .str, .bool, .ints]) (kc : dy.map D0.code = [.bool, .ints, .int, .str, .bool, .ints, .str, .bool, .ints]) :
    Ret P n_laws_eqTaxSum [.agg ⟨xs⟩, .agg ⟨ys⟩] w fun v w' => v = .bool (decide (dx = dy)) ∧ Ext w w' := by
  obtain ⟨a0, us, es, hv, hd, h2, hc2⟩ := h.bool hc
  subst hv; subst hd
  clear h hc
  have h := h2; have hc := hc2; clear h2 hc2
  obtain ⟨a1p, a1n, a1c, a1z, us, es, hv, hd, a1h, h2, hc2⟩ := h.ints hc
  subst hv; subst hd
  clear h hc
  have h := h2; have hc := hc2; clear h2 hc2
  obtain ⟨a2, us, es, hv, hd, h2, hc2⟩ := h.int hc
  subst hv; subst hd
  clear h hc
  have h := h2; have hc := hc2; clear h2 hc2
  obtain ⟨a3, us, es, hv, hd, h2, hc2⟩ := h.str hc
  subst hv; subst hd
  clear h hc
  have h := h2; have hc := hc2; clear h2 hc2
  obtain ⟨a4, us, es, hv, hd, h2, hc2⟩ := h.bool hc
  subst hv; subst hd
  clear h hc
  have h := h2; have hc := hc2; clear h2 hc2
  obtain ⟨a5p, a5n, a5c, a5z, us, es, hv, hd, a5h, h2, hc2⟩ := h.ints hc
  subst hv; subst hd
  clear h hc
  have h := h2; have hc := hc2; clear h2 hc2
  obtain ⟨a6, us, es, hv, hd, h2, hc2⟩ := h.str hc
  subst hv; subst hd
  clear h hc
  have h := h2; have hc := hc2; clear h2 hc2
  obtain ⟨a7, us, es, hv, hd, h2, hc2⟩ := h.bool hc
  subst hv; subst hd
  clear h hc
  have h := h2; have hc := hc2; clear h2 hc2
  obtain ⟨a8p, a8n, a8c, a8z, us, es, hv, hd, a8h, h2, hc2⟩ := h.ints hc
  subst hv; subst hd
  clear h hc
  have h := h2; have hc := hc2; clear h2 hc2
  obtain ⟨hv, hd⟩ := h.done hc
  subst hv; subst hd; clear h hc
  obtain ⟨bb0, us, es, hv, hd, k2, kc2⟩ := k.bool kc
  subst hv; subst hd
  clear k kc
  have k := k2; have kc := kc2; clear k2 kc2
  obtain ⟨bb1p, bb1n, bb1c, bb1z, us, es, hv, hd, bb1h, k2, kc2⟩ := k.ints kc
  subst hv; subst hd
  clear k kc
  have k := k2; have kc := kc2; clear k2 kc2
  obtain ⟨bb2, us, es, hv, hd, k2, kc2⟩ := k.int kc
  subst hv; subst hd
  clear k kc
  have k := k2; have kc := kc2; clear k2 kc2
  obtain ⟨bb3, us, es, hv, hd, k2, kc2⟩ := k.str kc
  subst hv; subst hd
  clear k kc
  have k := k2; have kc := kc2; clear k2 kc2
  obtain ⟨bb4, us, es, hv, hd, k2, kc2⟩ := k.bool kc
  subst hv; subst hd
  clear k kc
  have k := k2; have kc := kc2; clear k2 kc2
  obtain ⟨bb5p, bb5n, bb5c, bb5z, us, es, hv, hd, bb5h, k2, kc2⟩ := k.ints kc
  subst hv; subst hd
  clear k kc
  have k := k2; have kc := kc2; clear k2 kc2
  obtain ⟨bb6, us, es, hv, hd, k2, kc2⟩ := k.str kc
  subst hv; subst hd
  clear k kc
  have k := k2; have kc := kc2; clear k2 kc2
  obtain ⟨bb7, us, es, hv, hd, k2, kc2⟩ := k.bool kc
  subst hv; subst hd
  clear k kc
  have k := k2; have kc := kc2; clear k2 kc2
  obtain ⟨bb8p, bb8n, bb8c, bb8z, us, es, hv, hd, bb8h, k2, kc2⟩ := k.ints kc
  subst hv; subst hd
  clear k kc
  have k := k2; have kc := kc2; clear k2 kc2
  obtain ⟨hv, hd⟩ := k.done kc
  subst hv; subst hd; clear k kc
  refine laws_eqTaxSum_ret ?_
  unfold laws_eqTaxSum
  intro r w1 hn1 r1 w2 hn2
  have x := hn1.ext.trans hn2.ext
  have b0 := hn1.blk.ext hn2.ext
  have b1 := hn2.blk
  have ha : Reps w [.bool a0, .slice a1p a1n a1c, .int .i64 a2] [.bool a0, .ints a1z, .int a2] := ⟨rfl, ⟨⟨_, _, _, rfl, a1h⟩, ⟨rfl, trivial⟩⟩⟩
  have hb : Reps w [.bool bb0, .slice bb1p bb1n bb1c, .int .i64 bb2] [.bool bb0, .ints bb1z, .int bb2] := ⟨rfl, ⟨⟨_, _, _, rfl, bb1h⟩, ⟨rfl, trivial⟩⟩⟩
  refine ⟨_, _, _, _, _, b0.loadA (xs := [.bool a0, .slice a1p a1n a1c, .int .i64 a2]) (by kernel_rfl) rfl, _, _, _, _, _, b1.loadA (xs := [.bool bb0, .slice bb1p bb1n bb1c, .int .i64 bb2]) (by kernel_rfl) rfl, ?_⟩
  refine Ret.at (laws_eqDec_c (ha.ext x) (hb.ext x) rfl rfl) ?_
  rintro v w3 ⟨hv, y⟩
  subst hv
  have x := x.trans y; have b0 := b0.ext y; have b1 := b1.ext y
  refine ⟨_, rfl, ifN (fun hne => ⟨dec_no (fun e => ?_), x⟩) (fun heq => ?_)⟩
  · have e2 := congrArg (fun l : List D0 => (l.drop 0).take 3) e
    exact of_decide_eq_false hne e2
  have heq := of_decide_eq_true heq
  cases heq
  have ha : Reps w [.string a3, .bool a4, .slice a5p a5n a5c] [.str a3, .bool a4, .ints a5z] := ⟨rfl, ⟨rfl, ⟨⟨_, _, _, rfl, a5h⟩, trivial⟩⟩⟩
  have hb : Reps w [.string bb3, .bool bb4, .slice bb5p bb5n bb5c] [.str bb3, .bool bb4, .ints bb5z] := ⟨rfl, ⟨rfl, ⟨⟨_, _, _, rfl, bb5h⟩, trivial⟩⟩⟩
  refine ⟨_, _, _, _, _, b0.loadA (xs := [.string a3, .bool a4, .slice a5p a5n a5c]) (by kernel_rfl) rfl, _, _, _, _, _, b1.loadA (xs := [.string bb3, .bool bb4, .slice bb5p bb5n bb5c]) (by kernel_rfl) rfl, ?_⟩
  refine Ret.at (laws_eqMoney_c (ha.ext x) (hb.ext x) rfl rfl) ?_
  rintro v w4 ⟨hv, y⟩
  subst hv
  have x := x.trans y; have b0 := b0.ext y; have b1 := b1.ext y
  refine ⟨_, rfl, ifN (fun hne => ⟨dec_no (fun e => ?_), x⟩) (fun heq => ?_)⟩
  · have e2 := congrArg (fun l : List D0 => (l.drop 3).take 3) e
    exact of_decide_eq_false hne e2
  have heq := of_decide_eq_true heq
  cases heq
  have ha : Reps w [.string a6, .bool a7, .slice a8p a8n a8c] [.str a6, .bool a7, .ints a8z] := ⟨rfl, ⟨rfl, ⟨⟨_, _, _, rfl, a8h⟩, trivial⟩⟩⟩
  have hb : Reps w [.string bb6, .bool bb7, .slice bb8p bb8n bb8c] [.str bb6, .bool bb7, .ints bb8z] := ⟨rfl, ⟨rfl, ⟨⟨_, _, _, rfl, bb8h⟩, trivial⟩⟩⟩
  refine ⟨_, _, _, _, _, b0.loadA (xs := [.string a6, .bool a7, .slice a8p a8n a8c]) (by kernel_rfl) rfl, _, _, _, _, _, b1.loadA (xs := [.string bb6, .bool bb7, .slice bb8p bb8n bb8c]) (by kernel_rfl) rfl, ?_⟩
  refine Ret.at (laws_eqMoney_c (ha.ext x) (hb.ext x) rfl rfl) ?_
  rintro v w5 ⟨hv, y⟩
  subst hv
  have x := x.trans y; have b0 := b0.ext y; have b1 := b1.ext y
  refine ⟨_, rfl, ifN (fun hne => ⟨dec_no (fun e => ?_), x⟩) (fun heq => ?_)⟩
  · have e2 := congrArg (fun l : List D0 => (l.drop 6).take 3) e
    exact of_decide_eq_false hne e2
  have heq := of_decide_eq_true heq
  cases heq
  exact ⟨dec_yes rfl, x⟩

theorem laws_szTaxSumS_c {w : World} {p : Option Addr} {n c : Nat} {l : List (List D0)} (h : RowsR w 9 p n c l) (hc : ∀ x ∈ l, x.map D0.code = [.bool, .ints, .int, .str, .bool, .ints, .str, .bool, .ints]) (hok : ∀ x ∈ l, ∀ d ∈ x, d.ok) {left : Int} (h0 : 0 ≤ left) (h1 : left ≤ 1048576) :
    Ret P n_laws_szTaxSumS [.slice p n c, .int .i64 left] w fun v w' => ∃ r : Int, v = .int .i64 r ∧ (0 ≤ r → r + n + ((l.map bulks).sum : Nat) ≤ left) ∧ r ≤ 1048576 ∧ Ext w w' := by
  refine laws_szTaxSumS_ret ?_
  unfold laws_szTaxSumS
  have hlen := h.1; have hcap := h.2.1; have hcm := h.2.2.1
  refine exW ⟨by omega, by omega⟩ (ifD (fun hl => ⟨_, rfl, by omega, by omega, Ext.refl _⟩) (fun hl => ?_))
  refine ⟨fun lf i wr => ∃ j : Nat, i = j ∧ j ≤ n ∧ Ext w wr ∧ 0 ≤ lf ∧ lf ≤ 1048576 ∧ lf + n + (((l.take j).map bulks).sum : Nat) ≤ left, fun _ i _ => n - i.toNat, ⟨0, rfl, by omega, Ext.refl _, by omega, by omega, by simp <;> omega⟩, ?_⟩
  intro junk wr lf i ⟨j, hij, hj, hx, hl0, hl1, hle⟩
  subst hij
  refine ifD (fun hlt => ?_) (fun hge => ?_)
  · have hjn : j < n := by omega
    obtain ⟨a, cs, hp, hk, hr, hld⟩ := (h.ext hx).at (P := P) (t := T_laws_TaxSum) (by kernel_rfl) hjn
    subst hp
    have hjl : j < l.length := by omega
    have hm : l[j] ∈ l := List.getElem_mem hjl
    have hcode := hc _ hm
    have hrr := hr
    obtain ⟨a0, us, esa0, hv, hd, hrx, hcodex⟩ := hr.bool hcode
    subst hv; clear hd
    obtain ⟨a1p, a1n, a1c, a1z, us, esa1, hv, hd, a1h, hrxx, hcodexx⟩ := hrx.ints hcodex
    subst hv; clear hd
    obtain ⟨a2, us, esa2, hv, hd, hrxxx, hcodexxx⟩ := hrxx.int hcodexx
    subst hv; clear hd
    obtain ⟨a3, us, esa3, hv, hd, hrxxxx, hcodexxxx⟩ := hrxxx.str hcodexxx
    subst hv; clear hd
    obtain ⟨a4, us, esa4, hv, hd, hrxxxxx, hcodexxxxx⟩ := hrxxxx.bool hcodexxxx
    subst hv; clear hd
    obtain ⟨a5p, a5n, a5c, a5z, us, esa5, hv, hd, a5h, hrxxxxxx, hcodexxxxxx⟩ := hrxxxxx.ints hcodexxxxx
    subst hv; clear hd
    obtain ⟨a6, us, esa6, hv, hd, hrxxxxxxx, hcodexxxxxxx⟩ := hrxxxxxx.str hcodexxxxxx
    subst hv; clear hd
    obtain ⟨a7, us, esa7, hv, hd, hrxxxxxxxx, hcodexxxxxxxx⟩ := hrxxxxxxx.bool hcodexxxxxxx
    subst hv; clear hd
    obtain ⟨a8p, a8n, a8c, a8z, us, esa8, hv, hd, a8h, hrxxxxxxxxx, hcodexxxxxxxxx⟩ := hrxxxxxxxx.ints hcodexxxxxxxx
    subst hv; clear hd
    obtain ⟨hv, hd⟩ := hrxxxxxxxxx.done hcodexxxxxxxxx
    subst hv; clear hd
    refine ⟨⟨by omega, by omega⟩, _, _, _, _, _, _, _, _, _, _, _, _, _, _, _, by simpa using hld, ?_⟩
    refine Ret.at (laws_szTaxSum_c hrr (hc _ hm) (hok _ hm) hl0 hl1) ?_
    rintro v w2 ⟨t, hv, ht, htm, hy⟩
    subst hv
    refine ⟨_, rfl, ifD (fun hl => ⟨_, rfl, by omega, by omega, hx.trans hy⟩) (fun hl => ?_)⟩
    refine exW ⟨by omega, by omega⟩ ⟨⟨j + 1, by omega, by omega, hx.trans hy, by omega, by omega, ?_⟩, by simp; omega⟩
    rw [List.take_add_one, List.getElem?_eq_getElem hjl]
    have := ht (by omega)
    simp only [Option.toList_some, List.map_append, List.map_cons, List.map_nil, List.sum_append, List.sum_cons, List.sum_nil]
    omega
  · have hjn : j = n := by omega
    subst hjn
    rw [List.take_of_length_le (by omega)] at hle
    exact ⟨_, rfl, by omega, by omega, hx⟩

theorem laws_toTaxSumS_c {w : World} {p : Option Addr} {n c : Nat} {l : List (List D0)} (h : RowsR w 9 p n c l) (hc : ∀ x ∈ l, x.map D0.code = [.bool, .ints, .int, .str, .bool, .ints, .str, .bool, .ints]) (hn : n ≤ 1048576) (hb : ∀ x ∈ l, bulks x ≤ 1048576) :
    Ret P n_laws_toTaxSumS [.slice p n c] w fun v w' => ∃ p' c' f, v = .slice p' n c' ∧ OwnRows w' w.heap.size T_impl_TaxSum 9 p' n c' l f ∧ Ext w w' := by
  refine laws_toTaxSumS_ret ?_
  unfold laws_toTaxSumS
  refine ⟨⟨by omega, by omega, by omega⟩, fun r w1 hnew => ?_⟩
  have hlen := h.1; have er := hnew.r_eq; have es := hnew.size
  refine ⟨fun i wr => ∃ (j : Nat) (css : List (List Value)) (fs : List (List Nat)) (xs : List Value), i = j ∧ j ≤ n ∧ Ext w wr ∧ w1.heap.size ≤ wr.heap.size ∧ AllO wr w1.heap.size 9 css (l.take j) fs ∧ fs.flatten.Nodup ∧ Blk wr r T_impl_TaxSum xs ∧ xs.length = n * 9 ∧ xs.take (j * 9) = css.flatten, fun i _ => n - i.toNat, ⟨0, [], [], _, rfl, by omega, hnew.ext, Nat.le_refl _, trivial, List.nodup_nil, hnew.blk, by simp [zeroRow], by simp⟩, ?_⟩
  intro junk wr i ⟨j, css, fs, xs, hij, hj, hx, hsz, ha, hnd, hbk, hxl, hxt⟩
  subst hij
  refine ifD (fun hlt => ?_) (fun hge => ?_)
  · have hjn : j < n := by omega
    obtain ⟨a, cs, hp, hk, hr, hl⟩ := (h.ext hx).at (P := P) (t := T_laws_TaxSum) (by kernel_rfl) hjn
    subst hp
    have hjl : j < l.length := by omega
    have hm : l[j] ∈ l := List.getElem_mem hjl
    have hcode := hc _ hm; have hbl := hb _ hm
    have hrr := hr
    obtain ⟨a0, us, esa0, hv, hd, hrx, hcodex⟩ := hr.bool hcode
    subst hv; clear hd
    obtain ⟨a1p, a1n, a1c, a1z, us, esa1, hv, hd, a1h, hrxx, hcodexx⟩ := hrx.ints hcodex
    subst hv; clear hd
    obtain ⟨a2, us, esa2, hv, hd, hrxxx, hcodexxx⟩ := hrxx.int hcodexx
    subst hv; clear hd
    obtain ⟨a3, us, esa3, hv, hd, hrxxxx, hcodexxxx⟩ := hrxxx.str hcodexxx
    subst hv; clear hd
    obtain ⟨a4, us, esa4, hv, hd, hrxxxxx, hcodexxxxx⟩ := hrxxxx.bool hcodexxxx
    subst hv; clear hd
    obtain ⟨a5p, a5n, a5c, a5z, us, esa5, hv, hd, a5h, hrxxxxxx, hcodexxxxxx⟩ := hrxxxxx.ints hcodexxxxx
    subst hv; clear hd
    obtain ⟨a6, us, esa6, hv, hd, hrxxxxxxx, hcodexxxxxxx⟩ := hrxxxxxx.str hcodexxxxxx
    subst hv; clear hd
    obtain ⟨a7, us, esa7, hv, hd, hrxxxxxxxx, hcodexxxxxxxx⟩ := hrxxxxxxx.bool hcodexxxxxxx
    subst hv; clear hd
    obtain ⟨a8p, a8n, a8c, a8z, us, esa8, hv, hd, a8h, hrxxxxxxxxx, hcodexxxxxxxxx⟩ := hrxxxxxxxx.ints hcodexxxxxxxx
    subst hv; clear hd
    obtain ⟨hv, hd⟩ := hrxxxxxxxxx.done hcodexxxxxxxxx
    subst hv; clear hd
    refine ⟨⟨by omega, by omega⟩, _, _, _, _, _, _, _, _, _, _, _, _, _, _, _, by simpa using hl, ?_⟩
    refine Ret.at (laws_toTaxSum_c hrr (hc _ hm) hbl) ?_
    rintro v w2 ⟨vs, f, hv, ho, hnf, hy⟩
    subst hv
    have ho2 := ho.reps; have hoc := hc _ hm
    obtain ⟨b0, us, esb0, hv, hd, ho2x, hocx⟩ := ho2.bool hoc
    subst hv; clear hd
    obtain ⟨b1p, b1n, b1c, b1z, us, esb1, hv, hd, b1h, ho2xx, hocxx⟩ := ho2x.ints hocx
    subst hv; clear hd
    obtain ⟨b2, us, esb2, hv, hd, ho2xxx, hocxxx⟩ := ho2xx.int hocxx
    subst hv; clear hd
    obtain ⟨b3, us, esb3, hv, hd, ho2xxxx, hocxxxx⟩ := ho2xxx.str hocxxx
    subst hv; clear hd
    obtain ⟨b4, us, esb4, hv, hd, ho2xxxxx, hocxxxxx⟩ := ho2xxxx.bool hocxxxx
    subst hv; clear hd
    obtain ⟨b5p, b5n, b5c, b5z, us, esb5, hv, hd, b5h, ho2xxxxxx, hocxxxxxx⟩ := ho2xxxxx.ints hocxxxxx
    subst hv; clear hd
    obtain ⟨b6, us, esb6, hv, hd, ho2xxxxxxx, hocxxxxxxx⟩ := ho2xxxxxx.str hocxxxxxx
    subst hv; clear hd
    obtain ⟨b7, us, esb7, hv, hd, ho2xxxxxxxx, hocxxxxxxxx⟩ := ho2xxxxxxx.bool hocxxxxxxx
    subst hv; clear hd
    obtain ⟨b8p, b8n, b8c, b8z, us, esb8, hv, hd, b8h, ho2xxxxxxxxx, hocxxxxxxxxx⟩ := ho2xxxxxxxx.ints hocxxxxxxxx
    subst hv; clear hd
    obtain ⟨hv, hd⟩ := ho2xxxxxxxxx.done hocxxxxxxxxx
    subst hv; clear hd
    have hcl : ([.bool b0, .slice b1p b1n b1c, .int .i64 b2, .string b3, .bool b4, .slice b5p b5n b5c, .string b6, .bool b7, .slice b8p b8n b8c] : List Value).length = 9 := rfl
    have hfr := fill_row hxl hxt hcl hjn
    obtain ⟨w3, hst, hb3, hch, hs3⟩ := (hbk.ext hy).storeA (P := P) (t := T_impl_TaxSum) (k := j * 9) (by kernel_rfl) hfr.1 ho.reps.cells1
    have hrf : ∀ q ∈ f, q ∉ [r] := fun q hq hm => by have := (ho.lt q hq).1; simp at hm; omega
    have hrs : ∀ q ∈ fs.flatten, q ∉ [r] := fun q hq hm => by have := (ha.lt q hq).1; simp at hm; omega
    refine ⟨_, _, _, _, _, _, _, _, _, _, _, _, _, _, _, rfl, ⟨by omega, by omega⟩, w3, by simpa using hst, exW ⟨by omega, by omega⟩ ⟨⟨j + 1, css ++ [[.bool b0, .slice b1p b1n b1c, .int .i64 b2, .string b3, .bool b4, .slice b5p b5n b5c, .string b6, .bool b7, .slice b8p b8n b8c]], fs ++ [f], _, by omega, by omega, (hx.trans hy).chg hch (by simp; omega), by have := hy.le; omega, ?_, ?_, hb3, hfr.2.1, hfr.2.2⟩, by simp; omega⟩⟩
    · rw [List.take_add_one, List.getElem?_eq_getElem hjl]
      exact ((ha.ext hy).chg hch hrs).snoc hcl ((ho.mono hsz).chg hch hrf)
    · rw [List.flatten_append]
      exact nodup_append (m := wr.heap.size) hnd (by simpa using hnf) (fun q hq => (ha.lt q hq).2) (fun q hq => (ho.lt q (by simpa using hq)).1)
  · have hjn : j = n := by omega
    subst hjn
    rw [List.take_of_length_le (by omega)] at ha hxt
    subst hxt
    refine ⟨_, _, _, rfl, ⟨by omega, css, fs, ha.mono (by omega), Own.of_blk hbk (by omega) hxl (by simp only [maxLen]; omega), rfl, ?_⟩, hx⟩
    refine nodup_append (m := w1.heap.size) (by simp) hnd (fun q hq => ?_) (fun q hq => (ha.lt q hq).1)
    simp at hq; omega

theorem laws_eqTaxSumS_c {w : World} {p q : Option Addr} {n c m d : Nat} {l s : List (List D0)} (h : RowsR w 9 p n c l) (k : RowsR w 9 q m d s) (hc : ∀ x ∈ l, x.map D0.code = [.bool, .ints, .int, .str, .bool, .ints, .str, .bool, .ints]) (kc : ∀ x ∈ s, x.map D0.code = [.bool, .ints, .int, .str, .bool, .ints, .str, .bool, .ints]) :
    Ret P n_laws_eqTaxSumS [.slice p n c, .slice q m d] w fun v w' => v = .bool (decide (l = s)) ∧ Ext w w' := by
  refine laws_eqTaxSumS_ret ?_
  unfold laws_eqTaxSumS
  have hz := h.1; have hy := k.1; have hcap := h.2.1; have hcm := h.2.2.1
  refine ifD (fun hne => ⟨dec_no (fun e => hne (by rw [← hz, ← hy, e])), Ext.refl _⟩) (fun heq => ?_)
  have hnm : n = m := by omega
  refine ⟨fun i wr => ∃ j : Nat, i = j ∧ j ≤ n ∧ Ext w wr ∧ l.take j = s.take j, fun i _ => n - i.toNat, ⟨0, rfl, by omega, Ext.refl _, by simp⟩, ?_⟩
  intro junk wr i ⟨j, hij, hj, hx, he⟩
  subst hij
  refine ifD (fun hlt => ?_) (fun hge => ⟨?_, hx⟩)
  · have hjn : j < n := by omega
    have hx' := hx.trans (Ext.drew wr)
    have hjl : j < l.length := by omega
    have hjs : j < s.length := by omega
    obtain ⟨kb1, ko1, hp, hs1⟩ := (h.ext hx').2.2.2 (by omega)
    obtain ⟨cs, hk, hr, hg1⟩ := hs1 j _ (List.getElem?_eq_getElem hjl)
    obtain ⟨kb2, ko2, hq, hs2⟩ := (k.ext hx').2.2.2 (by omega)
    obtain ⟨ds, hk2, hr2, hg2⟩ := hs2 j _ (List.getElem?_eq_getElem hjs)
    subst hp; subst hq
    have hrr := hr; have hrr2 := hr2
    have hc1 := hc _ (List.getElem_mem hjl); have hc2 := kc _ (List.getElem_mem hjs)
    obtain ⟨a0, us, esa0, hv, hd, hrx, hc1x⟩ := hr.bool hc1
    subst hv; clear hd
    obtain ⟨a1p, a1n, a1c, a1z, us, esa1, hv, hd, a1h, hrxx, hc1xx⟩ := hrx.ints hc1x
    subst hv; clear hd
    obtain ⟨a2, us, esa2, hv, hd, hrxxx, hc1xxx⟩ := hrxx.int hc1xx
    subst hv; clear hd
    obtain ⟨a3, us, esa3, hv, hd, hrxxxx, hc1xxxx⟩ := hrxxx.str hc1xxx
    subst hv; clear hd
    obtain ⟨a4, us, esa4, hv, hd, hrxxxxx, hc1xxxxx⟩ := hrxxxx.bool hc1xxxx
    subst hv; clear hd
    obtain ⟨a5p, a5n, a5c, a5z, us, esa5, hv, hd, a5h, hrxxxxxx, hc1xxxxxx⟩ := hrxxxxx.ints hc1xxxxx
    subst hv; clear hd
    obtain ⟨a6, us, esa6, hv, hd, hrxxxxxxx, hc1xxxxxxx⟩ := hrxxxxxx.str hc1xxxxxx
    subst hv; clear hd
    obtain ⟨a7, us, esa7, hv, hd, hrxxxxxxxx, hc1xxxxxxxx⟩ := hrxxxxxxx.bool hc1xxxxxxx
    subst hv; clear hd
    obtain ⟨a8p, a8n, a8c, a8z, us, esa8, hv, hd, a8h, hrxxxxxxxxx, hc1xxxxxxxxx⟩ := hrxxxxxxxx.ints hc1xxxxxxxx
    subst hv; clear hd
    obtain ⟨hv, hd⟩ := hrxxxxxxxxx.done hc1xxxxxxxxx
    subst hv; clear hd
    obtain ⟨b0, us, esb0, hv, hd, hr2x, hc2x⟩ := hr2.bool hc2
    subst hv; clear hd
    obtain ⟨b1p, b1n, b1c, b1z, us, esb1, hv, hd, b1h, hr2xx, hc2xx⟩ := hr2x.ints hc2x
    subst hv; clear hd
    obtain ⟨b2, us, esb2, hv, hd, hr2xxx, hc2xxx⟩ := hr2xx.int hc2xx
    subst hv; clear hd
    obtain ⟨b3, us, esb3, hv, hd, hr2xxxx, hc2xxxx⟩ := hr2xxx.str hc2xxx
    subst hv; clear hd
    obtain ⟨b4, us, esb4, hv, hd, hr2xxxxx, hc2xxxxx⟩ := hr2xxxx.bool hc2xxxx
    subst hv; clear hd
    obtain ⟨b5p, b5n, b5c, b5z, us, esb5, hv, hd, b5h, hr2xxxxxx, hc2xxxxxx⟩ := hr2xxxxx.ints hc2xxxxx
    subst hv; clear hd
    obtain ⟨b6, us, esb6, hv, hd, hr2xxxxxxx, hc2xxxxxxx⟩ := hr2xxxxxx.str hc2xxxxxx
    subst hv; clear hd
    obtain ⟨b7, us, esb7, hv, hd, hr2xxxxxxxx, hc2xxxxxxxx⟩ := hr2xxxxxxx.bool hc2xxxxxxx
    subst hv; clear hd
    obtain ⟨b8p, b8n, b8c, b8z, us, esb8, hv, hd, b8h, hr2xxxxxxxxx, hc2xxxxxxxxx⟩ := hr2xxxxxxxx.ints hc2xxxxxxxx
    subst hv; clear hd
    obtain ⟨hv, hd⟩ := hr2xxxxxxxxx.done hc2xxxxxxxxx
    subst hv; clear hd
    have l1 : ∀ w', Ext wr.drew w' → Loads P T_impl_TaxSum ((⟨kb1, ko1, none⟩ : Addr).add ((j : Int).toNat * 9)) (.agg ⟨[.bool a0, .slice a1p a1n a1c, .int .i64 a2, .string a3, .bool a4, .slice a5p a5n a5c, .string a6, .bool a7, .slice a8p a8n a8c]⟩) w' := fun w' hw => by
      rw [addr_add]; exact loadsA (by kernel_rfl) (by simpa using hg1.ext hw)
    have l2 : ∀ w', Ext wr.drew w' → Loads P T_impl_TaxSum ((⟨kb2, ko2, none⟩ : Addr).add ((j : Int).toNat * 9)) (.agg ⟨[.bool b0, .slice b1p b1n b1c, .int .i64 b2, .string b3, .bool b4, .slice b5p b5n b5c, .string b6, .bool b7, .slice b8p b8n b8c]⟩) w' := fun w' hw => by
      rw [addr_add]; exact loadsA (by kernel_rfl) (by simpa using hg2.ext hw)
    refine ⟨⟨by omega, by omega⟩, _, _, _, _, _, _, _, _, _, _, _, _, _, _, _, l1, ⟨by omega, by omega⟩, _, _, _, _, _, _, _, _, _, _, _, _, _, _, _, l2, ?_⟩
    refine Ret.at (laws_eqTaxSum_c hrr hrr2 (hc _ (List.getElem_mem hjl)) (kc _ (List.getElem_mem hjs))) ?_
    rintro v w2 ⟨hv, hy2⟩
    subst hv
    refine ⟨_, rfl, ifN (fun hne => ⟨dec_no (fun e => ?_), hx'.trans hy2⟩) (fun heq2 => ?_)⟩
    · exact of_decide_eq_false hne (by subst e; rfl)
    · have e2 := of_decide_eq_true heq2
      refine exW ⟨by omega, by omega⟩ ⟨⟨j + 1, by omega, by omega, hx'.trans hy2, ?_⟩, by simp; omega⟩
      rw [List.take_add_one, List.take_add_one, he, List.getElem?_eq_getElem hjl, List.getElem?_eq_getElem hjs, e2]
  · have hjn : j = n := by omega
    subst hjn
    rw [List.take_of_length_le (by omega), List.take_of_length_le (by omega)] at he
    exact dec_yes he

theorem open_Row {w : World} {vs : List Value} {ds : List D0} (h : Reps w vs ds) (hc : ds.map D0.code = [.str, .bool, .ints, .str, .bool, .ints, .str, .bool, .ints]) :
    ∃ (a0 : ByteArray) (a1 : Bool) (a2p : Option Addr) (a2n a2c : Nat) (a2z : List Int) (a3 : ByteArray) (a4 : Bool) (a5p : Option Addr) (a5n a5c : Nat) (a5z : List Int) (a6 : ByteArray) (a7 : Bool) (a8p : Option Addr) (a8n a8c : Nat) (a8z : List Int), vs = [.string a0, .bool a1, .slice a2p a2n a2c, .string a3, .bool a4, .slice a5p a5n a5c, .string a6, .bool a7, .slice a8p a8n a8c] ∧ ds = [.str a0, .bool a1, .ints a2z, .str a3, .bool a4, .ints a5z, .str a6, .bool a7, .ints a8z] ∧ IntsR w a2p a2n a2c a2z ∧ IntsR w a5p a5n a5c a5z ∧ IntsR w a8p a8n a8c a8z := by
  obtain ⟨b0, us, es, hv, hd, h2, hc2⟩ := h.str hc
  subst hv; subst hd
  clear h hc
  have h := h2; have hc := hc2; clear h2 hc2
  obtain ⟨b1, us, es, hv, hd, h2, hc2⟩ := h.bool hc
  subst hv; subst hd
  clear h hc
  have h := h2; have hc := hc2; clear h2 hc2
  obtain ⟨b2p, b2n, b2c, b2z, us, es, hv, hd, b2h, h2, hc2⟩ := h.ints hc
  subst hv; subst hd
  clear h hc
  have h := h2; have hc := hc2; clear h2 hc2
  obtain ⟨b3, us, es, hv, hd, h2, hc2⟩ := h.str hc
  subst hv; subst hd
  clear h hc
  have h := h2; have hc := hc2; clear h2 hc2
  obtain ⟨b4, us, es, hv, hd, h2, hc2⟩ := h.bool hc
  subst hv; subst hd
  clear h hc
  have h := h2; have hc := hc2; clear h2 hc2
  obtain ⟨b5p, b5n, b5c, b5z, us, es, hv, hd, b5h, h2, hc2⟩ := h.ints hc
  subst hv; subst hd
  clear h hc
  have h := h2; have hc := hc2; clear h2 hc2
  obtain ⟨b6, us, es, hv, hd, h2, hc2⟩ := h.str hc
  subst hv; subst hd
  clear h hc
  have h := h2; have hc := hc2; clear h2 hc2
  obtain ⟨b7, us, es, hv, hd, h2, hc2⟩ := h.bool hc
  subst hv; subst hd
  clear h hc
  have h := h2; have hc := hc2; clear h2 hc2
  obtain ⟨b8p, b8n, b8c, b8z, us, es, hv, hd, b8h, h2, hc2⟩ := h.ints hc
  subst hv; subst hd
  clear h hc
  have h := h2; have hc := hc2; clear h2 hc2
  obtain ⟨hv, hd⟩ := h.done hc
  subst hv; subst hd; clear h hc
  exact ⟨_, _, _, _, _, _, _, _, _, _, _, _, _, _, _, _, _, _, rfl, rfl, b2h, b5h, b8h⟩

theorem laws_szRow_c {w : World} {vs : List Value} {ds : List D0} (h : Reps w vs ds) (hc : ds.map D0.code = [.str, .bool, .ints, .str, .bool, .ints, .str, .bool, .ints]) (hok : ∀ d ∈ ds, d.ok) {left : Int} (h0 : 0 ≤ left) (h1 : left ≤ 1048576) :
    Ret P n_laws_szRow [.agg ⟨vs⟩, .int .i64 left] w fun v w' => ∃ r : Int, v = .int .i64 r ∧ (0 ≤ r → r + bulks ds ≤ left) ∧ r ≤ 1048576 ∧ Ext w w' := by
  obtain ⟨a0, us, es, hv, hd, h2, hc2⟩ := h.str hc
  subst hv; subst hd
  clear h hc
  have h := h2; have hc := hc2; clear h2 hc2
  obtain ⟨a1, us, es, hv, hd, h2, hc2⟩ := h.bool hc
  subst hv; subst hd
  clear h hc
  have h := h2; have hc := hc2; clear h2 hc2
  obtain ⟨a2p, a2n, a2c, a2z, us, es, hv, hd, a2h, h2, hc2⟩ := h.ints hc
  subst hv; subst hd
  clear h hc
  have h := h2; have hc := hc2; clear h2 hc2
  obtain ⟨a3, us, es, hv, hd, h2, hc2⟩ := h.str hc
  subst hv; subst hd
  clear h hc
  have h := h2; have hc := hc2; clear h2 hc2
  obtain ⟨a4, us, es, hv, hd, h2, hc2⟩ := h.bool hc
  subst hv; subst hd
  clear h hc
  have h := h2; have hc := hc2; clear h2 hc2
  obtain ⟨a5p, a5n, a5c, a5z, us, es, hv, hd, a5h, h2, hc2⟩ := h.ints hc
  subst hv; subst hd
  clear h hc
  have h := h2; have hc := hc2; clear h2 hc2
  obtain ⟨a6, us, es, hv, hd, h2, hc2⟩ := h.str hc
  subst hv; subst hd
  clear h hc
  have h := h2; have hc := hc2; clear h2 hc2
  obtain ⟨a7, us, es, hv, hd, h2, hc2⟩ := h.bool hc
  subst hv; subst hd
  clear h hc
  have h := h2; have hc := hc2; clear h2 hc2
  obtain ⟨a8p, a8n, a8c, a8z, us, es, hv, hd, a8h, h2, hc2⟩ := h.ints hc
  subst hv; subst hd
  clear h hc
  have h := h2; have hc := hc2; clear h2 hc2
  obtain ⟨hv, hd⟩ := h.done hc
  subst hv; subst hd; clear h hc
  simp only [List.mem_cons, List.not_mem_nil, or_false, forall_eq_or_imp, forall_eq, D0.ok] at hok
  have a2l := a2h.1; have a2k := a2h.2.1; have a2m := a2h.2.2.1
  have a5l := a5h.1; have a5k := a5h.2.1; have a5m := a5h.2.2.1
  have a8l := a8h.1; have a8k := a8h.2.1; have a8m := a8h.2.2.1
  simp only [bulks, D0.bulk, List.map_cons, List.map_nil, List.sum_cons, List.sum_nil]
  refine laws_szRow_ret ?_
  unfold laws_szRow
  intro r w1 hn1
  have x := hn1.ext; have b0 := hn1.blk
  have hr : Reps w [.string a0, .bool a1, .slice a2p a2n a2c] [.str a0, .bool a1, .ints a2z] := ⟨rfl, ⟨rfl, ⟨⟨_, _, _, rfl, a2h⟩, trivial⟩⟩⟩
  refine ⟨_, _, _, _, _, b0.loadA (xs := [.string a0, .bool a1, .slice a2p a2n a2c]) (by kernel_rfl) rfl, ?_⟩
  refine Ret.at (laws_szMoney_c (hr.ext x) rfl (by simp only [List.mem_cons, List.not_mem_nil, or_false, forall_eq_or_imp, forall_eq, D0.ok]; simp only [hok, and_self]) (by omega) (by omega)) ?_
  rintro v w2 ⟨k0, hv, hk0, hm0, y⟩
  simp only [bulks, D0.bulk, List.map_cons, List.map_nil, List.sum_cons, List.sum_nil] at hk0
  subst hv
  have x := x.trans y; have b0 := b0.ext y
  refine ⟨_, rfl, ifD (fun hl => ⟨_, rfl, by omega, by omega, x⟩) (fun hl => ?_)⟩
  have hr : Reps w [.string a3, .bool a4, .slice a5p a5n a5c] [.str a3, .bool a4, .ints a5z] := ⟨rfl, ⟨rfl, ⟨⟨_, _, _, rfl, a5h⟩, trivial⟩⟩⟩
  refine ⟨_, _, _, _, _, b0.loadA (xs := [.string a3, .bool a4, .slice a5p a5n a5c]) (by kernel_rfl) rfl, ?_⟩
  refine Ret.at (laws_szMoney_c (hr.ext x) rfl (by simp only [List.mem_cons, List.not_mem_nil, or_false, forall_eq_or_imp, forall_eq, D0.ok]; simp only [hok, and_self]) (by omega) (by omega)) ?_
  rintro v w3 ⟨k1, hv, hk1, hm1, y⟩
  simp only [bulks, D0.bulk, List.map_cons, List.map_nil, List.sum_cons, List.sum_nil] at hk1
  subst hv
  have x := x.trans y; have b0 := b0.ext y
  refine ⟨_, rfl, ifD (fun hl => ⟨_, rfl, by omega, by omega, x⟩) (fun hl => ?_)⟩
  have hr : Reps w [.string a6, .bool a7, .slice a8p a8n a8c] [.str a6, .bool a7, .ints a8z] := ⟨rfl, ⟨rfl, ⟨⟨_, _, _, rfl, a8h⟩, trivial⟩⟩⟩
  refine ⟨_, _, _, _, _, b0.loadA (xs := [.string a6, .bool a7, .slice a8p a8n a8c]) (by kernel_rfl) rfl, ?_⟩
  refine Ret.at (laws_szMoney_c (hr.ext x) rfl (by simp only [List.mem_cons, List.not_mem_nil, or_false, forall_eq_or_imp, forall_eq, D0.ok]; simp only [hok, and_self]) (by omega) (by omega)) ?_
  rintro v w4 ⟨k2, hv, hk2, hm2, y⟩
  simp only [bulks, D0.bulk, List.map_cons, List.map_nil, List.sum_cons, List.sum_nil] at hk2
  subst hv
  have x := x.trans y; have b0 := b0.ext y
  refine ⟨_, rfl, ifD (fun hl => ⟨_, rfl, by omega, by omega, x⟩) (fun hl => ?_)⟩
  exact ⟨_, rfl, by omega, by omega, x⟩

theorem laws_toRow_c {w : World} {vs : List Value} {ds : List D0} (h : Reps w vs ds) (hc : ds.map D0.code = [.str, .bool, .ints, .str, .bool, .ints, .str, .bool, .ints]) (hb : bulks ds ≤ 1048576) :
    Ret P n_laws_toRow [.agg ⟨vs⟩] w fun v w' => ∃ vs' f, v = .agg ⟨vs'⟩ ∧ Owns w' w.heap.size vs' ds f ∧ f.Nodup ∧ Ext w w' := by
  obtain ⟨a0, us, es, hv, hd, h2, hc2⟩ := h.str hc
  subst hv; subst hd
  clear h hc
  have h := h2; have hc := hc2; clear h2 hc2
  obtain ⟨a1, us, es, hv, hd, h2, hc2⟩ := h.bool hc
  subst hv; subst hd
  clear h hc
  have h := h2; have hc := hc2; clear h2 hc2
  obtain ⟨a2p, a2n, a2c, a2z, us, es, hv, hd, a2h, h2, hc2⟩ := h.ints hc
  subst hv; subst hd
  clear h hc
  have h := h2; have hc := hc2; clear h2 hc2
  obtain ⟨a3, us, es, hv, hd, h2, hc2⟩ := h.str hc
  subst hv; subst hd
  clear h hc
  have h := h2; have hc := hc2; clear h2 hc2
  obtain ⟨a4, us, es, hv, hd, h2, hc2⟩ := h.bool hc
  subst hv; subst hd
  clear h hc
  have h := h2; have hc := hc2; clear h2 hc2
  obtain ⟨a5p, a5n, a5c, a5z, us, es, hv, hd, a5h, h2, hc2⟩ := h.ints hc
  subst hv; subst hd
  clear h hc
  have h := h2; have hc := hc2; clear h2 hc2
  obtain ⟨a6, us, es, hv, hd, h2, hc2⟩ := h.str hc
  subst hv; subst hd
  clear h hc
  have h := h2; have hc := hc2; clear h2 hc2
  obtain ⟨a7, us, es, hv, hd, h2, hc2⟩ := h.bool hc
  subst hv; subst hd
  clear h hc
  have h := h2; have hc := hc2; clear h2 hc2
  obtain ⟨a8p, a8n, a8c, a8z, us, es, hv, hd, a8h, h2, hc2⟩ := h.ints hc
  subst hv; subst hd
  clear h hc
  have h := h2; have hc := hc2; clear h2 hc2
  obtain ⟨hv, hd⟩ := h.done hc
  subst hv; subst hd; clear h hc
  simp only [bulks, D0.bulk, List.map_cons, List.map_nil, List.sum_cons, List.sum_nil] at hb
  have a2l := a2h.1
  have a5l := a5h.1
  have a8l := a8h.1
  refine laws_toRow_ret ?_
  unfold laws_toRow
  intro r w1 hn1 r1 w2 hn2 r2 w3 hn3
  have x := (hn1.ext.trans hn2.ext).trans hn3.ext
  have b0 := (hn1.blk.ext hn2.ext).ext hn3.ext
  have b1 := hn2.blk.ext hn3.ext
  have b2 := hn3.blk
  have e1 := hn1.r_eq; have e2 := hn2.r_eq; have e3 := hn3.r_eq; have s1 := hn1.size; have s2 := hn2.size; have s3 := hn3.size
  have hr : Reps w [.string a0, .bool a1, .slice a2p a2n a2c] [.str a0, .bool a1, .ints a2z] := ⟨rfl, ⟨rfl, ⟨⟨_, _, _, rfl, a2h⟩, trivial⟩⟩⟩
  refine ⟨_, _, _, _, _, b0.loadA (xs := [.string a0, .bool a1, .slice a2p a2n a2c]) (by kernel_rfl) rfl, ?_⟩
  refine Ret.at (laws_toMoney_c (hr.ext x) rfl (by simp only [bulks, D0.bulk, List.map_cons, List.map_nil, List.sum_cons, List.sum_nil]; omega)) ?_
  rintro v w4 ⟨us0, f0, hv, o0, nd0, y⟩
  subst hv
  have hq := o0.reps; have hqc : ([.str a0, .bool a1, .ints a2z] : List D0).map D0.code = [.str, .bool, .ints] := rfl
  obtain ⟨q00, us, es, hv, hd, hq2, hqc2⟩ := hq.str hqc
  subst hv; cases hd; clear hq hqc; have hq := hq2; have hqc := hqc2; clear hq2 hqc2
  obtain ⟨q01, us, es, hv, hd, hq2, hqc2⟩ := hq.bool hqc
  subst hv; cases hd; clear hq hqc; have hq := hq2; have hqc := hqc2; clear hq2 hqc2
  obtain ⟨q02p, q02n, q02c, q02z, us, es, hv, hd, q02h, hq2, hqc2⟩ := hq.ints hqc
  subst hv; cases hd; clear hq hqc; have hq := hq2; have hqc := hqc2; clear hq2 hqc2
  obtain ⟨hv, _⟩ := hq.done hqc; subst hv; clear hq hqc
  refine ⟨_, _, _, _, _, rfl, ?_⟩
  have l0 : ∀ k ∈ _, k < w4.heap.size := fun k hk => (o0.lt k hk).2
  have y0 := y.le; have b0 := b0.ext y; have b1 := b1.ext y; have b2 := b2.ext y; have x := x.trans y
  obtain ⟨w5, st, b2', ch, sz⟩ := b2.storeA (P := P) (t := T_impl_Money) (k := 0) (xs := [.string a0, .bool a1, .slice q02p q02n q02c]) (by kernel_rfl) (by simp) o0.reps.cells1
  refine ⟨_, st, ?_⟩
  have x := x.chg ch (by simp; omega); have b0 := b0.chg ch (by simp; omega); have b1 := b1.chg ch (by simp; omega)
  have b2 : Blk w5 r2 _ [.string a0, .bool a1, .slice q02p q02n q02c, .string ByteArray.empty, .bool false, .slice none 0 0, .string ByteArray.empty, .bool false, .slice none 0 0] := b2'
  clear b2'
  have o0 := o0.chg1 ch (by omega)
  have hr : Reps w [.string a3, .bool a4, .slice a5p a5n a5c] [.str a3, .bool a4, .ints a5z] := ⟨rfl, ⟨rfl, ⟨⟨_, _, _, rfl, a5h⟩, trivial⟩⟩⟩
  refine ⟨_, _, _, _, _, b0.loadA (xs := [.string a3, .bool a4, .slice a5p a5n a5c]) (by kernel_rfl) rfl, ?_⟩
  refine Ret.at (laws_toMoney_c (hr.ext x) rfl (by simp only [bulks, D0.bulk, List.map_cons, List.map_nil, List.sum_cons, List.sum_nil]; omega)) ?_
  rintro v w6 ⟨us1, f1, hv, o1, nd1, y⟩
  subst hv
  have hq := o1.reps; have hqc : ([.str a3, .bool a4, .ints a5z] : List D0).map D0.code = [.str, .bool, .ints] := rfl
  obtain ⟨q10, us, es, hv, hd, hq2, hqc2⟩ := hq.str hqc
  subst hv; cases hd; clear hq hqc; have hq := hq2; have hqc := hqc2; clear hq2 hqc2
  obtain ⟨q11, us, es, hv, hd, hq2, hqc2⟩ := hq.bool hqc
  subst hv; cases hd; clear hq hqc; have hq := hq2; have hqc := hqc2; clear hq2 hqc2
  obtain ⟨q12p, q12n, q12c, q12z, us, es, hv, hd, q12h, hq2, hqc2⟩ := hq.ints hqc
  subst hv; cases hd; clear hq hqc; have hq := hq2; have hqc := hqc2; clear hq2 hqc2
  obtain ⟨hv, _⟩ := hq.done hqc; subst hv; clear hq hqc
  refine ⟨_, _, _, _, _, rfl, ?_⟩
  have l1 : ∀ k ∈ _, k < w6.heap.size := fun k hk => (o1.lt k hk).2
  have y1 := y.le; have b0 := b0.ext y; have b1 := b1.ext y; have b2 := b2.ext y; have x := x.trans y
  have o0 := o0.ext y
  obtain ⟨w7, st, b2', ch, sz⟩ := b2.storeA (P := P) (t := T_impl_Money) (k := 3) (xs := [.string a3, .bool a4, .slice q12p q12n q12c]) (by kernel_rfl) (by simp) o1.reps.cells1
  refine ⟨_, st, ?_⟩
  have x := x.chg ch (by simp; omega); have b0 := b0.chg ch (by simp; omega); have b1 := b1.chg ch (by simp; omega)
  have b2 : Blk w7 r2 _ [.string a0, .bool a1, .slice q02p q02n q02c, .string a3, .bool a4, .slice q12p q12n q12c, .string ByteArray.empty, .bool false, .slice none 0 0] := b2'
  clear b2'
  have o0 := o0.chg1 ch (by omega)
  have o1 := o1.chg1 ch (by omega)
  have hr : Reps w [.string a6, .bool a7, .slice a8p a8n a8c] [.str a6, .bool a7, .ints a8z] := ⟨rfl, ⟨rfl, ⟨⟨_, _, _, rfl, a8h⟩, trivial⟩⟩⟩
  refine ⟨_, _, _, _, _, b0.loadA (xs := [.string a6, .bool a7, .slice a8p a8n a8c]) (by kernel_rfl) rfl, ?_⟩
  refine Ret.at (laws_toMoney_c (hr.ext x) rfl (by simp only [bulks, D0.bulk, List.map_cons, List.map_nil, List.sum_cons, List.sum_nil]; omega)) ?_
  rintro v w8 ⟨us2, f2, hv, o2, nd2, y⟩
  subst hv
  have hq := o2.reps; have hqc : ([.str a6, .bool a7, .ints a8z] : List D0).map D0.code = [.str, .bool, .ints] := rfl
  obtain ⟨q20, us, es, hv, hd, hq2, hqc2⟩ := hq.str hqc
  subst hv; cases hd; clear hq hqc; have hq := hq2; have hqc := hqc2; clear hq2 hqc2
  obtain ⟨q21, us, es, hv, hd, hq2, hqc2⟩ := hq.bool hqc
  subst hv; cases hd; clear hq hqc; have hq := hq2; have hqc := hqc2; clear hq2 hqc2
  obtain ⟨q22p, q22n, q22c, q22z, us, es, hv, hd, q22h, hq2, hqc2⟩ := hq.ints hqc
  subst hv; cases hd; clear hq hqc; have hq := hq2; have hqc := hqc2; clear hq2 hqc2
  obtain ⟨hv, _⟩ := hq.done hqc; subst hv; clear hq hqc
  refine ⟨_, _, _, _, _, rfl, ?_⟩
  have l2 : ∀ k ∈ _, k < w8.heap.size := fun k hk => (o2.lt k hk).2
  have y2 := y.le; have b0 := b0.ext y; have b1 := b1.ext y; have b2 := b2.ext y; have x := x.trans y
  have o0 := o0.ext y
  have o1 := o1.ext y
  obtain ⟨w9, st, b2', ch, sz⟩ := b2.storeA (P := P) (t := T_impl_Money) (k := 6) (xs := [.string a6, .bool a7, .slice q22p q22n q22c]) (by kernel_rfl) (by simp) o2.reps.cells1
  refine ⟨_, st, ?_⟩
  have x := x.chg ch (by simp; omega); have b0 := b0.chg ch (by simp; omega); have b1 := b1.chg ch (by simp; omega)
  have b2 : Blk w9 r2 _ [.string a0, .bool a1, .slice q02p q02n q02c, .string a3, .bool a4, .slice q12p q12n q12c, .string a6, .bool a7, .slice q22p q22n q22c] := b2'
  clear b2'
  have o0 := o0.chg1 ch (by omega)
  have o1 := o1.chg1 ch (by omega)
  have o2 := o2.chg1 ch (by omega)
  refine ⟨_, _, _, _, _, _, _, _, _, _, _, _, _, _, _, b2.loadA0 (by kernel_rfl), ?_⟩
  have ow : Owns w9 w.heap.size [.string a0, .bool a1, .slice q02p q02n q02c, .string a3, .bool a4, .slice q12p q12n q12c, .string a6, .bool a7, .slice q22p q22n q22c] [.str a0, .bool a1, .ints a2z, .str a3, .bool a4, .ints a5z, .str a6, .bool a7, .ints a8z] (f0 ++ (f1 ++ f2)) := Owns.append (o0.mono (by omega)) (Owns.append (o1.mono (by omega)) (o2.mono (by omega)))
  obtain ⟨w10, st, b1', ch, sz⟩ := b1.storeA0 (P := P) (t := T_impl_Row) (xs := [.string a0, .bool a1, .slice q02p q02n q02c, .string a3, .bool a4, .slice q12p q12n q12c, .string a6, .bool a7, .slice q22p q22n q22c]) (by kernel_rfl) rfl ow.reps.cells1
  refine ⟨_, st, _, _, _, _, _, _, _, _, _, _, _, _, _, _, _, b1'.loadA0 (by kernel_rfl), [.string a0, .bool a1, .slice q02p q02n q02c, .string a3, .bool a4, .slice q12p q12n q12c, .string a6, .bool a7, .slice q22p q22n q22c], (f0 ++ (f1 ++ f2)), rfl, Owns.append ((o0.chg1 ch (by omega)).mono (by omega)) (Owns.append ((o1.chg1 ch (by omega)).mono (by omega)) ((o2.chg1 ch (by omega)).mono (by omega))), ?_, x.chg ch (by simp; omega)⟩
  try simp only [List.nil_append, List.append_nil]
  have p2 := nd2
  have m2 : ∀ k ∈ f2, w7.heap.size ≤ k := fun k hk => (o2.lt k hk).1
  have p1 := nodup_append nd1 p2 (m := w7.heap.size) (fun k hk => Nat.lt_of_lt_of_le (l1 k hk) (by omega)) m2
  have m1 : ∀ k ∈ (f1 ++ f2), w5.heap.size ≤ k := fun k hk => by
    rcases List.mem_append.1 hk with hk | hk
    · exact (o1.lt k hk).1
    · have := m2 k hk; omega
  have p0 := nodup_append nd0 p1 (m := w5.heap.size) (fun k hk => Nat.lt_of_lt_of_le (l0 k hk) (by omega)) m1
  exact p0

theorem laws_eqRow_c {w : World} {xs ys : List Value} {dx dy : List D0} (h : Reps w xs dx) (k : Reps w ys dy) (hc : dx.map D0.code = [.str, .bool, .ints, .str, .bool, .ints, .str, .bool, .ints]) (kc : dy.map D0.code = [.str, .bool, .ints, .str, .bool, .ints, .str, .bool, .ints]) :
    Ret P n_laws_eqRow [.agg ⟨xs⟩, .agg ⟨ys⟩] w fun v w' => v = .bool (decide (dx = dy)) ∧ Ext w w' := by
  obtain ⟨a0, us, es, hv, hd, h2, hc2⟩ := h.str hc
  subst hv; subst hd
  clear h hc
  have h := h2; have hc := hc2; clear h2 hc2
  obtain ⟨a1, us, es, hv, hd, h2, hc2⟩ := h.bool hc
  subst hv; subst hd
  clear h hc
  have h := h2; have hc := hc2; clear h2 hc2
  obtain ⟨a2p, a2n, a2c, a2z, us, es, hv, hd, a2h, h2, hc2⟩ := h.ints hc
  subst hv; subst hd
  clear h hc
  have h := h2; have hc := hc2; clear h2 hc2
  obtain ⟨a3, us, es, hv, hd, h2, hc2⟩ := h.str hc
  subst hv; subst hd
  clear h hc
  have h := h2; have hc := hc2; clear h2 hc2
  obtain ⟨a4, us, es, hv, hd, h2, hc2⟩ := h.bool hc
  subst hv; subst hd
  clear h hc
  have h := h2; have hc := hc2; clear h2 hc2
  obtain ⟨a5p, a5n, a5c, a5z, us, es, hv, hd, a5h, h2, hc2⟩ := h.ints hc
  subst hv; subst hd
  clear h hc
  have h := h2; have hc := hc2; clear h2 hc2
  obtain ⟨a6, us, es, hv, hd, h2, hc2⟩ := h.str hc
  subst hv; subst hd
  clear h hc
  have h := h2; have hc := hc2; clear h2 hc2
  obtain ⟨a7, us, es, hv, hd, h2, hc2⟩ := h.bool hc
  subst hv; subst hd
  clear h hc
  have h := h2; have hc := hc2; clear h2 hc2
  obtain ⟨a8p, a8n, a8c, a8z, us, es, hv, hd, a8h, h2, hc2⟩ := h.ints hc
  subst hv; subst hd
  clear h hc
  have h := h2; have hc := hc2; clear h2 hc2
  obtain ⟨hv, hd⟩ := h.done hc
  subst hv; subst hd; clear h hc
  obtain ⟨bb0, us, es, hv, hd, k2, kc2⟩ := k.str kc
  subst hv; subst hd
  clear k kc
  have k := k2; have kc := kc2; clear k2 kc2
  obtain ⟨bb1, us, es, hv, hd, k2, kc2⟩ := k.bool kc
  subst hv; subst hd
  clear k kc
  have k := k2; have kc := kc2; clear k2 kc2
  obtain ⟨bb2p, bb2n, bb2c, bb2z, us, es, hv, hd, bb2h, k2, kc2⟩ := k.ints kc
  subst hv; subst hd
  clear k kc
  have k := k2; have kc := kc2; clear k2 kc2
  obtain ⟨bb3, us, es, hv, hd, k2, kc2⟩ := k.str kc
  subst hv; subst hd
  clear k kc
  have k := k2; have kc := kc2; clear k2 kc2
  obtain ⟨bb4, us, es, hv, hd, k2, kc2⟩ := k.bool kc
  subst hv; subst hd
  clear k kc
  have k := k2; have kc := kc2; clear k2 kc2
  obtain ⟨bb5p, bb5n, bb5c, bb5z, us, es, hv, hd, bb5h, k2, kc2⟩ := k.ints kc
  subst hv; subst hd
  clear k kc
  have k := k2; have kc := kc2; clear k2 kc2
  obtain ⟨bb6, us, es, hv, hd, k2, kc2⟩ := k.str kc
  subst hv; subst hd
  clear k kc
  have k := k2; have kc := kc2; clear k2 kc2
  obtain ⟨bb7, us, es, hv, hd, k2, kc2⟩ := k.bool kc
  subst hv; subst hd
  clear k kc
  have k := k2; have kc := kc2; clear k2 kc2
  obtain ⟨bb8p, bb8n, bb8c, bb8z, us, es, hv, hd, bb8h, k2, kc2⟩ := k.ints kc
  subst hv; subst hd
  clear k kc
  have k := k2; have kc := kc2; clear k2 kc2
  obtain ⟨hv, hd⟩ := k.done kc
  subst hv; subst hd; clear k kc
  refine laws_eqRow_ret ?_
  unfold laws_eqRow
  intro r w1 hn1 r1 w2 hn2
  have x := hn1.ext.trans hn2.ext
  have b0 := hn1.blk.ext hn2.ext
  have b1 := hn2.blk
  have ha : Reps w [.string a0, .bool a1, .slice a2p a2n a2c] [.str a0, .bool a1, .ints a2z] := ⟨rfl, ⟨rfl, ⟨⟨_, _, _, rfl, a2h⟩, trivial⟩⟩⟩
  have hb : Reps w [.string bb0, .bool bb1, .slice bb2p bb2n bb2c] [.str bb0, .bool bb1, .ints bb2z] := ⟨rfl, ⟨rfl, ⟨⟨_, _, _, rfl, bb2h⟩, trivial⟩⟩⟩
  refine ⟨_, _, _, _, _, b0.loadA (xs := [.string a0, .bool a1, .slice a2p a2n a2c]) (by kernel_rfl) rfl, _, _, _, _, _, b1.loadA (xs := [.string bb0, .bool bb1, .slice bb2p bb2n bb2c]) (by kernel_rfl) rfl, ?_⟩
  refine Ret.at (laws_eqMoney_c (ha.ext x) (hb.ext x) rfl rfl) ?_
  rintro v w3 ⟨hv, y⟩
  subst hv
  have x := x.trans y; have b0 := b0.ext y; have b1 := b1.ext y
  refine ⟨_, rfl, ifN (fun hne => ⟨dec_no (fun e => ?_), x⟩) (fun heq => ?_)⟩
  · have e2 := congrArg (fun l : List D0 => (l.drop 0).take 3) e
    exact of_decide_eq_false hne e2
  have heq := of_decide_eq_true heq
  cases heq
  have ha : Reps w [.string a3, .bool a4, .slice a5p a5n a5c] [.str a3, .bool a4, .ints a5z] := ⟨rfl, ⟨rfl, ⟨⟨_, _, _, rfl, a5h⟩, trivial⟩⟩⟩
  have hb : Reps w [.string bb3, .bool bb4, .slice bb5p bb5n bb5c] [.str bb3, .bool bb4, .ints bb5z] := ⟨rfl, ⟨rfl, ⟨⟨_, _, _, rfl, bb5h⟩, trivial⟩⟩⟩
  refine ⟨_, _, _, _, _, b0.loadA (xs := [.string a3, .bool a4, .slice a5p a5n a5c]) (by kernel_rfl) rfl, _, _, _, _, _, b1.loadA (xs := [.string bb3, .bool bb4, .slice bb5p bb5n bb5c]) (by kernel_rfl) rfl, ?_⟩
  refine Ret.at (laws_eqMoney_c (ha.ext x) (hb.ext x) rfl rfl) ?_
  rintro v w4 ⟨hv, y⟩
  subst hv
  have x := x.trans y; have b0 := b0.ext y; have b1 := b1.ext y
  refine ⟨_, rfl, ifN (fun hne => ⟨dec_no (fun e => ?_), x⟩) (fun heq => ?_)⟩
  · have e2 := congrArg (fun l : List D0 => (l.drop 3).take 3) e
    exact of_decide_eq_false hne e2
  have heq := of_decide_eq_true heq
  cases heq
  have ha : Reps w [.string a6, .bool a7, .slice a8p a8n a8c] [.str a6, .bool a7, .ints a8z] := ⟨rfl, ⟨rfl, ⟨⟨_, _, _, rfl, a8h⟩, trivial⟩⟩⟩
  have hb : Reps w [.string bb6, .bool bb7, .slice bb8p bb8n bb8c] [.str bb6, .bool bb7, .ints bb8z] := ⟨rfl, ⟨rfl, ⟨⟨_, _, _, rfl, bb8h⟩, trivial⟩⟩⟩
  refine ⟨_, _, _, _, _, b0.loadA (xs := [.string a6, .bool a7, .slice a8p a8n a8c]) (by kernel_rfl) rfl, _, _, _, _, _, b1.loadA (xs := [.string bb6, .bool bb7, .slice bb8p bb8n bb8c]) (by kernel_rfl) rfl, ?_⟩
  refine Ret.at (laws_eqMoney_c (ha.ext x) (hb.ext x) rfl rfl) ?_
  rintro v w5 ⟨hv, y⟩
  subst hv
  have x := x.trans y; have b0 := b0.ext y; have b1 := b1.ext y
  refine ⟨_, rfl, ifN (fun hne => ⟨dec_no (fun e => ?_), x⟩) (fun heq => ?_)⟩
  · have e2 := congrArg (fun l : List D0 => (l.drop 6).take 3) e
    exact of_decide_eq_false hne e2
  have heq := of_decide_eq_true heq
  cases heq
  exact ⟨dec_yes rfl, x⟩

theorem laws_szRowS_c {w : World} {p : Option Addr} {n c : Nat} {l : List (List D0)} (h : RowsR w 9 p n c l) (hc : ∀ x ∈ l, x.map D0.code = [.str, .bool, .ints, .str, .bool, .ints, .str, .bool, .ints]) (hok : ∀ x ∈ l, ∀ d ∈ x, d.ok) {left : Int} (h0 : 0 ≤ left) (h1 : left ≤ 1048576) :
    Ret P n_laws_szRowS [.slice p n c, .int .i64 left] w fun v w' => ∃ r : Int, v = .int .i64 r ∧ (0 ≤ r → r + n + ((l.map bulks).sum : Nat) ≤ left) ∧ r ≤ 1048576 ∧ Ext w w' := by
  refine laws_szRowS_ret ?_
  unfold laws_szRowS
  have hlen := h.1; have hcap := h.2.1; have hcm := h.2.2.1
  refine exW ⟨by omega, by omega⟩ (ifD (fun hl => ⟨_, rfl, by omega, by omega, Ext.refl _⟩) (fun hl => ?_))
  refine ⟨fun lf i wr => ∃ j : Nat, i = j ∧ j ≤ n ∧ Ext w wr ∧ 0 ≤ lf ∧ lf ≤ 1048576 ∧ lf + n + (((l.take j).map bulks).sum : Nat) ≤ left, fun _ i _ => n - i.toNat, ⟨0, rfl, by omega, Ext.refl _, by omega, by omega, by simp <;> omega⟩, ?_⟩
  intro junk wr lf i ⟨j, hij, hj, hx, hl0, hl1, hle⟩
  subst hij
  refine ifD (fun hlt => ?_) (fun hge => ?_)
  · have hjn : j < n := by omega
    obtain ⟨a, cs, hp, hk, hr, hld⟩ := (h.ext hx).at (P := P) (t := T_laws_Row) (by kernel_rfl) hjn
    subst hp
    have hjl : j < l.length := by omega
    have hm : l[j] ∈ l := List.getElem_mem hjl
    have hcode := hc _ hm
    have hrr := hr
    obtain ⟨a0, us, esa0, hv, hd, hrx, hcodex⟩ := hr.str hcode
    subst hv; clear hd
    obtain ⟨a1, us, esa1, hv, hd, hrxx, hcodexx⟩ := hrx.bool hcodex
    subst hv; clear hd
    obtain ⟨a2p, a2n, a2c, a2z, us, esa2, hv, hd, a2h, hrxxx, hcodexxx⟩ := hrxx.ints hcodexx
    subst hv; clear hd
    obtain ⟨a3, us, esa3, hv, hd, hrxxxx, hcodexxxx⟩ := hrxxx.str hcodexxx
    subst hv; clear hd
    obtain ⟨a4, us, esa4, hv, hd, hrxxxxx, hcodexxxxx⟩ := hrxxxx.bool hcodexxxx
    subst hv; clear hd
    obtain ⟨a5p, a5n, a5c, a5z, us, esa5, hv, hd, a5h, hrxxxxxx, hcodexxxxxx⟩ := hrxxxxx.ints hcodexxxxx
    subst hv; clear hd
    obtain ⟨a6, us, esa6, hv, hd, hrxxxxxxx, hcodexxxxxxx⟩ := hrxxxxxx.str hcodexxxxxx
    subst hv; clear hd
    obtain ⟨a7, us, esa7, hv, hd, hrxxxxxxxx, hcodexxxxxxxx⟩ := hrxxxxxxx.bool hcodexxxxxxx
    subst hv; clear hd
    obtain ⟨a8p, a8n, a8c, a8z, us, esa8, hv, hd, a8h, hrxxxxxxxxx, hcodexxxxxxxxx⟩ := hrxxxxxxxx.ints hcodexxxxxxxx
    subst hv; clear hd
    obtain ⟨hv, hd⟩ := hrxxxxxxxxx.done hcodexxxxxxxxx
    subst hv; clear hd
    refine ⟨⟨by omega, by omega⟩, _, _, _, _, _, _, _, _, _, _, _, _, _, _, _, by simpa using hld, ?_⟩
    refine Ret.at (laws_szRow_c hrr (hc _ hm) (hok _ hm) hl0 hl1) ?_
    rintro v w2 ⟨t, hv, ht, htm, hy⟩
    subst hv
    refine ⟨_, rfl, ifD (fun hl => ⟨_, rfl, by omega, by omega, hx.trans hy⟩) (fun hl => ?_)⟩
    refine exW ⟨by omega, by omega⟩ ⟨⟨j + 1, by omega, by omega, hx.trans hy, by omega, by omega, ?_⟩, by simp; omega⟩
    rw [List.take_add_one, List.getElem?_eq_getElem hjl]
    have := ht (by omega)
    simp only [Option.toList_some, List.map_append, List.map_cons, List.map_nil, List.sum_append, List.sum_cons, List.sum_nil]
    omega
  · have hjn : j = n := by omega
    subst hjn
    rw [List.take_of_length_le (by omega)] at hle
    exact ⟨_, rfl, by omega, by omega, hx⟩

theorem laws_toRowS_c {w : World} {p : Option Addr} {n c : Nat} {l : List (List D0)} (h : RowsR w 9 p n c l) (hc : ∀ x ∈ l, x.map D0.code = [.str, .bool, .ints, .str, .bool, .ints, .str, .bool, .ints]) (hn : n ≤ 1048576) (hb : ∀ x ∈ l, bulks x ≤ 1048576) :
    Ret P n_laws_toRowS [.slice p n c] w fun v w' => ∃ p' c' f, v = .slice p' n c' ∧ OwnRows w' w.heap.size T_impl_Row 9 p' n c' l f ∧ Ext w w' := by
  refine laws_toRowS_ret ?_
  unfold laws_toRowS
  refine ⟨⟨by omega, by omega, by omega⟩, fun r w1 hnew => ?_⟩
  have hlen := h.1; have er := hnew.r_eq; have es := hnew.size
  refine ⟨fun i wr => ∃ (j : Nat) (css : List (List Value)) (fs : List (List Nat)) (xs : List Value), i = j ∧ j ≤ n ∧ Ext w wr ∧ w1.heap.size ≤ wr.heap.size ∧ AllO wr w1.heap.size 9 css (l.take j) fs ∧ fs.flatten.Nodup ∧ Blk wr r T_impl_Row xs ∧ xs.length = n * 9 ∧ xs.take (j * 9) = css.flatten, fun i _ => n - i.toNat, ⟨0, [], [], _, rfl, by omega, hnew.ext, Nat.le_refl _, trivial, List.nodup_nil, hnew.blk, by simp [zeroRow], by simp⟩, ?_⟩
  intro junk wr i ⟨j, css, fs, xs, hij, hj, hx, hsz, ha, hnd, hbk, hxl, hxt⟩
  subst hij
  refine ifD (fun hlt => ?_) (fun hge => ?_)
  · have hjn : j < n := by omega
    obtain ⟨a, cs, hp, hk, hr, hl⟩ := (h.ext hx).at (P := P) (t := T_laws_Row) (by kernel_rfl) hjn
    subst hp
    have hjl : j < l.length := by omega
    have hm : l[j] ∈ l := List.getElem_mem hjl
    have hcode := hc _ hm; have hbl := hb _ hm
    have hrr := hr
    obtain ⟨a0, us, esa0, hv, hd, hrx, hcodex⟩ := hr.str hcode
    subst hv; clear hd
    obtain ⟨a1, us, esa1, hv, hd, hrxx, hcodexx⟩ := hrx.bool hcodex
    subst hv; clear hd
    obtain ⟨a2p, a2n, a2c, a2z, us, esa2, hv, hd, a2h, hrxxx, hcodexxx⟩ := hrxx.ints hcodexx
    subst hv; clear hd
    obtain ⟨a3, us, esa3, hv, hd, hrxxxx, hcodexxxx⟩ := hrxxx.str hcodexxx
    subst hv; clear hd
    obtain ⟨a4, us, esa4, hv, hd, hrxxxxx, hcodexxxxx⟩ := hrxxxx.bool hcodexxxx
    subst hv; clear hd
    obtain ⟨a5p, a5n, a5c, a5z, us, esa5, hv, hd, a5h, hrxxxxxx, hcodexxxxxx⟩ := hrxxxxx.ints hcodexxxxx
    subst hv; clear hd
    obtain ⟨a6, us, esa6, hv, hd, hrxxxxxxx, hcodexxxxxxx⟩ := hrxxxxxx.str hcodexxxxxx
    subst hv; clear hd
    obtain ⟨a7, us, esa7, hv, hd, hrxxxxxxxx, hcodexxxxxxxx⟩ := hrxxxxxxx.bool hcodexxxxxxx
    subst hv; clear hd
    obtain ⟨a8p, a8n, a8c, a8z, us, esa8, hv, hd, a8h, hrxxxxxxxxx, hcodexxxxxxxxx⟩ := hrxxxxxxxx.ints hcodexxxxxxxx
    subst hv; clear hd
    obtain ⟨hv, hd⟩ := hrxxxxxxxxx.done hcodexxxxxxxxx
    subst hv; clear hd
    refine ⟨⟨by omega, by omega⟩, _, _, _, _, _, _, _, _, _, _, _, _, _, _, _, by simpa using hl, ?_⟩
    refine Ret.at (laws_toRow_c hrr (hc _ hm) hbl) ?_
    rintro v w2 ⟨vs, f, hv, ho, hnf, hy⟩
    subst hv
    have ho2 := ho.reps; have hoc := hc _ hm
    obtain ⟨b0, us, esb0, hv, hd, ho2x, hocx⟩ := ho2.str hoc
    subst hv; clear hd
    obtain ⟨b1, us, esb1, hv, hd, ho2xx, hocxx⟩ := ho2x.bool hocx
    subst hv; clear hd
    obtain ⟨b2p, b2n, b2c, b2z, us, esb2, hv, hd, b2h, ho2xxx, hocxxx⟩ := ho2xx.ints hocxx
    subst hv; clear hd
    obtain ⟨b3, us, esb3, hv, hd, ho2xxxx, hocxxxx⟩ := ho2xxx.str hocxxx
    subst hv; clear hd
    obtain ⟨b4, us, esb4, hv, hd, ho2xxxxx, hocxxxxx⟩ := ho2xxxx.bool hocxxxx
    subst hv; clear hd
    obtain ⟨b5p, b5n, b5c, b5z, us, esb5, hv, hd, b5h, ho2xxxxxx, hocxxxxxx⟩ := ho2xxxxx.ints hocxxxxx
    subst hv; clear hd
    obtain ⟨b6, us, esb6, hv, hd, ho2xxxxxxx, hocxxxxxxx⟩ := ho2xxxxxx.str hocxxxxxx
    subst hv; clear hd
    obtain ⟨b7, us, esb7, hv, hd, ho2xxxxxxxx, hocxxxxxxxx⟩ := ho2xxxxxxx.bool hocxxxxxxx
    subst hv; clear hd
    obtain ⟨b8p, b8n, b8c, b8z, us, esb8, hv, hd, b8h, ho2xxxxxxxxx, hocxxxxxxxxx⟩ := ho2xxxxxxxx.ints hocxxxxxxxx
    subst hv; clear hd
    obtain ⟨hv, hd⟩ := ho2xxxxxxxxx.done hocxxxxxxxxx
    subst hv; clear hd
    have hcl : ([.string b0, .bool b1, .slice b2p b2n b2c, .string b3, .bool b4, .slice b5p b5n b5c, .string b6, .bool b7, .slice b8p b8n b8c] : List Value).length = 9 := rfl
    have hfr := fill_row hxl hxt hcl hjn
    obtain ⟨w3, hst, hb3, hch, hs3⟩ := (hbk.ext hy).storeA (P := P) (t := T_impl_Row) (k := j * 9) (by kernel_rfl) hfr.1 ho.reps.cells1
    have hrf : ∀ q ∈ f, q ∉ [r] := fun q hq hm => by have := (ho.lt q hq).1; simp at hm; omega
    have hrs : ∀ q ∈ fs.flatten, q ∉ [r] := fun q hq hm => by have := (ha.lt q hq).1; simp at hm; omega
    refine ⟨_, _, _, _, _, _, _, _, _, _, _, _, _, _, _, rfl, ⟨by omega, by omega⟩, w3, by simpa using hst, exW ⟨by omega, by omega⟩ ⟨⟨j + 1, css ++ [[.string b0, .bool b1, .slice b2p b2n b2c, .string b3, .bool b4, .slice b5p b5n b5c, .string b6, .bool b7, .slice b8p b8n b8c]], fs ++ [f], _, by omega, by omega, (hx.trans hy).chg hch (by simp; omega), by have := hy.le; omega, ?_, ?_, hb3, hfr.2.1, hfr.2.2⟩, by simp; omega⟩⟩
    · rw [List.take_add_one, List.getElem?_eq_getElem hjl]
      exact ((ha.ext hy).chg hch hrs).snoc hcl ((ho.mono hsz).chg hch hrf)
    · rw [List.flatten_append]
      exact nodup_append (m := wr.heap.size) hnd (by simpa using hnf) (fun q hq => (ha.lt q hq).2) (fun q hq => (ho.lt q (by simpa using hq)).1)
  · have hjn : j = n := by omega
    subst hjn
    rw [List.take_of_length_le (by omega)] at ha hxt
    subst hxt
    refine ⟨_, _, _, rfl, ⟨by omega, css, fs, ha.mono (by omega), Own.of_blk hbk (by omega) hxl (by simp only [maxLen]; omega), rfl, ?_⟩, hx⟩
    refine nodup_append (m := w1.heap.size) (by simp) hnd (fun q hq => ?_) (fun q hq => (ha.lt q hq).1)
    simp at hq; omega

theorem laws_eqRowS_c {w : World} {p q : Option Addr} {n c m d : Nat} {l s : List (List D0)} (h : RowsR w 9 p n c l) (k : RowsR w 9 q m d s) (hc : ∀ x ∈ l, x.map D0.code = [.str, .bool, .ints, .str, .bool, .ints, .str, .bool, .ints]) (kc : ∀ x ∈ s, x.map D0.code = [.str, .bool, .ints, .str, .bool, .ints, .str, .bool, .ints]) :
    Ret P n_laws_eqRowS [.slice p n c, .slice q m d] w fun v w' => v = .bool (decide (l = s)) ∧ Ext w w' := by
  refine laws_eqRowS_ret ?_
  unfold laws_eqRowS
  have hz := h.1; have hy := k.1; have hcap := h.2.1; have hcm := h.2.2.1
  refine ifD (fun hne => ⟨dec_no (fun e => hne (by rw [← hz, ← hy, e])), Ext.refl _⟩) (fun heq => ?_)
  have hnm : n = m := by omega
  refine ⟨fun i wr => ∃ j : Nat, i = j ∧ j ≤ n ∧ Ext w wr ∧ l.take j = s.take j, fun i _ => n - i.toNat, ⟨0, rfl, by omega, Ext.refl _, by simp⟩, ?_⟩
  intro junk wr i ⟨j, hij, hj, hx, he⟩
  subst hij
  refine ifD (fun hlt => ?_) (fun hge => ⟨?_, hx⟩)
  · have hjn : j < n := by omega
    have hx' := hx.trans (Ext.drew wr)
    have hjl : j < l.length := by omega
    have hjs : j < s.length := by omega
    obtain ⟨kb1, ko1, hp, hs1⟩ := (h.ext hx').2.2.2 (by omega)
    obtain ⟨cs, hk, hr, hg1⟩ := hs1 j _ (List.getElem?_eq_getElem hjl)
    obtain ⟨kb2, ko2, hq, hs2⟩ := (k.ext hx').2.2.2 (by omega)
    obtain ⟨ds, hk2, hr2, hg2⟩ := hs2 j _ (List.getElem?_eq_getElem hjs)
    subst hp; subst hq
    have hrr := hr; have hrr2 := hr2
    have hc1 := hc _ (List.getElem_mem hjl); have hc2 := kc _ (List.getElem_mem hjs)
    obtain ⟨a0, us, esa0, hv, hd, hrx, hc1x⟩ := hr.str hc1
    subst hv; clear hd
    obtain ⟨a1, us, esa1, hv, hd, hrxx, hc1xx⟩ := hrx.bool hc1x
    subst hv; clear hd
    obtain ⟨a2p, a2n, a2c, a2z, us, esa2, hv, hd, a2h, hrxxx, hc1xxx⟩ := hrxx.ints hc1xx
    subst hv; clear hd
    obtain ⟨a3, us, esa3, hv, hd, hrxxxx, hc1xxxx⟩ := hrxxx.str hc1xxx
    subst hv; clear hd
    obtain ⟨a4, us, esa4, hv, hd, hrxxxxx, hc1xxxxx⟩ := hrxxxx.bool hc1xxxx
    subst hv; clear hd
    obtain ⟨a5p, a5n, a5c, a5z, us, esa5, hv, hd, a5h, hrxxxxxx, hc1xxxxxx⟩ := hrxxxxx.ints hc1xxxxx
    subst hv; clear hd
    obtain ⟨a6, us, esa6, hv, hd, hrxxxxxxx, hc1xxxxxxx⟩ := hrxxxxxx.str hc1xxxxxx
    subst hv; clear hd
    obtain ⟨a7, us, esa7, hv, hd, hrxxxxxxxx, hc1xxxxxxxx⟩ := hrxxxxxxx.bool hc1xxxxxxx
    subst hv; clear hd
    obtain ⟨a8p, a8n, a8c, a8z, us, esa8, hv, hd, a8h, hrxxxxxxxxx, hc1xxxxxxxxx⟩ := hrxxxxxxxx.ints hc1xxxxxxxx
    subst hv; clear hd
    obtain ⟨hv, hd⟩ := hrxxxxxxxxx.done hc1xxxxxxxxx
    subst hv; clear hd
    obtain ⟨b0, us, esb0, hv, hd, hr2x, hc2x⟩ := hr2.str hc2
    subst hv; clear hd
    obtain ⟨b1, us, esb1, hv, hd, hr2xx, hc2xx⟩ := hr2x.bool hc2x
    subst hv; clear hd
    obtain ⟨b2p, b2n, b2c, b2z, us, esb2, hv, hd, b2h, hr2xxx, hc2xxx⟩ := hr2xx.ints hc2xx
    subst hv; clear hd
    obtain ⟨b3, us, esb3, hv, hd, hr2xxxx, hc2xxxx⟩ := hr2xxx.str hc2xxx
    subst hv; clear hd
    obtain ⟨b4, us, esb4, hv, hd, hr2xxxxx, hc2xxxxx⟩ := hr2xxxx.bool hc2xxxx
    subst hv; clear hd
    obtain ⟨b5p, b5n, b5c, b5z, us, esb5, hv, hd, b5h, hr2xxxxxx, hc2xxxxxx⟩ := hr2xxxxx.ints hc2xxxxx
    subst hv; clear hd
    obtain ⟨b6, us, esb6, hv, hd, hr2xxxxxxx, hc2xxxxxxx⟩ := hr2xxxxxx.str hc2xxxxxx
    subst hv; clear hd
    obtain ⟨b7, us, esb7, hv, hd, hr2xxxxxxxx, hc2xxxxxxxx⟩ := hr2xxxxxxx.bool hc2xxxxxxx
    subst hv; clear hd
    obtain ⟨b8p, b8n, b8c, b8z, us, esb8, hv, hd, b8h, hr2xxxxxxxxx, hc2xxxxxxxxx⟩ := hr2xxxxxxxx.ints hc2xxxxxxxx
    subst hv; clear hd
    obtain ⟨hv, hd⟩ := hr2xxxxxxxxx.done hc2xxxxxxxxx
    subst hv; clear hd
    have l1 : ∀ w', Ext wr.drew w' → Loads P T_impl_Row ((⟨kb1, ko1, none⟩ : Addr).add ((j : Int).toNat * 9)) (.agg ⟨[.string a0, .bool a1, .slice a2p a2n a2c, .string a3, .bool a4, .slice a5p a5n a5c, .string a6, .bool a7, .slice a8p a8n a8c]⟩) w' := fun w' hw => by
      rw [addr_add]; exact loadsA (by kernel_rfl) (by simpa using hg1.ext hw)
    have l2 : ∀ w', Ext wr.drew w' → Loads P T_impl_Row ((⟨kb2, ko2, none⟩ : Addr).add ((j : Int).toNat * 9)) (.agg ⟨[.string b0, .bool b1, .slice b2p b2n b2c, .string b3, .bool b4, .slice b5p b5n b5c, .string b6, .bool b7, .slice b8p b8n b8c]⟩) w' := fun w' hw => by
      rw [addr_add]; exact loadsA (by kernel_rfl) (by simpa using hg2.ext hw)
    refine ⟨⟨by omega, by omega⟩, _, _, _, _, _, _, _, _, _, _, _, _, _, _, _, l1, ⟨by omega, by omega⟩, _, _, _, _, _, _, _, _, _, _, _, _, _, _, _, l2, ?_⟩
    refine Ret.at (laws_eqRow_c hrr hrr2 (hc _ (List.getElem_mem hjl)) (kc _ (List.getElem_mem hjs))) ?_
    rintro v w2 ⟨hv, hy2⟩
    subst hv
    refine ⟨_, rfl, ifN (fun hne => ⟨dec_no (fun e => ?_), hx'.trans hy2⟩) (fun heq2 => ?_)⟩
    · exact of_decide_eq_false hne (by subst e; rfl)
    · have e2 := of_decide_eq_true heq2
      refine exW ⟨by omega, by omega⟩ ⟨⟨j + 1, by omega, by omega, hx'.trans hy2, ?_⟩, by simp; omega⟩
      rw [List.take_add_one, List.take_add_one, he, List.getElem?_eq_getElem hjl, List.getElem?_eq_getElem hjs, e2]
  · have hjn : j = n := by omega
    subst hjn
    rw [List.take_of_length_le (by omega), List.take_of_length_le (by omega)] at he
    exact dec_yes he

theorem open_Debt {w : World} {vs : List Value} {ds : List D0} (h : Reps w vs ds) (hc : ds.map D0.code = [.str, .str, .str, .bool, .ints]) :
    ∃ (a0 : ByteArray) (a1 : ByteArray) (a2 : ByteArray) (a3 : Bool) (a4p : Option Addr) (a4n a4c : Nat) (a4z : List Int), vs = [.string a0, .string a1, .string a2, .bool a3, .slice a4p a4n a4c] ∧ ds = [.str a0, .str a1, .str a2, .bool a3, .ints a4z] ∧ IntsR w a4p a4n a4c a4z := by
  obtain ⟨b0, us, es, hv, hd, h2, hc2⟩ := h.str hc
  subst hv; subst hd
  clear h hc
  have h := h2; have hc := hc2; clear h2 hc2
  obtain ⟨b1, us, es, hv, hd, h2, hc2⟩ := h.str hc
  subst hv; subst hd
  clear h hc
  have h := h2; have hc := hc2; clear h2 hc2
  obtain ⟨b2, us, es, hv, hd, h2, hc2⟩ := h.str hc
  subst hv; subst hd
  clear h hc
  have h := h2; have hc := hc2; clear h2 hc2
  obtain ⟨b3, us, es, hv, hd, h2, hc2⟩ := h.bool hc
  subst hv; subst hd
  clear h hc
  have h := h2; have hc := hc2; clear h2 hc2
  obtain ⟨b4p, b4n, b4c, b4z, us, es, hv, hd, b4h, h2, hc2⟩ := h.ints hc
  subst hv; subst hd
  clear h hc
  have h := h2; have hc := hc2; clear h2 hc2
  obtain ⟨hv, hd⟩ := h.done hc
  subst hv; subst hd; clear h hc
  exact ⟨_, _, _, _, _, _, _, _, rfl, rfl, b4h⟩

theorem laws_szDebt_c {w : World} {vs : List Value} {ds : List D0} (h : Reps w vs ds) (hc : ds.map D0.code = [.str, .str, .str, .bool, .ints]) (hok : ∀ d ∈ ds, d.ok) {left : Int} (h0 : 0 ≤ left) (h1 : left ≤ 1048576) :
    Ret P n_laws_szDebt [.agg ⟨vs⟩, .int .i64 left] w fun v w' => ∃ r : Int, v = .int .i64 r ∧ (0 ≤ r → r + bulks ds ≤ left) ∧ r ≤ 1048576 ∧ Ext w w' := by
  obtain ⟨a0, us, es, hv, hd, h2, hc2⟩ := h.str hc
  subst hv; subst hd
  clear h hc
  have h := h2; have hc := hc2; clear h2 hc2
  obtain ⟨a1, us, es, hv, hd, h2, hc2⟩ := h.str hc
  subst hv; subst hd
  clear h hc
  have h := h2; have hc := hc2; clear h2 hc2
  obtain ⟨a2, us, es, hv, hd, h2, hc2⟩ := h.str hc
  subst hv; subst hd
  clear h hc
  have h := h2; have hc := hc2; clear h2 hc2
  obtain ⟨a3, us, es, hv, hd, h2, hc2⟩ := h.bool hc
  subst hv; subst hd
  clear h hc
  have h := h2; have hc := hc2; clear h2 hc2
  obtain ⟨a4p, a4n, a4c, a4z, us, es, hv, hd, a4h, h2, hc2⟩ := h.ints hc
  subst hv; subst hd
  clear h hc
  have h := h2; have hc := hc2; clear h2 hc2
  obtain ⟨hv, hd⟩ := h.done hc
  subst hv; subst hd; clear h hc
  simp only [List.mem_cons, List.not_mem_nil, or_false, forall_eq_or_imp, forall_eq, D0.ok] at hok
  have a4l := a4h.1; have a4k := a4h.2.1; have a4m := a4h.2.2.1
  simp only [bulks, D0.bulk, List.map_cons, List.map_nil, List.sum_cons, List.sum_nil]
  refine laws_szDebt_ret ?_
  unfold laws_szDebt
  intro r w1 hn1
  have x := hn1.ext; have b0 := hn1.blk
  refine ⟨_, b0.load (by kernel_rfl) rfl, exW ⟨by omega, by omega⟩ (ifD (fun hl => ⟨_, rfl, by omega, by omega, x⟩) (fun hl => ?_))⟩
  refine ⟨_, b0.load (by kernel_rfl) rfl, exW ⟨by omega, by omega⟩ (ifD (fun hl => ⟨_, rfl, by omega, by omega, x⟩) (fun hl => ?_))⟩
  have hr : Reps w [.string a2, .bool a3, .slice a4p a4n a4c] [.str a2, .bool a3, .ints a4z] := ⟨rfl, ⟨rfl, ⟨⟨_, _, _, rfl, a4h⟩, trivial⟩⟩⟩
  refine ⟨_, _, _, _, _, b0.loadA (xs := [.string a2, .bool a3, .slice a4p a4n a4c]) (by kernel_rfl) rfl, ?_⟩
  refine Ret.at (laws_szMoney_c (hr.ext x) rfl (by simp only [List.mem_cons, List.not_mem_nil, or_false, forall_eq_or_imp, forall_eq, D0.ok]; simp only [hok, and_self]) (by omega) (by omega)) ?_
  rintro v w2 ⟨k0, hv, hk0, hm0, y⟩
  simp only [bulks, D0.bulk, List.map_cons, List.map_nil, List.sum_cons, List.sum_nil] at hk0
  subst hv
  have x := x.trans y; have b0 := b0.ext y
  refine ⟨_, rfl, ifD (fun hl => ⟨_, rfl, by omega, by omega, x⟩) (fun hl => ?_)⟩
  exact ⟨_, rfl, by omega, by omega, x⟩

theorem laws_toDebt_c {w : World} {vs : List Value} {ds : List D0} (h : Reps w vs ds) (hc : ds.map D0.code = [.str, .str, .str, .bool, .ints]) (hb : bulks ds ≤ 1048576) :
    Ret P n_laws_toDebt [.agg ⟨vs⟩] w fun v w' => ∃ vs' f, v = .agg ⟨vs'⟩ ∧ Owns w' w.heap.size vs' ds f ∧ f.Nodup ∧ Ext w w' := by
  obtain ⟨a0, us, es, hv, hd, h2, hc2⟩ := h.str hc
  subst hv; subst hd
  clear h hc
  have h := h2; have hc := hc2; clear h2 hc2
  obtain ⟨a1, us, es, hv, hd, h2, hc2⟩ := h.str hc
  subst hv; subst hd
  clear h hc
  have h := h2; have hc := hc2; clear h2 hc2
  obtain ⟨a2, us, es, hv, hd, h2, hc2⟩ := h.str hc
  subst hv; subst hd
  clear h hc
  have h := h2; have hc := hc2; clear h2 hc2
  obtain ⟨a3, us, es, hv, hd, h2, hc2⟩ := h.bool hc
  subst hv; subst hd
  clear h hc
  have h := h2; have hc := hc2; clear h2 hc2
  obtain ⟨a4p, a4n, a4c, a4z, us, es, hv, hd, a4h, h2, hc2⟩ := h.ints hc
  subst hv; subst hd
  clear h hc
  have h := h2; have hc := hc2; clear h2 hc2
  obtain ⟨hv, hd⟩ := h.done hc
  subst hv; subst hd; clear h hc
  simp only [bulks, D0.bulk, List.map_cons, List.map_nil, List.sum_cons, List.sum_nil] at hb
  have a4l := a4h.1
  refine laws_toDebt_ret ?_
  unfold laws_toDebt
  intro r w1 hn1 r1 w2 hn2 r2 w3 hn3
  have x := (hn1.ext.trans hn2.ext).trans hn3.ext
  have b0 := (hn1.blk.ext hn2.ext).ext hn3.ext
  have b1 := hn2.blk.ext hn3.ext
  have b2 := hn3.blk
  have e1 := hn1.r_eq; have e2 := hn2.r_eq; have e3 := hn3.r_eq; have s1 := hn1.size; have s2 := hn2.size; have s3 := hn3.size
  obtain ⟨w4, st, b2', ch, sz⟩ := b2.store (P := P) (t := T_string) (k := 0) (v := .string a0) (by kernel_rfl) (by simp) rfl
  refine ⟨_, b0.load (by kernel_rfl) rfl, _, st, ?_⟩
  have x := x.chg ch (by simp; omega); have b0 := b0.chg ch (by simp; omega); have b1 := b1.chg ch (by simp; omega)
  have b2 : Blk w4 r2 _ [.string a0, .string ByteArray.empty, .string ByteArray.empty, .bool false, .slice none 0 0] := b2'
  clear b2'
  obtain ⟨w5, st, b2', ch, sz⟩ := b2.store (P := P) (t := T_string) (k := 1) (v := .string a1) (by kernel_rfl) (by simp) rfl
  refine ⟨_, b0.load (by kernel_rfl) rfl, _, st, ?_⟩
  have x := x.chg ch (by simp; omega); have b0 := b0.chg ch (by simp; omega); have b1 := b1.chg ch (by simp; omega)
  have b2 : Blk w5 r2 _ [.string a0, .string a1, .string ByteArray.empty, .bool false, .slice none 0 0] := b2'
  clear b2'
  have hr : Reps w [.string a2, .bool a3, .slice a4p a4n a4c] [.str a2, .bool a3, .ints a4z] := ⟨rfl, ⟨rfl, ⟨⟨_, _, _, rfl, a4h⟩, trivial⟩⟩⟩
  refine ⟨_, _, _, _, _, b0.loadA (xs := [.string a2, .bool a3, .slice a4p a4n a4c]) (by kernel_rfl) rfl, ?_⟩
  refine Ret.at (laws_toMoney_c (hr.ext x) rfl (by simp only [bulks, D0.bulk, List.map_cons, List.map_nil, List.sum_cons, List.sum_nil]; omega)) ?_
  rintro v w6 ⟨us0, f0, hv, o0, nd0, y⟩
  subst hv
  have hq := o0.reps; have hqc : ([.str a2, .bool a3, .ints a4z] : List D0).map D0.code = [.str, .bool, .ints] := rfl
  obtain ⟨q00, us, es, hv, hd, hq2, hqc2⟩ := hq.str hqc
  subst hv; cases hd; clear hq hqc; have hq := hq2; have hqc := hqc2; clear hq2 hqc2
  obtain ⟨q01, us, es, hv, hd, hq2, hqc2⟩ := hq.bool hqc
  subst hv; cases hd; clear hq hqc; have hq := hq2; have hqc := hqc2; clear hq2 hqc2
  obtain ⟨q02p, q02n, q02c, q02z, us, es, hv, hd, q02h, hq2, hqc2⟩ := hq.ints hqc
  subst hv; cases hd; clear hq hqc; have hq := hq2; have hqc := hqc2; clear hq2 hqc2
  obtain ⟨hv, _⟩ := hq.done hqc; subst hv; clear hq hqc
  refine ⟨_, _, _, _, _, rfl, ?_⟩
  have l0 : ∀ k ∈ _, k < w6.heap.size := fun k hk => (o0.lt k hk).2
  have y0 := y.le; have b0 := b0.ext y; have b1 := b1.ext y; have b2 := b2.ext y; have x := x.trans y
  obtain ⟨w7, st, b2', ch, sz⟩ := b2.storeA (P := P) (t := T_impl_Money) (k := 2) (xs := [.string a2, .bool a3, .slice q02p q02n q02c]) (by kernel_rfl) (by simp) o0.reps.cells1
  refine ⟨_, st, ?_⟩
  have x := x.chg ch (by simp; omega); have b0 := b0.chg ch (by simp; omega); have b1 := b1.chg ch (by simp; omega)
  have b2 : Blk w7 r2 _ [.string a0, .string a1, .string a2, .bool a3, .slice q02p q02n q02c] := b2'
  clear b2'
  have o0 := o0.chg1 ch (by omega)
  refine ⟨_, _, _, _, _, _, _, b2.loadA0 (by kernel_rfl), ?_⟩
  have ow : Owns w7 w.heap.size [.string a0, .string a1, .string a2, .bool a3, .slice q02p q02n q02c] [.str a0, .str a1, .str a2, .bool a3, .ints a4z] ([] ++ ([] ++ f0)) := Owns.append (Owns.str _ _ a0) (Owns.append (Owns.str _ _ a1) (o0.mono (by omega)))
  obtain ⟨w8, st, b1', ch, sz⟩ := b1.storeA0 (P := P) (t := T_impl_Debt) (xs := [.string a0, .string a1, .string a2, .bool a3, .slice q02p q02n q02c]) (by kernel_rfl) rfl ow.reps.cells1
  refine ⟨_, st, _, _, _, _, _, _, _, b1'.loadA0 (by kernel_rfl), [.string a0, .string a1, .string a2, .bool a3, .slice q02p q02n q02c], ([] ++ ([] ++ f0)), rfl, Owns.append (Owns.str _ _ a0) (Owns.append (Owns.str _ _ a1) ((o0.chg1 ch (by omega)).mono (by omega))), ?_, x.chg ch (by simp; omega)⟩
  try simp only [List.nil_append, List.append_nil]
  exact nd0

theorem laws_eqDebt_c {w : World} {xs ys : List Value} {dx dy : List D0} (h : Reps w xs dx) (k : Reps w ys dy) (hc : dx.map D0.code = [.str, .str, .str, .bool, .ints]) (kc : dy.map D0.code = [.str, .str, .str, .bool, .ints]) :
    Ret P n_laws_eqDebt [.agg ⟨xs⟩, .agg ⟨ys⟩] w fun v w' => v = .bool (decide (dx = dy)) ∧ Ext w w' := by
  obtain ⟨a0, us, es, hv, hd, h2, hc2⟩ := h.str hc
  subst hv; subst hd
  clear h hc
  have h := h2; have hc := hc2; clear h2 hc2
  obtain ⟨a1, us, es, hv, hd, h2, hc2⟩ := h.str hc
  subst hv; subst hd
  clear h hc
  have h := h2; have hc := hc2; clear h2 hc2
  obtain ⟨a2, us, es, hv, hd, h2, hc2⟩ := h.str hc
  subst hv; subst hd
  clear h hc
  have h := h2; have hc := hc2; clear h2 hc2
  obtain ⟨a3, us, es, hv, hd, h2, hc2⟩ := h.bool hc
  subst hv; subst hd
  clear h hc
  have h := h2; have hc := hc2; clear h2 hc2
  obtain ⟨a4p, a4n, a4c, a4z, us, es, hv, hd, a4h, h2, hc2⟩ := h.ints hc
  subst hv; subst hd
  clear h hc
  have h := h2; have hc := hc2; clear h2 hc2
  obtain ⟨hv, hd⟩ := h.done hc
  subst hv; subst hd; clear h hc
  obtain ⟨bb0, us, es, hv, hd, k2, kc2⟩ := k.str kc
  subst hv; subst hd
  clear k kc
  have k := k2; have kc := kc2; clear k2 kc2
  obtain ⟨bb1, us, es, hv, hd, k2, kc2⟩ := k.str kc
  subst hv; subst hd
  clear k kc
  have k := k2; have kc := kc2; clear k2 kc2
  obtain ⟨bb2, us, es, hv, hd, k2, kc2⟩ := k.str kc
  subst hv; subst hd
  clear k kc
  have k := k2; have kc := kc2; clear k2 kc2
  obtain ⟨bb3, us, es, hv, hd, k2, kc2⟩ := k.bool kc
  subst hv; subst hd
  clear k kc
  have k := k2; have kc := kc2; clear k2 kc2
  obtain ⟨bb4p, bb4n, bb4c, bb4z, us, es, hv, hd, bb4h, k2, kc2⟩ := k.ints kc
  subst hv; subst hd
  clear k kc
  have k := k2; have kc := kc2; clear k2 kc2
  obtain ⟨hv, hd⟩ := k.done kc
  subst hv; subst hd; clear k kc
  refine laws_eqDebt_ret ?_
  unfold laws_eqDebt
  intro r w1 hn1 r1 w2 hn2
  have x := hn1.ext.trans hn2.ext
  have b0 := hn1.blk.ext hn2.ext
  have b1 := hn2.blk
  refine ⟨_, b0.load (by kernel_rfl) rfl, _, b1.load (by kernel_rfl) rfl, ?_⟩
  refine ifD (fun hne => ⟨dec_no (fun e => ?_), x⟩) (fun heq => ?_)
  · have e2 := congrArg (fun l : List D0 => (l.drop 0).take 1) e
    simp at e2; exact hne e2
  have heq : a0 = bb0 := by simpa using heq
  subst heq
  refine ⟨_, b0.load (by kernel_rfl) rfl, _, b1.load (by kernel_rfl) rfl, ?_⟩
  refine ifD (fun hne => ⟨dec_no (fun e => ?_), x⟩) (fun heq => ?_)
  · have e2 := congrArg (fun l : List D0 => (l.drop 1).take 1) e
    simp at e2; exact hne e2
  have heq : a1 = bb1 := by simpa using heq
  subst heq
  have ha : Reps w [.string a2, .bool a3, .slice a4p a4n a4c] [.str a2, .bool a3, .ints a4z] := ⟨rfl, ⟨rfl, ⟨⟨_, _, _, rfl, a4h⟩, trivial⟩⟩⟩
  have hb : Reps w [.string bb2, .bool bb3, .slice bb4p bb4n bb4c] [.str bb2, .bool bb3, .ints bb4z] := ⟨rfl, ⟨rfl, ⟨⟨_, _, _, rfl, bb4h⟩, trivial⟩⟩⟩
  refine ⟨_, _, _, _, _, b0.loadA (xs := [.string a2, .bool a3, .slice a4p a4n a4c]) (by kernel_rfl) rfl, _, _, _, _, _, b1.loadA (xs := [.string bb2, .bool bb3, .slice bb4p bb4n bb4c]) (by kernel_rfl) rfl, ?_⟩
  refine Ret.at (laws_eqMoney_c (ha.ext x) (hb.ext x) rfl rfl) ?_
  rintro v w3 ⟨hv, y⟩
  subst hv
  have x := x.trans y; have b0 := b0.ext y; have b1 := b1.ext y
  refine ⟨_, rfl, ifN (fun hne => ⟨dec_no (fun e => ?_), x⟩) (fun heq => ?_)⟩
  · have e2 := congrArg (fun l : List D0 => (l.drop 2).take 3) e
    exact of_decide_eq_false hne e2
  have heq := of_decide_eq_true heq
  cases heq
  exact ⟨dec_yes rfl, x⟩

theorem laws_szDebtS_c {w : World} {p : Option Addr} {n c : Nat} {l : List (List D0)} (h : RowsR w 5 p n c l) (hc : ∀ x ∈ l, x.map D0.code = [.str, .str, .str, .bool, .ints]) (hok : ∀ x ∈ l, ∀ d ∈ x, d.ok) {left : Int} (h0 : 0 ≤ left) (h1 : left ≤ 1048576) :
    Ret P n_laws_szDebtS [.slice p n c, .int .i64 left] w fun v w' => ∃ r : Int, v = .int .i64 r ∧ (0 ≤ r → r + n + ((l.map bulks).sum : Nat) ≤ left) ∧ r ≤ 1048576 ∧ Ext w w' := by
  refine laws_szDebtS_ret ?_
  unfold laws_szDebtS
  have hlen := h.1; have hcap := h.2.1; have hcm := h.2.2.1
  refine exW ⟨by omega, by omega⟩ (ifD (fun hl => ⟨_, rfl, by omega, by omega, Ext.refl _⟩) (fun hl => ?_))
  refine ⟨fun lf i wr => ∃ j : Nat, i = j ∧ j ≤ n ∧ Ext w wr ∧ 0 ≤ lf ∧ lf ≤ 1048576 ∧ lf + n + (((l.take j).map bulks).sum : Nat) ≤ left, fun _ i _ => n - i.toNat, ⟨0, rfl, by omega, Ext.refl _, by omega, by omega, by simp <;> omega⟩, ?_⟩
  intro junk wr lf i ⟨j, hij, hj, hx, hl0, hl1, hle⟩
  subst hij
  refine ifD (fun hlt => ?_) (fun hge => ?_)
  · have hjn : j < n := by omega
    obtain ⟨a, cs, hp, hk, hr, hld⟩ := (h.ext hx).at (P := P) (t := T_laws_Debt) (by kernel_rfl) hjn
    subst hp
    have hjl : j < l.length := by omega
    have hm : l[j] ∈ l := List.getElem_mem hjl
    have hcode := hc _ hm
    have hrr := hr
    obtain ⟨a0, us, esa0, hv, hd, hrx, hcodex⟩ := hr.str hcode
    subst hv; clear hd
    obtain ⟨a1, us, esa1, hv, hd, hrxx, hcodexx⟩ := hrx.str hcodex
    subst hv; clear hd
    obtain ⟨a2, us, esa2, hv, hd, hrxxx, hcodexxx⟩ := hrxx.str hcodexx
    subst hv; clear hd
    obtain ⟨a3, us, esa3, hv, hd, hrxxxx, hcodexxxx⟩ := hrxxx.bool hcodexxx
    subst hv; clear hd
    obtain ⟨a4p, a4n, a4c, a4z, us, esa4, hv, hd, a4h, hrxxxxx, hcodexxxxx⟩ := hrxxxx.ints hcodexxxx
    subst hv; clear hd
    obtain ⟨hv, hd⟩ := hrxxxxx.done hcodexxxxx
    subst hv; clear hd
    refine ⟨⟨by omega, by omega⟩, _, _, _, _, _, _, _, by simpa using hld, ?_⟩
    refine Ret.at (laws_szDebt_c hrr (hc _ hm) (hok _ hm) hl0 hl1) ?_
    rintro v w2 ⟨t, hv, ht, htm, hy⟩
    subst hv
    refine ⟨_, rfl, ifD (fun hl => ⟨_, rfl, by omega, by omega, hx.trans hy⟩) (fun hl => ?_)⟩
    refine exW ⟨by omega, by omega⟩ ⟨⟨j + 1, by omega, by omega, hx.trans hy, by omega, by omega, ?_⟩, by simp; omega⟩
    rw [List.take_add_one, List.getElem?_eq_getElem hjl]
    have := ht (by omega)
    simp only [Option.toList_some, List.map_append, List.map_cons, List.map_nil, List.sum_append, List.sum_cons, List.sum_nil]
    omega
  · have hjn : j = n := by omega
    subst hjn
    rw [List.take_of_length_le (by omega)] at hle
    exact ⟨_, rfl, by omega, by omega, hx⟩

theorem laws_toDebtS_c {w : World} {p : Option Addr} {n c : Nat} {l : List (List D0)} (h : RowsR w 5 p n c l) (hc : ∀ x ∈ l, x.map D0.code = [.str, .str, .str, .bool, .ints]) (hn : n ≤ 1048576) (hb : ∀ x ∈ l, bulks x ≤ 1048576) :
    Ret P n_laws_toDebtS [.slice p n c] w fun v w' => ∃ p' c' f, v = .slice p' n c' ∧ OwnRows w' w.heap.size T_impl_Debt 5 p' n c' l f ∧ Ext w w' := by
  refine laws_toDebtS_ret ?_
  unfold laws_toDebtS
  refine ⟨⟨by omega, by omega, by omega⟩, fun r w1 hnew => ?_⟩
  have hlen := h.1; have er := hnew.r_eq; have es := hnew.size
  refine ⟨fun i wr => ∃ (j : Nat) (css : List (List Value)) (fs : List (List Nat)) (xs : List Value), i = j ∧ j ≤ n ∧ Ext w wr ∧ w1.heap.size ≤ wr.heap.size ∧ AllO wr w1.heap.size 5 css (l.take j) fs ∧ fs.flatten.Nodup ∧ Blk wr r T_impl_Debt xs ∧ xs.length = n * 5 ∧ xs.take (j * 5) = css.flatten, fun i _ => n - i.toNat, ⟨0, [], [], _, rfl, by omega, hnew.ext, Nat.le_refl _, trivial, List.nodup_nil, hnew.blk, by simp [zeroRow], by simp⟩, ?_⟩
  intro junk wr i ⟨j, css, fs, xs, hij, hj, hx, hsz, ha, hnd, hbk, hxl, hxt⟩
  subst hij
  refine ifD (fun hlt => ?_) (fun hge => ?_)
  · have hjn : j < n := by omega
    obtain ⟨a, cs, hp, hk, hr, hl⟩ := (h.ext hx).at (P := P) (t := T_laws_Debt) (by kernel_rfl) hjn
    subst hp
    have hjl : j < l.length := by omega
    have hm : l[j] ∈ l := List.getElem_mem hjl
    have hcode := hc _ hm; have hbl := hb _ hm
    have hrr := hr
    obtain ⟨a0, us, esa0, hv, hd, hrx, hcodex⟩ := hr.str hcode
    subst hv; clear hd
    obtain ⟨a1, us, esa1, hv, hd, hrxx, hcodexx⟩ := hrx.str hcodex
    subst hv; clear hd
    obtain ⟨a2, us, esa2, hv, hd, hrxxx, hcodexxx⟩ := hrxx.str hcodexx
    subst hv; clear hd
    obtain ⟨a3, us, esa3, hv, hd, hrxxxx, hcodexxxx⟩ := hrxxx.bool hcodexxx
    subst hv; clear hd
    obtain ⟨a4p, a4n, a4c, a4z, us, esa4, hv, hd, a4h, hrxxxxx, hcodexxxxx⟩ := hrxxxx.ints hcodexxxx
    subst hv; clear hd
    obtain ⟨hv, hd⟩ := hrxxxxx.done hcodexxxxx
    subst hv; clear hd
    refine ⟨⟨by omega, by omega⟩, _, _, _, _, _, _, _, by simpa using hl, ?_⟩
    refine Ret.at (laws_toDebt_c hrr (hc _ hm) hbl) ?_
    rintro v w2 ⟨vs, f, hv, ho, hnf, hy⟩
    subst hv
    have ho2 := ho.reps; have hoc := hc _ hm
    obtain ⟨b0, us, esb0, hv, hd, ho2x, hocx⟩ := ho2.str hoc
    subst hv; clear hd
    obtain ⟨b1, us, esb1, hv, hd, ho2xx, hocxx⟩ := ho2x.str hocx
    subst hv; clear hd
    obtain ⟨b2, us, esb2, hv, hd, ho2xxx, hocxxx⟩ := ho2xx.str hocxx
    subst hv; clear hd
    obtain ⟨b3, us, esb3, hv, hd, ho2xxxx, hocxxxx⟩ := ho2xxx.bool hocxxx
    subst hv; clear hd
    obtain ⟨b4p, b4n, b4c, b4z, us, esb4, hv, hd, b4h, ho2xxxxx, hocxxxxx⟩ := ho2xxxx.ints hocxxxx
    subst hv; clear hd
    obtain ⟨hv, hd⟩ := ho2xxxxx.done hocxxxxx
    subst hv; clear hd
    have hcl : ([.string b0, .string b1, .string b2, .bool b3, .slice b4p b4n b4c] : List Value).length = 5 := rfl
    have hfr := fill_row hxl hxt hcl hjn
    obtain ⟨w3, hst, hb3, hch, hs3⟩ := (hbk.ext hy).storeA (P := P) (t := T_impl_Debt) (k := j * 5) (by kernel_rfl) hfr.1 ho.reps.cells1
    have hrf : ∀ q ∈ f, q ∉ [r] := fun q hq hm => by have := (ho.lt q hq).1; simp at hm; omega
    have hrs : ∀ q ∈ fs.flatten, q ∉ [r] := fun q hq hm => by have := (ha.lt q hq).1; simp at hm; omega
    refine ⟨_, _, _, _, _, _, _, rfl, ⟨by omega, by omega⟩, w3, by simpa using hst, exW ⟨by omega, by omega⟩ ⟨⟨j + 1, css ++ [[.string b0, .string b1, .string b2, .bool b3, .slice b4p b4n b4c]], fs ++ [f], _, by omega, by omega, (hx.trans hy).chg hch (by simp; omega), by have := hy.le; omega, ?_, ?_, hb3, hfr.2.1, hfr.2.2⟩, by simp; omega⟩⟩
    · rw [List.take_add_one, List.getElem?_eq_getElem hjl]
      exact ((ha.ext hy).chg hch hrs).snoc hcl ((ho.mono hsz).chg hch hrf)
    · rw [List.flatten_append]
      exact nodup_append (m := wr.heap.size) hnd (by simpa using hnf) (fun q hq => (ha.lt q hq).2) (fun q hq => (ho.lt q (by simpa using hq)).1)
  · have hjn : j = n := by omega
    subst hjn
    rw [List.take_of_length_le (by omega)] at ha hxt
    subst hxt
    refine ⟨_, _, _, rfl, ⟨by omega, css, fs, ha.mono (by omega), Own.of_blk hbk (by omega) hxl (by simp only [maxLen]; omega), rfl, ?_⟩, hx⟩
    refine nodup_append (m := w1.heap.size) (by simp) hnd (fun q hq => ?_) (fun q hq => (ha.lt q hq).1)
    simp at hq; omega

theorem laws_eqDebtS_c {w : World} {p q : Option Addr} {n c m d : Nat} {l s : List (List D0)} (h : RowsR w 5 p n c l) (k : RowsR w 5 q m d s) (hc : ∀ x ∈ l, x.map D0.code = [.str, .str, .str, .bool, .ints]) (kc : ∀ x ∈ s, x.map D0.code = [.str, .str, .str, .bool, .ints]) :
    Ret P n_laws_eqDebtS [.slice p n c, .slice q m d] w fun v w' => v = .bool (decide (l = s)) ∧ Ext w w' := by
  refine laws_eqDebtS_ret ?_
  unfold laws_eqDebtS
  have hz := h.1; have hy := k.1; have hcap := h.2.1; have hcm := h.2.2.1
  refine ifD (fun hne => ⟨dec_no (fun e => hne (by rw [← hz, ← hy, e])), Ext.refl _⟩) (fun heq => ?_)
  have hnm : n = m := by omega
  refine ⟨fun i wr => ∃ j : Nat, i = j ∧ j ≤ n ∧ Ext w wr ∧ l.take j = s.take j, fun i _ => n - i.toNat, ⟨0, rfl, by omega, Ext.refl _, by simp⟩, ?_⟩
  intro junk wr i ⟨j, hij, hj, hx, he⟩
  subst hij
  refine ifD (fun hlt => ?_) (fun hge => ⟨?_, hx⟩)
  · have hjn : j < n := by omega
    have hx' := hx.trans (Ext.drew wr)
    have hjl : j < l.length := by omega
    have hjs : j < s.length := by omega
    obtain ⟨kb1, ko1, hp, hs1⟩ := (h.ext hx').2.2.2 (by omega)
    obtain ⟨cs, hk, hr, hg1⟩ := hs1 j _ (List.getElem?_eq_getElem hjl)
    obtain ⟨kb2, ko2, hq, hs2⟩ := (k.ext hx').2.2.2 (by omega)
    obtain ⟨ds, hk2, hr2, hg2⟩ := hs2 j _ (List.getElem?_eq_getElem hjs)
    subst hp; subst hq
    have hrr := hr; have hrr2 := hr2
    have hc1 := hc _ (List.getElem_mem hjl); have hc2 := kc _ (List.getElem_mem hjs)
    obtain ⟨a0, us, esa0, hv, hd, hrx, hc1x⟩ := hr.str hc1
    subst hv; clear hd
    obtain ⟨a1, us, esa1, hv, hd, hrxx, hc1xx⟩ := hrx.str hc1x
    subst hv; clear hd
    obtain ⟨a2, us, esa2, hv, hd, hrxxx, hc1xxx⟩ := hrxx.str hc1xx
    subst hv; clear hd
    obtain ⟨a3, us, esa3, hv, hd, hrxxxx, hc1xxxx⟩ := hrxxx.bool hc1xxx
    subst hv; clear hd
    obtain ⟨a4p, a4n, a4c, a4z, us, esa4, hv, hd, a4h, hrxxxxx, hc1xxxxx⟩ := hrxxxx.ints hc1xxxx
    subst hv; clear hd
    obtain ⟨hv, hd⟩ := hrxxxxx.done hc1xxxxx
    subst hv; clear hd
    obtain ⟨b0, us, esb0, hv, hd, hr2x, hc2x⟩ := hr2.str hc2
    subst hv; clear hd
    obtain ⟨b1, us, esb1, hv, hd, hr2xx, hc2xx⟩ := hr2x.str hc2x
    subst hv; clear hd
    obtain ⟨b2, us, esb2, hv, hd, hr2xxx, hc2xxx⟩ := hr2xx.str hc2xx
    subst hv; clear hd
    obtain ⟨b3, us, esb3, hv, hd, hr2xxxx, hc2xxxx⟩ := hr2xxx.bool hc2xxx
    subst hv; clear hd
    obtain ⟨b4p, b4n, b4c, b4z, us, esb4, hv, hd, b4h, hr2xxxxx, hc2xxxxx⟩ := hr2xxxx.ints hc2xxxx
    subst hv; clear hd
    obtain ⟨hv, hd⟩ := hr2xxxxx.done hc2xxxxx
    subst hv; clear hd
    have l1 : ∀ w', Ext wr.drew w' → Loads P T_impl_Debt ((⟨kb1, ko1, none⟩ : Addr).add ((j : Int).toNat * 5)) (.agg ⟨[.string a0, .string a1, .string a2, .bool a3, .slice a4p a4n a4c]⟩) w' := fun w' hw => by
      rw [addr_add]; exact loadsA (by kernel_rfl) (by simpa using hg1.ext hw)
    have l2 : ∀ w', Ext wr.drew w' → Loads P T_impl_Debt ((⟨kb2, ko2, none⟩ : Addr).add ((j : Int).toNat * 5)) (.agg ⟨[.string b0, .string b1, .string b2, .bool b3, .slice b4p b4n b4c]⟩) w' := fun w' hw => by
      rw [addr_add]; exact loadsA (by kernel_rfl) (by simpa using hg2.ext hw)
    refine ⟨⟨by omega, by omega⟩, _, _, _, _, _, _, _, l1, ⟨by omega, by omega⟩, _, _, _, _, _, _, _, l2, ?_⟩
    refine Ret.at (laws_eqDebt_c hrr hrr2 (hc _ (List.getElem_mem hjl)) (kc _ (List.getElem_mem hjs))) ?_
    rintro v w2 ⟨hv, hy2⟩
    subst hv
    refine ⟨_, rfl, ifN (fun hne => ⟨dec_no (fun e => ?_), hx'.trans hy2⟩) (fun heq2 => ?_)⟩
    · exact of_decide_eq_false hne (by subst e; rfl)
    · have e2 := of_decide_eq_true heq2
      refine exW ⟨by omega, by omega⟩ ⟨⟨j + 1, by omega, by omega, hx'.trans hy2, ?_⟩, by simp; omega⟩
      rw [List.take_add_one, List.take_add_one, he, List.getElem?_eq_getElem hjl, List.getElem?_eq_getElem hjs, e2]
  · have hjn : j = n := by omega
    subst hjn
    rw [List.take_of_length_le (by omega), List.take_of_length_le (by omega)] at he
    exact dec_yes he

theorem open_Acct {w : World} {vs : List Value} {ds : List D0} (h : Reps w vs ds) (hc : ds.map D0.code = [.str, .str, .bool, .ints]) :
    ∃ (a0 : ByteArray) (a1 : ByteArray) (a2 : Bool) (a3p : Option Addr) (a3n a3c : Nat) (a3z : List Int), vs = [.string a0, .string a1, .bool a2, .slice a3p a3n a3c] ∧ ds = [.str a0, .str a1, .bool a2, .ints a3z] ∧ IntsR w a3p a3n a3c a3z := by
  obtain ⟨b0, us, es, hv, hd, h2, hc2⟩ := h.str hc
  subst hv; subst hd
  clear h hc
  have h := h2; have hc := hc2; clear h2 hc2
  obtain ⟨b1, us, es, hv, hd, h2, hc2⟩ := h.str hc
  subst hv; subst hd
  clear h hc
  have h := h2; have hc := hc2; clear h2 hc2
  obtain ⟨b2, us, es, hv, hd, h2, hc2⟩ := h.bool hc
  subst hv; subst hd
  clear h hc
  have h := h2; have hc := hc2; clear h2 hc2
  obtain ⟨b3p, b3n, b3c, b3z, us, es, hv, hd, b3h, h2, hc2⟩ := h.ints hc
  subst hv; subst hd
  clear h hc
  have h := h2; have hc := hc2; clear h2 hc2
  obtain ⟨hv, hd⟩ := h.done hc
  subst hv; subst hd; clear h hc
  exact ⟨_, _, _, _, _, _, _, rfl, rfl, b3h⟩

theorem laws_szAcct_c {w : World} {vs : List Value} {ds : List D0} (h : Reps w vs ds) (hc : ds.map D0.code = [.str, .str, .bool, .ints]) (hok : ∀ d ∈ ds, d.ok) {left : Int} (h0 : 0 ≤ left) (h1 : left ≤ 1048576) :
    Ret P n_laws_szAcct [.agg ⟨vs⟩, .int .i64 left] w fun v w' => ∃ r : Int, v = .int .i64 r ∧ (0 ≤ r → r + bulks ds ≤ left) ∧ r ≤ 1048576 ∧ Ext w w' := by
  obtain ⟨a0, us, es, hv, hd, h2, hc2⟩ := h.str hc
  subst hv; subst hd
  clear h hc
  have h := h2; have hc := hc2; clear h2 hc2
  obtain ⟨a1, us, es, hv, hd, h2, hc2⟩ := h.str hc
  subst hv; subst hd
  clear h hc
  have h := h2; have hc := hc2; clear h2 hc2
  obtain ⟨a2, us, es, hv, hd, h2, hc2⟩ := h.bool hc
  subst hv; subst hd
  clear h hc
  have h := h2; have hc := hc2; clear h2 hc2
  obtain ⟨a3p, a3n, a3c, a3z, us, es, hv, hd, a3h, h2, hc2⟩ := h.ints hc
  subst hv; subst hd
  clear h hc
  have h := h2; have hc := hc2; clear h2 hc2
  obtain ⟨hv, hd⟩ := h.done hc
  subst hv; subst hd; clear h hc
  simp only [List.mem_cons, List.not_mem_nil, or_false, forall_eq_or_imp, forall_eq, D0.ok] at hok
  have a3l := a3h.1; have a3k := a3h.2.1; have a3m := a3h.2.2.1
  simp only [bulks, D0.bulk, List.map_cons, List.map_nil, List.sum_cons, List.sum_nil]
  refine laws_szAcct_ret ?_
  unfold laws_szAcct
  intro r w1 hn1
  have x := hn1.ext; have b0 := hn1.blk
  refine ⟨_, b0.load (by kernel_rfl) rfl, exW ⟨by omega, by omega⟩ (ifD (fun hl => ⟨_, rfl, by omega, by omega, x⟩) (fun hl => ?_))⟩
  have hr : Reps w [.string a1, .bool a2, .slice a3p a3n a3c] [.str a1, .bool a2, .ints a3z] := ⟨rfl, ⟨rfl, ⟨⟨_, _, _, rfl, a3h⟩, trivial⟩⟩⟩
  refine ⟨_, _, _, _, _, b0.loadA (xs := [.string a1, .bool a2, .slice a3p a3n a3c]) (by kernel_rfl) rfl, ?_⟩
  refine Ret.at (laws_szMoney_c (hr.ext x) rfl (by simp only [List.mem_cons, List.not_mem_nil, or_false, forall_eq_or_imp, forall_eq, D0.ok]; simp only [hok, and_self]) (by omega) (by omega)) ?_
  rintro v w2 ⟨k0, hv, hk0, hm0, y⟩
  simp only [bulks, D0.bulk, List.map_cons, List.map_nil, List.sum_cons, List.sum_nil] at hk0
  subst hv
  have x := x.trans y; have b0 := b0.ext y
  refine ⟨_, rfl, ifD (fun hl => ⟨_, rfl, by omega, by omega, x⟩) (fun hl => ?_)⟩
  exact ⟨_, rfl, by omega, by omega, x⟩

theorem laws_toAcct_c {w : World} {vs : List Value} {ds : List D0} (h : Reps w vs ds) (hc : ds.map D0.code = [.str, .str, .bool, .ints]) (hb : bulks ds ≤ 1048576) :
    Ret P n_laws_toAcct [.agg ⟨vs⟩] w fun v w' => ∃ vs' f, v = .agg ⟨vs'⟩ ∧ Owns w' w.heap.size vs' ds f ∧ f.Nodup ∧ Ext w w' := by
  obtain ⟨a0, us, es, hv, hd, h2, hc2⟩ := h.str hc
  subst hv; subst hd
  clear h hc
  have h := h2; have hc := hc2; clear h2 hc2
  obtain ⟨a1, us, es, hv, hd, h2, hc2⟩ := h.str hc
  subst hv; subst hd
  clear h hc
  have h := h2; have hc := hc2; clear h2 hc2
  obtain ⟨a2, us, es, hv, hd, h2, hc2⟩ := h.bool hc
  subst hv; subst hd
  clear h hc
  have h := h2; have hc := hc2; clear h2 hc2
  obtain ⟨a3p, a3n, a3c, a3z, us, es, hv, hd, a3h, h2, hc2⟩ := h.ints hc
  subst hv; subst hd
  clear h hc
  have h := h2; have hc := hc2; clear h2 hc2
  obtain ⟨hv, hd⟩ := h.done hc
  subst hv; subst hd; clear h hc
  simp only [bulks, D0.bulk, List.map_cons, List.map_nil, List.sum_cons, List.sum_nil] at hb
  have a3l := a3h.1
  refine laws_toAcct_ret ?_
  unfold laws_toAcct
  intro r w1 hn1 r1 w2 hn2 r2 w3 hn3
  have x := (hn1.ext.trans hn2.ext).trans hn3.ext
  have b0 := (hn1.blk.ext hn2.ext).ext hn3.ext
  have b1 := hn2.blk.ext hn3.ext
  have b2 := hn3.blk
  have e1 := hn1.r_eq; have e2 := hn2.r_eq; have e3 := hn3.r_eq; have s1 := hn1.size; have s2 := hn2.size; have s3 := hn3.size
  obtain ⟨w4, st, b2', ch, sz⟩ := b2.store (P := P) (t := T_string) (k := 0) (v := .string a0) (by kernel_rfl) (by simp) rfl
  refine ⟨_, b0.load (by kernel_rfl) rfl, _, st, ?_⟩
  have x := x.chg ch (by simp; omega); have b0 := b0.chg ch (by simp; omega); have b1 := b1.chg ch (by simp; omega)
  have b2 : Blk w4 r2 _ [.string a0, .string ByteArray.empty, .bool false, .slice none 0 0] := b2'
  clear b2'
  have hr : Reps w [.string a1, .bool a2, .slice a3p a3n a3c] [.str a1, .bool a2, .ints a3z] := ⟨rfl, ⟨rfl, ⟨⟨_, _, _, rfl, a3h⟩, trivial⟩⟩⟩
  refine ⟨_, _, _, _, _, b0.loadA (xs := [.string a1, .bool a2, .slice a3p a3n a3c]) (by kernel_rfl) rfl, ?_⟩
  refine Ret.at (laws_toMoney_c (hr.ext x) rfl (by simp only [bulks, D0.bulk, List.map_cons, List.map_nil, List.sum_cons, List.sum_nil]; omega)) ?_
  rintro v w5 ⟨us0, f0, hv, o0, nd0, y⟩
  subst hv
  have hq := o0.reps; have hqc : ([.str a1, .bool a2, .ints a3z] : List D0).map D0.code = [.str, .bool, .ints] := rfl
  obtain ⟨q00, us, es, hv, hd, hq2, hqc2⟩ := hq.str hqc
  subst hv; cases hd; clear hq hqc; have hq := hq2; have hqc := hqc2; clear hq2 hqc2
  obtain ⟨q01, us, es, hv, hd, hq2, hqc2⟩ := hq.bool hqc
  subst hv; cases hd; clear hq hqc; have hq := hq2; have hqc := hqc2; clear hq2 hqc2
  obtain ⟨q02p, q02n, q02c, q02z, us, es, hv, hd, q02h, hq2, hqc2⟩ := hq.ints hqc
  subst hv; cases hd; clear hq hqc; have hq := hq2; have hqc := hqc2; clear hq2 hqc2
  obtain ⟨hv, _⟩ := hq.done hqc; subst hv; clear hq hqc
  refine ⟨_, _, _, _, _, rfl, ?_⟩
  have l0 : ∀ k ∈ _, k < w5.heap.size := fun k hk => (o0.lt k hk).2
  have y0 := y.le; have b0 := b0.ext y; have b1 := b1.ext y; have b2 := b2.ext y; have x := x.trans y
  obtain ⟨w6, st, b2', ch, sz⟩ := b2.storeA (P := P) (t := T_impl_Money) (k := 1) (xs := [.string a1, .bool a2, .slice q02p q02n q02c]) (by kernel_rfl) (by simp) o0.reps.cells1
  refine ⟨_, st, ?_⟩
  have x := x.chg ch (by simp; omega); have b0 := b0.chg ch (by simp; omega); have b1 := b1.chg ch (by simp; omega)
  have b2 : Blk w6 r2 _ [.string a0, .string a1, .bool a2, .slice q02p q02n q02c] := b2'
  clear b2'
  have o0 := o0.chg1 ch (by omega)
  refine ⟨_, _, _, _, _, _, b2.loadA0 (by kernel_rfl), ?_⟩
  have ow : Owns w6 w.heap.size [.string a0, .string a1, .bool a2, .slice q02p q02n q02c] [.str a0, .str a1, .bool a2, .ints a3z] ([] ++ f0) := Owns.append (Owns.str _ _ a0) (o0.mono (by omega))
  obtain ⟨w7, st, b1', ch, sz⟩ := b1.storeA0 (P := P) (t := T_impl_Acct) (xs := [.string a0, .string a1, .bool a2, .slice q02p q02n q02c]) (by kernel_rfl) rfl ow.reps.cells1
  refine ⟨_, st, _, _, _, _, _, _, b1'.loadA0 (by kernel_rfl), [.string a0, .string a1, .bool a2, .slice q02p q02n q02c], ([] ++ f0), rfl, Owns.append (Owns.str _ _ a0) ((o0.chg1 ch (by omega)).mono (by omega)), ?_, x.chg ch (by simp; omega)⟩
  try simp only [List.nil_append, List.append_nil]
  exact nd0

theorem laws_eqAcct_c {w : World} {xs ys : List Value} {dx dy : List D0} (h : Reps w xs dx) (k : Reps w ys dy) (hc : dx.map D0.code = [.str, .str, .bool, .ints]) (kc : dy.map D0.code = [.str, .str, .bool, .ints]) :
    Ret P n_laws_eqAcct [.agg ⟨xs⟩, .agg ⟨ys⟩] w fun v w' => v = .bool (decide (dx = dy)) ∧ Ext w w' := by
  obtain ⟨a0, us, es, hv, hd, h2, hc2⟩ := h.str hc
  subst hv; subst hd
  clear h hc
  have h := h2; have hc := hc2; clear h2 hc2
  obtain ⟨a1, us, es, hv, hd, h2, hc2⟩ := h.str hc
  subst hv; subst hd
  clear h hc
  have h := h2; have hc := hc2; clear h2 hc2
  obtain ⟨a2, us, es, hv, hd, h2, hc2⟩ := h.bool hc
  subst hv; subst hd
  clear h hc
  have h := h2; have hc := hc2; clear h2 hc2
  obtain ⟨a3p, a3n, a3c, a3z, us, es, hv, hd, a3h, h2, hc2⟩ := h.ints hc
  subst hv; subst hd
  clear h hc
  have h := h2; have hc := hc2; clear h2 hc2
  obtain ⟨hv, hd⟩ := h.done hc
  subst hv; subst hd; clear h hc
  obtain ⟨bb0, us, es, hv, hd, k2, kc2⟩ := k.str kc
  subst hv; subst hd
  clear k kc
  have k := k2; have kc := kc2; clear k2 kc2
  obtain ⟨bb1, us, es, hv, hd, k2, kc2⟩ := k.str kc
  subst hv; subst hd
  clear k kc
  have k := k2; have kc := kc2; clear k2 kc2
  obtain ⟨bb2, us, es, hv, hd, k2, kc2⟩ := k.bool kc
  subst hv; subst hd
  clear k kc
  have k := k2; have kc := kc2; clear k2 kc2
  obtain ⟨bb3p, bb3n, bb3c, bb3z, us, es, hv, hd, bb3h, k2, kc2⟩ := k.ints kc
  subst hv; subst hd
  clear k kc
  have k := k2; have kc := kc2; clear k2 kc2
  obtain ⟨hv, hd⟩ := k.done kc
  subst hv; subst hd; clear k kc
  refine laws_eqAcct_ret ?_
  unfold laws_eqAcct
  intro r w1 hn1 r1 w2 hn2
  have x := hn1.ext.trans hn2.ext
  have b0 := hn1.blk.ext hn2.ext
  have b1 := hn2.blk
  refine ⟨_, b0.load (by kernel_rfl) rfl, _, b1.load (by kernel_rfl) rfl, ?_⟩
  refine ifD (fun hne => ⟨dec_no (fun e => ?_), x⟩) (fun heq => ?_)
  · have e2 := congrArg (fun l : List D0 => (l.drop 0).take 1) e
    simp at e2; exact hne e2
  have heq : a0 = bb0 := by simpa using heq
  subst heq
  have ha : Reps w [.string a1, .bool a2, .slice a3p a3n a3c] [.str a1, .bool a2, .ints a3z] := ⟨rfl, ⟨rfl, ⟨⟨_, _, _, rfl, a3h⟩, trivial⟩⟩⟩
  have hb : Reps w [.string bb1, .bool bb2, .slice bb3p bb3n bb3c] [.str bb1, .bool bb2, .ints bb3z] := ⟨rfl, ⟨rfl, ⟨⟨_, _, _, rfl, bb3h⟩, trivial⟩⟩⟩
  refine ⟨_, _, _, _, _, b0.loadA (xs := [.string a1, .bool a2, .slice a3p a3n a3c]) (by kernel_rfl) rfl, _, _, _, _, _, b1.loadA (xs := [.string bb1, .bool bb2, .slice bb3p bb3n bb3c]) (by kernel_rfl) rfl, ?_⟩
  refine Ret.at (laws_eqMoney_c (ha.ext x) (hb.ext x) rfl rfl) ?_
  rintro v w3 ⟨hv, y⟩
  subst hv
  have x := x.trans y; have b0 := b0.ext y; have b1 := b1.ext y
  refine ⟨_, rfl, ifN (fun hne => ⟨dec_no (fun e => ?_), x⟩) (fun heq => ?_)⟩
  · have e2 := congrArg (fun l : List D0 => (l.drop 1).take 3) e
    exact of_decide_eq_false hne e2
  have heq := of_decide_eq_true heq
  cases heq
  exact ⟨dec_yes rfl, x⟩

theorem laws_szAcctS_c {w : World} {p : Option Addr} {n c : Nat} {l : List (List D0)} (h : RowsR w 4 p n c l) (hc : ∀ x ∈ l, x.map D0.code = [.str, .str, .bool, .ints]) (hok : ∀ x ∈ l, ∀ d ∈ x, d.ok) {left : Int} (h0 : 0 ≤ left) (h1 : left ≤ 1048576) :
    Ret P n_laws_szAcctS [.slice p n c, .int .i64 left] w fun v w' => ∃ r : Int, v = .int .i64 r ∧ (0 ≤ r → r + n + ((l.map bulks).sum : Nat) ≤ left) ∧ r ≤ 1048576 ∧ Ext w w' := by
  refine laws_szAcctS_ret ?_
  unfold laws_szAcctS
  have hlen := h.1; have hcap := h.2.1; have hcm := h.2.2.1
  refine exW ⟨by omega, by omega⟩ (ifD (fun hl => ⟨_, rfl, by omega, by omega, Ext.refl _⟩) (fun hl => ?_))
  refine ⟨fun lf i wr => ∃ j : Nat, i = j ∧ j ≤ n ∧ Ext w wr ∧ 0 ≤ lf ∧ lf ≤ 1048576 ∧ lf + n + (((l.take j).map bulks).sum : Nat) ≤ left, fun _ i _ => n - i.toNat, ⟨0, rfl, by omega, Ext.refl _, by omega, by omega, by simp <;> omega⟩, ?_⟩
  intro junk wr lf i ⟨j, hij, hj, hx, hl0, hl1, hle⟩
  subst hij
  refine ifD (fun hlt => ?_) (fun hge => ?_)
  · have hjn : j < n := by omega
    obtain ⟨a, cs, hp, hk, hr, hld⟩ := (h.ext hx).at (P := P) (t := T_laws_Acct) (by kernel_rfl) hjn
    subst hp
    have hjl : j < l.length := by omega
    have hm : l[j] ∈ l := List.getElem_mem hjl
    have hcode := hc _ hm
    have hrr := hr
    obtain ⟨a0, us, esa0, hv, hd, hrx, hcodex⟩ := hr.str hcode
    subst hv; clear hd
    obtain ⟨a1, us, esa1, hv, hd, hrxx, hcodexx⟩ := hrx.str hcodex
    subst hv; clear hd
    obtain ⟨a2, us, esa2, hv, hd, hrxxx, hcodexxx⟩ := hrxx.bool hcodexx
    subst hv; clear hd
    obtain ⟨a3p, a3n, a3c, a3z, us, esa3, hv, hd, a3h, hrxxxx, hcodexxxx⟩ := hrxxx.ints hcodexxx
    subst hv; clear hd
    obtain ⟨hv, hd⟩ := hrxxxx.done hcodexxxx
    subst hv; clear hd
    refine ⟨⟨by omega, by omega⟩, _, _, _, _, _, _, by simpa using hld, ?_⟩
    refine Ret.at (laws_szAcct_c hrr (hc _ hm) (hok _ hm) hl0 hl1) ?_
    rintro v w2 ⟨t, hv, ht, htm, hy⟩
    subst hv
    refine ⟨_, rfl, ifD (fun hl => ⟨_, rfl, by omega, by omega, hx.trans hy⟩) (fun hl => ?_)⟩
    refine exW ⟨by omega, by omega⟩ ⟨⟨j + 1, by omega, by omega, hx.trans hy, by omega, by omega, ?_⟩, by simp; omega⟩
    rw [List.take_add_one, List.getElem?_eq_getElem hjl]
    have := ht (by omega)
    simp only [Option.toList_some, List.map_append, List.map_cons, List.map_nil, List.sum_append, List.sum_cons, List.sum_nil]
    omega
  · have hjn : j = n := by omega
    subst hjn
    rw [List.take_of_length_le (by omega)] at hle
    exact ⟨_, rfl, by omega, by omega, hx⟩

theorem laws_toAcctS_c {w : World} {p : Option Addr} {n c : Nat} {l : List (List D0)} (h : RowsR w 4 p n c l) (hc : ∀ x ∈ l, x.map D0.code = [.str, .str, .bool, .ints]) (hn : n ≤ 1048576) (hb : ∀ x ∈ l, bulks x ≤ 1048576) :
    Ret P n_laws_toAcctS [.slice p n c] w fun v w' => ∃ p' c' f, v = .slice p' n c' ∧ OwnRows w' w.heap.size T_impl_Acct 4 p' n c' l f ∧ Ext w w' := by
  refine laws_toAcctS_ret ?_
  unfold laws_toAcctS
  refine ⟨⟨by omega, by omega, by omega⟩, fun r w1 hnew => ?_⟩
  have hlen := h.1; have er := hnew.r_eq; have es := hnew.size
  refine ⟨fun i wr => ∃ (j : Nat) (css : List (List Value)) (fs : List (List Nat)) (xs : List Value), i = j ∧ j ≤ n ∧ Ext w wr ∧ w1.heap.size ≤ wr.heap.size ∧ AllO wr w1.heap.size 4 css (l.take j) fs ∧ fs.flatten.Nodup ∧ Blk wr r T_impl_Acct xs ∧ xs.length = n * 4 ∧ xs.take (j * 4) = css.flatten, fun i _ => n - i.toNat, ⟨0, [], [], _, rfl, by omega, hnew.ext, Nat.le_refl _, trivial, List.nodup_nil, hnew.blk, by simp [zeroRow], by simp⟩, ?_⟩
  intro junk wr i ⟨j, css, fs, xs, hij, hj, hx, hsz, ha, hnd, hbk, hxl, hxt⟩
  subst hij
  refine ifD (fun hlt => ?_) (fun hge => ?_)
  · have hjn : j < n := by omega
    obtain ⟨a, cs, hp, hk, hr, hl⟩ := (h.ext hx).at (P := P) (t := T_laws_Acct) (by kernel_rfl) hjn
    subst hp
    have hjl : j < l.length := by omega
    have hm : l[j] ∈ l := List.getElem_mem hjl
    have hcode := hc _ hm; have hbl := hb _ hm
    have hrr := hr
    obtain ⟨a0, us, esa0, hv, hd, hrx, hcodex⟩ := hr.str hcode
    subst hv; clear hd
    obtain ⟨a1, us, esa1, hv, hd, hrxx, hcodexx⟩ := hrx.str hcodex
    subst hv; clear hd
    obtain ⟨a2, us, esa2, hv, hd, hrxxx, hcodexxx⟩ := hrxx.bool hcodexx
    subst hv; clear hd
    obtain ⟨a3p, a3n, a3c, a3z, us, esa3, hv, hd, a3h, hrxxxx, hcodexxxx⟩ := hrxxx.ints hcodexxx
    subst hv; clear hd
    obtain ⟨hv, hd⟩ := hrxxxx.done hcodexxxx
    subst hv; clear hd
    refine ⟨⟨by omega, by omega⟩, _, _, _, _, _, _, by simpa using hl, ?_⟩
    refine Ret.at (laws_toAcct_c hrr (hc _ hm) hbl) ?_
    rintro v w2 ⟨vs, f, hv, ho, hnf, hy⟩
    subst hv
    have ho2 := ho.reps; have hoc := hc _ hm
    obtain ⟨b0, us, esb0, hv, hd, ho2x, hocx⟩ := ho2.str hoc
    subst hv; clear hd
    obtain ⟨b1, us, esb1, hv, hd, ho2xx, hocxx⟩ := ho2x.str hocx
    subst hv; clear hd
    obtain ⟨b2, us, esb2, hv, hd, ho2xxx, hocxxx⟩ := ho2xx.bool hocxx
    subst hv; clear hd
    obtain ⟨b3p, b3n, b3c, b3z, us, esb3, hv, hd, b3h, ho2xxxx, hocxxxx⟩ := ho2xxx.ints hocxxx
    subst hv; clear hd
    obtain ⟨hv, hd⟩ := ho2xxxx.done hocxxxx
    subst hv; clear hd
    have hcl : ([.string b0, .string b1, .bool b2, .slice b3p b3n b3c] : List Value).length = 4 := rfl
    have hfr := fill_row hxl hxt hcl hjn
    obtain ⟨w3, hst, hb3, hch, hs3⟩ := (hbk.ext hy).storeA (P := P) (t := T_impl_Acct) (k := j * 4) (by kernel_rfl) hfr.1 ho.reps.cells1
    have hrf : ∀ q ∈ f, q ∉ [r] := fun q hq hm => by have := (ho.lt q hq).1; simp at hm; omega
    have hrs : ∀ q ∈ fs.flatten, q ∉ [r] := fun q hq hm => by have := (ha.lt q hq).1; simp at hm; omega
    refine ⟨_, _, _, _, _, _, rfl, ⟨by omega, by omega⟩, w3, by simpa using hst, exW ⟨by omega, by omega⟩ ⟨⟨j + 1, css ++ [[.string b0, .string b1, .bool b2, .slice b3p b3n b3c]], fs ++ [f], _, by omega, by omega, (hx.trans hy).chg hch (by simp; omega), by have := hy.le; omega, ?_, ?_, hb3, hfr.2.1, hfr.2.2⟩, by simp; omega⟩⟩
    · rw [List.take_add_one, List.getElem?_eq_getElem hjl]
      exact ((ha.ext hy).chg hch hrs).snoc hcl ((ho.mono hsz).chg hch hrf)
    · rw [List.flatten_append]
      exact nodup_append (m := wr.heap.size) hnd (by simpa using hnf) (fun q hq => (ha.lt q hq).2) (fun q hq => (ho.lt q (by simpa using hq)).1)
  · have hjn : j = n := by omega
    subst hjn
    rw [List.take_of_length_le (by omega)] at ha hxt
    subst hxt
    refine ⟨_, _, _, rfl, ⟨by omega, css, fs, ha.mono (by omega), Own.of_blk hbk (by omega) hxl (by simp only [maxLen]; omega), rfl, ?_⟩, hx⟩
    refine nodup_append (m := w1.heap.size) (by simp) hnd (fun q hq => ?_) (fun q hq => (ha.lt q hq).1)
    simp at hq; omega

theorem laws_eqAcctS_c {w : World} {p q : Option Addr} {n c m d : Nat} {l s : List (List D0)} (h : RowsR w 4 p n c l) (k : RowsR w 4 q m d s) (hc : ∀ x ∈ l, x.map D0.code = [.str, .str, .bool, .ints]) (kc : ∀ x ∈ s, x.map D0.code = [.str, .str, .bool, .ints]) :
    Ret P n_laws_eqAcctS [.slice p n c, .slice q m d] w fun v w' => v = .bool (decide (l = s)) ∧ Ext w w' := by
  refine laws_eqAcctS_ret ?_
  unfold laws_eqAcctS
  have hz := h.1; have hy := k.1; have hcap := h.2.1; have hcm := h.2.2.1
  refine ifD (fun hne => ⟨dec_no (fun e => hne (by rw [← hz, ← hy, e])), Ext.refl _⟩) (fun heq => ?_)
  have hnm : n = m := by omega
  refine ⟨fun i wr => ∃ j : Nat, i = j ∧ j ≤ n ∧ Ext w wr ∧ l.take j = s.take j, fun i _ => n - i.toNat, ⟨0, rfl, by omega, Ext.refl _, by simp⟩, ?_⟩
  intro junk wr i ⟨j, hij, hj, hx, he⟩
  subst hij
  refine ifD (fun hlt => ?_) (fun hge => ⟨?_, hx⟩)
  · have hjn : j < n := by omega
    have hx' := hx.trans (Ext.drew wr)
    have hjl : j < l.length := by omega
    have hjs : j < s.length := by omega
    obtain ⟨kb1, ko1, hp, hs1⟩ := (h.ext hx').2.2.2 (by omega)
    obtain ⟨cs, hk, hr, hg1⟩ := hs1 j _ (List.getElem?_eq_getElem hjl)
    obtain ⟨kb2, ko2, hq, hs2⟩ := (k.ext hx').2.2.2 (by omega)
    obtain ⟨ds, hk2, hr2, hg2⟩ := hs2 j _ (List.getElem?_eq_getElem hjs)
    subst hp; subst hq
    have hrr := hr; have hrr2 := hr2
    have hc1 := hc _ (List.getElem_mem hjl); have hc2 := kc _ (List.getElem_mem hjs)
    obtain ⟨a0, us, esa0, hv, hd, hrx, hc1x⟩ := hr.str hc1
    subst hv; clear hd
    obtain ⟨a1, us, esa1, hv, hd, hrxx, hc1xx⟩ := hrx.str hc1x
    subst hv; clear hd
    obtain ⟨a2, us, esa2, hv, hd, hrxxx, hc1xxx⟩ := hrxx.bool hc1xx
    subst hv; clear hd
    obtain ⟨a3p, a3n, a3c, a3z, us, esa3, hv, hd, a3h, hrxxxx, hc1xxxx⟩ := hrxxx.ints hc1xxx
    subst hv; clear hd
    obtain ⟨hv, hd⟩ := hrxxxx.done hc1xxxx
    subst hv; clear hd
    obtain ⟨b0, us, esb0, hv, hd, hr2x, hc2x⟩ := hr2.str hc2
    subst hv; clear hd
    obtain ⟨b1, us, esb1, hv, hd, hr2xx, hc2xx⟩ := hr2x.str hc2x
    subst hv; clear hd
    obtain ⟨b2, us, esb2, hv, hd, hr2xxx, hc2xxx⟩ := hr2xx.bool hc2xx
    subst hv; clear hd
    obtain ⟨b3p, b3n, b3c, b3z, us, esb3, hv, hd, b3h, hr2xxxx, hc2xxxx⟩ := hr2xxx.ints hc2xxx
    subst hv; clear hd
    obtain ⟨hv, hd⟩ := hr2xxxx.done hc2xxxx
    subst hv; clear hd
    have l1 : ∀ w', Ext wr.drew w' → Loads P T_impl_Acct ((⟨kb1, ko1, none⟩ : Addr).add ((j : Int).toNat * 4)) (.agg ⟨[.string a0, .string a1, .bool a2, .slice a3p a3n a3c]⟩) w' := fun w' hw => by
      rw [addr_add]; exact loadsA (by kernel_rfl) (by simpa using hg1.ext hw)
    have l2 : ∀ w', Ext wr.drew w' → Loads P T_impl_Acct ((⟨kb2, ko2, none⟩ : Addr).add ((j : Int).toNat * 4)) (.agg ⟨[.string b0, .string b1, .bool b2, .slice b3p b3n b3c]⟩) w' := fun w' hw => by
      rw [addr_add]; exact loadsA (by kernel_rfl) (by simpa using hg2.ext hw)
    refine ⟨⟨by omega, by omega⟩, _, _, _, _, _, _, l1, ⟨by omega, by omega⟩, _, _, _, _, _, _, l2, ?_⟩
    refine Ret.at (laws_eqAcct_c hrr hrr2 (hc _ (List.getElem_mem hjl)) (kc _ (List.getElem_mem hjs))) ?_
    rintro v w2 ⟨hv, hy2⟩
    subst hv
    refine ⟨_, rfl, ifN (fun hne => ⟨dec_no (fun e => ?_), hx'.trans hy2⟩) (fun heq2 => ?_)⟩
    · exact of_decide_eq_false hne (by subst e; rfl)
    · have e2 := of_decide_eq_true heq2
      refine exW ⟨by omega, by omega⟩ ⟨⟨j + 1, by omega, by omega, hx'.trans hy2, ?_⟩, by simp; omega⟩
      rw [List.take_add_one, List.take_add_one, he, List.getElem?_eq_getElem hjl, List.getElem?_eq_getElem hjs, e2]
  · have hjn : j = n := by omega
    subst hjn
    rw [List.take_of_length_le (by omega), List.take_of_length_le (by omega)] at he
    exact dec_yes he

theorem open_Leg {w : World} {vs : List Value} {ds : List D0} (h : Reps w vs ds) (hc : ds.map D0.code = [.str, .str, .bool, .ints]) :
    ∃ (a0 : ByteArray) (a1 : ByteArray) (a2 : Bool) (a3p : Option Addr) (a3n a3c : Nat) (a3z : List Int), vs = [.string a0, .string a1, .bool a2, .slice a3p a3n a3c] ∧ ds = [.str a0, .str a1, .bool a2, .ints a3z] ∧ IntsR w a3p a3n a3c a3z := by
  obtain ⟨b0, us, es, hv, hd, h2, hc2⟩ := h.str hc
  subst hv; subst hd
  clear h hc
  have h := h2; have hc := hc2; clear h2 hc2
  obtain ⟨b1, us, es, hv, hd, h2, hc2⟩ := h.str hc
  subst hv; subst hd
  clear h hc
  have h := h2; have hc := hc2; clear h2 hc2
  obtain ⟨b2, us, es, hv, hd, h2, hc2⟩ := h.bool hc
  subst hv; subst hd
  clear h hc
  have h := h2; have hc := hc2; clear h2 hc2
  obtain ⟨b3p, b3n, b3c, b3z, us, es, hv, hd, b3h, h2, hc2⟩ := h.ints hc
  subst hv; subst hd
  clear h hc
  have h := h2; have hc := hc2; clear h2 hc2
  obtain ⟨hv, hd⟩ := h.done hc
  subst hv; subst hd; clear h hc
  exact ⟨_, _, _, _, _, _, _, rfl, rfl, b3h⟩

theorem laws_szLeg_c {w : World} {vs : List Value} {ds : List D0} (h : Reps w vs ds) (hc : ds.map D0.code = [.str, .str, .bool, .ints]) (hok : ∀ d ∈ ds, d.ok) {left : Int} (h0 : 0 ≤ left) (h1 : left ≤ 1048576) :
    Ret P n_laws_szLeg [.agg ⟨vs⟩, .int .i64 left] w fun v w' => ∃ r : Int, v = .int .i64 r ∧ (0 ≤ r → r + bulks ds ≤ left) ∧ r ≤ 1048576 ∧ Ext w w' := by
  obtain ⟨a0, us, es, hv, hd, h2, hc2⟩ := h.str hc
  subst hv; subst hd
  clear h hc
  have h := h2; have hc := hc2; clear h2 hc2
  obtain ⟨a1, us, es, hv, hd, h2, hc2⟩ := h.str hc
  subst hv; subst hd
  clear h hc
  have h := h2; have hc := hc2; clear h2 hc2
  obtain ⟨a2, us, es, hv, hd, h2, hc2⟩ := h.bool hc
  subst hv; subst hd
  clear h hc
  have h := h2; have hc := hc2; clear h2 hc2
  obtain ⟨a3p, a3n, a3c, a3z, us, es, hv, hd, a3h, h2, hc2⟩ := h.ints hc
  subst hv; subst hd
  clear h hc
  have h := h2; have hc := hc2; clear h2 hc2
  obtain ⟨hv, hd⟩ := h.done hc
  subst hv; subst hd; clear h hc
  simp only [List.mem_cons, List.not_mem_nil, or_false, forall_eq_or_imp, forall_eq, D0.ok] at hok
  have a3l := a3h.1; have a3k := a3h.2.1; have a3m := a3h.2.2.1
  simp only [bulks, D0.bulk, List.map_cons, List.map_nil, List.sum_cons, List.sum_nil]
  refine laws_szLeg_ret ?_
  unfold laws_szLeg
  intro r w1 hn1
  have x := hn1.ext; have b0 := hn1.blk
  refine ⟨_, b0.load (by kernel_rfl) rfl, exW ⟨by omega, by omega⟩ (ifD (fun hl => ⟨_, rfl, by omega, by omega, x⟩) (fun hl => ?_))⟩
  have hr : Reps w [.string a1, .bool a2, .slice a3p a3n a3c] [.str a1, .bool a2, .ints a3z] := ⟨rfl, ⟨rfl, ⟨⟨_, _, _, rfl, a3h⟩, trivial⟩⟩⟩
  refine ⟨_, _, _, _, _, b0.loadA (xs := [.string a1, .bool a2, .slice a3p a3n a3c]) (by kernel_rfl) rfl, ?_⟩
  refine Ret.at (laws_szMoney_c (hr.ext x) rfl (by simp only [List.mem_cons, List.not_mem_nil, or_false, forall_eq_or_imp, forall_eq, D0.ok]; simp only [hok, and_self]) (by omega) (by omega)) ?_
  rintro v w2 ⟨k0, hv, hk0, hm0, y⟩
  simp only [bulks, D0.bulk, List.map_cons, List.map_nil, List.sum_cons, List.sum_nil] at hk0
  subst hv
  have x := x.trans y; have b0 := b0.ext y
  refine ⟨_, rfl, ifD (fun hl => ⟨_, rfl, by omega, by omega, x⟩) (fun hl => ?_)⟩
  exact ⟨_, rfl, by omega, by omega, x⟩

theorem laws_toLeg_c {w : World} {vs : List Value} {ds : List D0} (h : Reps w vs ds) (hc : ds.map D0.code = [.str, .str, .bool, .ints]) (hb : bulks ds ≤ 1048576) :
    Ret P n_laws_toLeg [.agg ⟨vs⟩] w fun v w' => ∃ vs' f, v = .agg ⟨vs'⟩ ∧ Owns w' w.heap.size vs' ds f ∧ f.Nodup ∧ Ext w w' := by
  obtain ⟨a0, us, es, hv, hd, h2, hc2⟩ := h.str hc
  subst hv; subst hd
  clear h hc
  have h := h2; have hc := hc2; clear h2 hc2
  obtain ⟨a1, us, es, hv, hd, h2, hc2⟩ := h.str hc
  subst hv; subst hd
  clear h hc
  have h := h2; have hc := hc2; clear h2 hc2
  obtain ⟨a2, us, es, hv, hd, h2, hc2⟩ := h.bool hc
  subst hv; subst hd
  clear h hc
  have h := h2; have hc := hc2; clear h2 hc2
  obtain ⟨a3p, a3n, a3c, a3z, us, es, hv, hd, a3h, h2, hc2⟩ := h.ints hc
  subst hv; subst hd
  clear h hc
  have h := h2; have hc := hc2; clear h2 hc2
  obtain ⟨hv, hd⟩ := h.done hc
  subst hv; subst hd; clear h hc
  simp only [bulks, D0.bulk, List.map_cons, List.map_nil, List.sum_cons, List.sum_nil] at hb
  have a3l := a3h.1
  refine laws_toLeg_ret ?_
  unfold laws_toLeg
  intro r w1 hn1 r1 w2 hn2 r2 w3 hn3
  have x := (hn1.ext.trans hn2.ext).trans hn3.ext
  have b0 := (hn1.blk.ext hn2.ext).ext hn3.ext
  have b1 := hn2.blk.ext hn3.ext
  have b2 := hn3.blk
  have e1 := hn1.r_eq; have e2 := hn2.r_eq; have e3 := hn3.r_eq; have s1 := hn1.size; have s2 := hn2.size; have s3 := hn3.size
  obtain ⟨w4, st, b2', ch, sz⟩ := b2.store (P := P) (t := T_string) (k := 0) (v := .string a0) (by kernel_rfl) (by simp) rfl
  refine ⟨_, b0.load (by kernel_rfl) rfl, _, st, ?_⟩
  have x := x.chg ch (by simp; omega); have b0 := b0.chg ch (by simp; omega); have b1 := b1.chg ch (by simp; omega)
  have b2 : Blk w4 r2 _ [.string a0, .string ByteArray.empty, .bool false, .slice none 0 0] := b2'
  clear b2'
  have hr : Reps w [.string a1, .bool a2, .slice a3p a3n a3c] [.str a1, .bool a2, .ints a3z] := ⟨rfl, ⟨rfl, ⟨⟨_, _, _, rfl, a3h⟩, trivial⟩⟩⟩
  refine ⟨_, _, _, _, _, b0.loadA (xs := [.string a1, .bool a2, .slice a3p a3n a3c]) (by kernel_rfl) rfl, ?_⟩
  refine Ret.at (laws_toMoney_c (hr.ext x) rfl (by simp only [bulks, D0.bulk, List.map_cons, List.map_nil, List.sum_cons, List.sum_nil]; omega)) ?_
  rintro v w5 ⟨us0, f0, hv, o0, nd0, y⟩
  subst hv
  have hq := o0.reps; have hqc : ([.str a1, .bool a2, .ints a3z] : List D0).map D0.code = [.str, .bool, .ints] := rfl
  obtain ⟨q00, us, es, hv, hd, hq2, hqc2⟩ := hq.str hqc
  subst hv; cases hd; clear hq hqc; have hq := hq2; have hqc := hqc2; clear hq2 hqc2
  obtain ⟨q01, us, es, hv, hd, hq2, hqc2⟩ := hq.bool hqc
  subst hv; cases hd; clear hq hqc; have hq := hq2; have hqc := hqc2; clear hq2 hqc2
  obtain ⟨q02p, q02n, q02c, q02z, us, es, hv, hd, q02h, hq2, hqc2⟩ := hq.ints hqc
  subst hv; cases hd; clear hq hqc; have hq := hq2; have hqc := hqc2; clear hq2 hqc2
  obtain ⟨hv, _⟩ := hq.done hqc; subst hv; clear hq hqc
  refine ⟨_, _, _, _, _, rfl, ?_⟩
  have l0 : ∀ k ∈ _, k < w5.heap.size := fun k hk => (o0.lt k hk).2
  have y0 := y.le; have b0 := b0.ext y; have b1 := b1.ext y; have b2 := b2.ext y; have x := x.trans y
  obtain ⟨w6, st, b2', ch, sz⟩ := b2.storeA (P := P) (t := T_impl_Money) (k := 1) (xs := [.string a1, .bool a2, .slice q02p q02n q02c]) (by kernel_rfl) (by simp) o0.reps.cells1
  refine ⟨_, st, ?_⟩
  have x := x.chg ch (by simp; omega); have b0 := b0.chg ch (by simp; omega); have b1 := b1.chg ch (by simp; omega)
  have b2 : Blk w6 r2 _ [.string a0, .string a1, .bool a2, .slice q02p q02n q02c] := b2'
  clear b2'
  have o0 := o0.chg1 ch (by omega)
  refine ⟨_, _, _, _, _, _, b2.loadA0 (by kernel_rfl), ?_⟩
  have ow : Owns w6 w.heap.size [.string a0, .string a1, .bool a2, .slice q02p q02n q02c] [.str a0, .str a1, .bool a2, .ints a3z] ([] ++ f0) := Owns.append (Owns.str _ _ a0) (o0.mono (by omega))
  obtain ⟨w7, st, b1', ch, sz⟩ := b1.storeA0 (P := P) (t := T_impl_Leg) (xs := [.string a0, .string a1, .bool a2, .slice q02p q02n q02c]) (by kernel_rfl) rfl ow.reps.cells1
  refine ⟨_, st, _, _, _, _, _, _, b1'.loadA0 (by kernel_rfl), [.string a0, .string a1, .bool a2, .slice q02p q02n q02c], ([] ++ f0), rfl, Owns.append (Owns.str _ _ a0) ((o0.chg1 ch (by omega)).mono (by omega)), ?_, x.chg ch (by simp; omega)⟩
  try simp only [List.nil_append, List.append_nil]
  exact nd0

theorem laws_eqLeg_c {w : World} {xs ys : List Value} {dx dy : List D0} (h : Reps w xs dx) (k : Reps w ys dy) (hc : dx.map D0.code = [.str, .str, .bool, .ints]) (kc : dy.map D0.code = [.str, .str, .bool, .ints]) :
    Ret P n_laws_eqLeg [.agg ⟨xs⟩, .agg ⟨ys⟩] w fun v w' => v = .bool (decide (dx = dy)) ∧ Ext w w' := by
  obtain ⟨a0, us, es, hv, hd, h2, hc2⟩ := h.str hc
  subst hv; subst hd
  clear h hc
  have h := h2; have hc := hc2; clear h2 hc2
  obtain ⟨a1, us, es, hv, hd, h2, hc2⟩ := h.str hc
  subst hv; subst hd
  clear h hc
  have h := h2; have hc := hc2; clear h2 hc2
  obtain ⟨a2, us, es, hv, hd, h2, hc2⟩ := h.bool hc
  subst hv; subst hd
  clear h hc
  have h := h2; have hc := hc2; clear h2 hc2
  obtain ⟨a3p, a3n, a3c, a3z, us, es, hv, hd, a3h, h2, hc2⟩ := h.ints hc
  subst hv; subst hd
  clear h hc
  have h := h2; have hc := hc2; clear h2 hc2
  obtain ⟨hv, hd⟩ := h.done hc
  subst hv; subst hd; clear h hc
  obtain ⟨bb0, us, es, hv, hd, k2, kc2⟩ := k.str kc
  subst hv; subst hd
  clear k kc
  have k := k2; have kc := kc2; clear k2 kc2
  obtain ⟨bb1, us, es, hv, hd, k2, kc2⟩ := k.str kc
  subst hv; subst hd
  clear k kc
  have k := k2; have kc := kc2; clear k2 kc2
  obtain ⟨bb2, us, es, hv, hd, k2, kc2⟩ := k.bool kc
  subst hv; subst hd
  clear k kc
  have k := k2; have kc := kc2; clear k2 kc2
  obtain ⟨bb3p, bb3n, bb3c, bb3z, us, es, hv, hd, bb3h, k2, kc2⟩ := k.ints kc
  subst hv; subst hd
  clear k kc
  have k := k2; have kc := kc2; clear k2 kc2
  obtain ⟨hv, hd⟩ := k.done kc
  subst hv; subst hd; clear k kc
  refine laws_eqLeg_ret ?_
  unfold laws_eqLeg
  intro r w1 hn1 r1 w2 hn2
  have x := hn1.ext.trans hn2.ext
  have b0 := hn1.blk.ext hn2.ext
  have b1 := hn2.blk
  refine ⟨_, b0.load (by kernel_rfl) rfl, _, b1.load (by kernel_rfl) rfl, ?_⟩
  refine ifD (fun hne => ⟨dec_no (fun e => ?_), x⟩) (fun heq => ?_)
  · have e2 := congrArg (fun l : List D0 => (l.drop 0).take 1) e
    simp at e2; exact hne e2
  have heq : a0 = bb0 := by simpa using heq
  subst heq
  have ha : Reps w [.string a1, .bool a2, .slice a3p a3n a3c] [.str a1, .bool a2, .ints a3z] := ⟨rfl, ⟨rfl, ⟨⟨_, _, _, rfl, a3h⟩, trivial⟩⟩⟩
  have hb : Reps w [.string bb1, .bool bb2, .slice bb3p bb3n bb3c] [.str bb1, .bool bb2, .ints bb3z] := ⟨rfl, ⟨rfl, ⟨⟨_, _, _, rfl, bb3h⟩, trivial⟩⟩⟩
  refine ⟨_, _, _, _, _, b0.loadA (xs := [.string a1, .bool a2, .slice a3p a3n a3c]) (by kernel_rfl) rfl, _, _, _, _, _, b1.loadA (xs := [.string bb1, .bool bb2, .slice bb3p bb3n bb3c]) (by kernel_rfl) rfl, ?_⟩
  refine Ret.at (laws_eqMoney_c (ha.ext x) (hb.ext x) rfl rfl) ?_
  rintro v w3 ⟨hv, y⟩
  subst hv
  have x := x.trans y; have b0 := b0.ext y; have b1 := b1.ext y
  refine ⟨_, rfl, ifN (fun hne => ⟨dec_no (fun e => ?_), x⟩) (fun heq => ?_)⟩
  · have e2 := congrArg (fun l : List D0 => (l.drop 1).take 3) e
    exact of_decide_eq_false hne e2
  have heq := of_decide_eq_true heq
  cases heq
  exact ⟨dec_yes rfl, x⟩

theorem laws_szLegS_c {w : World} {p : Option Addr} {n c : Nat} {l : List (List D0)} (h : RowsR w 4 p n c l) (hc : ∀ x ∈ l, x.map D0.code = [.str, .str, .bool, .ints]) (hok : ∀ x ∈ l, ∀ d ∈ x, d.ok) {left : Int} (h0 : 0 ≤ left) (h1 : left ≤ 1048576) :
    Ret P n_laws_szLegS [.slice p n c, .int .i64 left] w fun v w' => ∃ r : Int, v = .int .i64 r ∧ (0 ≤ r → r + n + ((l.map bulks).sum : Nat) ≤ left) ∧ r ≤ 1048576 ∧ Ext w w' := by
  refine laws_szLegS_ret ?_
  unfold laws_szLegS
  have hlen := h.1; have hcap := h.2.1; have hcm := h.2.2.1
  refine exW ⟨by omega, by omega⟩ (ifD (fun hl => ⟨_, rfl, by omega, by omega, Ext.refl _⟩) (fun hl => ?_))
  refine ⟨fun lf i wr => ∃ j : Nat, i = j ∧ j ≤ n ∧ Ext w wr ∧ 0 ≤ lf ∧ lf ≤ 1048576 ∧ lf + n + (((l.take j).map bulks).sum : Nat) ≤ left, fun _ i _ => n - i.toNat, ⟨0, rfl, by omega, Ext.refl _, by omega, by omega, by simp <;> omega⟩, ?_⟩
  intro junk wr lf i ⟨j, hij, hj, hx, hl0, hl1, hle⟩
  subst hij
  refine ifD (fun hlt => ?_) (fun hge => ?_)
  · have hjn : j < n := by omega
    obtain ⟨a, cs, hp, hk, hr, hld⟩ := (h.ext hx).at (P := P) (t := T_laws_Leg) (by kernel_rfl) hjn
    subst hp
    have hjl : j < l.length := by omega
    have hm : l[j] ∈ l := List.getElem_mem hjl
    have hcode := hc _ hm
    have hrr := hr
    obtain ⟨a0, us, esa0, hv, hd, hrx, hcodex⟩ := hr.str hcode
    subst hv; clear hd
    obtain ⟨a1, us, esa1, hv, hd, hrxx, hcodexx⟩ := hrx.str hcodex
    subst hv; clear hd
    obtain ⟨a2, us, esa2, hv, hd, hrxxx, hcodexxx⟩ := hrxx.bool hcodexx
    subst hv; clear hd
    obtain ⟨a3p, a3n, a3c, a3z, us, esa3, hv, hd, a3h, hrxxxx, hcodexxxx⟩ := hrxxx.ints hcodexxx
    subst hv; clear hd
    obtain ⟨hv, hd⟩ := hrxxxx.done hcodexxxx
    subst hv; clear hd
    refine ⟨⟨by omega, by omega⟩, _, _, _, _, _, _, by simpa using hld, ?_⟩
    refine Ret.at (laws_szLeg_c hrr (hc _ hm) (hok _ hm) hl0 hl1) ?_
    rintro v w2 ⟨t, hv, ht, htm, hy⟩
    subst hv
    refine ⟨_, rfl, ifD (fun hl => ⟨_, rfl, by omega, by omega, hx.trans hy⟩) (fun hl => ?_)⟩
    refine exW ⟨by omega, by omega⟩ ⟨⟨j + 1, by omega, by omega, hx.trans hy, by omega, by omega, ?_⟩, by simp; omega⟩
    rw [List.take_add_one, List.getElem?_eq_getElem hjl]
    have := ht (by omega)
    simp only [Option.toList_some, List.map_append, List.map_cons, List.map_nil, List.sum_append, List.sum_cons, List.sum_nil]
    omega
  · have hjn : j = n := by omega
    subst hjn
    rw [List.take_of_length_le (by omega)] at hle
    exact ⟨_, rfl, by omega, by omega, hx⟩

theorem laws_toLegS_c {w : World} {p : Option Addr} {n c : Nat} {l : List (List D0)} (h : RowsR w 4 p n c l) (hc : ∀ x ∈ l, x.map D0.code = [.str, .str, .bool, .ints]) (hn : n ≤ 1048576) (hb : ∀ x ∈ l, bulks x ≤ 1048576) :
    Ret P n_laws_toLegS [.slice p n c] w fun v w' => ∃ p' c' f, v = .slice p' n c' ∧ OwnRows w' w.heap.size T_impl_Leg 4 p' n c' l f ∧ Ext w w' := by
  refine laws_toLegS_ret ?_
  unfold laws_toLegS
  refine ⟨⟨by omega, by omega, by omega⟩, fun r w1 hnew => ?_⟩
  have hlen := h.1; have er := hnew.r_eq; have es := hnew.size
  refine ⟨fun i wr => ∃ (j : Nat) (css : List (List Value)) (fs : List (List Nat)) (xs : List Value), i = j ∧ j ≤ n ∧ Ext w wr ∧ w1.heap.size ≤ wr.heap.size ∧ AllO wr w1.heap.size 4 css (l.take j) fs ∧ fs.flatten.Nodup ∧ Blk wr r T_impl_Leg xs ∧ xs.length = n * 4 ∧ xs.take (j * 4) = css.flatten, fun i _ => n - i.toNat, ⟨0, [], [], _, rfl, by omega, hnew.ext, Nat.le_refl _, trivial, List.nodup_nil, hnew.blk, by simp [zeroRow], by simp⟩, ?_⟩
  intro junk wr i ⟨j, css, fs, xs, hij, hj, hx, hsz, ha, hnd, hbk, hxl, hxt⟩
  subst hij
  refine ifD (fun hlt => ?_) (fun hge => ?_)
  · have hjn : j < n := by omega
    obtain ⟨a, cs, hp, hk, hr, hl⟩ := (h.ext hx).at (P := P) (t := T_laws_Leg) (by kernel_rfl) hjn
    subst hp
    have hjl : j < l.length := by omega
    have hm : l[j] ∈ l := List.getElem_mem hjl
    have hcode := hc _ hm; have hbl := hb _ hm
    have hrr := hr
    obtain ⟨a0, us, esa0, hv, hd, hrx, hcodex⟩ := hr.str hcode
    subst hv; clear hd
    obtain ⟨a1, us, esa1, hv, hd, hrxx, hcodexx⟩ := hrx.str hcodex
    subst hv; clear hd
    obtain ⟨a2, us, esa2, hv, hd, hrxxx, hcodexxx⟩ := hrxx.bool hcodexx
    subst hv; clear hd
    obtain ⟨a3p, a3n, a3c, a3z, us, esa3, hv, hd, a3h, hrxxxx, hcodexxxx⟩ := hrxxx.ints hcodexxx
    subst hv; clear hd
    obtain ⟨hv, hd⟩ := hrxxxx.done hcodexxxx
    subst hv; clear hd
    refine ⟨⟨by omega, by omega⟩, _, _, _, _, _, _, by simpa using hl, ?_⟩
    refine Ret.at (laws_toLeg_c hrr (hc _ hm) hbl) ?_
    rintro v w2 ⟨vs, f, hv, ho, hnf, hy⟩
    subst hv
    have ho2 := ho.reps; have hoc := hc _ hm
    obtain ⟨b0, us, esb0, hv, hd, ho2x, hocx⟩ := ho2.str hoc
    subst hv; clear hd
    obtain ⟨b1, us, esb1, hv, hd, ho2xx, hocxx⟩ := ho2x.str hocx
    subst hv; clear hd
    obtain ⟨b2, us, esb2, hv, hd, ho2xxx, hocxxx⟩ := ho2xx.bool hocxx
    subst hv; clear hd
    obtain ⟨b3p, b3n, b3c, b3z, us, esb3, hv, hd, b3h, ho2xxxx, hocxxxx⟩ := ho2xxx.ints hocxxx
    subst hv; clear hd
    obtain ⟨hv, hd⟩ := ho2xxxx.done hocxxxx
    subst hv; clear hd
    have hcl : ([.string b0, .string b1, .bool b2, .slice b3p b3n b3c] : List Value).length = 4 := rfl
    have hfr := fill_row hxl hxt hcl hjn
    obtain ⟨w3, hst, hb3, hch, hs3⟩ := (hbk.ext hy).storeA (P := P) (t := T_impl_Leg) (k := j * 4) (by kernel_rfl) hfr.1 ho.reps.cells1
    have hrf : ∀ q ∈ f, q ∉ [r] := fun q hq hm => by have := (ho.lt q hq).1; simp at hm; omega
    have hrs : ∀ q ∈ fs.flatten, q ∉ [r] := fun q hq hm => by have := (ha.lt q hq).1; simp at hm; omega
    refine ⟨_, _, _, _, _, _, rfl, ⟨by omega, by omega⟩, w3, by simpa using hst, exW ⟨by omega, by omega⟩ ⟨⟨j + 1, css ++ [[.string b0, .string b1, .bool b2, .slice b3p b3n b3c]], fs ++ [f], _, by omega, by omega, (hx.trans hy).chg hch (by simp; omega), by have := hy.le; omega, ?_, ?_, hb3, hfr.2.1, hfr.2.2⟩, by simp; omega⟩⟩
    · rw [List.take_add_one, List.getElem?_eq_getElem hjl]
      exact ((ha.ext hy).chg hch hrs).snoc hcl ((ho.mono hsz).chg hch hrf)
    · rw [List.flatten_append]
      exact nodup_append (m := wr.heap.size) hnd (by simpa using hnf) (fun q hq => (ha.lt q hq).2) (fun q hq => (ho.lt q (by simpa using hq)).1)
  · have hjn : j = n := by omega
    subst hjn
    rw [List.take_of_length_le (by omega)] at ha hxt
    subst hxt
    refine ⟨_, _, _, rfl, ⟨by omega, css, fs, ha.mono (by omega), Own.of_blk hbk (by omega) hxl (by simp only [maxLen]; omega), rfl, ?_⟩, hx⟩
    refine nodup_append (m := w1.heap.size) (by simp) hnd (fun q hq => ?_) (fun q hq => (ha.lt q hq).1)
    simp at hq; omega

theorem laws_eqLegS_c {w : World} {p q : Option Addr} {n c m d : Nat} {l s : List (List D0)} (h : RowsR w 4 p n c l) (k : RowsR w 4 q m d s) (hc : ∀ x ∈ l, x.map D0.code = [.str, .str, .bool, .ints]) (kc : ∀ x ∈ s, x.map D0.code = [.str, .str, .bool, .ints]) :
    Ret P n_laws_eqLegS [.slice p n c, .slice q m d] w fun v w' => v = .bool (decide (l = s)) ∧ Ext w w' := by
  refine laws_eqLegS_ret ?_
  unfold laws_eqLegS
  have hz := h.1; have hy := k.1; have hcap := h.2.1; have hcm := h.2.2.1
  refine ifD (fun hne => ⟨dec_no (fun e => hne (by rw [← hz, ← hy, e])), Ext.refl _⟩) (fun heq => ?_)
  have hnm : n = m := by omega
  refine ⟨fun i wr => ∃ j : Nat, i = j ∧ j ≤ n ∧ Ext w wr ∧ l.take j = s.take j, fun i _ => n - i.toNat, ⟨0, rfl, by omega, Ext.refl _, by simp⟩, ?_⟩
  intro junk wr i ⟨j, hij, hj, hx, he⟩
  subst hij
  refine ifD (fun hlt => ?_) (fun hge => ⟨?_, hx⟩)
  · have hjn : j < n := by omega
    have hx' := hx.trans (Ext.drew wr)
    have hjl : j < l.length := by omega
    have hjs : j < s.length := by omega
    obtain ⟨kb1, ko1, hp, hs1⟩ := (h.ext hx').2.2.2 (by omega)
    obtain ⟨cs, hk, hr, hg1⟩ := hs1 j _ (List.getElem?_eq_getElem hjl)
    obtain ⟨kb2, ko2, hq, hs2⟩ := (k.ext hx').2.2.2 (by omega)
    obtain ⟨ds, hk2, hr2, hg2⟩ := hs2 j _ (List.getElem?_eq_getElem hjs)
    subst hp; subst hq
    have hrr := hr; have hrr2 := hr2
    have hc1 := hc _ (List.getElem_mem hjl); have hc2 := kc _ (List.getElem_mem hjs)
    obtain ⟨a0, us, esa0, hv, hd, hrx, hc1x⟩ := hr.str hc1
    subst hv; clear hd
    obtain ⟨a1, us, esa1, hv, hd, hrxx, hc1xx⟩ := hrx.str hc1x
    subst hv; clear hd
    obtain ⟨a2, us, esa2, hv, hd, hrxxx, hc1xxx⟩ := hrxx.bool hc1xx
    subst hv; clear hd
    obtain ⟨a3p, a3n, a3c, a3z, us, esa3, hv, hd, a3h, hrxxxx, hc1xxxx⟩ := hrxxx.ints hc1xxx
    subst hv; clear hd
    obtain ⟨hv, hd⟩ := hrxxxx.done hc1xxxx
    subst hv; clear hd
    obtain ⟨b0, us, esb0, hv, hd, hr2x, hc2x⟩ := hr2.str hc2
    subst hv; clear hd
    obtain ⟨b1, us, esb1, hv, hd, hr2xx, hc2xx⟩ := hr2x.str hc2x
    subst hv; clear hd
    obtain ⟨b2, us, esb2, hv, hd, hr2xxx, hc2xxx⟩ := hr2xx.bool hc2xx
    subst hv; clear hd
    obtain ⟨b3p, b3n, b3c, b3z, us, esb3, hv, hd, b3h, hr2xxxx, hc2xxxx⟩ := hr2xxx.ints hc2xxx
    subst hv; clear hd
    obtain ⟨hv, hd⟩ := hr2xxxx.done hc2xxxx
    subst hv; clear hd
    have l1 : ∀ w', Ext wr.drew w' → Loads P T_impl_Leg ((⟨kb1, ko1, none⟩ : Addr).add ((j : Int).toNat * 4)) (.agg ⟨[.string a0, .string a1, .bool a2, .slice a3p a3n a3c]⟩) w' := fun w' hw => by
      rw [addr_add]; exact loadsA (by kernel_rfl) (by simpa using hg1.ext hw)
    have l2 : ∀ w', Ext wr.drew w' → Loads P T_impl_Leg ((⟨kb2, ko2, none⟩ : Addr).add ((j : Int).toNat * 4)) (.agg ⟨[.string b0, .string b1, .bool b2, .slice b3p b3n b3c]⟩) w' := fun w' hw => by
      rw [addr_add]; exact loadsA (by kernel_rfl) (by simpa using hg2.ext hw)
    refine ⟨⟨by omega, by omega⟩, _, _, _, _, _, _, l1, ⟨by omega, by omega⟩, _, _, _, _, _, _, l2, ?_⟩
    refine Ret.at (laws_eqLeg_c hrr hrr2 (hc _ (List.getElem_mem hjl)) (kc _ (List.getElem_mem hjs))) ?_
    rintro v w2 ⟨hv, hy2⟩
    subst hv
    refine ⟨_, rfl, ifN (fun hne => ⟨dec_no (fun e => ?_), hx'.trans hy2⟩) (fun heq2 => ?_)⟩
    · exact of_decide_eq_false hne (by subst e; rfl)
    · have e2 := of_decide_eq_true heq2
      refine exW ⟨by omega, by omega⟩ ⟨⟨j + 1, by omega, by omega, hx'.trans hy2, ?_⟩, by simp; omega⟩
      rw [List.take_add_one, List.take_add_one, he, List.getElem?_eq_getElem hjl, List.getElem?_eq_getElem hjs, e2]
  · have hjn : j = n := by omega
    subst hjn
    rw [List.take_of_length_le (by omega), List.take_of_length_le (by omega)] at he
    exact dec_yes he

end Go.Proofs.YtfbmjimhjlmhkaaDoor
