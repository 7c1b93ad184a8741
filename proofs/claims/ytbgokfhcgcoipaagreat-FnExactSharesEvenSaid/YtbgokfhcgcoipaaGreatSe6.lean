/-
  Parts of the proof of sharesEven_holds: CStepAt, CShareN, CShareP, CShareQ, CShareU, CShares, CSharesEven, WSharesEven.
  Conditions: none.
-/
import Derived.Test.YtbgokfhcgcoipaaGreatSe5
set_option linter.unusedVariables false
set_option linter.unusedSimpArgs false
namespace Go.RowKit
end Go.RowKit
namespace Go.Shelf
end Go.Shelf

namespace Go.Proofs.YtbgokfhcgcoipaaGreat
open Go Go.RowKit Go.Shelf Go.Proofs Go.Proofs.YtbgokfhcgcoipaaGreat.Sx
theorem spec_IntAbs_n {w : World} {xs : List Value} {b : Bool} {z : List Int} (h : Reps w xs [.bool b, .ints z]) (hok : intOk [.bool b, .ints z] = true) (hz : Canon z) :
    Ret P n_spec_IntAbs [.agg ⟨xs⟩] w fun v w' => ∃ vs f, v = .agg ⟨vs⟩ /\ Owns w' w.heap.size vs (enc (val z)) f /\ f.Nodup /\ Ext w w' := by
  have hr := h
  obtain ⟨a0, ap, an, ac, az, rfl, hd, ha⟩ := open_Signed h rfl
  cases hd
  refine spec_IntAbs_ret ?_
  unfold spec_IntAbs
  intro r w1 hn1 r1 w2 hn2
  have e1 := hn1.r_eq; have e2 := hn2.r_eq; have z1 := hn1.size; have z2 := hn2.size
  have X := hn1.ext.trans hn2.ext
  have q0 := hn1.blk.ext hn2.ext; have q1 := hn2.blk
  refine ⟨_, _, _, _, q0.loadA0 (by kernel_rfl), ?_⟩
  refine Ret.at (spec_IntOk_c (hr.ext X) rfl) ?_
  rintro v w3 ⟨hv, y3⟩
  subst hv
  rw [hok]
  refine ⟨_, rfl, ifN (fun hh => absurd hh (by simp)) (fun _ => ⟨_, _, _, (q0.ext y3).loadAt 1 rfl (by kernel_rfl) rfl, ?_⟩)⟩
  refine Ret.at (spec_l04Make_c (ha.ext (X.trans y3)) hz.1) ?_
  rintro v w4 ⟨bq, p5, n5, c5, hv, hbq, own5, y4⟩
  subst hv
  have hv0 := val_nonneg hz.1
  have hlen : z.length <= 50 := by
    obtain ⟨_, b', z', he, _, hl⟩ := intOk_enc hok
    simp only [List.cons.injEq, D0.bool.injEq, D0.ints.injEq, and_true] at he
    obtain ⟨_, rfl⟩ := he
    exact hl
  have hdz : digs (val z).toNat = z := digs_val hz
  have hcap : capL (digs (val z).toNat) = digs (val z).natAbs := by
    rw [show (val z).natAbs = (val z).toNat by omega, hdz]
    unfold capL
    rw [if_pos hlen]
  rw [hcap] at own5
  have hbq' : bq = decide (val z < 0) := by rw [hbq, Bool.false_and, decide_eq_false (by omega)]
  subst hbq'
  have l3 := y3.le
  have o5 : Owns w4 w3.heap.size [.bool (decide (val z < 0)), .slice p5 n5 c5] (enc (val z)) (p5.map (·.block)).toList := Owns.int2 (b := decide (val z < 0)) own5
  obtain ⟨W', st', hb', ch, _⟩ := ((q1.ext y3).ext y4).storeA0 (P := P) (t := T_impl_Signed) (xs := [.bool (decide (val z < 0)), .slice p5 n5 c5]) (by kernel_rfl) rfl (by simp [Value.oneCell'])
  exact ⟨_, _, _, _, rfl, W', st', _, _, _, _, hb'.loadA0 (by kernel_rfl), _, _, rfl, (o5.chg1 ch (by omega)).mono (by omega), nodup_opt p5, ((X.trans y3).trans y4).chg ch (by simp; omega)⟩
end Go.Proofs.YtbgokfhcgcoipaaGreat
namespace Go.Proofs.YtbgokfhcgcoipaaGreat
open Go Go.Proofs.YtbgokfhcgcoipaaGreat.Sx
theorem spec_IntSum_c {w : World} {p : Option Addr} {n c : Nat} {l : List (List D0)} (h : RowsR w 2 p n c l) (hc : ∀ x ∈ l, x.map D0.code = [.bool, .ints]) :
    Ret P n_spec_IntSum [.slice p n c] w fun v w' => ∃ vs' f, v = .agg ⟨vs'⟩ /\ Owns w' w.heap.size vs' (isum l) f /\ f.Nodup /\ Ext w w' := by
  refine spec_IntSum_ret ?_
  unfold spec_IntSum
  have hlen := h.1; have hcap := h.2.1; have hcm := h.2.2.1
  intro r0 w0 hn0 r w1 hn1
  have e0 := hn0.r_eq; have s0 := hn0.size
  have e1 := hn1.r_eq; have s1 := hn1.size
  obtain ⟨w2, st, hb2, y2⟩ := hn1.fill (P := P) (t := T_impl_Signed) (xs := [.bool false, .slice none 0 0]) (by simp [Value.oneCell']) (by kernel_rfl) rfl
  have nil0 : ∀ W B, Owns W B [.bool false, .slice none 0 0] (enc 0) [] := fun W B => own_sgn0 W B
  refine ⟨w2, st, fun i wr => ∃ (j : Nat) (cs : List Value) (f : List Nat), i = j /\ j <= n /\ Ext w wr /\ w1.heap.size <= wr.heap.size /\ Blk wr r0 T_impl_Signed [.bool false, .slice none 0 0] /\ Blk wr r T_impl_Signed cs /\ Owns wr w1.heap.size cs (isumGo (l.take j)) f /\ f.Nodup /\ ∀ k (hk : k < l.length), k < j -> intOk l[k] = true, fun i _ => n - i.toNat,
    ⟨0, _, _, rfl, by omega, hn0.ext.trans y2, by have := hb2.lt; omega, hn0.blk.ext y2, hb2, nil0 _ _, List.nodup_nil, fun k hk h => by omega⟩, ?_⟩
  intro junk wr i ⟨j, cs, f, hij, hj, hx, hsz, hb0, hblk, how, hnd0, hall⟩
  subst hij
  have hcode : (isumGo (l.take j)).map D0.code = [.bool, .ints] := (isumGo_ok _).2
  obtain ⟨q0, qp, qn, qc, qz, rfl, hq, hqi⟩ := open_Signed how.reps hcode
  refine ifD (fun hlt => ?_) (fun hge => ?_)
  · have hjn : j < n := by omega
    have hjl : j < l.length := by omega
    obtain ⟨a, ds, hp, hk, hr, hl⟩ := (h.ext hx).at (P := P) (t := T_impl_Signed) (by kernel_rfl) hjn
    subst hp
    have hrr := hr; have hcd := hc _ (List.getElem_mem hjl)
    obtain ⟨a1, a2p, a2n, a2c, a2z, rfl, hd, ha⟩ := open_Signed hr hcd
    refine ⟨⟨by omega, by omega⟩, _, _, _, _, by simpa using hl, ?_⟩
    intro r2 w3 hn3
    obtain ⟨w4, st4, hb4, y4⟩ := hn3.fill (P := P) (t := T_impl_Signed) hrr.cells1 (by kernel_rfl) rfl
    refine ⟨w4, st4, _, _, _, _, hb4.loadA0 (by kernel_rfl), ?_⟩
    refine Ret.at (spec_IntOk_c (hrr.ext y4) hcd) ?_
    rintro v w5 ⟨hv, y5⟩
    subst hv
    have x5 := (hx.trans y4).trans y5
    have l4 := y4.le; have l5 := y5.le
    refine ⟨_, rfl, ifN (fun hno => ?_) (fun hok => ?_)⟩
    · obtain ⟨w6, st6, hb6, ch, sz⟩ := ((hb0.ext y4).ext y5).storeA0 (P := P) (t := T_impl_Signed) (xs := [.bool false, .slice none 0 0]) (by kernel_rfl) rfl (by simp [Value.oneCell'])
      refine ⟨w6, st6, _, _, _, _, hb6.loadA0 (by kernel_rfl), _, _, rfl, ?_, List.nodup_nil, x5.chg ch (by simp; omega)⟩
      have : isum l = enc 0 := by
        have : l.all intOk = false := by
          rw [List.all_eq_false]
          exact ⟨_, List.getElem_mem hjl, by simpa using hno⟩
        simp [isum, this]
      rw [this]
      exact nil0 _ _
    · have hblk5 := (hblk.ext y4).ext y5
      refine ⟨_, _, _, _, hblk5.loadA0 (by kernel_rfl), _, _, _, _, (hb4.ext y5).loadA0 (by kernel_rfl), ?_⟩
      refine Ret.at (spec_IntAdd_c ((how.reps.ext y4).ext y5) ((hrr.ext y4).ext y5) hcode hcd) ?_
      rintro v w6 ⟨vs', f', hv, ho, hnd, y6⟩
      subst hv
      obtain ⟨g0, gp, gn, gc, gz, rfl, hg, hgi⟩ := open_Signed ho.reps (iadd_code _ _)
      have hrlt := hblk.lt
      obtain ⟨w7, st7, hb7, ch, sz⟩ := (hblk5.ext y6).storeA0 (P := P) (t := T_impl_Signed) (xs := [.bool g0, .slice gp gn gc]) (by kernel_rfl) rfl ho.reps.cells1
      refine ⟨_, _, _, _, rfl, w7, st7, exW ⟨by omega, by omega⟩ ⟨⟨j + 1, _, f', by omega, by omega, (x5.trans y6).chg ch (by simp; omega), by have := y6.le; omega, (((hb0.ext y4).ext y5).ext y6).chg ch (by simp; omega), hb7, ?_, hnd, fun k hk hkj => ?_⟩, by simp; omega⟩⟩
      · rw [isumGo_take _ hjl]
        exact (ho.chg1 ch (by omega)).mono (by omega)
      · by_cases e : k < j
        · exact hall k hk e
        · obtain rfl : k = j := by omega
          exact hok
  · have hjn : j = n := by omega
    subst hjn
    rw [List.take_of_length_le (by omega)] at how
    obtain ⟨w6, st6, hb6, ch, sz⟩ := hb0.storeA0 (P := P) (t := T_impl_Signed) (xs := [.bool q0, .slice qp qn qc]) (by kernel_rfl) rfl how.reps.cells1
    refine ⟨_, _, _, _, hblk.loadA0 (by kernel_rfl), w6, st6, _, _, _, _, hb6.loadA0 (by kernel_rfl), _, f, rfl, ?_, hnd0, hx.chg ch (by simp; omega)⟩
    have : isum l = isumGo l := by
      have : l.all intOk = true := by
        rw [List.all_eq_true]
        intro x hxm
        obtain ⟨k, hk, rfl⟩ := List.getElem_of_mem hxm
        exact hall k hk (by omega)
      simp [isum, this]
    rw [this]
    exact (how.chg1 ch (by omega)).mono (by omega)
theorem sgI_add (b : Bool) (x y : Nat) : sgI b x + sgI b y = sgI b (x + y) := by unfold sgI; split <;> omega
theorem sgI_abs (b : Bool) (x : Nat) : (sgI b x).natAbs = x := by unfold sgI; split <;> omega
theorem isum_sg {b : Bool} {M : Nat} (hM : (digs M).length <= 50) : ∀ (l : List Nat) (a : Nat), a + l.sum <= M -> (l.map fun q => enc (sgI b q)).foldl iadd (enc (sgI b a)) = enc (sgI b (a + l.sum)) /\ (l.map fun q => enc (sgI b q)).all intOk = true
  | [], a, _ => ⟨rfl, rfl⟩
  | q :: r, a, h => by
    rw [List.sum_cons] at h
    have ok : ∀ z : Nat, z <= M -> intOk (enc (sgI b z)) = true := fun z hz => enc_ok (by rw [sgI_abs]; exact Nat.le_trans (digs_mono_len hz) hM)
    have e : iadd (enc (sgI b a)) (enc (sgI b q)) = enc (sgI b (a + q)) := by
      rw [iadd, ok a (by omega), ok q (by omega)]
      simp only [Bool.and_self, if_true]
      rw [ival_enc, ival_enc, sgI_add, icap_fit (by rw [sgI_abs]; exact Nat.le_trans (digs_mono_len (by omega)) hM)]
    obtain ⟨h1, h2⟩ := isum_sg hM r (a + q) (by omega)
    refine ⟨?_, ?_⟩
    · rw [List.map_cons, List.foldl_cons, e, h1, List.sum_cons, Nat.add_assoc]
    · rw [List.map_cons, List.all_cons, ok q (by omega), h2]; rfl
theorem isum_sg0 {b : Bool} {l : List Nat} {M : Nat} (hM : (digs M).length <= 50) (h : l.sum <= M) : isum (l.map fun q => enc (sgI b q)) = enc (sgI b l.sum) := by
  obtain ⟨h1, h2⟩ := isum_sg (b := b) hM l 0 (by omega)
  have e0 : enc (sgI b 0) = enc 0 := by unfold sgI; split <;> rfl
  rw [isum, h2, if_pos rfl, isumGo, <- e0, h1, Nat.zero_add]
theorem spec_IntSub_l {w : World} {xs ys : List Value} {x y : Int} (h : Reps w xs (enc x)) (k : Reps w ys (enc y)) (d1 : (digs x.natAbs).length <= 50) (d2' : (digs y.natAbs).length <= 50) (d3 : (digs (x - y).natAbs).length <= 50) :
    Ret P n_spec_IntSub [.agg ⟨xs⟩, .agg ⟨ys⟩] w fun v w' => ∃ vs f, v = .agg ⟨vs⟩ /\ Owns w' w.heap.size vs (enc (x - y)) f /\ f.Nodup /\ Ext w w' := by
  have d2 : (digs (-y).natAbs).length <= 50 := by rw [Int.natAbs_neg]; exact d2'
  have hr := h; have kr := k
  obtain ⟨a0, ap, an, ac, az, rfl, hd, ha⟩ := open_Signed h (enc_code _)
  obtain ⟨b0, bp, bn, bc, bz, rfl, he, hb⟩ := open_Signed k (enc_code _)
  refine spec_IntSub_ret ?_
  unfold spec_IntSub
  intro r w1 hn1 r1 w2 hn2 r2 w3 hn3
  have e1 := hn1.r_eq; have e2 := hn2.r_eq; have e3 := hn3.r_eq; have z1 := hn1.size; have z2 := hn2.size; have z3 := hn3.size
  have X := (hn1.ext.trans hn2.ext).trans hn3.ext
  have q0 := (hn1.blk.ext hn2.ext).ext hn3.ext; have q1 := hn2.blk.ext hn3.ext; have q2 := hn3.blk
  refine ⟨_, _, _, _, q0.loadA0 (by kernel_rfl), ?_⟩
  refine Ret.at (spec_IntOk_c (hr.ext X) (enc_code _)) ?_
  rintro v w4 ⟨hv, y4⟩
  subst hv
  rw [enc_ok d1]
  refine ⟨_, rfl, ifN (fun hh => absurd hh (by simp)) (fun _ => ⟨_, _, _, _, (q1.ext y4).loadA0 (by kernel_rfl), ?_⟩)⟩
  refine Ret.at (spec_IntOk_c (kr.ext (X.trans y4)) (enc_code _)) ?_
  rintro v w5 ⟨hv, y5⟩
  subst hv
  rw [enc_ok d2']
  refine ⟨_, rfl, ifN (fun hh => absurd hh (by simp)) (fun _ => ?_)⟩
  have Y := (y4.trans y5).trans (Ext.drew w5)
  have X5 := X.trans Y
  have lY := Y.le
  refine ⟨_, _, _, _, fun W hW => ((q0.ext Y).ext hW).loadA0 (by kernel_rfl), _, _, _, _, fun W hW => ((q1.ext Y).ext hW).loadA0 (by kernel_rfl), ?_⟩
  refine Ret.at (spec_IntNeg_c (kr.ext X5) (enc_ok d2')) ?_
  rintro v w6 ⟨vs6, f6, hv, ho6, _, y6⟩
  subst hv
  obtain ⟨g0, gp, gn, gc, gz, rfl, _, _⟩ := open_Signed ho6.reps (enc_code _)
  have l6 := y6.le
  refine ⟨_, _, _, _, rfl, y6, ?_⟩
  refine Ret.at (spec_l04Add_c (hr.ext (X5.trans y6)) ho6.reps (by omega) (by omega)) ?_
  rintro v w7 ⟨vs7, f7, hv, ho7, nd7, y7⟩
  subst hv
  rw [<- Int.sub_eq_add_neg, icap_fit d3] at ho7
  obtain ⟨m0, mp, mn, mc, mz, rfl, _, _⟩ := open_Signed ho7.reps (enc_code _)
  obtain ⟨W', st', ld', ow', xx', _, _⟩ := agg_end (t := T_impl_Signed) (((q2.ext Y).ext y6).ext y7) ((X5.trans y6).trans y7) (by omega) ho7 (by kernel_rfl) rfl (by omega) (by omega)
  exact ⟨_, _, _, _, rfl, W', st', _, _, _, _, ld', _, f7, rfl, ow', nd7, xx'⟩
theorem spec_NatInt_s {w : World} {p : Option Addr} {n c k : Nat} (h : IntsR w p n c (digs k)) (hk : k <= 1000000) : Ret P n_spec_NatInt [.slice p n c] w fun v w' => v = .tuple #[.int .i64 k, .bool true] /\ Ext w w' := by
  have hl := h.1
  have hd : digs k = if k = 0 then [] else [(k : Int)] := by
    by_cases h0 : k = 0
    · subst h0; rw [digs_zero]; rfl
    · rw [if_neg h0, digs_pos (by omega), show k / 1000000000 = 0 by omega, digs_zero, show k % 1000000000 = k by omega]
  refine spec_NatInt_ret ?_
  unfold spec_NatInt
  refine Ret.at (spec_NatOk_c h) ?_
  rintro v w1 ⟨rfl, y1⟩
  have hok : natOk (digs k) = true := natOk_spec.2 ⟨digs_canon _, by rw [hd]; split <;> simp⟩
  rw [hok]
  refine ⟨_, rfl, ifN (fun hh => by simp at hh) (fun _ => ?_)⟩
  intro r w2 hn2
  have hi : IntsR w2 (some ⟨r, 0, none⟩) 3 3 [854775807, 223372036, 9] := by
    have := Own.of_blk (base := 0) (size := 1) (n := 3) hn2.blk (Nat.zero_le _) rfl (by decide)
    exact Own.ints (zs := [854775807, 223372036, 9]) this
  refine Ret.at (spec_l02Cmp_c (h.ext (y1.trans hn2.ext)) hi) ?_
  rintro v w3 ⟨rfl, y3⟩
  have Y := (y1.trans hn2.ext).trans y3
  refine ⟨_, rfl, ifD (fun hh => ?_) (fun _ => ?_)⟩
  · have : (digs k).length < 3 := by rw [hd]; split <;> simp
    rw [cmpL, if_pos (show (digs k).length < [(854775807 : Int), 223372036, 9].length from this)] at hh
    omega
  · unfold spec_NatInt_j0
    refine exW ⟨by omega, by have := (h.ext Y).2.1; have := h.2.2.1; omega⟩ ⟨fun x i W => W = w3 /\ ((i = (n : Int) - 1 /\ x = 0) ∨ (i = -1 /\ x = k)), fun _ i _ => (i + 1).toNat, ⟨rfl, .inl ⟨rfl, rfl⟩⟩, ?_⟩
    rintro junk W x i ⟨rfl, hc⟩
    by_cases h0 : k = 0
    · rw [if_pos h0] at hd
      have hn0 : n = 0 := by rw [hd] at hl; simpa using hl.symm
      refine ifD (fun hlt => by omega) (fun _ => ⟨?_, Y⟩)
      rcases hc with ⟨_, rfl⟩ | ⟨_, rfl⟩ <;> simp [h0]
    · rw [if_neg h0] at hd
      have hn1 : n = 1 := by rw [hd] at hl; simpa using hl.symm
      subst hn1
      refine ifD (fun hlt => ?_) (fun hge => ?_)
      · rcases hc with ⟨rfl, rfl⟩ | ⟨rfl, _⟩
        · refine exW ⟨by omega, by omega⟩ ⟨⟨by omega, by omega⟩, ?_⟩
          obtain ⟨a, rfl, hld⟩ := ints_at (h.ext Y) (i := ((1 : Nat) : Int) - 1) (by omega) (by omega)
          rw [hd] at hld
          refine ⟨_, hld, exW ⟨?_, ?_⟩ (exW ⟨by omega, by omega⟩ ⟨⟨rfl, .inr ⟨rfl, ?_⟩⟩, ?_⟩)⟩
          · show -9223372036854775808 <= (0 : Int) * 1000000000 + (k : Int); omega
          · show (0 : Int) * 1000000000 + (k : Int) <= 9223372036854775807; omega
          · show (0 : Int) * 1000000000 + (k : Int) = k; omega
          · show (((1 : Nat) : Int) - 1 - 1 + 1).toNat < (((1 : Nat) : Int) - 1 + 1).toNat; decide
        · omega
      · rcases hc with ⟨rfl, _⟩ | ⟨_, rfl⟩
        · omega
        · exact ⟨rfl, Y⟩
theorem spec_IntNum_s {w : World} {xs : List Value} {k : Nat} (h : Reps w xs (enc (k : Int))) (hk : k <= 1000000) : Ret P n_spec_IntNum [.agg ⟨xs⟩] w fun v w' => v = .tuple #[.int .i64 k, .bool true] /\ Ext w w' := by
  have hr := h
  obtain ⟨b, ap, an, ac, az, rfl, hd, hi⟩ := open_Signed h (enc_code _)
  simp only [enc, List.cons.injEq, D0.bool.injEq, D0.ints.injEq, and_true, Int.natAbs_natCast] at hd
  obtain ⟨rfl, rfl⟩ := hd
  have hneg : decide ((k : Int) < 0) = false := decide_eq_false (by omega)
  refine spec_IntNum_ret ?_
  unfold spec_IntNum
  intro r w1 hn1
  refine ⟨_, _, _, hn1.blk.loadAt 1 rfl (by kernel_rfl) rfl, ?_⟩
  refine Ret.at (spec_NatInt_s (hi.ext hn1.ext) hk) ?_
  rintro v w2 ⟨rfl, y2⟩
  refine ⟨_, _, rfl, ifN (fun hh => by simp at hh) (fun _ => ?_)⟩
  refine ⟨_, _, _, _, (hn1.blk.ext y2).loadA0 (by kernel_rfl), ?_⟩
  refine Ret.at (spec_IntOk_c (hr.ext (hn1.ext.trans y2)) (enc_code _)) ?_
  rintro v w3 ⟨rfl, y3⟩
  have hok : intOk (enc (k : Int)) = true := enc_ok (by
    rw [Int.natAbs_natCast]
    have := digs_len 1 (n := k) (by omega)
    omega)
  rw [hok]
  refine ⟨_, rfl, ifN (fun hh => by simp at hh) (fun _ => ?_)⟩
  refine ⟨_, ((hn1.blk.ext y2).ext y3).loadAt 0 rfl (by kernel_rfl) rfl, ?_⟩
  rw [hneg]
  exact ifF ⟨rfl, (hn1.ext.trans y2).trans y3⟩
end Go.Proofs.YtbgokfhcgcoipaaGreat
namespace Go.Proofs.YtbgokfhcgcoipaaGreat
open Go Go.Proofs.YtbgokfhcgcoipaaGreat.Sx
structure LRow (W : World) (B D : Nat) (p : Option Addr) (n c : Nat) (rf : Nat -> Nat) (f : List Nat) : Prop where
  ex : ∃ css ds fs, AllO W B 3 css ds fs /\ Sx.Own W B T_impl_Rat 3 p n c css.flatten /\ (∀ y ∈ fs.flatten, p.map (·.block) ≠ some y) /\ ds.length = n /\ (∀ (j : Nat) d, ds[j]? = some d -> LackIs D (rf j) d) /\ (∀ y ∈ fs.flatten, y ∈ f)
  pb : ∀ q, p.map (·.block) = some q -> q ∈ f
  lt : ∀ y ∈ f, B <= y /\ y < W.heap.size
theorem sliceT_rat3 : sliceT P T_s_impl_Rat T_impl_Rat (.agg ⟨[.bool false, .slice none 0 0, .slice none 0 0]⟩) 3 56 := ⟨by kernel_rfl, by kernel_rfl, rfl, by decide⟩
theorem LRow.chg {S : List Nat} {W W' : World} {B D : Nat} {p : Option Addr} {n c : Nat} {rf : Nat -> Nat} {f : List Nat} (h : LRow W B D p n c rf f) (he : Chg S W W') (hS : ∀ y ∈ f, y ∉ S) : LRow W' B D p n c rf f := by
  obtain ⟨⟨css, ds, fs, ha, ho, h1, h2, h3, h4⟩, hp, hl⟩ := h
  exact ⟨⟨css, ds, fs, ha.chg he fun y hy => hS y (h4 y hy), ho.chg he fun q hq => hS q (hp q hq), h1, h2, h3, h4⟩, hp, fun y hy => ⟨(hl y hy).1, Nat.lt_of_lt_of_le (hl y hy).2 he.size⟩⟩
theorem LRow.ext {W W' : World} {B D : Nat} {p : Option Addr} {n c : Nat} {rf : Nat -> Nat} {f : List Nat} (h : LRow W B D p n c rf f) (he : Ext W W') : LRow W' B D p n c rf f :=
  h.chg (he.toChg (S := [])) fun y _ => by simp
theorem LRow.fresh {W W' : World} {B D r : Nat} {rf : Nat -> Nat} (hn : New W (.cells ⟨[]⟩ T_impl_Rat (0, 0)) r W') (hB : B <= W.heap.size) : LRow W' B D (some ⟨r, 0, none⟩) 0 0 rf [r] := by
  have hr := hn.r_eq; have hs := hn.size
  exact ⟨⟨[], [], [], trivial, Own.of_blk0 hn.blk (by omega) (by simp) (by decide), by simp, rfl, fun j d h => by simp at h, by simp⟩, fun q hq => by simp at hq; simp [hq], fun y hy => by simp at hy; subst hy; omega⟩
theorem LRow.push {W : World} {B D : Nat} {p : Option Addr} {n c r : Nat} {rf : Nat -> Nat} {f fx : List Nat} {cs : List Value} {d : List D0} (h : LRow W B D p n c rf f) (hB : B <= W.heap.size) (hn : n <= 100000) (hr : Blk W r T_impl_Rat cs) (hl : cs.length = 3)
    (ho : Owns W B cs d fx) (hd : LackIs D (rf n) d) (hfx : ∀ q ∈ fx, q ∉ f) :
    ∃ p' c' W' f', Appends P [T_s_impl_Rat, T_s_impl_Rat] [.slice p n c, .slice (some ⟨r, 0, none⟩) 1 1] (.slice p' (n + 1) c') W W' /\ LRow W' B D p' (n + 1) c' rf f' /\ Chg (p.map (·.block)).toList W W' /\ ∀ q ∈ f', q ∈ f ∨ q ∈ fx ∨ W.heap.size <= q := by
  obtain ⟨⟨css, ds, fs, ha, hO, h1, h2, h3, h4⟩, hp, hlt⟩ := h
  obtain ⟨p', c', W', happ, hO', hch, hp'⟩ := hO.push1 (P := P) sliceT_rat3 hB hr hl ho.reps.cells1 (by omega) (by decide)
  have hpx : ∀ q ∈ fx, q ∉ (p.map (·.block)).toList := fun q hq hm => hfx q hq (hp q (Option.mem_toList.1 hm))
  have hpf : ∀ q ∈ fs.flatten, q ∉ (p.map (·.block)).toList := fun q hq hm => h1 q hq (Option.mem_toList.1 hm)
  have hlx := ho.lt
  refine ⟨p', c', W', f ++ fx ++ (p'.map (·.block)).toList, happ, ⟨⟨css ++ [cs], ds ++ [d], fs ++ [fx], (ha.chg hch hpf).snoc hl (ho.chg hch hpx), by simpa using hO', fun y hy e => ?_, by simp [h2], fun j e hj => ?_, fun y hy => ?_⟩, fun q hq => List.mem_append_right _ (Option.mem_toList.2 hq), fun y hy => ?_⟩, hch, fun q hq => ?_⟩
  · have hy2 : y ∈ fs.flatten ∨ y ∈ fx := by simpa using hy
    have hys : y < W.heap.size := by
      rcases hy2 with h | h
      · exact (hlt y (h4 y h)).2
      · exact (hlx y h).2
    rcases hp' with h | h
    · rw [h] at e
      rcases hy2 with h5 | h5
      · exact h1 y h5 e
      · exact hfx y h5 (hp y e)
    · have := h y e; omega
  · rcases Nat.lt_trichotomy j n with h | h | h
    · rw [List.getElem?_append_left (by omega)] at hj
      exact h3 j e hj
    · subst h
      rw [List.getElem?_append_right (by omega), h2, Nat.sub_self] at hj
      simp only [List.getElem?_cons_zero, Option.some.injEq] at hj
      subst hj; exact hd
    · rw [List.getElem?_eq_none (by simp; omega)] at hj
      cases hj
  · have hy2 : y ∈ fs.flatten ∨ y ∈ fx := by simpa using hy
    rcases hy2 with h | h
    · exact List.mem_append_left _ (List.mem_append_left _ (h4 y h))
    · exact List.mem_append_left _ (List.mem_append_right _ h)
  · have hsz := hch.size
    rcases List.mem_append.1 hy with hy | hy
    · rcases List.mem_append.1 hy with hy | hy
      · have := hlt y hy; omega
      · have := hlx y hy; omega
    · have := World.ownsRow.lt hO' y (by have := Option.mem_toList.1 hy; cases p' <;> simp_all [Value.ownBlock])
      exact this
  · rcases List.mem_append.1 hq with hq | hq
    · rcases List.mem_append.1 hq with hq | hq
      · exact .inl hq
      · exact .inr (.inl hq)
    · rcases hp' with h | h
      · exact .inl (hp q (by rw [<- h]; exact Option.mem_toList.1 hq))
      · exact .inr (.inr (h q (Option.mem_toList.1 hq)))
theorem LRow.at {W : World} {B D : Nat} {p : Option Addr} {n c j : Nat} {rf : Nat -> Nat} {f : List Nat} (h : LRow W B D p n c rf f) (hj : j < n) :
    ∃ b cs d, p = some ⟨b, 0, none⟩ /\ b ∈ f /\ cs.length = 3 /\ Reps W cs d /\ LackIs D (rf j) d /\ (∀ W1, Ext W W1 -> Loads P T_impl_Rat ((⟨b, 0, none⟩ : Addr).add (j * 3)) (.agg ⟨cs⟩) W1) /\
      ∀ W1 cs' d' fx rf', Ext W W1 -> cs'.length = 3 -> Owns W1 W.heap.size cs' d' fx -> LackIs D (rf' j) d' -> (∀ i, i ≠ j -> rf' i = rf i) ->
        ∃ W2 f', Stores P T_impl_Rat ((⟨b, 0, none⟩ : Addr).add (j * 3)) (.agg ⟨cs'⟩) W1 W2 /\ Chg [b] W1 W2 /\ LRow W2 B D p n c rf' f' /\ ∀ q ∈ f', q ∈ f ∨ q ∈ fx := by
  have h0 := h
  obtain ⟨⟨css, ds, fs, ha, hO, h1, h2, h3, h4⟩, hp, hlt⟩ := h
  obtain ⟨d, hd⟩ : ∃ d, ds[j]? = some d := ⟨ds[j]'(by omega), List.getElem?_eq_getElem (by omega)⟩
  obtain ⟨cs, fi, hcs, hfi, hk, how⟩ := ha.focus j d hd
  obtain ⟨hlen, hcl, hfl⟩ := ha.lens
  obtain ⟨b, ys, rfl, hb, hblk, hyl, hnc, hc, hy⟩ := hO.blk (by omega)
  have hsp := congrArg List.flatten (cons_at hcs)
  rw [List.flatten_append, List.flatten_cons] at hsp
  have hA : (css.take j).flatten.length = j * 3 := by
    rw [flat_len fun c hc => hlen c (List.mem_of_mem_take hc), List.length_take, Nat.min_eq_left (by omega)]
  have hys : ys = (css.take j).flatten ++ cs ++ ((css.drop (j + 1)).flatten ++ ys.drop (n * 3)) := by
    conv => lhs; rw [<- List.take_append_drop (n * 3) ys, hy, hsp]
    simp
  rw [hys] at hblk
  have hblt := hblk.lt
  have hbf := hp b rfl
  refine ⟨b, cs, d, rfl, hbf, hk, how.reps, h3 j d hd, fun W1 hW => (hblk.ext hW).loadA (xs := cs) (by rw [hk]; kernel_rfl) (by rw [List.append_assoc, <- hA, List.drop_left, List.take_left]), ?_⟩
  intro W1 cs' d' fx rf' hW hk' ho' hd' hrf
  obtain ⟨W2, st, hb2, ch, _⟩ := (hblk.ext hW).storeA (P := P) (t := T_impl_Rat) (xs := cs') (k := j * 3) (by rw [hk']; kernel_rfl) (by
    simp only [List.length_append, hA, hk, hk']; omega) ho'.reps.cells1
  have hlx := ho'.lt
  have hbx : ∀ y ∈ fx, y ∉ [b] := fun y hy hm => by have := (hlx y hy).1; simp at hm; omega
  have hpf : ∀ q ∈ fs.flatten, q ∉ [b] := fun q hq hm => h1 q hq (by simp at hm; rw [hm]; rfl)
  have hset : (css.set j cs').flatten = (css.take j).flatten ++ cs' ++ (css.drop (j + 1)).flatten := by
    rw [List.set_eq_take_append_cons_drop, if_pos (by omega), List.flatten_append, List.flatten_cons, List.append_assoc]
  have hb3 : Blk W2 b T_impl_Rat ((css.set j cs').flatten ++ ys.drop (n * 3)) := by
    have e1 : ((css.take j).flatten ++ cs ++ ((css.drop (j + 1)).flatten ++ ys.drop (n * 3))).take (j * 3) = (css.take j).flatten := by
      rw [List.append_assoc, <- hA, List.take_left]
    have e2 : ((css.take j).flatten ++ cs ++ ((css.drop (j + 1)).flatten ++ ys.drop (n * 3))).drop (j * 3 + cs'.length) = (css.drop (j + 1)).flatten ++ ys.drop (n * 3) := by
      rw [show j * 3 + cs'.length = ((css.take j).flatten ++ cs).length by rw [List.length_append, hA, hk, hk'], List.drop_left]
    rw [e1, e2] at hb2
    rw [hset, List.append_assoc]
    exact hb2
  have hfl2 : (css.set j cs').flatten.length = n * 3 := by
    rw [flat_len (k := 3) (fun c hc => by
      rcases List.mem_or_eq_of_mem_set hc with h1 | h1
      · exact hlen c h1
      · rw [h1]; exact hk')]
    rw [List.length_set]; omega
  have hO2 := Own.of_blk' (n := n) (c := c) (size := 3) hb3 hb (by rw [List.length_append, hfl2, List.length_drop, hyl]; omega) hnc hc
  rw [List.take_left' hfl2] at hO2
  have hB : B <= W.heap.size := by omega
  refine ⟨W2, f ++ fx, st, ch, ⟨⟨css.set j cs', ds.set j d', fs.set j fx, AllO.put hk' ((ho'.chg ch hbx).mono hB) j ((ha.ext hW).chg ch hpf), hO2, fun y hy e => ?_, by simpa using h2, fun i e hi => ?_, fun y hy => ?_⟩, fun q hq => List.mem_append_left _ (hp q hq), fun y hy => ?_⟩, fun q hq => List.mem_append.1 hq⟩
  · rcases mem_put hy with h5 | h5
    · have := (hlx y h5).1
      simp only [Option.map_some, Option.some.injEq] at e
      omega
    · exact h1 y h5 e
  · rw [List.getElem?_set] at hi
    by_cases e1 : j = i
    · subst e1
      rw [if_pos rfl, if_pos (by omega)] at hi
      simp only [Option.some.injEq] at hi
      subst hi; exact hd'
    · rw [if_neg e1] at hi
      rw [hrf i (fun e => e1 e.symm)]
      exact h3 i e hi
  · rcases mem_put hy with h5 | h5
    · exact List.mem_append_right _ h5
    · exact List.mem_append_left _ (h4 y h5)
  · have hsz := ch.size; have hWs := hW.le
    rcases List.mem_append.1 hy with h5 | h5
    · have := hlt y h5; omega
    · have := hlx y h5; omega
end Go.Proofs.YtbgokfhcgcoipaaGreat
namespace Go.Proofs.YtbgokfhcgcoipaaGreat
open Go Go.Proofs.YtbgokfhcgcoipaaGreat.Sx
theorem LackIs.code {W r : Nat} {d : List D0} (h : LackIs W r d) : d.map D0.code = [.bool, .ints, .ints] := by
  rw [(ratOk_enc h.1).1]; rfl
def giveL (b : Bool) (m : Nat) (ns : List Nat) (n t : Nat) : List (List D0) := (List.range n).map fun j => enc (sgI b (shP m ns t j))
theorem giveL_get {b : Bool} {m : Nat} {ns : List Nat} {n t j : Nat} (hj : j < n) : (giveL b m ns n t)[j]? = some (enc (sgI b (shP m ns t j))) := by
  unfold giveL; rw [List.getElem?_map, List.getElem?_range hj]; rfl
theorem giveL_set {b : Bool} {m : Nat} {ns : List Nat} {n t i : Nat} (hi : i < n) (ht : t < (ordS (shR m ns)).length) (he : (ordS (shR m ns))[t] = i) : (giveL b m ns n t).set i (enc (sgI b (shP m ns t i) + sgI b 1)) = giveL b m ns n (t + 1) := by
  apply List.ext_getElem?
  intro j
  unfold giveL
  rw [List.getElem?_set]
  by_cases hj : j < n
  · rw [List.getElem?_map, List.getElem?_map, List.getElem?_range hj, List.length_map, List.length_range]
    have hs := shP_succ ht j
    rw [he] at hs
    by_cases e : i = j
    · subst e; rw [if_pos rfl, if_pos hi, sgI_add]; simp [hs]
    · rw [if_neg e]; rw [if_neg (Ne.symm e)] at hs; simp [hs]
  · rw [List.getElem?_map, List.getElem?_map, List.getElem?_eq_none (by simpa using hj)]
    by_cases e : i = j
    · subst e; omega
    · rw [if_neg e]; rfl
theorem spec_j1 {w0 W : World} {B r7 n pc lc m : Nat} {pp lp : Option Addr} {b : Bool} {ns : List Nat} {vs1 : List Value} {f f1 f2 : List Nat} (hX : Ext w0 W) (hB : w0.heap.size <= B) (hBW : B <= W.heap.size) (hD : 0 < ns.sum) (hnl : ns.length = n) (hn : n <= 30) (hm : (digs m).length <= 50)
    (hpar : OwnRows W B T_impl_Signed 2 pp n pc (giveL b m ns n 0) f) (hlack : LRow W B ns.sum lp n lc (curL (shR m ns) 0) f2) (hdis : ∀ q ∈ f, q ∉ f2)
    (hone : Blk W r7 T_impl_Signed vs1) (hown : Owns W B vs1 (enc (sgI b 1)) f1) (h7 : ∀ q ∈ r7 :: f1, q ∉ f /\ q ∉ f2)
    {R : Value -> World -> Prop} (hq : ∀ W' f', Ext w0 W' -> OwnRows W' B T_impl_Signed 2 pp n pc (giveL b m ns n (shM m ns)) f' -> R (.tuple #[.slice pp n pc, .bool true]) W') :
    spec_Shares_j1 pp n pc lp n ((shM m ns : Nat) : Int) r7 W R := by
  obtain ⟨miss, hmiss⟩ : ∃ t, shM m ns = t := ⟨_, rfl⟩
  have hml : miss <= n := by have := shM_len (m := m) hD; omega
  rw [hmiss] at hq ⊢
  unfold spec_Shares_j1
  refine ⟨fun left W' => ∃ (t : Nat) (f f2 : List Nat), left = (miss : Int) - t /\ t <= miss /\ Ext w0 W' /\ B <= W'.heap.size /\ OwnRows W' B T_impl_Signed 2 pp n pc (giveL b m ns n t) f /\ LRow W' B ns.sum lp n lc (curL (shR m ns) t) f2 /\ (∀ q ∈ f, q ∉ f2) /\ Blk W' r7 T_impl_Signed vs1 /\ Owns W' B vs1 (enc (sgI b 1)) f1 /\ ∀ q ∈ r7 :: f1, q ∉ f /\ q ∉ f2, fun left _ => left.toNat,
    ⟨0, f, f2, by omega, by omega, hX, hBW, hpar, hlack, hdis, hone, hown, h7⟩, ?_⟩
  clear hpar hlack hdis hone hown h7 hX hBW
  intro junk W left ⟨t, f, f2, hlt, htm, hX, hBW, hpar, hlack, hdis, hone, hown, h7⟩
  subst hlt
  refine ifD (fun hlt => ?_) (fun hge => ?_)
  · have ht : t < miss := by omega
    obtain ⟨hto, hpos⟩ := lack_pos (t := t) hD (shR_lt (m := m) hD) (shM_eq hD) (by omega)
    obtain ⟨ix, hix⟩ : ∃ ix, (ordS (shR m ns))[t] = ix := ⟨_, rfl⟩
    have hixn : ix < n := by rw [<- hix]; have := ordS_lt hto; rw [shR_len] at this; omega
    have hcur : 0 < curL (shR m ns) t ix := by rw [<- hix, curL_at hto]; exact hpos
    refine ⟨fun best i W2 => ∃ k : Nat, i = k /\ k <= n /\ Ext W W2 /\ ((best = -1 /\ ∀ j < k, curL (shR m ns) t j = 0) ∨ ∃ c : Nat, best = c /\ c < k /\ 0 < curL (shR m ns) t c /\ (∀ j < k, curL (shR m ns) t j <= curL (shR m ns) t c) /\ ∀ j < c, curL (shR m ns) t j < curL (shR m ns) t c), fun _ i _ => n - i.toNat,
      ⟨0, rfl, by omega, Ext.refl _, .inl ⟨rfl, fun j hj => by omega⟩⟩, ?_⟩
    intro junk2 W2 best i ⟨k, hik, hkn, hX2, hbest⟩
    subst hik
    refine ifD (fun hlt2 => ?_) (fun hge2 => ?_)
    · have hk : k < n := by omega
      obtain ⟨bl, cs, d, hpe, hblf, hck, hr, hlk, hld, _⟩ := (hlack.ext hX2).at hk
      have hc := hlk.code
      have hrr := hr
      obtain ⟨a0, ap, an, ac, az, ap2, an2, ac2, az2, rfl, _, _, _⟩ := open_Rat hr hc
      subst hpe
      refine ⟨⟨by omega, by omega⟩, _, _, _, _, _, _, _, hld W2 (Ext.refl _), ?_⟩
      intro r8 w3 hn3
      obtain ⟨w4, st4, hb4, y4⟩ := hn3.fill (P := P) (t := T_impl_Rat) hrr.cells1 (by kernel_rfl) rfl
      have Y4 := y4.trans (Ext.drew w4)
      have hb5 := hb4.ext (Ext.drew w4)
      refine ⟨w4, st4, _, _, _, _, _, _, _, fun V hV => (hb5.ext hV).loadA0 (by kernel_rfl), ?_⟩
      refine Ret.at (spec_RatSign_c (hrr.ext Y4) hc) ?_
      rintro v w6 ⟨rfl, y6⟩
      have hs := lack_sign hlk hD
      have X6 := (hX2.trans Y4).trans y6
      have go : ∀ (W3 : World) (best' : Int), Ext W W3 -> ((best' = -1 /\ ∀ j < k + 1, curL (shR m ns) t j = 0) ∨ ∃ c : Nat, best' = c /\ c < k + 1 /\ 0 < curL (shR m ns) t c /\ (∀ j < k + 1, curL (shR m ns) t j <= curL (shR m ns) t c) /\ ∀ j < c, curL (shR m ns) t j < curL (shR m ns) t c) ->
          ∃ t99 : Int, t99 = IntKind.wrap .i64 ((k : Int) + 1) /\ (∃ k' : Nat, t99 = k' /\ k' <= n /\ Ext W W3 /\ ((best' = -1 /\ ∀ j < k', curL (shR m ns) t j = 0) ∨ ∃ c : Nat, best' = c /\ c < k' /\ 0 < curL (shR m ns) t c /\ (∀ j < k', curL (shR m ns) t j <= curL (shR m ns) t c) /\ ∀ j < c, curL (shR m ns) t j < curL (shR m ns) t c)) /\ n - t99.toNat < n - (k : Int).toNat := fun W3 best' h1 h2 =>
        exW ⟨by omega, by omega⟩ ⟨⟨k + 1, by omega, by omega, h1, h2⟩, by omega⟩
      have keep : ¬ 0 < curL (shR m ns) t k -> ((best = -1 /\ ∀ j < k + 1, curL (shR m ns) t j = 0) ∨ ∃ c : Nat, best = c /\ c < k + 1 /\ 0 < curL (shR m ns) t c /\ (∀ j < k + 1, curL (shR m ns) t j <= curL (shR m ns) t c) /\ ∀ j < c, curL (shR m ns) t j < curL (shR m ns) t c) := fun h0 => by
        rcases hbest with ⟨h1, h2⟩ | ⟨c, h1, h2, h3, h4, h5⟩
        · refine .inl ⟨h1, fun j hj => ?_⟩
          by_cases e : j = k
          · subst e; omega
          · exact h2 j (by omega)
        · refine .inr ⟨c, h1, by omega, h3, fun j hj => ?_, h5⟩
          by_cases e : j = k
          · subst e; omega
          · exact h4 j (by omega)
      refine ⟨_, rfl, ifD (fun hp => ?_) (fun hp => ifF ?_)⟩
      · have hp2 := hs.1 hp
        refine ifD (fun hb0 => ifT ?_) (fun hb0 => ?_)
        · unfold spec_Shares_j2
          refine go w6 k X6 (.inr ⟨k, rfl, by omega, hp2, ?_, ?_⟩)
          · rcases hbest with ⟨h1, h2⟩ | ⟨c, h1, _⟩
            · intro j hj
              by_cases e : j = k
              · subst e; exact Nat.le_refl _
              · rw [h2 j (by omega)]; omega
            · omega
          · rcases hbest with ⟨h1, h2⟩ | ⟨c, h1, _⟩
            · intro j hj; rw [h2 j hj]; exact hp2
            · omega
        · rcases hbest with ⟨h1, _⟩ | ⟨c, h1, h2, h3, h4, h5⟩
          · omega
          subst h1
          obtain ⟨bl', cs', d', hpe', _, hck', hr', hlk', hld', _⟩ := (hlack.ext X6).at (show c < n by omega)
          have hc' := hlk'.code
          have hrr' := hr'
          obtain ⟨q0, qp, qn, qc, qz, qp2, qn2, qc2, qz2, rfl, _, _, _⟩ := open_Rat hr' hc'
          cases hpe'
          refine ⟨_, _, _, _, _, _, _, fun V hV => ((hb5.ext y6).ext hV).loadA0 (by kernel_rfl), ⟨by omega, by omega⟩, _, _, _, _, _, _, _, fun V hV => hld' V hV, ?_⟩
          refine Ret.at (spec_RatCmp_c ((hrr.ext Y4).ext y6) hrr' hc hc') ?_
          rintro v w7 ⟨rfl, y7⟩
          have hcm := lack_cmp hlk hlk' hD
          refine ⟨_, rfl, ifD (fun hg => ?_) (fun hg => ?_)⟩
          · have hg2 := hcm.1 hg
            unfold spec_Shares_j2
            refine go w7 k (X6.trans y7) (.inr ⟨k, rfl, by omega, hp2, fun j hj => ?_, fun j hj => ?_⟩)
            · by_cases e : j = k
              · subst e; exact Nat.le_refl _
              · have := h4 j (by omega); omega
            · have := h4 j hj; omega
          · have hg2 : ¬ curL (shR m ns) t c < curL (shR m ns) t k := fun h => hg (hcm.2 h)
            unfold spec_Shares_j2
            refine go w7 c (X6.trans y7) (.inr ⟨c, rfl, by omega, h3, fun j hj => ?_, h5⟩)
            by_cases e : j = k
            · subst e; omega
            · exact h4 j (by omega)
      · unfold spec_Shares_j2
        exact go w6 best X6 (keep fun h => hp (hs.2 h))
    · have hkn2 : k = n := by omega
      subst hkn2
      rcases hbest with ⟨_, h2⟩ | ⟨c, h1, h2, h3, h4, h5⟩
      · have := h2 ix hixn; omega
      subst h1
      have hceq : c = ix := by
        rw [<- hix]
        exact next_is hto (by rw [shR_len]; omega) h3 (fun j hj => h4 j (by rw [shR_len] at hj; omega)) h5
      subst hceq
      refine ifD (fun h => by omega) (fun _ => ⟨⟨by omega, by omega⟩, ?_⟩)
      have D2 := Ext.drew W2
      have X3 := hX2.trans D2
      obtain ⟨bp, xs, cs, zs, fi, hpe, hBb, hbf, hxl, hcl, hblk, how, hnd, hbfi, hfi, hput⟩ := (hpar.ext X3).swap (giveL_get hixn)
      subst hpe
      have hr := how.reps
      obtain ⟨a0, ap, an, ac, az, rfl, hda, hia⟩ := open_Signed hr (enc_code _)
      have hone3 := hone.ext X3
      have hown3 := hown.ext X3
      obtain ⟨o0, op, on, oc, oz, rfl, hdo, hio⟩ := open_Signed hown3.reps (enc_code _)
      refine ⟨_, _, _, _, fun V hV => ((hblk.ext hV).loadA (xs := [.bool a0, .slice ap an ac]) (by kernel_rfl) (by
        rw [Int.toNat_natCast, List.append_assoc, <- hxl, List.drop_left]; rfl)), _, _, _, _, fun V hV => (hone3.ext hV).loadA0 (by kernel_rfl), ?_⟩
      have hnot : c ∉ (ordS (shR m ns)).take t := by rw [<- hix]; exact nodup_take (ordS_nodup _) hto
      have hshp : shP m ns t c + 1 <= m := by
        unfold shP
        rw [if_neg hnot]
        have h6 := sumN_take_succ (l := shQ m ns) (k := c) (by rw [shQ_len]; omega)
        have h7 := sumN_take_le (shQ m ns) (c + 1)
        have h8 := shQ_le (m := m) hD
        have h9 : shM m ns = m - (shQ m ns).sum := rfl
        omega
      have hadd : iadd (enc (sgI b (shP m ns t c))) (enc (sgI b 1)) = enc (sgI b (shP m ns t c) + sgI b 1) := by
        have l1 := Nat.le_trans (digs_mono_len (show shP m ns t c <= m by omega)) hm
        have l2 := Nat.le_trans (digs_mono_len (show 1 <= m by omega)) hm
        have l3 := Nat.le_trans (digs_mono_len hshp) hm
        rw [iadd, enc_ok (by rw [sgI_abs]; exact l1), enc_ok (by rw [sgI_abs]; exact l2)]
        simp only [Bool.and_self, if_true]
        rw [ival_enc, ival_enc, icap_fit (by rw [sgI_add, sgI_abs]; exact l3)]
      refine Ret.at (spec_IntAdd_c hr hown3.reps (enc_code _) (enc_code _)) ?_
      rintro v w5 ⟨vs5, f5, hv, ho5, nd5, y5⟩
      subst hv
      rw [hadd] at ho5
      obtain ⟨g0, gp, gn, gc, gz, rfl, _, _⟩ := open_Signed ho5.reps (enc_code _)
      obtain ⟨bp', xs', cs', zs', fi', hpe', hBb', hbf', hxl', hcl', hblk', how', hnd', hbfi', hfi', hput'⟩ := (hpar.ext (X3.trans y5)).swap (giveL_get hixn)
      cases hpe'
      have lx3 := X3.le; have ly5 := y5.le
      have hfl := hpar.lt
      obtain ⟨w6, st6, hb6, ch6, _⟩ := hblk'.storeA (P := P) (t := T_impl_Signed) (xs := [.bool g0, .slice gp gn gc]) (k := c * 2) (by kernel_rfl) (by
        simp only [List.length_append, hxl', hcl', List.length_cons, List.length_nil]; omega) (by simp [Value.oneCell'])
      have hb6' : Blk w6 bp T_impl_Signed (xs' ++ [.bool g0, .slice gp gn gc] ++ zs') := by
        have e1 : (xs' ++ cs' ++ zs').take (c * 2) = xs' := by rw [List.append_assoc, <- hxl', List.take_left]
        have e2 : (xs' ++ cs' ++ zs').drop (c * 2 + [Value.bool g0, Value.slice gp gn gc].length) = zs' := by
          rw [show c * 2 + [Value.bool g0, Value.slice gp gn gc].length = (xs' ++ cs').length by rw [List.length_append, hxl', hcl']; rfl, List.drop_left]
        rw [e1, e2] at hb6
        exact hb6
      have lt5 := ho5.lt
      obtain ⟨f', hpar6, hf'⟩ := hput' w6 [.bool g0, .slice gp gn gc] _ f5 ch6 rfl hb6' ((ho5.chg ch6 fun q hq hm => by
        have h1 := (lt5 q hq).1; have h2 := (hfl bp hbf').2; simp at hm; omega).mono (by omega)) nd5 (fun y hy => .inr fun hm => by
        have h1 := (lt5 y hy).1; have h2 := (hfl y hm).2; omega)
      rw [giveL_set hixn hto hix] at hpar6
      refine ⟨_, _, _, _, rfl, ⟨by omega, by omega⟩, w6, by rw [Int.toNat_natCast]; exact st6, ?_⟩
      have chW6 : Chg [bp] W w6 := (X3.trans y5).toChg.trans ch6
      have hl6 := hlack.chg chW6 (fun y hy hm => by simp at hm; exact hdis bp hbf' (hm ▸ hy))
      refine Ret.at (spec_RatZero_c w6) ?_
      rintro v w7 ⟨vs7, f7, hv, ho7, nd7, y7⟩
      subst hv
      obtain ⟨u0, up, un, uc, uz, up2, un2, uc2, uz2, rfl, _, _, _⟩ := open_Rat ho7.reps (show ratZeroD.map D0.code = [.bool, .ints, .ints] from rfl)
      obtain ⟨bl, cs2, d2, hpe2, hblf2, _, _, _, _, hputL⟩ := hl6.at hixn
      subst hpe2
      obtain ⟨w8, f8, st8, ch8, hl8, hf8⟩ := hputL w7 [.bool u0, .slice up un uc, .slice up2 un2 uc2] ratZeroD f7 (curL (shR m ns) (t + 1)) y7 rfl ho7 (by
        rw [curL_succ hto, if_pos hix.symm]; exact lack_zero _) (fun i hi => by rw [curL_succ hto, hix, if_neg hi])
      have lc6 := ch6.size; have ly7 := y7.le; have lc8 := ch8.size
      have lt7 := ho7.lt
      have hl2 := hlack.lt
      refine ⟨_, _, _, _, _, _, _, rfl, ⟨by omega, by omega⟩, w8, by rw [Int.toNat_natCast]; exact st8, exW ⟨by omega, by omega⟩ ⟨⟨t + 1, f', f8, by omega, by omega, ?_, by omega, ?_, hl8, ?_, ?_, ?_, ?_⟩, ?_⟩⟩
      · have h1 : Ext w0 w6 := (hX.trans (X3.trans y5)).chg ch6 (by simp; omega)
        exact (h1.trans y7).chg ch8 (by have := (hl2 bl hblf2).1; simp; omega)
      · refine (hpar6.ext y7).chg ch8 fun q hq hm => ?_
        simp at hm; subst hm
        rcases hf' q hq with h1 | h1
        · exact hdis q h1 hblf2
        · have := (lt5 q h1).1; have := (hl2 q hblf2).2; omega
      · intro q hq hm
        rcases hf' q hq with h1 | h1 <;> rcases hf8 q hm with h2 | h2
        · exact hdis q h1 h2
        · have := (hfl q h1).2; have := (lt7 q h2).1; omega
        · have := (lt5 q h1).1; have := (hl2 q h2).2; omega
        · have h3 := (lt5 q h1).2; have h4 := (lt7 q h2).1; omega
      · have h1 := (h7 r7 List.mem_cons_self)
        exact (((hone3.ext y5).chg ch6 (by simp; exact fun e => h1.1 (e ▸ hbf'))).ext y7).chg ch8 (by simp; exact fun e => h1.2 (e ▸ hblf2))
      · exact (((hown3.ext y5).chg ch6 fun q hq hm => by simp at hm; exact (h7 q (List.mem_cons_of_mem _ hq)).1 (hm ▸ hbf')).ext y7).chg ch8 fun q hq hm => by simp at hm; exact (h7 q (List.mem_cons_of_mem _ hq)).2 (hm ▸ hblf2)
      · intro q hq
        have h1 := h7 q hq
        have hqW : q < W.heap.size := by
          rcases List.mem_cons.1 hq with h2 | h2
          · rw [h2]; exact hone.lt
          · exact (hown.lt q h2).2
        refine ⟨fun hm => ?_, fun hm => ?_⟩
        · rcases hf' q hm with h2 | h2
          · exact h1.1 h2
          · have := (lt5 q h2).1; omega
        · rcases hf8 q hm with h2 | h2
          · exact h1.2 h2
          · have := (lt7 q h2).1; omega
      · show ((miss : Int) - t - 1).toNat < ((miss : Int) - t).toNat
        omega
  · have : t = miss := by omega
    subst this
    unfold spec_Shares_j3
    exact hq W f hX hpar
end Go.Proofs.YtbgokfhcgcoipaaGreat
namespace Go.Proofs.YtbgokfhcgcoipaaGreat
open Go Go.Proofs.YtbgokfhcgcoipaaGreat.Sx
theorem sliceT_sgU : sliceT P T_s_impl_Signed T_impl_Signed (.agg ⟨[.bool false, .slice none 0 0]⟩) 2 32 := ⟨by kernel_rfl, by kernel_rfl, rfl, by decide⟩
theorem sgI_sub (b : Bool) (a c : Nat) : sgI b (a + c) - sgI b c = sgI b a := by unfold sgI; split <;> omega
theorem round_sg {x : Int} {u W : Nat} (hW : 0 < W) : rround (redN (x * (u : Int)) W) (redD (x * (u : Int)) W) 0 = sgI (decide (x < 0)) (x.natAbs * u / W) := by
  obtain ⟨h1, _⟩ := red_parts (x * (u : Int)) hW
  have eN : (x * (u : Int)).natAbs = x.natAbs * u := by rw [Int.natAbs_mul, Int.natAbs_natCast]
  have h2 : roundM (redN (x * (u : Int)) W) (redD (x * (u : Int)) W) 0 = x.natAbs * u / W := by rw [round0, h1, eN]
  unfold rround sgI
  rw [h2]
  obtain ⟨k, hk⟩ : ∃ k, x.natAbs * u / W = k := ⟨_, rfl⟩
  rw [hk]
  rcases Nat.eq_zero_or_pos k with h0 | h0
  · subst h0; split <;> split <;> rfl
  · have hmu : 0 < x.natAbs * u := by
      rcases Nat.eq_zero_or_pos (x.natAbs * u) with h | h
      · rw [h, Nat.zero_div] at hk; omega
      · exact h
    have hu : 0 < u := Nat.pos_of_mul_pos_left hmu |> fun h => by
      rcases Nat.eq_zero_or_pos u with h | h
      · subst h; simp at hmu
      · exact h
    have hq : 0 < (redN (x * (u : Int)) W).natAbs := by
      rcases Nat.eq_zero_or_pos (redN (x * (u : Int)) W).natAbs with h | h
      · rw [h, Nat.zero_div, eN] at h1; omega
      · exact h
    have hs : redN (x * (u : Int)) W < 0 ↔ x * (u : Int) < 0 := by
      rw [redN_abs] at hq
      unfold redN
      obtain ⟨k', hk'⟩ : ∃ k', (x * (u : Int)).natAbs / Nat.gcd (x * (u : Int)).natAbs W = k' := ⟨_, rfl⟩
      rw [hk'] at hq ⊢
      split <;> omega
    have hs2 : decide (x < 0) = decide (x * (u : Int) < 0) := mulN_sign (by
      intro h
      rw [h] at eN
      simp at eN
      omega)
    rw [hs2]
    by_cases h : x * (u : Int) < 0
    · rw [if_pos (hs.2 h), decide_eq_true h, if_pos rfl]
    · rw [if_neg (fun h' => h (hs.1 h')), decide_eq_false h]; rfl
theorem spec_Shares_o {w : World} {xs : List Value} {dx : List D0} {p : Option Addr} {n c : Nat} {ws : List Int} (h : Reps w xs dx) (hc : dx.map D0.code = [.bool, .ints]) (hw : IntsR w p n c ws) (hnn : n <= 1048576) :
    Ret P n_spec_Shares [.agg ⟨xs⟩, .slice p n c] w fun v w' => ∃ p' n' c' f, v = .tuple #[.slice p' n' c', .bool (shT dx ws).1] /\ OwnRows w' w.heap.size T_impl_Signed 2 p' n' c' (shT dx ws).2 f /\ Ext w w' := by
  have hr := h
  obtain ⟨b, ap, an, ac, az, rfl, hdx, hi⟩ := open_Signed h hc
  have hl := hw.1
  have fail : ∀ W, Ext w W -> shT dx ws = (false, []) -> ∃ p' n' c' f, Value.tuple #[.slice none 0 0, .bool false] = .tuple #[.slice p' n' c', .bool (shT dx ws).1] /\ OwnRows W w.heap.size T_impl_Signed 2 p' n' c' (shT dx ws).2 f /\ Ext w W := fun W hW e => by
    rw [e]
    exact ⟨none, 0, 0, [], rfl, ⟨rfl, [], [], trivial, Own.nil _ _ _ _, by simp, by simp⟩, hW⟩
  obtain ⟨x, hx⟩ : ∃ x, ival dx = x := ⟨_, rfl⟩
  obtain ⟨m, hm⟩ : ∃ m, x.natAbs = m := ⟨_, rfl⟩
  obtain ⟨ns, hnsd⟩ : ∃ ns, nsN ws = ns := ⟨_, rfl⟩
  have hnl : ns.length = n := by rw [<- hnsd, nsN_len]; exact hl
  refine spec_Shares_ret ?_
  unfold spec_Shares
  intro r w1 hn1 r1 w2 hn2 r2 w3 hn3
  have e1 := hn1.r_eq; have e2 := hn2.r_eq; have e3 := hn3.r_eq; have z1 := hn1.size; have z2 := hn2.size; have z3 := hn3.size
  have X3 := (hn1.ext.trans hn2.ext).trans hn3.ext
  refine ⟨fun pp pn pc lp ln lc i W => ∃ (k : Nat) (f f2 : List Nat), i = k /\ k <= n /\ pn = k /\ ln = k /\ Ext w1 W /\ w3.heap.size <= W.heap.size /\ OwnRows W w1.heap.size T_impl_Signed 2 pp k pc (giveL (decide (x < 0)) m ns k 0) f /\ LRow W w1.heap.size ns.sum lp k lc (curL (shR m ns) 0) f2 /\ (∀ q ∈ f, q ∉ f2) /\ ∀ j < k, fsOk dx ws j = true,
    fun _ _ _ _ _ _ i _ => n - i.toNat, ⟨0, [r1], [r2], rfl, by omega, rfl, rfl, hn2.ext.trans hn3.ext, Nat.le_refl _, (OwnRows.fresh hn2 (Nat.le_refl _)).ext hn3.ext, LRow.fresh hn3 (by omega), by simp; omega, fun j hj => by omega⟩, ?_⟩
  intro junk W pp pn pc lp ln lc i ⟨k, f, f2, hik, hkn, hpk, hlk, hX, hsz, hpar, hlack, hdis, hall⟩
  subst hik; subst hpk; subst hlk
  have b0 := hn1.blk
  have Xw := hn1.ext.trans hX
  have hfl := hpar.lt; have hl2 := hlack.lt
  refine ifD (fun hlt => ?_) (fun hge => ?_)
  · have hk : ln < n := by omega
    have hkl : ln < ws.length := by omega
    refine ⟨_, _, _, _, (b0.ext hX).loadA0 (by kernel_rfl), ?_⟩
    refine Ret.at (spec_FairShare_c (hr.ext Xw) hc (hw.ext Xw) hk) ?_
    rintro v wa ⟨vsa, fa, hv, hoa, _, ya⟩
    subst hv
    obtain ⟨s0, sp, sn, sc, sz, sp2, sn2, sc2, sz2, rfl, _, _, _⟩ := open_Rat hoa.reps (fsR_code _ _ _)
    refine ⟨_, _, _, _, _, _, _, _, rfl, ?_⟩
    intro r3 wb hnb
    obtain ⟨wc, stc, hbc, yc⟩ := hnb.fill (P := P) (t := T_impl_Rat) (xs := [.bool s0, .slice sp sn sc, .slice sp2 sn2 sc2]) (by simp [Value.oneCell']) (by kernel_rfl) rfl
    refine ⟨wc, stc, ifN (fun hno => fail _ (Xw.trans (ya.trans yc)) (shOk_no3 hkl hno)) (fun hyes => ?_)⟩
    have hwy : wOk ws = true := by simp only [fsOk, Bool.and_eq_true] at hyes; exact hyes.1
    have hok : intOk dx = true := by simp only [fsOk, Bool.and_eq_true] at hyes; exact hyes.2.1
    obtain ⟨g1, g2, g3, g4⟩ := wOk_parts hwy
    have hns := nsN_sum g3
    rw [hnsd] at hns
    have hD0 : 0 < ns.sum := by omega
    have g5 := g3 _ (wt_getD hkl)
    obtain ⟨u, hu⟩ : ∃ u : Nat, ws.getD ln 0 = u := ⟨(ws.getD ln 0).toNat, by omega⟩
    have hnu : ns.getD ln 0 = u := by
      have := nsN_get g3 hkl
      rw [hnsd, hu] at this; omega
    obtain ⟨q1, q2⟩ := fsR_yes (j := ln) hwy hok
    rw [q1] at hyes
    rw [fsN, hx, hu, show ws.sum.toNat = ns.sum by omega] at q2 hyes
    rw [q2] at hoa
    have hrr := hoa.reps.ext yc
    have hrok := redR_ok hD0 hyes
    have hrm : redR (x * (u : Int)) ns.sum = rmk (redN (x * (u : Int)) ns.sum) (redD (x * (u : Int)) ns.sum) := by rw [redR, if_pos hyes]
    refine ⟨_, _, _, _, _, _, _, hbc.loadA0 (by kernel_rfl), ?_⟩
    refine Ret.at (spec_RatRound_n (N := redN (x * (u : Int)) ns.sum) (D := redD (x * (u : Int)) ns.sum) (m := 0) (by rw [<- hrm]; exact hrr) (by rw [<- hrm]; exact hrok)) ?_
    rintro v wd ⟨vsd, fd, hv, hod, ndd, yd⟩
    subst hv
    have hod : Owns wd wc.heap.size vsd (enc (rround (redN (x * (u : Int)) ns.sum) (redD (x * (u : Int)) ns.sum) 0)) fd := hod
    rw [round_sg hD0, hm] at hod
    obtain ⟨t0, tp, tn, tc, tz, rfl, _, _⟩ := open_Signed hod.reps (enc_code _)
    refine ⟨_, _, _, _, _, rfl, ?_⟩
    intro r4 we hne
    obtain ⟨wf, stf, hbf, yf⟩ := hne.fill (P := P) (t := T_impl_Signed) (xs := [.bool t0, .slice tp tn tc]) (by simp [Value.oneCell']) (by kernel_rfl) rfl
    refine ⟨wf, stf, _, _, _, _, hbf.loadA0 (by kernel_rfl), ?_⟩
    intro r5 wg hng
    have Yc := ya.trans yc
    have Yf := (Yc.trans yd).trans yf
    have Yg := Yf.trans hng.ext
    have lc1 := Yc.le; have lf1 := Yf.le; have lg1 := Yg.le; have lX := hX.le
    have hodg : Owns wg w1.heap.size [.bool t0, .slice tp tn tc] (enc (sgI (decide (x < 0)) (m * u / ns.sum))) fd := ((hod.ext yf).ext hng.ext).mono (by omega)
    have ltd := hod.lt
    obtain ⟨pp', pc', wh, f', hap, hpar', chh, hf'⟩ := OwnRows_pushF (P := P) (hpar.ext Yg) sliceT_sgU (by omega) hng.blk rfl hodg ndd (fun q hq hm => by
      have h1 := (ltd q hq).1; have h2 := (hfl q hm).2; omega) (by omega) (by decide)
    have hbl : ∀ q ∈ (pp.map (·.block)).toList, q ∈ f := fun q hq => hpar.blk_mem q hq
    have hcb : Blk wh r3 T_impl_Rat _ := (((hbc.ext yd).ext yf).ext hng.ext).chg chh (fun hm => by
      have h1 := (hfl r3 (hbl r3 hm)).2; have h2 := hnb.r_eq; have := ya.le; omega)
    have hoh : Owns wh wa.heap.size [.bool s0, .slice sp sn sc, .slice sp2 sn2 sc2] (redR (x * (u : Int)) ns.sum) fa -> True := fun _ => trivial
    have lta := hoa.lt
    have hreph : Reps wh [.bool s0, .slice sp sn sc, .slice sp2 sn2 sc2] (redR (x * (u : Int)) ns.sum) :=
      (((((hoa.ext yc).ext yd).ext yf).ext hng.ext).chg chh (fun q hq hm => by
        have h1 := (lta q hq).1; have h2 := (hfl q (hbl q hm)).2; omega)).reps
    refine ⟨_, _, _, wh, hap, _, _, _, _, _, _, _, hcb.loadA0 (by kernel_rfl), ?_⟩
    refine Ret.at (spec_l12Size_c hreph hyes hD0) ?_
    rintro v wi ⟨vsi, fi, d, hv, hoi, hld, yi⟩
    subst hv
    obtain ⟨v0, vp, vn, vc, vz, vp2, vn2, vc2, vz2, rfl, _, _, _⟩ := open_Rat hoi.reps hld.code
    refine ⟨_, _, _, _, _, _, _, rfl, ?_⟩
    intro r6 wj hnj
    have Yj := yi.trans hnj.ext
    have lh1 := chh.size; have lj1 := Yj.le
    have chW : Chg (pp.map (·.block)).toList W wj := (Yg.toChg.trans chh).trans Yj.toChg
    have hlackj := hlack.chg chW (fun y hy hm => hdis y (hbl y hm) hy)
    have hld2 : LackIs ns.sum (curL (shR m ns) 0 ln) d := by
      have e : curL (shR m ns) 0 ln = (x * (u : Int)).natAbs % ns.sum := by
        unfold curL
        rw [if_neg (by simp), shR_get (by omega), hnu, Int.natAbs_mul, Int.natAbs_natCast, hm]
      rw [e]; exact hld
    have lti := hoi.lt
    obtain ⟨lp', lc', wk, f2', hal, hlack', chk, hf2'⟩ := hlackj.push (by omega) (by omega) hnj.blk rfl ((hoi.ext hnj.ext).mono (by omega)) hld2 (fun q hq hm => by
      have h1 := (lti q hq).1; have h2 := (hl2 q hm).2; omega)
    have hlb : ∀ q ∈ (lp.map (·.block)).toList, q ∈ f2 := fun q hq => hlack.pb q (Option.mem_toList.1 hq)
    have lk1 := chk.size
    refine ⟨_, _, _, wk, hal, exW ⟨by omega, by omega⟩ ⟨⟨ln + 1, f', f2', by omega, by omega, rfl, rfl, ?_, by omega, ?_, hlack', ?_, fun j hj => ?_⟩, ?_⟩⟩
    · have h1 : Ext w1 wj := ((hX.trans Yg).chg chh (fun q hq => (hfl q (hbl q hq)).1)).trans Yj
      exact h1.chg chk (fun q hq => (hl2 q (hlb q hq)).1)
    · have e : giveL (decide (x < 0)) m ns (ln + 1) 0 = giveL (decide (x < 0)) m ns ln 0 ++ [enc (sgI (decide (x < 0)) (m * u / ns.sum))] := by
        unfold giveL
        rw [range_map_succ, shP_zero, shQ_get (by omega), hnu]
      rw [e]
      refine (hpar'.ext Yj).chg chk fun q hq hm => ?_
      have h1 := hlb q hm
      rcases hf' q hq with h2 | h2 | h2
      · exact hdis q h2 h1
      · have := (ltd q h2).1; have := (hl2 q h1).2; omega
      · have := (hl2 q h1).2; omega
    · intro q hq hm
      have hqh : q < wh.heap.size := (hpar'.lt q hq).2
      rcases hf2' q hm with h2 | h2 | h2
      · rcases hf' q hq with h3 | h3 | h3
        · exact hdis q h3 h2
        · have := (ltd q h3).1; have := (hl2 q h2).2; omega
        · have := (hl2 q h2).2; omega
      · have := (lti q h2).1; omega
      · omega
    · by_cases e : j = ln
      · subst e; rw [q1, fsN, hx, hu, show ws.sum.toNat = ns.sum by omega]; exact hyes
      · exact hall j (by omega)
    · show n - ((ln : Int) + 1).toNat < n - (ln : Int).toNat
      omega
  · have hkn2 : ln = n := by omega
    subst hkn2
    refine Ret.at (spec_WeightsOk_c (hw.ext Xw)) ?_
    rintro v w4 ⟨rfl, rfl⟩
    refine ⟨_, rfl, ifN (fun hwn => ifT (fail _ Xw (shOk_no1 hwn))) (fun hwy => ?_)⟩
    obtain ⟨g1, g2, g3, g4⟩ := wOk_parts hwy
    have hns := nsN_sum g3
    rw [hnsd] at hns
    have hD0 : 0 < ns.sum := by omega
    refine ⟨_, _, _, _, (b0.ext hX).loadA0 (by kernel_rfl), ?_⟩
    refine Ret.at (spec_IntOk_c (hr.ext Xw) hc) ?_
    rintro v w5 ⟨rfl, y5⟩
    refine ⟨_, rfl, ifN (fun hno => fail _ (Xw.trans y5) (shOk_no2 hno)) (fun hok => ?_)⟩
    have hsh : shT dx ws = (true, giveL (decide (x < 0)) m ns ln (shM m ns)) := by
      rw [shOk_yes hwy hok (fun j hj => hall j (by omega)), shMiss, hx, hm, hnsd]
      unfold shL shE giveL
      rw [hx, hm, hnsd, hl]
    obtain ⟨hen, b', z', hbz, hcz, hz50⟩ := intOk_enc hok
    rw [hx] at hen
    have hdx2 := hdx
    rw [hen] at hdx2
    simp only [enc, List.cons.injEq, D0.bool.injEq, D0.ints.injEq, and_true] at hdx2
    obtain ⟨rfl, rfl⟩ := hdx2
    have hm50 : (digs m).length <= 50 := by
      rw [hdx] at hbz
      simp only [List.cons.injEq, D0.bool.injEq, D0.ints.injEq, and_true] at hbz
      rw [<- hbz.2, hm] at hz50; exact hz50
    have hxm : x = sgI (decide (x < 0)) m := by
      unfold sgI
      by_cases h : x < 0
      · rw [decide_eq_true h, if_pos rfl]; omega
      · rw [decide_eq_false h, if_neg (by simp)]; omega
    have hq0 : giveL (decide (x < 0)) m ns ln 0 = (shQ m ns).map fun q => enc (sgI (decide (x < 0)) q) := by
      apply List.ext_getElem?
      intro j
      unfold giveL
      by_cases hj : j < ln
      · rw [List.getElem?_map, List.getElem?_range hj, List.getElem?_map, List.getElem?_eq_getElem (by rw [shQ_len]; omega)]
        simp only [Option.map_some, shP_zero]
        rw [List.getD_eq_getElem?_getD, List.getElem?_eq_getElem (by rw [shQ_len]; omega)]; rfl
      · rw [List.getElem?_eq_none (by simp; omega), List.getElem?_eq_none (by rw [List.length_map, shQ_len]; omega)]
    have hqs := shQ_le (m := m) hD0
    unfold spec_Shares_j0
    have D5 := Ext.drew w5
    have X5 := (hX.trans y5).trans D5
    refine ⟨_, _, _, _, fun V hV => ((b0.ext X5).ext hV).loadA0 (by kernel_rfl), ?_⟩
    have hpar5 := hpar.ext (y5.trans D5)
    refine Ret.at (spec_IntSum_c hpar5.rows (fun y hy => by
      obtain ⟨j, _, rfl⟩ := List.mem_map.1 hy
      exact enc_code _)) ?_
    rintro v w6 ⟨vs6, f6, hv, ho6, nd6, y6⟩
    subst hv
    rw [hq0, isum_sg0 hm50 hqs] at ho6
    obtain ⟨s0, sp, sn, sc, sz, rfl, _, _⟩ := open_Signed ho6.reps (enc_code _)
    refine ⟨_, _, _, _, rfl, y6, ?_⟩
    have hmE : shM m ns = m - (shQ m ns).sum := rfl
    have hdif : x - sgI (decide (x < 0)) (shQ m ns).sum = sgI (decide (x < 0)) (shM m ns) := by
      have e : m = shM m ns + (shQ m ns).sum := by omega
      have h1 := sgI_sub (decide (x < 0)) (shM m ns) (shQ m ns).sum
      rw [<- e, <- hxm] at h1
      exact h1
    have hmlen : (digs (shM m ns)).length <= 50 := Nat.le_trans (digs_mono_len (by omega)) hm50
    refine Ret.at (spec_IntSub_l (x := x) (by rw [<- hen]; exact hr.ext ((hn1.ext.trans X5).trans y6)) ho6.reps (by rw [hm]; exact hm50) (by rw [sgI_abs]; exact Nat.le_trans (digs_mono_len hqs) hm50) (by rw [hdif, sgI_abs]; exact hmlen)) ?_
    rintro v w7 ⟨vs7, f7, hv, ho7, nd7, y7⟩
    subst hv
    rw [hdif] at ho7
    obtain ⟨t0, tp, tn, tc, tz, rfl, _, _⟩ := open_Signed ho7.reps (enc_code _)
    refine ⟨_, _, _, _, rfl, ?_⟩
    refine Ret.at (spec_IntAbs_n ho7.reps (enc_ok (by rw [sgI_abs]; exact hmlen)) (digs_canon _)) ?_
    rintro v w8 ⟨vs8, f8, hv, ho8, nd8, y8⟩
    subst hv
    rw [val_digs, sgI_abs] at ho8
    obtain ⟨v0, vp, vn, vc, vz, rfl, _, _⟩ := open_Signed ho8.reps (enc_code _)
    refine ⟨_, _, _, _, rfl, ?_⟩
    have hml : shM m ns <= ln := by have := shM_len (m := m) hD0; omega
    refine Ret.at (spec_IntNum_s ho8.reps (by omega)) ?_
    rintro v w9 ⟨rfl, y9⟩
    refine ⟨_, _, rfl, ?_⟩
    refine Ret.at (spec_IntOf_c (n := 1) (by decide) (by decide)) ?_
    rintro v wa ⟨vsa, fa, hv, hoa, nda, ya⟩
    subst hv
    obtain ⟨a0, ap2, an2, ac2, az2, rfl, _, _⟩ := open_Signed hoa.reps (enc_code _)
    refine ⟨_, _, _, _, rfl, ?_⟩
    intro r7 wb hnb
    obtain ⟨wc, stc, hbc, yc⟩ := hnb.fill (P := P) (t := T_impl_Signed) (xs := [.bool a0, .slice ap2 an2 ac2]) (by simp [Value.oneCell']) (by kernel_rfl) rfl
    have Y9 := ((y6.trans y7).trans y8).trans y9
    have Ya := Y9.trans ya
    have Yc := Ya.trans yc
    have Yw := (y5.trans D5).trans Yc
    have e7 := hnb.r_eq
    have l5 := (y5.trans D5).le; have l9 := Y9.le; have la := ya.le; have lc2 := yc.le
    refine ⟨wc, stc, _, ((b0.ext X5).ext Yc).loadAt 0 rfl (by kernel_rfl) rfl, ?_⟩
    have j1 : ∀ (W' : World) (vs1 : List Value) (f1 : List Nat), Ext w w5.drew -> Ext w5.drew W' -> Blk W' r7 T_impl_Signed vs1 -> Owns W' w5.drew.heap.size vs1 (enc (sgI (decide (x < 0)) 1)) f1 ->
        spec_Shares_j1 pp ln pc lp ln ((shM m ns : Nat) : Int) r7 W' fun v w' => ∃ p' n' c' f, v = .tuple #[.slice p' n' c', .bool (shT dx ws).1] /\ OwnRows w' w.heap.size T_impl_Signed 2 p' n' c' (shT dx ws).2 f /\ Ext w w' := by
      intro W' vs1 f1 hE1 hE2 hb hO
      have lE := hE2.le; have lX5 := X5.le
      have ltO := hO.lt
      refine spec_j1 (w0 := w) (B := w1.heap.size) (hE1.trans hE2) (by omega) (by omega) hD0 hnl (by omega) hm50 (hpar5.ext hE2) ((hlack.ext (y5.trans D5)).ext hE2) hdis hb (hO.mono (by omega)) (fun q hq => ?_) ?_
      · have hq2 : w5.drew.heap.size <= q := by
          rcases List.mem_cons.1 hq with h | h
          · omega
          · exact (ltO q h).1
        exact ⟨fun hm => by have := (hfl q hm).2; omega, fun hm => by have := (hl2 q hm).2; omega⟩
      · intro W2 f' hX2 hP
        rw [hsh]
        exact ⟨_, _, _, f', rfl, hP.mono (by omega), hX2⟩
    have Xd : Ext w w5.drew := hn1.ext.trans X5
    refine ⟨fun hneg => ?_, fun hneg => ?_⟩
    · refine Ret.at (spec_IntOf_c (n := -1) (by decide) (by decide)) ?_
      rintro v wd ⟨vsd, fd, hv, hod, ndd, yd⟩
      subst hv
      obtain ⟨d0, dp, dn, dc, dz, rfl, _, _⟩ := open_Signed hod.reps (enc_code _)
      obtain ⟨we, ste, hbe, che, _⟩ := (hbc.ext yd).storeA0 (P := P) (t := T_impl_Signed) (xs := [.bool d0, .slice dp dn dc]) (by kernel_rfl) rfl (by simp [Value.oneCell'])
      have ltd := hod.lt
      have hb7 := hbc.lt
      refine ⟨_, _, _, _, rfl, we, ste, j1 we _ fd Xd ((Yc.trans yd).chg che (fun q hq => by have := List.mem_singleton.1 hq; omega)) hbe ?_⟩
      rw [hneg]
      exact (hod.chg che (fun q hq hm => by have := (ltd q hq).1; simp at hm; omega)).mono (by omega)
    · refine j1 wc _ fa Xd Yc hbc ?_
      rw [hneg]
      exact (hoa.ext yc).mono (by omega)
end Go.Proofs.YtbgokfhcgcoipaaGreat
namespace Go.Proofs.YtbgokfhcgcoipaaGreat
open Go Go.Proofs.YtbgokfhcgcoipaaGreat.Sx
theorem shT_len' (dx : List D0) (ws : List Int) : (shT dx ws).2.length <= 30 := by
  unfold shT
  split
  · rename_i h1
    simp only [shOk, Bool.and_eq_true] at h1
    have := (wOk_parts h1.1).2.1
    simp only [shL, List.length_map, List.length_range]
    exact this
  · simp
theorem shT_small' {dx : List D0} {ws : List Int} : ∀ x ∈ (shT dx ws).2, ∃ z : Int, x = enc z /\ (digs z.natAbs).length <= 51 := fun x hx => by
  unfold shT at hx
  split at hx
  · rename_i h
    simp only [shOk, Bool.and_eq_true] at h
    obtain ⟨h1, h2, h3⟩ := h
    obtain ⟨g1, g2, g3, g4⟩ := wOk_parts h1
    obtain ⟨hen, b', z', hbz, hcz, hz50⟩ := intOk_enc h2
    obtain ⟨j, hj, rfl⟩ := List.mem_map.1 hx
    refine ⟨_, rfl, ?_⟩
    rw [sgI_abs]
    obtain ⟨m, hm⟩ : ∃ m, (ival dx).natAbs = m := ⟨_, rfl⟩
    have hm50 : (digs m).length <= 50 := by
      rw [hen] at hbz
      simp only [enc, List.cons.injEq, D0.bool.injEq, D0.ints.injEq, and_true] at hbz
      rw [<- hm, hbz.2]; exact hz50
    rw [hm]
    have hns := nsN_sum g3
    have hkb : shP m (nsN ws) (shMiss dx ws) j <= m + 1 := by
      unfold shP
      have h1 : (shQ m (nsN ws)).getD j 0 <= m := by
        have hj2 := List.mem_range.1 hj
        have h2 := sumN_take_succ (l := shQ m (nsN ws)) (k := j) (by rw [shQ_len, nsN_len]; exact hj2)
        have h3 := sumN_take_le (shQ m (nsN ws)) (j + 1)
        have h4 := shQ_le (m := m) (ws := nsN ws) (by omega)
        omega
      split <;> omega
    have h1 := digs_mono_len hkb
    have h2 := sum_len (x := (m : Int)) (y := 1) (i := 50) (by simpa using hm50) (by rw [show (1 : Int).natAbs = 1 from rfl, digs_one]; decide)
    rw [show ((m : Int) + 1).natAbs = m + 1 by omega] at h2
    omega
  · simp at hx
theorem shT_cnt (dx : List D0) (ws : List Int) : cntL (shT dx ws).2 <= 1000000000 := by
  have := cntL_le (l := (shT dx ws).2) (k := 100) (fun x hx => by
    obtain ⟨z, rfl, hz⟩ := shT_small' x hx
    simp only [enc, cnts, D0.cnt]
    omega)
  have hl := shT_len' dx ws
  omega
end Go.Proofs.YtbgokfhcgcoipaaGreat
namespace Go.Proofs.YtbgokfhcgcoipaaGreat
open Go Go.Proofs.YtbgokfhcgcoipaaGreat.Sx
def seT (dx : List D0) (n : Int) : Bool × List (List D0) := if 1 <= n /\ n <= 30 then shT dx (List.replicate n.toNat 1) else (false, [])
theorem seT_code (dx : List D0) (n : Int) : ∀ x ∈ (seT dx n).2, x.map D0.code = [.bool, .ints] := by
  unfold seT
  split
  · exact shT_code _ _
  · intro x hx; simp at hx
theorem seT_cnt (dx : List D0) (n : Int) : cntL (seT dx n).2 <= 1000000000 := by
  unfold seT
  split
  · exact shT_cnt _ _
  · decide
theorem seT_yes {dx : List D0} {n : Nat} (h1 : 1 <= n) (h2 : n <= 30) : seT dx n = shT dx (List.replicate n 1) := by
  unfold seT; rw [if_pos (by omega), Int.toNat_natCast]
theorem seT_no {dx : List D0} {n : Int} (h : n < 1 ∨ 30 < n) : seT dx n = (false, []) := by
  unfold seT; rw [if_neg (by omega)]
theorem impl_SharesEven_c {w : World} {xs : List Value} {dx : List D0} (h : Reps w xs dx) (hc : dx.map D0.code = [.bool, .ints]) (n : Int) :
    Ret P n_impl_SharesEven [.agg ⟨xs⟩, .int .i64 n] w fun v w' => ∃ p' n' c' f, v = .tuple #[.slice p' n' c', .bool (seT dx n).1] /\ OwnRows w' w.heap.size T_impl_Signed 2 p' n' c' (seT dx n).2 f /\ (∀ x ∈ (seT dx n).2, x.map D0.code = [.bool, .ints]) /\ cntL (seT dx n).2 <= 1000000000 /\ Ext w w' := by
  have hr := h
  obtain ⟨b, ap, an, ac, az, rfl, hdx, hi⟩ := open_Signed h hc
  refine impl_SharesEven_ret ?_
  unfold impl_SharesEven
  intro r w1 hn1
  have nop : ∀ W, Ext w W -> (n < 1 ∨ 30 < n) -> ∃ p' n' c' f, (Value.tuple #[.slice none 0 0, .bool false]) = .tuple #[.slice p' n' c', .bool (seT dx n).1] /\ OwnRows W w.heap.size T_impl_Signed 2 p' n' c' (seT dx n).2 f /\ (∀ x ∈ (seT dx n).2, x.map D0.code = [.bool, .ints]) /\ cntL (seT dx n).2 <= 1000000000 /\ Ext w W := by
    intro W hW hno
    refine ⟨none, 0, 0, [], by rw [seT_no hno], ?_, seT_code _ _, seT_cnt _ _, hW⟩
    rw [seT_no hno]
    exact ⟨rfl, [], [], trivial, Own.nil _ _ _ _, by simp, by simp⟩
  refine ifD (fun hlt => ifT (nop _ hn1.ext (.inl hlt))) (fun hge => ifD (fun hlt => nop _ hn1.ext (.inr hlt)) (fun hle => ?_))
  obtain ⟨k, rfl⟩ : ∃ k : Nat, n = k := ⟨n.toNat, by omega⟩
  have e1 := hn1.r_eq; have s1 := hn1.size
  have bd := hn1.blk.ext (Ext.drew w1)
  refine ⟨_, _, _, _, fun W hW => (bd.ext hW).loadA0 (by kernel_rfl), ?_⟩
  intro r2 w2 hn2
  have X2 := (hn1.ext.trans (Ext.drew w1)).trans hn2.ext
  refine ⟨hn2.ext, ?_⟩
  refine Ret.at (slices_Repeat_c (b := r2) (o := 0) (c := 1) hn2.blk.seg (by omega) (by omega)) ?_
  rintro v w3 ⟨r3, hv, hr3, hb3, y3⟩
  subst hv
  refine ⟨_, _, _, rfl, y3, ?_⟩
  have hl : IntsR w3 (some ⟨r3, 0, none⟩) k k (List.replicate k 1) := by
    have := Own.of_blk (base := 0) (size := 1) (n := k) hb3 (Nat.zero_le _) (by simp) (by simp only [maxLen]; omega)
    exact Own.ints (zs := List.replicate k 1) this
  refine Ret.at (impl_Shares_o (hr.ext (X2.trans y3)) hc hl) ?_
  rintro v w4 ⟨p', k', c', f, hv, hP, y4⟩
  subst hv
  have X3 := X2.trans y3
  refine ⟨_, _, _, _, rfl, p', k', c', f, by rw [seT_yes (by omega) (by omega)], ?_, seT_code _ _, seT_cnt _ _, X3.trans y4⟩
  rw [seT_yes (by omega) (by omega)]
  exact hP.mono X3.le
theorem spec_SharesEven_c {w : World} {xs : List Value} {dx : List D0} (h : Reps w xs dx) (hc : dx.map D0.code = [.bool, .ints]) (n : Int) :
    Ret P n_spec_SharesEven [.agg ⟨xs⟩, .int .i64 n] w fun v w' => ∃ p' n' c', v = .tuple #[.slice p' n' c', .bool (seT dx n).1] /\ RowsR w' 2 p' n' c' (seT dx n).2 /\ (∀ x ∈ (seT dx n).2, x.map D0.code = [.bool, .ints]) /\ Ext w w' := by
  have hr := h
  obtain ⟨b, ap, an, ac, az, rfl, hdx, hi⟩ := open_Signed h hc
  refine spec_SharesEven_ret ?_
  unfold spec_SharesEven
  intro r w1 hn1
  refine Ret.at (spec_l01In_c n 1 30 w1) ?_
  rintro v w1' ⟨hv, hw⟩
  subst hv; subst hw
  refine ⟨_, rfl, ifN (fun hno => ?_) (fun hyes => ?_)⟩
  · have hno' : n < 1 ∨ 30 < n := by
      have := of_decide_eq_false hno
      omega
    refine ⟨none, 0, 0, by rw [seT_no hno'], ?_, seT_code _ _, hn1.ext⟩
    rw [seT_no hno']
    exact RowsR.nil _ _ _ (by omega)
  · have hyes' := of_decide_eq_true hyes
    obtain ⟨k, rfl⟩ : ∃ k : Nat, n = k := ⟨n.toNat, by omega⟩
    intro r2 w2 hn2
    have e1 := hn1.r_eq; have s1 := hn1.size; have e2 := hn2.r_eq; have s2 := hn2.size
    refine ⟨fun p m c W => m <= k /\ Sx.Own W w1'.heap.size T_int 1 p m c ((List.replicate m (1 : Int)).map (Value.int .i64)) /\ Ext w1' W, fun _ m _ _ => k - m,
      ⟨by omega, Own.of_blk0 hn2.blk (by omega) (by simp) (by decide), hn2.ext⟩, ?_⟩
    intro junk W p m c ⟨hm, hown, hx⟩
    have lx := hx.le
    refine ifD (fun hlt => ?_) (fun hge => ?_)
    · intro r4 w4 hn4
      obtain ⟨p5, c5, w5, ap5, o5, ch5, _⟩ := (hown.ext hn4.ext).push1 (P := P) sliceT_int (by have := hn4.ext.le; omega) hn4.blk rfl (by simp [Value.oneCell']) (by omega) (by omega)
      have pb : ∀ q ∈ (p.map (·.block)).toList, w1'.heap.size <= q /\ q < W.heap.size := fun q hq => World.ownsRow.lt hown q (by cases p <;> simp_all [Value.ownBlock])
      refine ⟨p5, m + 1, c5, w5, ap5, ⟨by omega, ?_, (hx.trans hn4.ext).chg ch5 (fun q hq => (pb q hq).1)⟩, by show k - (m + 1) < k - m; omega⟩
      rw [List.replicate_succ', List.map_append]; exact o5
    · have hmk : m = k := by omega
      subst hmk
      refine ⟨_, _, _, _, (hn1.blk.ext hx).loadA0 (by kernel_rfl), ?_⟩
      refine Ret.at (spec_Shares_o (hr.ext (hn1.ext.trans hx)) hc (Own.ints (zs := List.replicate m 1) hown) (by omega)) ?_
      rintro v w6 ⟨p', k', c', f, hv, hP, y6⟩
      subst hv
      refine ⟨_, _, _, _, rfl, p', k', c', by rw [seT_yes (by omega) (by omega)], ?_, seT_code _ _, (hn1.ext.trans hx).trans y6⟩
      rw [seT_yes (by omega) (by omega)]
      exact hP.rows
end Go.Proofs.YtbgokfhcgcoipaaGreat
namespace Go.Proofs.YtbgokfhcgcoipaaGreat
open Go Go.Proofs.YtbgokfhcgcoipaaGreat.Sx
set_option maxHeartbeats 4000000
theorem laws_FnExactSharesEven_c {w : World} {vs0 : List Value} {d0 : List D0} (h0 : Reps w vs0 d0) (hc0 : d0.map D0.code = [.bool, .ints]) (hk0 : ∀ x ∈ d0, x.ok) (a1 : Int) :
    Ret P n_laws_FnExactSharesEven [.agg ⟨vs0⟩, .int .i64 a1] w fun v w' => v = .bool true /\ Ext w w' := by
  have hr0 := h0
  obtain ⟨u00, u01p, u01n, u01c, u01z, rfl, rfl, u01h⟩ := open_Signed h0 hc0
  refine laws_FnExactSharesEven_ret ?_
  unfold laws_FnExactSharesEven
  have x : Ext w w := Ext.refl w
  intro r_a0 W1 hn
  have er_a0 := hn.r_eq; have sr_a0 := hn.size
  have y := hn.ext
  replace x := x.trans y
  have ll1 := y.le
  have bk_a0 := hn.blk; clear hn
  refine ⟨_, _, _, _, bk_a0.loadA0 (by kernel_rfl), ?_⟩
  refine Ret.at (laws_szSigned_c (hr0.ext x) rfl hk0 (by omega) (by omega)) ?_
  rintro v W2 ⟨k0, hv, hs0, hm0, y⟩
  subst hv
  replace x := x.trans y
  replace bk_a0 := bk_a0.ext y
  have ll2 := y.le
  refine ⟨_, rfl, ifD (fun _ => ⟨rfl, x⟩) (fun hp0 => ?_)⟩
  have hs0 := hs0 (by omega)
  simp only [bulks, D0.bulk, List.map_cons, List.map_nil, List.sum_cons, List.sum_nil] at hs0
  refine ⟨_, _, _, _, bk_a0.loadA0 (by kernel_rfl), ?_⟩
  refine Ret.at (laws_toSigned_c (hr0.ext x) rfl (by simp only [bulks, D0.bulk, List.map_cons, List.map_nil, List.sum_cons, List.sum_nil]; omega)) ?_
  rintro v W3 ⟨vs, f_s0, hv, o_s0, nd_s0, y⟩
  subst hv
  obtain ⟨ts00, ts01p, ts01n, ts01c, ts01z, rfl, hds0, ts01h⟩ := open_Signed o_s0.reps rfl
  have lt_o_s0 : ∀ k ∈ f_s0, W2.heap.size <= k /\ k < W3.heap.size := o_s0.lt
  have yy := y
  replace x := x.trans y
  replace bk_a0 := bk_a0.ext y
  have ll3 := y.le
  refine ⟨_, _, _, _, rfl, ?_⟩
  refine Ret.at (spec_SharesEven_c o_s0.reps rfl a1) ?_
  rintro v W4 ⟨p_w0, m_w0, c_w0, hv, o_w0, co_w0, y⟩
  subst hv
  replace x := x.trans y
  replace bk_a0 := bk_a0.ext y
  have ll4 := y.le
  have xS := Ext.refl W4
  refine ⟨_, _, _, _, rfl, ?_⟩
  refine ⟨_, _, _, _, bk_a0.loadA0 (by kernel_rfl), ?_⟩
  refine Ret.at (laws_toSigned_c (hr0.ext x) rfl (by simp only [bulks, D0.bulk, List.map_cons, List.map_nil, List.sum_cons, List.sum_nil]; omega)) ?_
  rintro v W5 ⟨vs, f_x0, hv, o_x0, nd_x0, y⟩
  subst hv
  obtain ⟨tx00, tx01p, tx01n, tx01c, tx01z, rfl, hdx0, tx01h⟩ := open_Signed o_x0.reps rfl
  have lt_o_x0 : ∀ k ∈ f_x0, W4.heap.size <= k /\ k < W5.heap.size := o_x0.lt
  replace x := x.trans y
  replace xS := xS.trans y
  replace bk_a0 := bk_a0.ext y
  have ll5 := y.le
  refine ⟨_, _, _, _, rfl, ?_⟩
  intro r_x0 W6 hn
  have er_x0 := hn.r_eq; have sr_x0 := hn.size
  have y := hn.ext
  replace x := x.trans y
  replace xS := xS.trans y
  replace bk_a0 := bk_a0.ext y
  replace o_x0 := o_x0.ext y
  have ll6 := y.le
  have bk_x0 := hn.blk; clear hn
  obtain ⟨W7, st, bq, ch, sz⟩ := bk_x0.storeA0 (P := P) (t := T_impl_Signed) (xs := [.bool tx00, .slice tx01p tx01n tx01c]) (by kernel_rfl) rfl o_x0.reps.cells1
  replace x := x.chg ch (by simp; omega)
  replace xS := xS.chg ch (by simp; omega)
  replace bk_a0 := bk_a0.chg ch (by simp; omega)
  replace o_x0 := o_x0.chg ch (fun k hk hm => by have h1 := lt_o_x0 k hk; simp at hm; omega)
  have bk_x0 := bq; clear bq
  have ll7 := ch.size
  refine ⟨_, st, ?_⟩
  refine ⟨_, _, _, _, bk_x0.loadA0 (by kernel_rfl), ?_⟩
  refine Ret.at (impl_SharesEven_c o_x0.reps rfl a1) ?_
  rintro v W8 ⟨p_g0, m_g0, c_g0, f_g0, hv, o_g0, co_g0, ct_g0, y⟩
  subst hv
  have tn_g0 := cntL_nn ct_g0
  have lt_o_g0 : ∀ k ∈ f_g0, W7.heap.size <= k /\ k < W8.heap.size := o_g0.lt
  replace x := x.trans y
  replace xS := xS.trans y
  replace bk_a0 := bk_a0.ext y
  replace bk_x0 := bk_x0.ext y
  replace o_x0 := o_x0.ext y
  have ll8 := y.le
  refine ⟨_, _, _, _, rfl, ?_⟩
  refine Ret.at (laws_eqSignedS_c o_g0.rows (o_w0.ext xS) co_g0 co_w0) ?_
  rintro v W9 ⟨hv, y⟩
  subst hv
  replace x := x.trans y
  replace xS := xS.trans y
  replace bk_a0 := bk_a0.ext y
  replace bk_x0 := bk_x0.ext y
  replace o_x0 := o_x0.ext y
  replace o_g0 := o_g0.ext y
  have ll9 := y.le
  refine ⟨_, rfl, ifN (fun h => absurd h (by simp)) (fun _ => ?_)⟩
  refine ⟨fun h => absurd h (bne_no rfl), fun _ => ?_⟩
  unfold laws_FnExactSharesEven_j0
  refine ⟨_, _, _, _, fun W' hW => (bk_x0.ext ((Ext.drew _).trans hW)).loadA0 (by kernel_rfl), _, _, _, _, fun W' hW => (bk_a0.ext ((Ext.drew _).trans hW)).loadA0 (by kernel_rfl), ?_⟩
  have y := Ext.drew W9
  replace x := x.trans y
  replace xS := xS.trans y
  replace bk_a0 := bk_a0.ext y
  replace bk_x0 := bk_x0.ext y
  replace o_x0 := o_x0.ext y
  replace o_g0 := o_g0.ext y
  have ll10 := y.le
  refine Ret.at (laws_toSigned_c (hr0.ext x) rfl (by simp only [bulks, D0.bulk, List.map_cons, List.map_nil, List.sum_cons, List.sum_nil]; omega)) ?_
  rintro v W10 ⟨vs, f_y0, hv, o_y0, nd_y0, y⟩
  subst hv
  obtain ⟨ty00, ty01p, ty01n, ty01c, ty01z, rfl, hdy0, ty01h⟩ := open_Signed o_y0.reps rfl
  have lt_o_y0 : ∀ k ∈ f_y0, W9.heap.size <= k /\ k < W10.heap.size := o_y0.lt
  have y2 := y
  replace x := x.trans y
  replace xS := xS.trans y
  replace bk_a0 := bk_a0.ext y
  replace bk_x0 := bk_x0.ext y
  replace o_x0 := o_x0.ext y
  replace o_g0 := o_g0.ext y
  have ll11 := y.le
  refine ⟨_, _, _, _, rfl, y, ?_⟩
  refine Ret.at (laws_eqSigned_c o_x0.reps o_y0.reps rfl rfl) ?_
  rintro v W11 ⟨hv, y⟩
  subst hv
  replace x := x.trans y
  replace xS := xS.trans y
  replace bk_a0 := bk_a0.ext y
  replace bk_x0 := bk_x0.ext y
  replace o_x0 := o_x0.ext y
  replace o_g0 := o_g0.ext y
  have ll12 := y.le
  refine ⟨_, rfl, ifN (fun h => absurd h (by simp)) (fun _ => ?_)⟩
  refine ⟨_, _, _, _, bk_x0.loadA0 (by kernel_rfl), ?_⟩
  refine Ret.at (laws_markSigned_c o_x0 nd_x0 rfl (by first | omega | (simp only [tcnts]; omega)) (by simp only [tcnts]; omega)) ?_
  rintro v W12 ⟨hv, on, ch⟩
  simp only [tcnts] at hv
  subst hv
  replace x := x.chg ch (fun k hk => by have := lt_o_x0 k hk; omega)
  replace xS := xS.chg ch (fun k hk => by have := lt_o_x0 k hk; omega)
  replace bk_a0 := bk_a0.chg ch (fun hm => by have := lt_o_x0 _ hm; omega)
  replace bk_x0 := bk_x0.chg ch (fun hm => by have := lt_o_x0 _ hm; omega)
  replace o_g0 := o_g0.chg ch (fun k hk hm => by have h1 := lt_o_g0 k hk; have h2 := lt_o_x0 k hm; omega)
  have ll13 := ch.size
  replace o_x0 := on; clear on
  refine ⟨_, rfl, ?_⟩
  refine ifD (fun h => absurd h (by omega)) (fun _ => ?_)
  refine Ret.at (laws_eqSignedS_c o_g0.rows (o_w0.ext xS) co_g0 co_w0) ?_
  rintro v W13 ⟨hv, y⟩
  subst hv
  replace x := x.trans y
  replace xS := xS.trans y
  replace bk_a0 := bk_a0.ext y
  replace bk_x0 := bk_x0.ext y
  replace o_x0 := o_x0.ext y
  replace o_g0 := o_g0.ext y
  have ll14 := y.le
  refine ⟨_, rfl, ifN (fun h => absurd h (by simp)) (fun _ => ?_)⟩
  refine ⟨fun h => absurd h (bne_no rfl), fun _ => ?_⟩
  unfold laws_FnExactSharesEven_j1
  refine Ret.at (laws_markSignedS_c o_g0 co_g0 (by omega) (by omega)) ?_
  rintro v W14 ⟨hv, on, ch⟩
  subst hv
  replace x := x.chg ch (fun k hk => by have := lt_o_g0 k hk; omega)
  replace xS := xS.chg ch (fun k hk => by have := lt_o_g0 k hk; omega)
  replace bk_a0 := bk_a0.chg ch (fun hm => by have := lt_o_g0 _ hm; omega)
  replace bk_x0 := bk_x0.chg ch (fun hm => by have := lt_o_g0 _ hm; omega)
  replace o_x0 := o_x0.chg ch (fun k hk hm => by have h1 := lt_o_x0 k hk; have h2 := lt_o_g0 k hm; omega)
  have ll15 := ch.size
  replace o_g0 := on; clear on
  refine ⟨_, rfl, ?_⟩
  refine Ret.at (laws_heldSignedS_c o_g0.rows co_g0 (by omega) (by omega)) ?_
  rintro v W15 ⟨hv, y⟩
  subst hv
  replace x := x.trans y
  replace xS := xS.trans y
  replace bk_a0 := bk_a0.ext y
  replace bk_x0 := bk_x0.ext y
  replace o_x0 := o_x0.ext y
  replace o_g0 := o_g0.ext y
  have ll16 := y.le
  refine ⟨_, rfl, ifD (fun h => absurd h (by omega)) (fun _ => ?_)⟩
  refine ifD (fun h => absurd rfl h) (fun _ => ?_)
  refine ⟨_, _, _, _, bk_a0.loadA0 (by kernel_rfl), ?_⟩
  refine Ret.at (laws_toSigned_c (hr0.ext x) rfl (by simp only [bulks, D0.bulk, List.map_cons, List.map_nil, List.sum_cons, List.sum_nil]; omega)) ?_
  rintro v W16 ⟨vs, f_h0, hv, o_h0, nd_h0, y⟩
  subst hv
  obtain ⟨th00, th01p, th01n, th01c, th01z, rfl, hdh0, th01h⟩ := open_Signed o_h0.reps rfl
  have lt_o_h0 : ∀ k ∈ f_h0, W15.heap.size <= k /\ k < W16.heap.size := o_h0.lt
  have yy := y
  replace x := x.trans y
  replace xS := xS.trans y
  replace bk_a0 := bk_a0.ext y
  replace bk_x0 := bk_x0.ext y
  replace o_x0 := o_x0.ext y
  replace o_g0 := o_g0.ext y
  have ll17 := y.le
  refine ⟨_, _, _, _, rfl, ?_⟩
  refine Ret.at (impl_SharesEven_c o_h0.reps rfl a1) ?_
  rintro v W17 ⟨p_h0, m_h0, c_h0, f_h0, hv, o_h0, co_h0, ct_h0, y⟩
  subst hv
  have tn_h0 := cntL_nn ct_h0
  have lt_o_h0 : ∀ k ∈ f_h0, W16.heap.size <= k /\ k < W17.heap.size := o_h0.lt
  replace x := x.trans y
  replace xS := xS.trans y
  replace bk_a0 := bk_a0.ext y
  replace bk_x0 := bk_x0.ext y
  replace o_x0 := o_x0.ext y
  replace o_g0 := o_g0.ext y
  have ll18 := y.le
  refine ⟨_, _, _, _, rfl, ?_⟩
  refine Ret.at (laws_eqSignedS_c o_h0.rows (o_w0.ext xS) co_h0 co_w0) ?_
  rintro v W18 ⟨hv, y⟩
  subst hv
  replace x := x.trans y
  replace xS := xS.trans y
  replace bk_a0 := bk_a0.ext y
  replace bk_x0 := bk_x0.ext y
  replace o_x0 := o_x0.ext y
  replace o_g0 := o_g0.ext y
  replace o_h0 := o_h0.ext y
  have ll19 := y.le
  refine ⟨_, rfl, ifN (fun h => absurd h (by simp)) (fun _ => ?_)⟩
  refine ⟨fun h => absurd h (bne_no rfl), fun _ => ?_⟩
  unfold laws_FnExactSharesEven_j2
  refine Ret.at (laws_heldSignedS_c o_g0.rows co_g0 (by omega) (by omega)) ?_
  rintro v W19 ⟨hv, y⟩
  subst hv
  replace x := x.trans y
  replace xS := xS.trans y
  replace bk_a0 := bk_a0.ext y
  replace bk_x0 := bk_x0.ext y
  replace o_x0 := o_x0.ext y
  replace o_g0 := o_g0.ext y
  replace o_h0 := o_h0.ext y
  have ll20 := y.le
  refine ⟨_, rfl, ifD (fun h => absurd h (by omega)) (fun _ => ?_)⟩
  refine ifD (fun h => absurd rfl h) (fun _ => ?_)
  exact ⟨rfl, x⟩
end Go.Proofs.YtbgokfhcgcoipaaGreat
