/-
  Parts of the proof of textPercent_holds: CTextPercent, SxFlS, DMarkS, DMarkD, WTextPercent, SxRow, CTabP.
  Conditions: none.
-/
import Derived.ProofKit
import Derived.Test.YtfehpaekbbmkcaaGreatDoorRows
import Derived.OpenShut
import Derived.Lib.LaidTab
import Derived.Test.YtfehpaekbbmkcaaGreatDoorTp4
set_option linter.unusedVariables false
set_option linter.unusedSimpArgs false

namespace Go.Proofs.YtfehpaekbbmkcaaGreatDoor
open Go Go.Proofs.YtfehpaekbbmkcaaGreatDoor.Sx
theorem impl_lowest_o {w : World} {B : Nat} {b : Bool} {p : Option Addr} {n c : Nat} {m s : Nat} {f : List Nat} (h : Owns w B [.bool b, .slice p n c] [.bool b, .ints (digs m)] f) (hB : B <= w.heap.size) (hb : b = true -> m ≠ 0) (hm : (digs m).length <= 6) (hs : s <= 1000) :
    Ret P n_impl_lowest [.agg ⟨[.bool b, .slice p n c]⟩, .int .i64 s] w fun v w' => ∃ vs f, v = .agg ⟨vs⟩ /\ Owns w' B vs (dsn b (lowM m s) (lowS m s)) f /\ f.Nodup /\ Ext w w' := by
  refine impl_lowest_ret ?_
  unfold impl_lowest
  intro r w1 hn1 r1 w2 hn2
  have e1 := hn1.r_eq; have e2 := hn2.r_eq; have s1 := hn1.size; have s2 := hn2.size
  have X := hn1.ext.trans hn2.ext
  have q0 := hn1.blk.ext hn2.ext; have q1 := hn2.blk
  have hfl := h.lt
  -- the end
  have fin : ∀ (W : World) (t : Nat) (pt : Option Addr) (nt ct : Nat) (ft : List Nat), Ext w W -> Blk W r T_impl_Signed [.bool b, .slice pt nt ct] -> Blk W r1 T_impl_Dec [.bool false, .slice none 0 0, .int .i64 0] -> Owns W B [.bool b, .slice pt nt ct] [.bool b, .ints (digs (m / 10 ^ (s - t)))] ft -> (∀ q ∈ ft, q ≠ r1) -> ft.Nodup -> lowS m s = t ->
      impl_lowest_j0 r r1 (t : Int) W fun v w' => ∃ vs f, v = .agg ⟨vs⟩ /\ Owns w' B vs (dsn b (lowM m s) (lowS m s)) f /\ f.Nodup /\ Ext w w' := by
    intro W t pt nt ct ft hX hr hr1 ho hft hnd ht
    unfold impl_lowest_j0
    obtain ⟨W', st, hb', cg, sz⟩ := hr1.storeA0 (P := P) (t := T_impl_Dec) (xs := [.bool b, .slice pt nt ct, .int .i64 (t : Int)]) (by kernel_rfl) rfl (by simp [Value.oneCell'])
    refine ⟨_, _, _, _, hr.loadA0 (by kernel_rfl), W', st, _, _, _, _, _, hb'.loadA0 (by kernel_rfl), _, ft, rfl, ?_, hnd, hX.chg cg (by simp; omega)⟩
    have h1 := (ho.chg cg (fun q hq => by have := hft q hq; simpa using this))
    have h2 := Owns.append h1 (Owns.int W' B (t : Int))
    rw [List.append_nil] at h2
    unfold lowM
    rw [ht]
    exact h2
  refine ⟨fun sc W => ∃ (t : Nat) (pt : Option Addr) (nt ct : Nat) (ft : List Nat), sc = t /\ t <= s /\ m % 10 ^ (s - t) = 0 /\ (b = true -> m / 10 ^ (s - t) ≠ 0) /\ Ext w W /\ Blk W r T_impl_Signed [.bool b, .slice pt nt ct] /\ Blk W r1 T_impl_Dec [.bool false, .slice none 0 0, .int .i64 0] /\ Owns W B [.bool b, .slice pt nt ct] [.bool b, .ints (digs (m / 10 ^ (s - t)))] ft /\ (∀ q ∈ ft, q ≠ r1 /\ q ≠ r) /\ ft.Nodup,
    fun sc _ => sc.toNat, ⟨s, p, n, c, f, rfl, Nat.le_refl _, by rw [Nat.sub_self, Nat.pow_zero, Nat.mod_one], by rw [Nat.sub_self, Nat.pow_zero, Nat.div_one]; exact hb, X, q0, q1, by rw [Nat.sub_self, Nat.pow_zero, Nat.div_one]; exact h.ext X, fun q hq => by have := hfl q hq; omega, owns_nd2 h⟩, ?_⟩
  rintro junk W sc ⟨t, pt, nt, ct, ft, rfl, hts, hmod, hbt, hX, hr, hr1, ho, hft, hnd⟩
  obtain ⟨x, hx⟩ : ∃ x, m / 10 ^ (s - t) = x := ⟨_, rfl⟩
  rw [hx] at hbt ho
  have hor := ho.reps
  have hml : (digs x).length <= 6 := by rw [<- hx]; exact Nat.le_trans (digs_mono_len (Nat.div_le_self _ _)) hm
  refine ifD (fun hpos => ?_) (fun hz => ?_)
  · have hi : IntsR W pt nt ct (digs x) := by
      obtain ⟨_, ⟨p', n', c', e, hi⟩, _⟩ := hor
      cases e; exact hi
    have hil := hi.1
    refine ⟨_, _, _, hr.loadAt 1 (by rw [addr_add]) (by kernel_rfl) rfl, ?_⟩
    refine Ret.at (impl_natSmall_c hi (digs_limbs _) (by omega) (by omega)) ?_
    rintro v W1 ⟨pq, nq, cq, hv, oq, y1⟩
    subst hv
    rw [val_digs] at oq ⊢
    have hq : (((x : Nat) : Int) / 10).toNat = x / 10 := by omega
    rw [hq] at oq
    refine ⟨_, _, _, _, rfl, ifD (fun hrest => ?_) (fun hrest => ?_)⟩
    · refine fin W1 t pt nt ct ft (hX.trans y1) (hr.ext y1) (hr1.ext y1) (by rw [hx]; exact ho.ext y1) (fun q hq => (hft q hq).1) hnd ?_
      exact lowS_eq hts hmod (strip_stop hts (by rw [hx]; omega))
    · obtain ⟨st1, st2⟩ := strip_step (by omega) hts hmod (by rw [hx]; omega)
      refine ⟨_, (hr.ext y1).loadAt 0 (by rw [addr_add]) (by kernel_rfl) rfl, ?_⟩
      have oqi := oq.ints
      refine Ret.at (impl_signed_c (neg := b) oqi.1) ?_
      rintro v W2 ⟨hv, y2⟩
      subst hv
      have hbb : (b && !(digs (x / 10)).isEmpty) = b := by
        cases hb1 : b with
        | false => rfl
        | true =>
          have h1 := hbt hb1
          rw [isEmpty_digs, decide_eq_false (by omega)]; rfl
      rw [hbb]
      obtain ⟨W3, st3, hb3, cg3, sz3⟩ := ((hr.ext y1).ext y2).storeA0 (P := P) (t := T_impl_Signed) (xs := [.bool b, .slice pq nq cq]) (by kernel_rfl) rfl (by simp [Value.oneCell'])
      have l0 := hX.le; have l1 := y1.le; have l2 := y2.le
      have lr := hr.lt; have lr1 := hr1.lt
      have oq2 : Owns W2 W.heap.size [.bool b, .slice pq nq cq] [.bool b, .ints (digs (x / 10))] (pq.map (·.block)).toList := Owns.int2 (oq.ext y2)
      have oq2l := oq2.lt
      have ho3 : Owns W3 B [.bool b, .slice pq nq cq] [.bool b, .ints (digs (x / 10))] (pq.map (·.block)).toList :=
        (oq2.mono (B' := B) (by omega)).chg cg3 (fun q hq => by have := oq2l q hq; simp; omega)
      refine ⟨_, _, _, _, rfl, W3, st3, exW ⟨by omega, by omega⟩ ⟨⟨t - 1, pq, nq, cq, _, by omega, by omega, st1, by rw [st2, hx]; intro h1; have := hbt h1; omega, ((hX.trans y1).trans y2).chg cg3 (by simp; omega), hb3, ((hr1.ext y1).ext y2).chg cg3 (by simp; omega), by rw [st2, hx]; exact ho3, fun q hq => by have := oq2l q hq; omega, nodup_opt pq⟩, ?_⟩⟩
      show ((t : Int) - 1).toNat < (t : Int).toNat
      omega
  · have h0 : t = 0 := by omega
    exact fin W t pt nt ct ft hX hr hr1 (by rw [hx]; exact ho) (fun q hq => (hft q hq).1) hnd (lowS_eq hts hmod (fun u hu => by omega))
theorem impl_TextPercent_o {w : World} (s : ByteArray) (hs : s.size <= 1048576) (hp : TabP w) : Ret P n_impl_TextPercent [.string s] w fun v w' => ∃ vs f, v = .tuple #[.agg ⟨vs⟩, .bool (tpOk s)] /\ Owns w' w.heap.size vs (tpR s) f /\ f.Nodup /\ Ext w w' := by
  obtain ⟨l, hl⟩ : ∃ l, s.data.toList = l := ⟨_, rfl⟩
  have hsl : s.size = l.length := by rw [ba_size, hl]
  refine impl_TextPercent_ret ?_
  unfold impl_TextPercent
  intro r w1 hn1
  have e1 := hn1.r_eq; have z1 := hn1.size
  have zero : ∀ W, Ext w1 W -> tpOk s = false -> ∃ W', Stores P T_impl_Dec ⟨r, 0, none⟩ (.agg #[.bool false, .slice none 0 0, .int .i64 0]) W W' /\ ∃ (x0 : Bool) (x1p : Option Addr) (x1n x1c : Nat) (x2 : Int), Loads P T_impl_Dec ⟨r, 0, none⟩ (.agg #[.bool x0, .slice x1p x1n x1c, .int .i64 x2]) W' /\
      ∃ vs f, Value.tuple #[.agg #[.bool x0, .slice x1p x1n x1c, .int .i64 x2], .bool false] = .tuple #[.agg ⟨vs⟩, .bool (tpOk s)] /\ Owns W' w.heap.size vs (tpR s) f /\ f.Nodup /\ Ext w W' := by
    intro W hW hno
    obtain ⟨W', st, hb', cg, sz⟩ := (hn1.blk.ext hW).storeA0 (P := P) (t := T_impl_Dec) (xs := [.bool false, .slice none 0 0, .int .i64 0]) (by kernel_rfl) rfl (by simp [Value.oneCell'])
    unfold tpR
    rw [hno]
    exact ⟨W', st, _, _, _, _, _, hb'.loadA0 (by kernel_rfl), _, [], rfl, own_dec0 _ _, List.nodup_nil, (hn1.ext.trans hW).chg cg (by simp; omega)⟩
  have main : l.getLast? = some 37 -> impl_TextPercent_j0 s r w1 fun v w' => ∃ vs f, v = .tuple #[.agg ⟨vs⟩, .bool (tpOk s)] /\ Owns w' w.heap.size vs (tpR s) f /\ f.Nodup /\ Ext w w' := by
    intro hlast
    obtain ⟨h0, hsb⟩ := body_size (s := s) (by rw [hl]; exact hlast)
    unfold impl_TextPercent_j0
    refine exW ⟨by omega, by omega⟩ ⟨⟨by omega, by omega⟩, ?_⟩
    have he : (((s.size : Nat) : Int) - 1).toNat = s.size - 1 := by omega
    rw [he]
    have hbs : (bodyT s).size <= s.size := by
      have := congrArg ByteArray.size hsb
      rw [ByteArray.size_append] at this
      have h1 : (S [37]).size = 1 := rfl
      omega
    refine Ret.at (impl_TextDec_o (bodyT s) (by omega) (hp.ext hn1.ext)) ?_
    rintro v w2 ⟨vs, f, hv, ho, hnd, y2⟩
    subst hv
    have hcd : (if tdOk (bodyT s) then cand (bodyT s).data.toList else zeroDec).map D0.code = [.bool, .ints, .int] := by split <;> rfl
    obtain ⟨d0, dp, dn, dc, dz, dt, rfl, hdd, hdi⟩ := open_Dec ho.reps hcd
    refine ⟨_, _, _, _, _, _, rfl, ?_⟩
    intro r1 w3 hn3
    have e3 := hn3.r_eq
    obtain ⟨w4, st4, hb4, y4⟩ := hn3.fill (P := P) (t := T_impl_Dec) (xs := [.bool d0, .slice dp dn dc, .int .i64 dt]) (by simp [Value.oneCell']) (by kernel_rfl) rfl
    have Y4 := y2.trans y4
    have l2 := y2.le; have l4 := y4.le
    refine ⟨w4, st4, ifN (fun hno => zero w4 Y4 (by unfold tpOk; rw [hno]; simp)) (fun hyes => ?_)⟩
    rw [hyes, if_pos rfl] at ho hdd
    obtain ⟨b, m, t, hc, hb, hm, ht, hT⟩ := cand_parts hyes
    rw [hc] at ho hdd
    unfold dsn at hdd
    simp only [List.cons.injEq, D0.bool.injEq, D0.ints.injEq, D0.int.injEq, and_true] at hdd
    obtain ⟨rfl, rfl, rfl⟩ := hdd
    refine ⟨_, _, _, _, hb4.loadAAt 0 [.bool b, .slice dp dn dc] (by rw [addr_add]) (by kernel_rfl) rfl, _, hb4.loadAt 2 (by rw [addr_add]) (by kernel_rfl) rfl, exW ⟨by omega, by omega⟩ ?_⟩
    have e22 : ((t : Int) + 2) = ((t + 2 : Nat) : Int) := by omega
    rw [e22]
    have ho4 : Owns w4 w1.heap.size [.bool b, .slice dp dn dc] [.bool b, .ints (digs m)] f := by
      obtain ⟨f1, f2, hf, h1, f3, f4, hf2, h2, f5, f6, hf3, h3, h4⟩ := ho.ext y4
      refine ⟨f1, f3, ?_, h1, f3, [], by simp, h2, rfl⟩
      have h5 : f5 = [] := h3.2
      have h6 : f6 = [] := h4
      rw [hf, hf2, hf3, h5, h6]; simp
    refine Ret.at (impl_lowest_o (s := t + 2) ho4 (by omega) hb hm (by omega)) ?_
    rintro v w5 ⟨vs5, f5, hv, o5, nd5, y5⟩
    subst hv
    obtain ⟨g0, gp, gn, gc, gz, gt, rfl, hgd, hgi⟩ := open_Dec o5.reps rfl
    refine ⟨_, _, _, _, _, rfl, ?_⟩
    intro r2 w6 hn6
    have e6 := hn6.r_eq
    obtain ⟨w7, st7, hb7, y7⟩ := hn6.fill (P := P) (t := T_impl_Dec) (xs := [.bool g0, .slice gp gn gc, .int .i64 gt]) (by simp [Value.oneCell']) (by kernel_rfl) rfl
    have Y7 := (Y4.trans y5).trans y7
    have X7 := hn1.ext.trans Y7
    have l5 := y5.le; have l7 := y7.le
    refine ⟨w7, st7, _, _, _, _, _, hb7.loadA0 (by kernel_rfl), ?_⟩
    refine Ret.at (impl_Percent_c (o5.reps.ext y7) rfl (hp.ext X7)) ?_
    rintro v w8 ⟨hv, y8⟩
    subst hv
    have Y8 := Y7.trans y8
    have X8 := hn1.ext.trans Y8
    have hlow : lowD (cand (bodyT s).data.toList) = dsn b (lowM m (t + 2)) (lowS m (t + 2)) := by rw [hc, lowD_dsn]
    have htp : tpOk s = decide (percentT (dsn b (lowM m (t + 2)) (lowS m (t + 2))) = s) := by
      unfold tpOk
      rw [hl, hlast, hyes, hlow]; simp
    refine ⟨_, rfl, ifD (fun hne => zero w8 Y8 (by rw [htp]; exact decide_eq_false hne)) (fun heq => ?_)⟩
    have heq : percentT (dsn b (lowM m (t + 2)) (lowS m (t + 2))) = s := by simpa using heq
    have hyes2 : tpOk s = true := by rw [htp]; exact decide_eq_true heq
    have o5l := o5.lt
    obtain ⟨w9, st9, hb9, cg9, sz9⟩ := (hn1.blk.ext Y8).storeA0 (P := P) (t := T_impl_Dec) (xs := [.bool g0, .slice gp gn gc, .int .i64 gt]) (by kernel_rfl) rfl (by simp [Value.oneCell'])
    refine ⟨_, _, _, _, _, (hb7.ext y8).loadA0 (by kernel_rfl), w9, st9, _, _, _, _, _, hb9.loadA0 (by kernel_rfl), _, f5, by rw [hyes2], ?_, nd5, X8.chg cg9 (by simp; omega)⟩
    unfold tpR
    rw [hyes2, if_pos rfl, hlow]
    exact (((o5.ext y7).ext y8).chg cg9 (fun q hq => by have := o5l q hq; simp; omega)).mono (by omega)
  refine ifD (fun hemp => ifT (zero w1 (Ext.refl _) ?_)) (fun hne => ?_)
  · unfold tpOk
    rw [hemp]; rfl
  · have h0 : 0 < l.length := by
      cases l with
      | nil => exact absurd (ba_ext (by rw [hl])) hne
      | cons _ _ => exact Nat.succ_pos _
    have hix : ((s.size : Nat) : Int) - 1 = ((l.length - 1 : Nat) : Int) := by omega
    refine exW ⟨by omega, by omega⟩ ⟨by omega, l[l.length - 1]'(by omega), by subst hl; rw [hix]; exact ba_get (by omega), ifD (fun h37 => zero w1 (Ext.refl _) ?_) (fun h37 => main ?_)⟩
    · unfold tpOk
      rw [hl, List.getLast?_eq_getElem?, List.getElem?_eq_getElem (by omega)]
      have : l[l.length - 1]'(by omega) ≠ 37 := fun e => h37 (by rw [e]; rfl)
      simp [this]
    · rw [List.getLast?_eq_getElem?, List.getElem?_eq_getElem (by omega)]
      have h37' : (((l[l.length - 1]'(by omega)).toNat : Nat) : Int) = 37 := by simpa using h37
      exact congrArg some (UInt8.toNat_inj.1 (by show _ = 37; omega))
theorem spec_DecAt_bad {w : World} {xs : List Value} {dx : List D0} (h : Reps w xs dx) (hc : dx.map D0.code = [.bool, .ints, .int]) (hbad : decOk dx = false) (sc : Int) :
    Ret P n_spec_DecAt [.agg ⟨xs⟩, .int .i64 sc] w fun v w' => v = .tuple #[.agg #[.bool false, .slice none 0 0, .int .i64 0], .bool false] /\ Ext w w' := by
  have hr := h
  obtain ⟨a0, ap, an, ac, az, a2, rfl, rfl, ha⟩ := open_Dec h hc
  refine spec_DecAt_ret ?_
  unfold spec_DecAt
  intro r w1 hn1 r1 w2 hn2
  have e1 := hn1.r_eq; have e2 := hn2.r_eq; have s1 := hn1.size
  have X := hn1.ext.trans hn2.ext
  refine ⟨_, _, _, _, _, (hn1.blk.ext hn2.ext).loadA0 (by kernel_rfl), ?_⟩
  refine Ret.at (spec_DecOk_c (hr.ext X) rfl) ?_
  rintro v w3 ⟨hv, y3⟩
  subst hv
  rw [hbad]
  obtain ⟨w4, st4, hb4, cg4, sz4⟩ := (hn2.blk.ext y3).storeA0 (P := P) (t := T_impl_Dec) (xs := [.bool false, .slice none 0 0, .int .i64 0]) (by kernel_rfl) rfl (by simp [Value.oneCell'])
  refine ⟨_, rfl, ifN (fun _ => ?_) (fun h => by cases h)⟩
  (repeat refine ifT ?_)
  exact ⟨w4, st4, _, _, _, _, _, hb4.loadA0 (by kernel_rfl), rfl, (X.trans y3).chg cg4 (by simp; omega)⟩
theorem spec_DecLow_bad {w : World} {xs : List Value} {dx : List D0} (h : Reps w xs dx) (hc : dx.map D0.code = [.bool, .ints, .int]) (hbad : decOk dx = false) :
    Ret P n_spec_DecLow [.agg ⟨xs⟩] w fun v w' => v = .agg #[.bool false, .slice none 0 0, .int .i64 0] /\ Ext w w' := by
  have hr := h
  obtain ⟨a0, ap, an, ac, az, a2, rfl, rfl, ha⟩ := open_Dec h hc
  refine spec_DecLow_ret ?_
  unfold spec_DecLow
  intro r w1 hn1 r1 w2 hn2
  have e1 := hn1.r_eq; have e2 := hn2.r_eq; have s1 := hn1.size
  have X := hn1.ext.trans hn2.ext
  refine ⟨fun sc W => 0 <= sc /\ sc <= 31 /\ Ext w2 W, fun sc _ => (31 - sc).toNat, ⟨by omega, by omega, Ext.refl _⟩, ?_⟩
  rintro junk W sc ⟨h0, h31, hW⟩
  refine ifD (fun hle => ?_) (fun hgt => ?_)
  · refine ⟨_, _, _, _, _, ((hn1.blk.ext hn2.ext).ext hW).loadA0 (by kernel_rfl), ?_⟩
    refine Ret.at (spec_DecAt_bad (hr.ext (X.trans hW)) rfl hbad sc) ?_
    rintro v w3 ⟨hv, y3⟩
    subst hv
    refine ⟨_, _, _, _, _, _, rfl, ?_⟩
    intro r2 w4 hn4
    obtain ⟨w5, st5, hb5, y5⟩ := hn4.fill (P := P) (t := T_impl_Dec) (xs := [.bool false, .slice none 0 0, .int .i64 0]) (by simp [Value.oneCell']) (by kernel_rfl) rfl
    refine ⟨w5, st5, ifF (exW ⟨by omega, by omega⟩ ⟨⟨by omega, by omega, (hW.trans y3).trans y5⟩, ?_⟩)⟩
    show (31 - (sc + 1)).toNat < (31 - sc).toNat
    omega
  · obtain ⟨w4, st4, hb4, cg4, sz4⟩ := (hn2.blk.ext hW).storeA0 (P := P) (t := T_impl_Dec) (xs := [.bool false, .slice none 0 0, .int .i64 0]) (by kernel_rfl) rfl (by simp [Value.oneCell'])
    exact ⟨w4, st4, _, _, _, _, _, hb4.loadA0 (by kernel_rfl), rfl, (X.trans hW).chg cg4 (by simp; omega)⟩
theorem spec_TextPercent_o {w : World} (s : ByteArray) (hs : s.size <= 1048576) : Ret P n_spec_TextPercent [.string s] w fun v w' => ∃ vs, v = .tuple #[.agg ⟨vs⟩, .bool (tpOk s)] /\ Reps w' vs (tpR s) /\ Ext w w' := by
  obtain ⟨l, hl⟩ : ∃ l, s.data.toList = l := ⟨_, rfl⟩
  have hsl : s.size = l.length := by rw [ba_size, hl]
  refine spec_TextPercent_ret ?_
  unfold spec_TextPercent
  intro r w1 hn1
  have e1 := hn1.r_eq; have z1 := hn1.size
  have zero : ∀ W, Ext w1 W -> tpOk s = false -> ∃ W', Stores P T_impl_Dec ⟨r, 0, none⟩ (.agg #[.bool false, .slice none 0 0, .int .i64 0]) W W' /\ ∃ (x0 : Bool) (x1p : Option Addr) (x1n x1c : Nat) (x2 : Int), Loads P T_impl_Dec ⟨r, 0, none⟩ (.agg #[.bool x0, .slice x1p x1n x1c, .int .i64 x2]) W' /\
      ∃ vs, Value.tuple #[.agg #[.bool x0, .slice x1p x1n x1c, .int .i64 x2], .bool false] = .tuple #[.agg ⟨vs⟩, .bool (tpOk s)] /\ Reps W' vs (tpR s) /\ Ext w W' := by
    intro W hW hno
    obtain ⟨W', st, hb', cg, sz⟩ := (hn1.blk.ext hW).storeA0 (P := P) (t := T_impl_Dec) (xs := [.bool false, .slice none 0 0, .int .i64 0]) (by kernel_rfl) rfl (by simp [Value.oneCell'])
    unfold tpR
    rw [hno]
    exact ⟨W', st, _, _, _, _, _, hb'.loadA0 (by kernel_rfl), _, rfl, (own_dec0 W' 0).reps, (hn1.ext.trans hW).chg cg (by simp; omega)⟩
  have main : l.getLast? = some 37 -> spec_TextPercent_j0 s r w1 fun v w' => ∃ vs, v = .tuple #[.agg ⟨vs⟩, .bool (tpOk s)] /\ Reps w' vs (tpR s) /\ Ext w w' := by
    intro hlast
    have hlast' : s.data.toList.getLast? = some 37 := by rw [hl]; exact hlast
    obtain ⟨h0, hsb⟩ := body_size hlast'
    unfold spec_TextPercent_j0
    refine exW ⟨by omega, by omega⟩ ⟨⟨by omega, by omega⟩, ?_⟩
    have he : (((s.size : Nat) : Int) - 1).toNat = s.size - 1 := by omega
    rw [he]
    have hbs : (bodyT s).size <= s.size := by
      have := congrArg ByteArray.size hsb
      rw [ByteArray.size_append] at this
      have h1 : (S [37]).size = 1 := rfl
      omega
    refine Ret.at (spec_TextDec_c (bodyT s) (by omega)) ?_
    rintro v w2 ⟨vs, hv, ho, y2⟩
    subst hv
    have hcd : (if tdOk (bodyT s) then cand (bodyT s).data.toList else zeroDec).map D0.code = [.bool, .ints, .int] := by split <;> rfl
    have ho2 := ho
    obtain ⟨d0, dp, dn, dc, dz, dt, rfl, hdd, hdi⟩ := open_Dec ho hcd
    refine ⟨_, _, _, _, _, _, rfl, ?_⟩
    intro r1 w3 hn3
    have e3 := hn3.r_eq
    obtain ⟨w4, st4, hb4, y4⟩ := hn3.fill (P := P) (t := T_impl_Dec) (xs := [.bool d0, .slice dp dn dc, .int .i64 dt]) (by simp [Value.oneCell']) (by kernel_rfl) rfl
    have Y4 := y2.trans y4
    have l2 := y2.le; have l4 := y4.le
    refine ⟨w4, st4, ifN (fun hno => zero w4 Y4 (by unfold tpOk; rw [hno]; simp)) (fun hyes => ?_)⟩
    rw [hyes, if_pos rfl] at ho2 hdd
    obtain ⟨b, m, t, hc, hb, hm, ht, hT⟩ := cand_parts hyes
    rw [hc] at ho2 hdd
    unfold dsn at hdd
    simp only [List.cons.injEq, D0.bool.injEq, D0.ints.injEq, D0.int.injEq, and_true] at hdd
    obtain ⟨rfl, rfl, rfl⟩ := hdd
    refine ⟨_, _, _, _, hb4.loadAAt 0 [.bool b, .slice dp dn dc] (by rw [addr_add]) (by kernel_rfl) rfl, _, hb4.loadAt 2 (by rw [addr_add]) (by kernel_rfl) rfl, exW ⟨by omega, by omega⟩ ?_⟩
    have e22 : ((t : Int) + 2) = ((t + 2 : Nat) : Int) := by omega
    rw [e22]
    have hrep : Reps w4 [.bool b, .slice dp dn dc, .int .i64 ((t + 2 : Nat) : Int)] (dsn b m ((t + 2 : Nat) : Int)) := ⟨rfl, ⟨_, _, _, rfl, hdi.ext y4⟩, rfl, trivial⟩
    have hlow : lowD (cand (bodyT s).data.toList) = dsn b (lowM m (t + 2)) (lowS m (t + 2)) := by rw [hc, lowD_dsn]
    have htp : tpOk s = decide (percentT (dsn b (lowM m (t + 2)) (lowS m (t + 2))) = s) := by
      unfold tpOk
      rw [hlast', hyes, hlow]; simp
    -- whatever comes of DecLow
    have rest : ∀ (w5 : World) (d : List D0) (vs5 : List Value), Ext w4 w5 -> Reps w5 vs5 d -> d.map D0.code = [.bool, .ints, .int] -> (percentT d = s -> d = dsn b (lowM m (t + 2)) (lowS m (t + 2))) -> (percentT (dsn b (lowM m (t + 2)) (lowS m (t + 2))) = s -> percentT d = s) ->
        ∃ (x0 : Bool) (x1p : Option Addr) (x1n x1c : Nat) (x2 : Int), Ending.returned (.agg ⟨vs5⟩) = .returned (.agg #[.bool x0, .slice x1p x1n x1c, .int .i64 x2]) /\ ∀ (r2 : Nat) (w6 : World), New w5 (.cells ⟨[.bool false, .slice none 0 0, .int .i64 0]⟩ T_impl_Dec (0, 0)) r2 w6 ->
          ∃ w7, Stores P T_impl_Dec ⟨r2, 0, none⟩ (.agg #[.bool x0, .slice x1p x1n x1c, .int .i64 x2]) w6 w7 /\ ∃ (y0 : Bool) (y1p : Option Addr) (y1n y1c : Nat) (y2 : Int), Loads P T_impl_Dec ⟨r2, 0, none⟩ (.agg #[.bool y0, .slice y1p y1n y1c, .int .i64 y2]) w7 /\ Calls P n_spec_Percent ⟨[.agg #[.bool y0, .slice y1p y1n y1c, .int .i64 y2]]⟩ w7 fun e w8 =>
          ∃ (tx : ByteArray), e = .returned (.string tx) /\
          ((decide (tx ≠ s) = true -> ∃ w9, Stores P T_impl_Dec ⟨r, 0, none⟩ (.agg #[.bool false, .slice none 0 0, .int .i64 0]) w8 w9 /\ ∃ (x0 : Bool) (x1p : Option Addr) (x1n x1c : Nat) (x2 : Int), Loads P T_impl_Dec ⟨r, 0, none⟩ (.agg #[.bool x0, .slice x1p x1n x1c, .int .i64 x2]) w9 /\
              ∃ vs, Value.tuple #[.agg #[.bool x0, .slice x1p x1n x1c, .int .i64 x2], .bool false] = .tuple #[.agg ⟨vs⟩, .bool (tpOk s)] /\ Reps w9 vs (tpR s) /\ Ext w w9) /\
          (decide (tx ≠ s) = false -> ∃ (z0 : Bool) (z1p : Option Addr) (z1n z1c : Nat) (z2 : Int), Loads P T_impl_Dec ⟨r2, 0, none⟩ (.agg #[.bool z0, .slice z1p z1n z1c, .int .i64 z2]) w8 /\ ∃ w9, Stores P T_impl_Dec ⟨r, 0, none⟩ (.agg #[.bool z0, .slice z1p z1n z1c, .int .i64 z2]) w8 w9 /\
              ∃ (x0 : Bool) (x1p : Option Addr) (x1n x1c : Nat) (x2 : Int), Loads P T_impl_Dec ⟨r, 0, none⟩ (.agg #[.bool x0, .slice x1p x1n x1c, .int .i64 x2]) w9 /\ ∃ vs, Value.tuple #[.agg #[.bool x0, .slice x1p x1n x1c, .int .i64 x2], .bool true] = .tuple #[.agg ⟨vs⟩, .bool (tpOk s)] /\ Reps w9 vs (tpR s) /\ Ext w w9)) := by
      intro w5 d vs5 y5 hd hcd5 hi1 hi2
      have hd0 := hd
      obtain ⟨g0, gp, gn, gc, gz, gt, rfl, hgd, hgi⟩ := open_Dec hd hcd5
      refine ⟨_, _, _, _, _, rfl, ?_⟩
      intro r2 w6 hn6
      have e6 := hn6.r_eq
      obtain ⟨w7, st7, hb7, y7⟩ := hn6.fill (P := P) (t := T_impl_Dec) (xs := [.bool g0, .slice gp gn gc, .int .i64 gt]) (by simp [Value.oneCell']) (by kernel_rfl) rfl
      have Y7 := (Y4.trans y5).trans y7
      have X7 := hn1.ext.trans Y7
      refine ⟨w7, st7, _, _, _, _, _, hb7.loadA0 (by kernel_rfl), ?_⟩
      refine Ret.at (spec_Percent_c (hd0.ext y7) hcd5) ?_
      rintro v w8 ⟨hv, y8⟩
      subst hv
      have Y8 := Y7.trans y8
      have X8 := hn1.ext.trans Y8
      refine ⟨_, rfl, ifD (fun hne => zero w8 Y8 (by rw [htp]; exact decide_eq_false (fun e => hne (hi2 e)))) (fun heq => ?_)⟩
      have heq : percentT d = s := by simpa using heq
      have hdd := hi1 heq
      have hyes2 : tpOk s = true := by rw [htp, <- hdd]; exact decide_eq_true heq
      obtain ⟨w9, st9, hb9, cg9, sz9⟩ := (hn1.blk.ext Y8).storeA0 (P := P) (t := T_impl_Dec) (xs := [.bool g0, .slice gp gn gc, .int .i64 gt]) (by kernel_rfl) rfl (by simp [Value.oneCell'])
      refine ⟨_, _, _, _, _, (hb7.ext y8).loadA0 (by kernel_rfl), w9, st9, _, _, _, _, _, hb9.loadA0 (by kernel_rfl), _, by rw [hyes2], ?_, X8.chg cg9 (by simp; omega)⟩
      unfold tpR
      rw [hyes2, if_pos rfl, hlow]
      rw [hdd] at hgd
      unfold dsn at hgd
      simp only [List.cons.injEq, D0.bool.injEq, D0.ints.injEq, D0.int.injEq, and_true] at hgd
      obtain ⟨rfl, rfl, rfl⟩ := hgd
      exact ⟨rfl, ⟨_, _, _, rfl, IntsR.store3 (hn1.blk.ext Y8) ((hgi.ext y7).ext y8) cg9⟩, rfl, trivial⟩
    by_cases hroom : t + 2 <= 30
    · refine Ret.at (spec_DecLow_o hrep hb hm hroom) ?_
      rintro v w5 ⟨vs5, f5, hv, o5, nd5, y5⟩
      subst hv
      exact rest w5 _ vs5 y5 o5.reps rfl (fun _ => rfl) (fun h => h)
    · have hbad : decOk (dsn b m ((t + 2 : Nat) : Int)) = false := by
        cases hq : decOk (dsn b m ((t + 2 : Nat) : Int)) with
        | false => rfl
        | true => have := (decOk_parts hq).2.2.2.2.2; omega
      refine Ret.at (spec_DecLow_bad hrep rfl hbad) ?_
      rintro v w5 ⟨hv, y5⟩
      subst hv
      refine rest w5 zeroDec _ y5 (own_dec0 w5 0).reps rfl (fun h => ?_) (fun h => ?_)
      · exact absurd (pct_room hlast' hb hm ht hT zeroDec ⟨0, 0, .inl zeroDec_dsn⟩ h) hroom
      · refine absurd (pct_room hlast' hb hm ht hT _ ⟨lowM m (t + 2), lowS m (t + 2), ?_⟩ h) hroom
        cases b
        · exact .inl rfl
        · exact .inr rfl
  refine ifD (fun hemp => ifT (zero w1 (Ext.refl _) ?_)) (fun hne => ?_)
  · have h0 : l = [] := List.length_eq_zero_iff.1 (by omega)
    unfold tpOk
    rw [hl, h0]; rfl
  · have h0 : 0 < l.length := by omega
    have hix : ((s.size : Nat) : Int) - 1 = ((l.length - 1 : Nat) : Int) := by omega
    refine exW ⟨by omega, by omega⟩ ⟨by omega, l[l.length - 1]'(by omega), by subst hl; rw [hix]; exact ba_get (by omega), ifD (fun h37 => zero w1 (Ext.refl _) ?_) (fun h37 => main ?_)⟩
    · unfold tpOk
      rw [hl, List.getLast?_eq_getElem?, List.getElem?_eq_getElem (by omega)]
      have : l[l.length - 1]'(by omega) ≠ 37 := fun e => h37 (by rw [e]; rfl)
      simp [this]
    · rw [List.getLast?_eq_getElem?, List.getElem?_eq_getElem (by omega)]
      have h37' : (((l[l.length - 1]'(by omega)).toNat : Nat) : Int) = 37 := by simpa using h37
      exact congrArg some (UInt8.toNat_inj.1 (by show _ = 37; omega))
theorem tpR_code (s : ByteArray) : (tpR s).map D0.code = [.bool, .ints, .int] := by
  unfold tpR
  split
  · unfold lowD
    split <;> rfl
  · rfl
theorem tpR_cnt (s : ByteArray) : tcnts (tpR s) <= 1000000000 := by
  unfold tpR
  split
  · rename_i h
    unfold tpOk at h
    simp only [Bool.and_eq_true, decide_eq_true_eq] at h
    obtain ⟨b, m, t, hc, hb, hm, ht, hT⟩ := cand_parts h.2.1
    rw [hc, lowD_dsn]
    have h1 : (digs (lowM m (t + 2))).length <= (digs m).length := digs_mono_len (lowM_le m (t + 2))
    simp only [dsn, tcnts]
    omega
  · decide
theorem impl_TextPercent_c {w : World} (s : ByteArray) (hs : s.size <= 1048576) (hp : TabP w) : Ret P n_impl_TextPercent [.string s] w fun v w' => ∃ vs f, v = .tuple #[.agg ⟨vs⟩, .bool (tpOk s)] /\ Owns w' w.heap.size vs (tpR s) f /\ f.Nodup /\ (tpR s).map D0.code = [.bool, .ints, .int] /\ tcnts (tpR s) <= 1000000000 /\ Ext w w' :=
  (impl_TextPercent_o s hs hp).mono fun v w' ⟨vs, f, hv, ho, hn, hx⟩ => ⟨vs, f, hv, ho, hn, tpR_code s, tpR_cnt s, hx⟩
theorem spec_TextPercent_c {w : World} (s : ByteArray) (hs : s.size <= 1048576) : Ret P n_spec_TextPercent [.string s] w fun v w' => ∃ vs, v = .tuple #[.agg ⟨vs⟩, .bool (tpOk s)] /\ Reps w' vs (tpR s) /\ (tpR s).map D0.code = [.bool, .ints, .int] /\ Ext w w' :=
  (spec_TextPercent_o s hs).mono fun v w' ⟨vs, hv, ho, hx⟩ => ⟨vs, hv, ho, tpR_code s, hx⟩
end Go.Proofs.YtfehpaekbbmkcaaGreatDoor
namespace Go.Proofs.YtfehpaekbbmkcaaGreatDoor.Sx
open Go Go.RowKit
theorem Fl.trans {os : List Obj} {ss : List (Option Nat)} {w : World} {s1 : List (Option Nat)} {w1 : World} {s2 : List (Option Nat)} {w2 : World} (h : Fl os ss w s1 w1) (g : Fl os s1 w1 s2 w2) : Fl os ss w s2 w2 := by
  induction h with
  | refl => exact g
  | step h1 h2 _ ih => exact .step h1 h2 (ih g)
theorem Fl.old {os : List Obj} {ss : List (Option Nat)} {w : World} {s1 : List (Option Nat)} {w1 : World} (h : Fl os ss w s1 w1) {k r : Nat} (hk : s1[k]? = some (some r)) : ss[k]? = some (some r) ∨ w.heap.size <= r := by
  induction h with
  | refl => exact .inl hk
  | step h1 h2 h3 ih =>
    rename_i ss w k' o s' w'
    have hs : (w.alloc o).heap.size = w.heap.size + 1 := by simp
    rcases ih hk with h | h
    · by_cases e : k' = k
      · subst e
        have hl : k' < ss.length := by
          rcases Nat.lt_or_ge k' ss.length with h | h
          · exact h
          · rw [List.getElem?_eq_none h] at h1; cases h1
        rw [List.getElem?_set_self hl] at h
        simp at h
        exact .inr (by omega)
      · rw [List.getElem?_set_ne e] at h
        exact .inl h
    · exact .inr (by omega)
def FlS (os : List Obj) (w0 : World) (ss : List (Option Nat)) (w : World) : Prop :=
 Ext w0 w /\ (∀ (k r : Nat), ss[k]? = some (some r) -> w0.heap.size <= r /\ r < w.heap.size /\ w.heap[r]? = os[k]?) /\ (∀ (k l r : Nat), ss[k]? = some (some r) -> ss[l]? = some (some r) -> k = l)
theorem FlS.ext {os : List Obj} {w0 w w' : World} {ss : List (Option Nat)} (h : FlS os w0 ss w) (y : Ext w w') : FlS os w0 ss w' :=
  ⟨h.1.trans y, fun k r hk => by
    obtain ⟨a, b, c⟩ := h.2.1 k r hk
    exact ⟨a, Nat.lt_of_lt_of_le b y.le, (y.block r b).trans c⟩, h.2.2⟩
theorem FlS.step {os : List Obj} {w0 w w' : World} {ss ss' : List (Option Nat)} (h : FlS os w0 ss w) (f : Fl os ss w ss' w') : FlS os w0 ss' w' := by
  induction f with
  | refl => exact h
  | step h1 h2 h3 ih =>
    rename_i ss w k' o s' w'
    refine ih ?_
    have y : Ext w (w.alloc o) := (Below.refl _ _).alloc (Nat.le_refl _) _
    have hs : (w.alloc o).heap.size = w.heap.size + 1 := by simp
    have hg : (w.alloc o).heap[w.heap.size]? = some o := heap_alloc_new w _
    have hl : k' < ss.length := by
      rcases Nat.lt_or_ge k' ss.length with h | h
      · exact h
      · rw [List.getElem?_eq_none h] at h1; cases h1
    have hx := h.ext y
    have hle := h.1.le
    refine ⟨hx.1, fun k r hk => ?_, fun k l r hk hl' => ?_⟩
    · by_cases e : k' = k
      · subst e
        rw [List.getElem?_set_self hl] at hk
        simp at hk
        subst hk
        exact ⟨hle, by omega, hg.trans h2.symm⟩
      · rw [List.getElem?_set_ne e] at hk
        exact hx.2.1 k r hk
    · by_cases e : k' = k
      · by_cases e2 : k' = l
        · omega
        · subst e
          rw [List.getElem?_set_self hl] at hk
          simp at hk
          subst hk
          rw [List.getElem?_set_ne e2] at hl'
          have := (h.2.1 l _ hl').2.1
          omega
      · rw [List.getElem?_set_ne e] at hk
        by_cases e2 : k' = l
        · subst e2
          rw [List.getElem?_set_self hl] at hl'
          simp at hl'
          subst hl'
          have := (h.2.1 k _ hk).2.1
          omega
        · rw [List.getElem?_set_ne e2] at hl'
          exact h.2.2 k l r hk hl'
theorem FlS.first {os : List Obj} {w0 w : World} {ss0 ss : List (Option Nat)} (f : Fl os ss0 w0 ss w) (h : ss0.all Option.isNone = true) : FlS os w0 ss w := by
  refine FlS.step ⟨Ext.refl _, fun k r hk => ?_, fun k l r hk _ => ?_⟩ f <;>
  · have hm := List.mem_of_getElem? hk
    have := List.all_eq_true.1 h _ hm
    simp at this
theorem FlS.blk {os : List Obj} {w0 w : World} {ss : List (Option Nat)} {k r : Nat} {cs : List Value} {e : TypeId} (h : FlS os w0 ss w) (hk : ss[k]? = some (some r)) (ho : os[k]? = some (.cells ⟨cs⟩ e (0, 0))) : w0.heap.size <= r /\ r < w.heap.size /\ Blk w r e cs := by
  obtain ⟨a, b, c⟩ := h.2.1 k r hk
  exact ⟨a, b, c.trans ho⟩
theorem FlS.ne {os : List Obj} {w0 w : World} {ss : List (Option Nat)} {k l r s : Nat} (h : FlS os w0 ss w) (hk : ss[k]? = some (some r)) (hl : ss[l]? = some (some s)) (e : k ≠ l) : r ≠ s := fun hh => e (h.2.2 k l r hk (hh ▸ hl))
theorem FlS.apart {os : List Obj} {w0 wc we w' : World} {ss ss' : List (Option Nat)} {k r : Nat} (h : FlS os w0 ss wc) (f : Fl os ss we ss' w') (hk : ss'[k]? = some (some r)) : r < wc.heap.size ∨ we.heap.size <= r := by
  rcases f.old hk with a | a
  · exact .inl (h.2.1 k r a).2.1
  · exact .inr a
end Go.Proofs.YtfehpaekbbmkcaaGreatDoor.Sx
namespace Go.Proofs.YtfehpaekbbmkcaaGreatDoor
open Go Go.Proofs.YtfehpaekbbmkcaaGreatDoor.Sx
theorem tcnts_nn {d : List D0} {m : Int} (_ : tcnts d <= m) : 0 <= tcnts d := tcnts_nonneg d
theorem opt_nil {p : Option Addr} {q : Nat} (h : q ∈ (p.map (·.block)).toList) : q ∈ (p.map (·.block)).toList ++ ([] : List Nat) := List.mem_append_left _ h
theorem laws_markSigned_c {w : World} {B : Nat} {vs : List Value} {ds : List D0} {f : List Nat} {k : Int} (h : Owns w B vs ds f) (nd : f.Nodup) (hc : ds.map D0.code = [.bool, .ints]) (h0 : 0 <= k) (h1 : k + tcnts ds <= 1000000000000000000) :
    Ret P n_laws_markSigned [.agg ⟨vs⟩, .int .i64 k] w fun v w' => v = .int .i64 (k + tcnts ds) /\ Owns w' B vs (tmarks ds k) f /\ Chg f w w' := by
  obtain ⟨b, us, es, rfl, rfl, h2, hc2⟩ := h.consBool hc
  obtain ⟨p, n, c, z, us, es, f2, rfl, rfl, rfl, o, h3, hc3⟩ := h2.consInts hc2
  obtain ⟨rfl, rfl, rfl⟩ := h3.done hc3
  have hz : z.length = n := by have := o.len; simpa using this
  simp only [tcnts] at h1 ⊢
  refine laws_markSigned_ret ?_
  unfold laws_markSigned
  intro r w1 hn
  refine ⟨_, _, _, hn.blk.loadAt 1 rfl (by kernel_rfl) rfl, ?_⟩
  refine Ret.at (laws_markIntS_c (o.ext hn.ext) h0 (by omega)) ?_
  rintro v w2 ⟨hv, o2, ch⟩
  subst hv
  refine ⟨_, rfl, by rw [hz, Int.add_zero], ?_, hn.ext.toChg.trans (ch.mono fun q hq => opt_nil hq)⟩
  simp only [tmarks, hz]
  exact Owns.append (Owns.bool _ _ b) (Owns.append (Owns.ints o2) (Owns.nil _ _))
theorem laws_heldSigned_c {w : World} {vs : List Value} {ds : List D0} {k : Int} (h : Reps w vs (tmarks ds k)) (hc : ds.map D0.code = [.bool, .ints]) (h0 : 0 <= k) (h1 : k + tcnts ds <= 1000000000000000000) :
    Ret P n_laws_heldSigned [.agg ⟨vs⟩, .int .i64 k] w fun v w' => v = .int .i64 (k + tcnts ds) /\ Ext w w' := by
  obtain ⟨b, es, rfl, hc2⟩ := code_bool hc
  obtain ⟨z, es, rfl, hc3⟩ := code_ints hc2
  have := code_nil hc3; subst this
  simp only [tmarks] at h
  simp only [tcnts] at h1 ⊢
  obtain ⟨a0, ap, an, ac, az, rfl, hd, ha⟩ := open_Signed h rfl
  cases hd
  have hl := ha.1
  rw [mkI_len] at hl
  rw [hl] at ha
  refine laws_heldSigned_ret ?_
  unfold laws_heldSigned
  intro r w1 hn
  refine ⟨_, _, _, hn.blk.loadAt 1 rfl (by kernel_rfl) rfl, ?_⟩
  refine Ret.at (laws_heldIntS_c (ha.ext hn.ext) h0 (by omega)) ?_
  rintro v w2 ⟨hv, y⟩
  subst hv
  exact ⟨_, rfl, ifD (fun hl => absurd hl (by omega)) (fun _ => ⟨by rw [hl, Int.add_zero], hn.ext.trans y⟩)⟩
theorem laws_markDec_c {w : World} {B : Nat} {vs : List Value} {ds : List D0} {f : List Nat} {k : Int} (h : Owns w B vs ds f) (nd : f.Nodup) (hc : ds.map D0.code = [.bool, .ints, .int]) (h0 : 0 <= k) (h1 : k + tcnts ds <= 1000000000000000000) :
    Ret P n_laws_markDec [.agg ⟨vs⟩, .int .i64 k] w fun v w' => v = .int .i64 (k + tcnts ds) /\ Owns w' B vs (tmarks ds k) f /\ Chg f w w' := by
  obtain ⟨b, us, es, rfl, rfl, h3, hc3⟩ := h.consBool hc
  obtain ⟨p, n, c, z, us, es, f2, rfl, rfl, rfl, o, h4, hc4⟩ := h3.consInts hc3
  obtain ⟨s, us, es, rfl, rfl, h5, hc5⟩ := h4.consInt hc4
  obtain ⟨rfl, rfl, rfl⟩ := h5.done hc5
  refine laws_markDec_ret ?_
  unfold laws_markDec
  intro r w1 hn
  refine ⟨_, _, _, _, hn.blk.loadAAt 0 [.bool b, .slice p n c] rfl (by kernel_rfl) rfl, ?_⟩
  have hs : Owns w1 B [.bool b, .slice p n c] [.bool b, .ints z] (p.map (·.block)).toList := Owns.append (Owns.bool w1 B b) (Owns.ints (o.ext hn.ext))
  refine Ret.at (laws_markSigned_c hs (by cases p <;> simp) rfl h0 (show k + tcnts [.bool b, .ints z] <= _ from h1)) ?_
  rintro v w2 ⟨hv, o2, ch⟩
  subst hv
  have o3 : Owns w2 B [.bool b, .slice p n c, .int .i64 s] (tmarks [.bool b, .ints z] k ++ [.int s]) ((p.map (·.block)).toList ++ []) := Owns.append o2 (Owns.int w2 B s)
  refine ⟨_, rfl, rfl, o3, ?_⟩
  have := hn.ext.toChg.trans ch
  rwa [List.append_nil]
end Go.Proofs.YtfehpaekbbmkcaaGreatDoor
namespace Go.Proofs.YtfehpaekbbmkcaaGreatDoor
open Go Go.Proofs.YtfehpaekbbmkcaaGreatDoor.Sx
theorem laws_heldDec_c {w : World} {vs : List Value} {ds : List D0} {k : Int} (h : Reps w vs (tmarks ds k)) (hc : ds.map D0.code = [.bool, .ints, .int]) (h0 : 0 <= k) (h1 : k + tcnts ds <= 1000000000000000000) :
    Ret P n_laws_heldDec [.agg ⟨vs⟩, .int .i64 k] w fun v w' => v = .int .i64 (k + tcnts ds) /\ Ext w w' := by
  obtain ⟨b, es, rfl, hc2⟩ := code_bool hc
  obtain ⟨z, es, rfl, hc3⟩ := code_ints hc2
  obtain ⟨s, es, rfl, hc4⟩ := code_int hc3
  have := code_nil hc4; subst this
  simp only [tmarks] at h
  obtain ⟨a0, ap, an, ac, az, a2, rfl, hd, ha⟩ := open_Dec h rfl
  cases hd
  refine laws_heldDec_ret ?_
  unfold laws_heldDec
  intro r w1 hn
  refine ⟨_, _, _, _, hn.blk.loadAAt 0 [.bool b, .slice ap an ac] rfl (by kernel_rfl) rfl, ?_⟩
  have hs : Reps w1 [.bool b, .slice ap an ac] (tmarks [.bool b, .ints z] k) := ⟨rfl, ⟨_, _, _, rfl, ha.ext hn.ext⟩, trivial⟩
  have h1' : k + tcnts [.bool b, .ints z] <= 1000000000000000000 := h1
  have hnn := tcnts_nonneg [.bool b, .ints z]
  refine Ret.at (laws_heldSigned_c hs rfl h0 h1') ?_
  rintro v w2 ⟨hv, y⟩
  subst hv
  exact ⟨_, rfl, ifD (fun h => absurd h (by omega)) (fun _ => ⟨rfl, hn.ext.trans y⟩)⟩
end Go.Proofs.YtfehpaekbbmkcaaGreatDoor
namespace Go.Proofs.YtfehpaekbbmkcaaGreatDoor
open Go Go.Proofs.YtfehpaekbbmkcaaGreatDoor.Sx
set_option maxHeartbeats 4000000
theorem laws_FnExactTextPercent_c {w : World} (a0 : ByteArray) (hp : TabP w) :
    Ret P n_laws_FnExactTextPercent [.string a0] w fun v w' => v = .bool true /\ Ext w w' := by
  refine laws_FnExactTextPercent_ret ?_
  unfold laws_FnExactTextPercent
  have x : Ext w w := Ext.refl w
  refine ifD (fun _ => ⟨rfl, x⟩) (fun hs0 => ?_)
  refine Ret.at (spec_TextPercent_c a0 (by omega)) ?_
  rintro v W1 ⟨vs_w0, hv, o_w0, co_w0, y⟩
  subst hv
  replace x := x.trans y
  have ll1 := y.le
  have xS := Ext.refl W1
  obtain ⟨gw00, gw01p, gw01n, gw01c, gw01z, gw02, rfl, hd_w0, gw01h⟩ := open_Dec o_w0 co_w0
  refine ⟨_, _, _, _, _, _, rfl, ?_⟩
  intro r_w0 W2 hn
  have er_w0 := hn.r_eq; have sr_w0 := hn.size
  have y := hn.ext
  replace x := x.trans y
  replace xS := xS.trans y
  have ll2 := y.le
  have bk_w0 := hn.blk; clear hn
  obtain ⟨W3, st, bq, ch, sz⟩ := bk_w0.storeA0 (P := P) (t := T_impl_Dec) (xs := [.bool gw00, .slice gw01p gw01n gw01c, .int .i64 gw02]) (by kernel_rfl) rfl o_w0.cells1
  replace x := x.chg ch (by simp; omega)
  replace xS := xS.chg ch (by simp; omega)
  have bk_w0 := bq; clear bq
  have ll3 := ch.size
  refine ⟨_, st, ?_⟩
  refine Ret.at (impl_TextPercent_c a0 (by omega) (hp.ext x)) ?_
  rintro v W4 ⟨vs_g0, f_g0, hv, o_g0, nd_g0, co_g0, ct_g0, y⟩
  subst hv
  have tn_g0 := tcnts_nn ct_g0
  have lt_o_g0 : ∀ k ∈ f_g0, W3.heap.size <= k /\ k < W4.heap.size := o_g0.lt
  replace x := x.trans y
  replace xS := xS.trans y
  replace bk_w0 := bk_w0.ext y
  have ll4 := y.le
  obtain ⟨gg00, gg01p, gg01n, gg01c, gg01z, gg02, rfl, hd_g0, gg01h⟩ := open_Dec o_g0.reps co_g0
  refine ⟨_, _, _, _, _, _, rfl, ?_⟩
  intro r_g0 W5 hn
  have er_g0 := hn.r_eq; have sr_g0 := hn.size
  have y := hn.ext
  replace x := x.trans y
  replace xS := xS.trans y
  replace bk_w0 := bk_w0.ext y
  replace o_g0 := o_g0.ext y
  have ll5 := y.le
  have bk_g0 := hn.blk; clear hn
  obtain ⟨W6, st, bq, ch, sz⟩ := bk_g0.storeA0 (P := P) (t := T_impl_Dec) (xs := [.bool gg00, .slice gg01p gg01n gg01c, .int .i64 gg02]) (by kernel_rfl) rfl o_g0.reps.cells1
  replace x := x.chg ch (by simp; omega)
  replace xS := xS.chg ch (by simp; omega)
  replace bk_w0 := bk_w0.chg ch (by simp; omega)
  replace o_g0 := o_g0.chg ch (fun k hk hm => by have h1 := lt_o_g0 k hk; simp at hm; omega)
  have bk_g0 := bq; clear bq
  have ll6 := ch.size
  refine ⟨_, st, ?_⟩
  refine ⟨_, _, _, _, _, bk_g0.loadA0 (by kernel_rfl), _, _, _, _, _, bk_w0.loadA0 (by kernel_rfl), ?_⟩
  refine Ret.at (laws_eqDec_c o_g0.reps (o_w0.ext xS) co_g0 co_w0) ?_
  rintro v W7 ⟨hv, y⟩
  subst hv
  replace x := x.trans y
  replace xS := xS.trans y
  replace bk_w0 := bk_w0.ext y
  replace bk_g0 := bk_g0.ext y
  replace o_g0 := o_g0.ext y
  have ll7 := y.le
  refine ⟨_, rfl, ifN (fun h => absurd h (by simp)) (fun _ => ?_)⟩
  refine ⟨fun h => absurd h (bne_no rfl), fun _ => ?_⟩
  unfold laws_FnExactTextPercent_j0
  refine ⟨_, _, _, _, _, bk_g0.loadA0 (by kernel_rfl), ?_⟩
  refine Ret.at (laws_markDec_c o_g0 nd_g0 co_g0 (by omega) (by omega)) ?_
  rintro v W8 ⟨hv, on, ch⟩
  subst hv
  replace x := x.chg ch (fun k hk => by have := lt_o_g0 k hk; omega)
  replace xS := xS.chg ch (fun k hk => by have := lt_o_g0 k hk; omega)
  replace bk_w0 := bk_w0.chg ch (fun hm => by have := lt_o_g0 _ hm; omega)
  replace bk_g0 := bk_g0.chg ch (fun hm => by have := lt_o_g0 _ hm; omega)
  have ll8 := ch.size
  replace o_g0 := on; clear on
  refine ⟨_, rfl, ?_⟩
  refine ⟨_, _, _, _, _, bk_g0.loadA0 (by kernel_rfl), ?_⟩
  refine Ret.at (laws_heldDec_c o_g0.reps co_g0 (by omega) (by omega)) ?_
  rintro v W9 ⟨hv, y⟩
  subst hv
  replace x := x.trans y
  replace xS := xS.trans y
  replace bk_w0 := bk_w0.ext y
  replace bk_g0 := bk_g0.ext y
  replace o_g0 := o_g0.ext y
  have ll9 := y.le
  refine ⟨_, rfl, ifD (fun h => absurd h (by omega)) (fun _ => ?_)⟩
  refine ifD (fun h => absurd rfl h) (fun _ => ?_)
  refine Ret.at (impl_TextPercent_c a0 (by omega) (hp.ext x)) ?_
  rintro v W10 ⟨vs_h0, f_h0, hv, o_h0, nd_h0, co_h0, ct_h0, y⟩
  subst hv
  have tn_h0 := tcnts_nn ct_h0
  have lt_o_h0 : ∀ k ∈ f_h0, W9.heap.size <= k /\ k < W10.heap.size := o_h0.lt
  replace x := x.trans y
  replace xS := xS.trans y
  replace bk_w0 := bk_w0.ext y
  replace bk_g0 := bk_g0.ext y
  replace o_g0 := o_g0.ext y
  have ll10 := y.le
  obtain ⟨gh00, gh01p, gh01n, gh01c, gh01z, gh02, rfl, hd_h0, gh01h⟩ := open_Dec o_h0.reps co_h0
  refine ⟨_, _, _, _, _, _, rfl, ?_⟩
  intro r_h0 W11 hn
  have er_h0 := hn.r_eq; have sr_h0 := hn.size
  have y := hn.ext
  replace x := x.trans y
  replace xS := xS.trans y
  replace bk_w0 := bk_w0.ext y
  replace bk_g0 := bk_g0.ext y
  replace o_g0 := o_g0.ext y
  replace o_h0 := o_h0.ext y
  have ll11 := y.le
  have bk_h0 := hn.blk; clear hn
  obtain ⟨W12, st, bq, ch, sz⟩ := bk_h0.storeA0 (P := P) (t := T_impl_Dec) (xs := [.bool gh00, .slice gh01p gh01n gh01c, .int .i64 gh02]) (by kernel_rfl) rfl o_h0.reps.cells1
  replace x := x.chg ch (by simp; omega)
  replace xS := xS.chg ch (by simp; omega)
  replace bk_w0 := bk_w0.chg ch (by simp; omega)
  replace bk_g0 := bk_g0.chg ch (by simp; omega)
  replace o_g0 := o_g0.chg ch (fun k hk hm => by have h1 := lt_o_g0 k hk; simp at hm; omega)
  replace o_h0 := o_h0.chg ch (fun k hk hm => by have h1 := lt_o_h0 k hk; simp at hm; omega)
  have bk_h0 := bq; clear bq
  have ll12 := ch.size
  refine ⟨_, st, ?_⟩
  refine ⟨_, _, _, _, _, bk_h0.loadA0 (by kernel_rfl), _, _, _, _, _, bk_w0.loadA0 (by kernel_rfl), ?_⟩
  refine Ret.at (laws_eqDec_c o_h0.reps (o_w0.ext xS) co_h0 co_w0) ?_
  rintro v W13 ⟨hv, y⟩
  subst hv
  replace x := x.trans y
  replace xS := xS.trans y
  replace bk_w0 := bk_w0.ext y
  replace bk_g0 := bk_g0.ext y
  replace bk_h0 := bk_h0.ext y
  replace o_g0 := o_g0.ext y
  replace o_h0 := o_h0.ext y
  have ll13 := y.le
  refine ⟨_, rfl, ifN (fun h => absurd h (by simp)) (fun _ => ?_)⟩
  refine ⟨fun h => absurd h (bne_no rfl), fun _ => ?_⟩
  unfold laws_FnExactTextPercent_j1
  refine ⟨_, _, _, _, _, bk_g0.loadA0 (by kernel_rfl), ?_⟩
  refine Ret.at (laws_heldDec_c o_g0.reps co_g0 (by omega) (by omega)) ?_
  rintro v W14 ⟨hv, y⟩
  subst hv
  replace x := x.trans y
  replace xS := xS.trans y
  replace bk_w0 := bk_w0.ext y
  replace bk_g0 := bk_g0.ext y
  replace bk_h0 := bk_h0.ext y
  replace o_g0 := o_g0.ext y
  replace o_h0 := o_h0.ext y
  have ll14 := y.le
  refine ⟨_, rfl, ifD (fun h => absurd h (by omega)) (fun _ => ?_)⟩
  refine ifD (fun h => absurd rfl h) (fun _ => ?_)
  exact ⟨rfl, x⟩
end Go.Proofs.YtfehpaekbbmkcaaGreatDoor
namespace Go.Proofs.YtfehpaekbbmkcaaGreatDoor.Sx
open Go Go.RowKit Go.ChangeShapes Go.WideShapes
def rowedV (P : Program) (ns : List String) : Bool := ns.all fun n => ((P.globalNamed n).bind (P.globals[·]?)).all fun gl => P.readableRec gl.type && decide (gl.type < P.types.size)
section
variable {H : Type} {enc : TypeId × Value -> H} {P : Program}
theorem trodAll_ext (hl : laidOutB P = true) {W W' : World} (hb : Ext W W') (sp' : Nat -> Bool) : ∀ {ts : List TypeId} {vs : List Value} {ds : List (DataW H)} {ps : List MemPlace},
    (∀ t ∈ ts, P.readableRec t = true /\ t < P.types.size) -> (∀ p ∈ ps, p.block < W.heap.size) -> (∀ p ∈ ps, sp' p.block = true) ->
    DataW.TrodAll enc P W 0 (fun _ => true) true ts vs ds ps -> DataW.TrodAll enc P W' 0 sp' true ts vs ds ps
  | [], _, _, _, _, _, _, h => by
    obtain ⟨rfl, rfl, rfl⟩ := trodAll_nil h
    exact rfl
  | t :: ts, _, _, _, hr, hlt, hsp, h => by
    obtain ⟨v, vs1, d, ds1, a, b, rfl, rfl, rfl, h1, h2⟩ := trodAll_cons h
    have hrt := hr t (by simp)
    exact ⟨a, b, WideElems.Trod_stays hl hrt.1 hrt.2 h1 (fun x hx => Below.same hb (hlt x (by simp [hx]))) (fun x hx => hsp x (by simp [hx])),
      trodAll_ext hl hb sp' (fun u hu => hr u (by simp [hu])) (fun x hx => hlt x (by simp [hx])) (fun x hx => hsp x (by simp [hx])) h2, rfl⟩
theorem trodVars_sp (hl : laidOutB P = true) {W W' : World} (hb : Ext W W') (sp' : Nat -> Bool) :
    ∀ {ns : List String} {gs : List (DataW H)} {ps : List MemPlace}, rowedV P ns = true -> (∀ p ∈ ps, sp' p.block = true) -> DataW.TrodVars enc P W (fun _ => true) ns gs ps -> DataW.TrodVars enc P W' sp' ns gs ps
  | [], [], _, _, _, h => h
  | [], _ :: _, _, _, _, h => h.elim
  | _ :: _, [], _, _, _, h => h.elim
  | n :: ns, d :: ds, ps, hv, hsp, h => by
    have hlt := h.lt
    obtain ⟨g, t, cs, fuel, p, q, h1, h2, h3, h4, hs, e⟩ := h
    simp only [rowedV, List.all_cons, Bool.and_eq_true] at hv
    have ht : P.readableRec t = true /\ t < P.types.size := by
      have := hv.1
      rw [h1] at this
      cases hg : P.globals[g]? with
      | none => rw [hg] at h2; cases h2
      | some gl =>
        rw [hg] at h2
        obtain rfl : gl.type = t := Option.some.inj h2
        simpa [hg] using this
    have hp : ∀ x ∈ p, x.block < W.heap.size := fun x hx => hlt x (by rw [e]; simp [hx])
    have h3' : W'.var? P n = some cs := by
      unfold World.var? at h3 ⊢
      rw [h1] at h3 ⊢
      simp only [Option.bind_some] at h3 ⊢
      have hg : g < W.heap.size := by
        cases hh : W.heap[g]? with
        | none => rw [hh] at h3; cases h3
        | some o => exact (Array.getElem?_eq_some_iff.1 hh).1
      rw [hb.block g hg]; exact h3
    exact ⟨g, t, cs, fuel, p, q, h1, h2, h3', DataW.trod_stays (kids_book hl ht.1) (book_sized ht.1) (fun h => by cases h) ⟨ht.2, book_self t⟩ h4 (fun x hx => Below.same hb (hp x hx)) (fun x hx => hsp x (by rw [e]; simp [hx])),
      trodVars_sp hl hb sp' (by simpa [rowedV] using hv.2) (fun x hx => hsp x (by rw [e]; simp [hx])) hs, e⟩
theorem post_of_ext {f : Func} {s : ChangeSpec} {apart fresh handsOn again : Bool} {W W' : World} {args : Array Value} {ds gs : List (DataW H)} {before : List MemPlace} {tb : TypeId}
    (hl : laidOutB P = true) (hpar : ∀ t ∈ f.params.toList, P.readableRec t = true /\ t < P.types.size) (hvr : rowedV P s.vars = true)
    (hrt : f.resultTypes = #[tb]) (htb : P.underlying tb = some .bool)
    (hW : DataW.Whole enc P f.params.toList s.vars apart W args.toList ds gs before) (hx : Ext W W')
    (hfn : s.fn H (ds ++ gs) = { results := [.lit (.bool true)], args := ds, vars := gs }) :
    s.post enc P f apart fresh handsOn again W args (.bool true) W' := by
  have hW0 := hW
  have hlt : ∀ p ∈ before, p.block < W.heap.size := hW.lt
  obtain ⟨pa, pv, hA, hV, rfl, hz, hn⟩ := hW
  have hlta : ∀ p ∈ pa, p.block < W.heap.size := fun p hp => hlt p (by simp [hp])
  have hltv : ∀ p ∈ pv, p.block < W.heap.size := fun p hp => hlt p (by simp [hp])
  have hr : (Value.bool true).resultList f.resultTypes.size = [Value.bool true] := by rw [hrt]; rfl
  refine ⟨ds, gs, pa ++ pv, [], pa, pv, hW0, ?_, ?_, ?_, Below.frame hx _, fun _ => ?_⟩
  · rw [hfn, hr, hrt]
    exact trodAll_mk1 (shut_bool htb _)
  · rw [hfn]
    exact trodAll_ext hl hx _ hpar hlta (fun p hp => by simpa using hlta p hp) hA
  · rw [hfn]
    exact trodVars_sp hl hx _ hvr (fun p hp => by simpa using hltv p hp) hV
  · refine ⟨?_, (.lit (.bool true)) :: ds, gs, pa ++ pv, ⟨[] ++ pa, pv, ?_, ?_, by simp, ?_, ?_⟩, fun p hp _ => hp⟩
    · rw [hr, hrt]
      exact ok_one (f := { f with resultTypes := #[tb] }) rfl rfl (okWide_bool_mk htb _)
    · rw [hr, hrt]
      exact trodAll_append (trodAll_ext hl hx _ hpar hlta (fun _ _ => rfl) hA) (trodAll_mk1 (shut_bool htb _))
    · exact trodVars_sp hl hx _ hvr (fun _ _ => rfl) hV
    · intro b off hp
      have := hlt _ hp
      rw [Below.frozen hx (p := ⟨b, off, none⟩) this]
      exact hz b off hp
    · exact hn
end
end Go.Proofs.YtfehpaekbbmkcaaGreatDoor.Sx
namespace Go.Proofs.YtfehpaekbbmkcaaGreatDoor
open Go Go.Proofs.YtfehpaekbbmkcaaGreatDoor.Sx
theorem laidMet_tail {W : World} {x : String × DataW Unit} {rest : List (String × DataW Unit)} (h : laidMet P (x :: rest) W) : laidMet P rest W := by
  obtain ⟨ps, hv, hn, hr⟩ := h
  obtain ⟨n, d⟩ := x
  obtain ⟨g, t, cs, fuel, p, q, _, _, _, _, hrest, rfl⟩ := hv
  exact ⟨q, hrest, (List.nodup_append.1 hn).2.1, fun b off hm => hr b off (List.mem_append_right _ hm)⟩
theorem pow_data : (Rows.laid_internal_strconv_uint64pow10 : DataW Unit) = Lib.tabData .u64 Lib.pow10Tab := by kernel_rfl
set_option maxRecDepth 100000 in
theorem tabP_of_head {W : World} {rest : List (String × DataW Unit)} (h : laidMet P (("internal/strconv.uint64pow10", Rows.laid_internal_strconv_uint64pow10) :: rest) W) : TabP W := by
  rw [pow_data] at h
  exact Lib.tabIs_of_head (g := G_pow) (t := TA_pow) (e := TE_pow) (n := 20) (by kernel_rfl) (by kernel_rfl) und_A_pow und_E_pow (by kernel_rfl) (by kernel_rfl) h
theorem tabP_of_laid {W : World} (h : laidMetH P [("math/bits.deBruijn32tab", Rows.laid_math_bits_deBruijn32tab), ("math/bits.deBruijn64tab", Rows.laid_math_bits_deBruijn64tab), ("internal/strconv.uint64pow10", Rows.laid_internal_strconv_uint64pow10)] W) : TabP W := by
  have h : laidMet P [("math/bits.deBruijn32tab", Rows.laid_math_bits_deBruijn32tab), ("math/bits.deBruijn64tab", Rows.laid_math_bits_deBruijn64tab), ("internal/strconv.uint64pow10", Rows.laid_internal_strconv_uint64pow10)] W := h
  exact tabP_of_head (laidMet_tail (laidMet_tail h))
def layAt (cs : List Value) : Obj -> Obj
  | .cells _ t frozen => .cells ⟨cs⟩ t frozen
  | o => o
noncomputable def laidWorldP (os : Os) (args : Array Value) : World :=
 { World.holding P os ⟨#[], args, []⟩ with heap := ((((World.holding P os ⟨#[], args, []⟩).heap.modify G_pow (layAt (L_pow.map (Value.int .u64)))).modify G_d32 (layAt (L_d32.map (Value.int .u8)))).modify G_d64 (layAt (L_d64.map (Value.int .u8)))) }
theorem trodVars_zero {H : Type} {enc : TypeId × Value -> H} {w : World} {sp : Nat -> Bool} {gs : List (DataW H)} {ps : List MemPlace} (h : DataW.TrodVars enc P w sp [] gs ps) : gs = [] := by
  match gs, h with
  | [], _ => rfl
  | g :: r, h => exact h.elim
end Go.Proofs.YtfehpaekbbmkcaaGreatDoor
