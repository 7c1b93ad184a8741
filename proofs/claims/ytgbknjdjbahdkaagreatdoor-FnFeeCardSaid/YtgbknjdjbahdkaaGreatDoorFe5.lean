/-
  Parts of the proof of fnFee_holds: CTextPercent, CFnTaxInL, CTextIntL, CStepsOk, CStepsText, CTextStL, LW, CTextInt, CPushF, CRowX, CTextStI, CStepD, CFeeL, CLawR, CTextSteps, CMoneyOf, CSame, SxRow, SxOpen, CByR, GT, CTab, CTabP, CTabX, CTabE.
  Conditions: none.
-/
import Derived.Lib.AtoiAll
import Derived.Lib.ItoaNum
import Derived.Shelf.Strconv.AtoiAll
import Derived.ProofKit
import Derived.Deep.Slices
import Derived.Test.YtgbknjdjbahdkaaGreatDoorRows
import Derived.OpenShut
import Derived.Lib.LaidTab
import Derived.Test.YtgbknjdjbahdkaaGreatDoorFe4
set_option linter.unusedVariables false
set_option linter.unusedSimpArgs false
namespace Go.ChangeShapes
end Go.ChangeShapes
namespace Go.RowKit
end Go.RowKit
namespace Go.Shelf
end Go.Shelf
namespace Go.WideShapes
end Go.WideShapes

namespace Go.Proofs.YtgbknjdjbahdkaaGreatDoor
open Go Go.Proofs.YtgbknjdjbahdkaaGreatDoor.Sx
theorem impl_lowest_o {w : World} {B : Nat} {b : Bool} {p : Option Addr} {n c : Nat} {m s : Nat} {f : List Nat} (h : Owns w B [.bool b, .slice p n c] [.bool b, .ints (digs m)] f) (hB : B <= w.heap.size) (hb : b = true -> m ≠ 0) (hm : (digs m).length <= 6) (hs : s <= 1000) :
    Ret P n_impl_lowest [.agg ⟨[.bool b, .slice p n c]⟩, .int .i64 s] w fun v w' => ∃ vs f, v = .agg ⟨vs⟩ /\ Owns w' B vs (dsn b (lowM m s) (lowS m s)) f /\ f.Nodup /\ Ext w w' := by
  refine impl_lowest_ret ?_
  unfold impl_lowest
  intro r w1 hn1 r1 w2 hn2
  have e1 := hn1.r_eq; have e2 := hn2.r_eq; have s1 := hn1.size; have s2 := hn2.size
  have X := hn1.ext.trans hn2.ext
  have q0 := hn1.blk.ext hn2.ext; have q1 := hn2.blk
  have hfl := h.lt
  -- the end
  have fin : ∀ (W : World) (t : Nat) (pt : Option Addr) (nt ct : Nat) (ft : List Nat), Ext w W -> Blk W r T_impl_Signed [.bool b, .slice pt nt ct] -> Blk W r1 T_impl_Dec [.bool false, .slice none 0 0, .int .i64 0] -> Owns W B [.bool b, .slice pt nt ct] [.bool b, .ints (digs (m / 10 ^ (s - t)))] ft -> (∀ q ∈ ft, q ≠ r1) -> ft.Nodup -> lowS m s = t ->
      impl_lowest_j0 r r1 (t : Int) W fun v w' => ∃ vs f, v = .agg ⟨vs⟩ /\ Owns w' B vs (dsn b (lowM m s) (lowS m s)) f /\ f.Nodup /\ Ext w w' := by
    intro W t pt nt ct ft hX hr hr1 ho hft hnd ht
    unfold impl_lowest_j0
    obtain ⟨W', st, hb', cg, sz⟩ := hr1.storeA0 (P := P) (t := T_impl_Dec) (xs := [.bool b, .slice pt nt ct, .int .i64 (t : Int)]) (by kernel_rfl) rfl (by simp [Value.oneCell'])
    refine ⟨_, _, _, _, hr.loadA0 (by kernel_rfl), W', st, _, _, _, _, _, hb'.loadA0 (by kernel_rfl), _, ft, rfl, ?_, hnd, hX.chg cg (by simp; omega)⟩
    have h1 := (ho.chg cg (fun q hq => by have := hft q hq; simpa using this))
    have h2 := Owns.append h1 (Owns.int W' B (t : Int))
    rw [List.append_nil] at h2
    unfold lowM
    rw [ht]
    exact h2
  refine ⟨fun sc W => ∃ (t : Nat) (pt : Option Addr) (nt ct : Nat) (ft : List Nat), sc = t /\ t <= s /\ m % 10 ^ (s - t) = 0 /\ (b = true -> m / 10 ^ (s - t) ≠ 0) /\ Ext w W /\ Blk W r T_impl_Signed [.bool b, .slice pt nt ct] /\ Blk W r1 T_impl_Dec [.bool false, .slice none 0 0, .int .i64 0] /\ Owns W B [.bool b, .slice pt nt ct] [.bool b, .ints (digs (m / 10 ^ (s - t)))] ft /\ (∀ q ∈ ft, q ≠ r1 /\ q ≠ r) /\ ft.Nodup,
    fun sc _ => sc.toNat, ⟨s, p, n, c, f, rfl, Nat.le_refl _, by rw [Nat.sub_self, Nat.pow_zero, Nat.mod_one], by rw [Nat.sub_self, Nat.pow_zero, Nat.div_one]; exact hb, X, q0, q1, by rw [Nat.sub_self, Nat.pow_zero, Nat.div_one]; exact h.ext X, fun q hq => by have := hfl q hq; omega, owns_nd2 h⟩, ?_⟩
  rintro junk W sc ⟨t, pt, nt, ct, ft, rfl, hts, hmod, hbt, hX, hr, hr1, ho, hft, hnd⟩
  obtain ⟨x, hx⟩ : ∃ x, m / 10 ^ (s - t) = x := ⟨_, rfl⟩
  rw [hx] at hbt ho
  have hor := ho.reps
  have hml : (digs x).length <= 6 := by rw [<- hx]; exact Nat.le_trans (digs_mono_len (Nat.div_le_self _ _)) hm
  refine ifD (fun hpos => ?_) (fun hz => ?_)
  · have hi : IntsR W pt nt ct (digs x) := by
      obtain ⟨_, ⟨p', n', c', e, hi⟩, _⟩ := hor
      cases e; exact hi
    have hil := hi.1
    refine ⟨_, _, _, hr.loadAt 1 (by rw [addr_add]) (by kernel_rfl) rfl, ?_⟩
    refine Ret.at (impl_natSmall_c hi (digs_limbs _) (by omega) (by omega)) ?_
    rintro v W1 ⟨pq, nq, cq, hv, oq, y1⟩
    subst hv
    rw [val_digs] at oq ⊢
    have hq : (((x : Nat) : Int) / 10).toNat = x / 10 := by omega
    rw [hq] at oq
    refine ⟨_, _, _, _, rfl, ifD (fun hrest => ?_) (fun hrest => ?_)⟩
    · refine fin W1 t pt nt ct ft (hX.trans y1) (hr.ext y1) (hr1.ext y1) (by rw [hx]; exact ho.ext y1) (fun q hq => (hft q hq).1) hnd ?_
      exact lowS_eq hts hmod (strip_stop hts (by rw [hx]; omega))
    · obtain ⟨st1, st2⟩ := strip_step (by omega) hts hmod (by rw [hx]; omega)
      refine ⟨_, (hr.ext y1).loadAt 0 (by rw [addr_add]) (by kernel_rfl) rfl, ?_⟩
      have oqi := oq.ints
      refine Ret.at (impl_signed_c (neg := b) oqi.1) ?_
      rintro v W2 ⟨hv, y2⟩
      subst hv
      have hbb : (b && !(digs (x / 10)).isEmpty) = b := by
        cases hb1 : b with
        | false => rfl
        | true =>
          have h1 := hbt hb1
          rw [isEmpty_digs, decide_eq_false (by omega)]; rfl
      rw [hbb]
      obtain ⟨W3, st3, hb3, cg3, sz3⟩ := ((hr.ext y1).ext y2).storeA0 (P := P) (t := T_impl_Signed) (xs := [.bool b, .slice pq nq cq]) (by kernel_rfl) rfl (by simp [Value.oneCell'])
      have l0 := hX.le; have l1 := y1.le; have l2 := y2.le
      have lr := hr.lt; have lr1 := hr1.lt
      have oq2 : Owns W2 W.heap.size [.bool b, .slice pq nq cq] [.bool b, .ints (digs (x / 10))] (pq.map (·.block)).toList := Owns.int2 (oq.ext y2)
      have oq2l := oq2.lt
      have ho3 : Owns W3 B [.bool b, .slice pq nq cq] [.bool b, .ints (digs (x / 10))] (pq.map (·.block)).toList :=
        (oq2.mono (B' := B) (by omega)).chg cg3 (fun q hq => by have := oq2l q hq; simp; omega)
      refine ⟨_, _, _, _, rfl, W3, st3, exW ⟨by omega, by omega⟩ ⟨⟨t - 1, pq, nq, cq, _, by omega, by omega, st1, by rw [st2, hx]; intro h1; have := hbt h1; omega, ((hX.trans y1).trans y2).chg cg3 (by simp; omega), hb3, ((hr1.ext y1).ext y2).chg cg3 (by simp; omega), by rw [st2, hx]; exact ho3, fun q hq => by have := oq2l q hq; omega, nodup_opt pq⟩, ?_⟩⟩
      show ((t : Int) - 1).toNat < (t : Int).toNat
      omega
  · have h0 : t = 0 := by omega
    exact fin W t pt nt ct ft hX hr hr1 (by rw [hx]; exact ho) (fun q hq => (hft q hq).1) hnd (lowS_eq hts hmod (fun u hu => by omega))
theorem impl_TextPercent_o {w : World} (s : ByteArray) (hs : s.size <= 1048576) (hp : TabP w) : Ret P n_impl_TextPercent [.string s] w fun v w' => ∃ vs f, v = .tuple #[.agg ⟨vs⟩, .bool (tpOk s)] /\ Owns w' w.heap.size vs (tpR s) f /\ f.Nodup /\ Ext w w' := by
  obtain ⟨l, hl⟩ : ∃ l, s.data.toList = l := ⟨_, rfl⟩
  have hsl : s.size = l.length := by rw [ba_size, hl]
  refine impl_TextPercent_ret ?_
  unfold impl_TextPercent
  intro r w1 hn1
  have e1 := hn1.r_eq; have z1 := hn1.size
  have zero : ∀ W, Ext w1 W -> tpOk s = false -> ∃ W', Stores P T_impl_Dec ⟨r, 0, none⟩ (.agg #[.bool false, .slice none 0 0, .int .i64 0]) W W' /\ ∃ (x0 : Bool) (x1p : Option Addr) (x1n x1c : Nat) (x2 : Int), Loads P T_impl_Dec ⟨r, 0, none⟩ (.agg #[.bool x0, .slice x1p x1n x1c, .int .i64 x2]) W' /\
      ∃ vs f, Value.tuple #[.agg #[.bool x0, .slice x1p x1n x1c, .int .i64 x2], .bool false] = .tuple #[.agg ⟨vs⟩, .bool (tpOk s)] /\ Owns W' w.heap.size vs (tpR s) f /\ f.Nodup /\ Ext w W' := by
    intro W hW hno
    obtain ⟨W', st, hb', cg, sz⟩ := (hn1.blk.ext hW).storeA0 (P := P) (t := T_impl_Dec) (xs := [.bool false, .slice none 0 0, .int .i64 0]) (by kernel_rfl) rfl (by simp [Value.oneCell'])
    unfold tpR
    rw [hno]
    exact ⟨W', st, _, _, _, _, _, hb'.loadA0 (by kernel_rfl), _, [], rfl, own_dec0 _ _, List.nodup_nil, (hn1.ext.trans hW).chg cg (by simp; omega)⟩
  have main : l.getLast? = some 37 -> impl_TextPercent_j0 s r w1 fun v w' => ∃ vs f, v = .tuple #[.agg ⟨vs⟩, .bool (tpOk s)] /\ Owns w' w.heap.size vs (tpR s) f /\ f.Nodup /\ Ext w w' := by
    intro hlast
    obtain ⟨h0, hsb⟩ := body_size (s := s) (by rw [hl]; exact hlast)
    unfold impl_TextPercent_j0
    refine exW ⟨by omega, by omega⟩ ⟨⟨by omega, by omega⟩, ?_⟩
    have he : (((s.size : Nat) : Int) - 1).toNat = s.size - 1 := by omega
    rw [he]
    have hbs : (bodyT s).size <= s.size := by
      have := congrArg ByteArray.size hsb
      rw [ByteArray.size_append] at this
      have h1 : (S [37]).size = 1 := rfl
      omega
    refine Ret.at (impl_TextDec_o (bodyT s) (by omega) (hp.ext hn1.ext)) ?_
    rintro v w2 ⟨vs, f, hv, ho, hnd, y2⟩
    subst hv
    have hcd : (if tdOk (bodyT s) then cand (bodyT s).data.toList else zeroDec).map D0.code = [.bool, .ints, .int] := by split <;> rfl
    obtain ⟨d0, dp, dn, dc, dz, dt, rfl, hdd, hdi⟩ := open_Dec ho.reps hcd
    refine ⟨_, _, _, _, _, _, rfl, ?_⟩
    intro r1 w3 hn3
    have e3 := hn3.r_eq
    obtain ⟨w4, st4, hb4, y4⟩ := hn3.fill (P := P) (t := T_impl_Dec) (xs := [.bool d0, .slice dp dn dc, .int .i64 dt]) (by simp [Value.oneCell']) (by kernel_rfl) rfl
    have Y4 := y2.trans y4
    have l2 := y2.le; have l4 := y4.le
    refine ⟨w4, st4, ifN (fun hno => zero w4 Y4 (by unfold tpOk; rw [hno]; simp)) (fun hyes => ?_)⟩
    rw [hyes, if_pos rfl] at ho hdd
    obtain ⟨b, m, t, hc, hb, hm, ht, hT⟩ := cand_parts hyes
    rw [hc] at ho hdd
    unfold dsn at hdd
    simp only [List.cons.injEq, D0.bool.injEq, D0.ints.injEq, D0.int.injEq, and_true] at hdd
    obtain ⟨rfl, rfl, rfl⟩ := hdd
    refine ⟨_, _, _, _, hb4.loadAAt 0 [.bool b, .slice dp dn dc] (by rw [addr_add]) (by kernel_rfl) rfl, _, hb4.loadAt 2 (by rw [addr_add]) (by kernel_rfl) rfl, exW ⟨by omega, by omega⟩ ?_⟩
    have e22 : ((t : Int) + 2) = ((t + 2 : Nat) : Int) := by omega
    rw [e22]
    have ho4 : Owns w4 w1.heap.size [.bool b, .slice dp dn dc] [.bool b, .ints (digs m)] f := by
      obtain ⟨f1, f2, hf, h1, f3, f4, hf2, h2, f5, f6, hf3, h3, h4⟩ := ho.ext y4
      refine ⟨f1, f3, ?_, h1, f3, [], by simp, h2, rfl⟩
      have h5 : f5 = [] := h3.2
      have h6 : f6 = [] := h4
      rw [hf, hf2, hf3, h5, h6]; simp
    refine Ret.at (impl_lowest_o (s := t + 2) ho4 (by omega) hb hm (by omega)) ?_
    rintro v w5 ⟨vs5, f5, hv, o5, nd5, y5⟩
    subst hv
    obtain ⟨g0, gp, gn, gc, gz, gt, rfl, hgd, hgi⟩ := open_Dec o5.reps rfl
    refine ⟨_, _, _, _, _, rfl, ?_⟩
    intro r2 w6 hn6
    have e6 := hn6.r_eq
    obtain ⟨w7, st7, hb7, y7⟩ := hn6.fill (P := P) (t := T_impl_Dec) (xs := [.bool g0, .slice gp gn gc, .int .i64 gt]) (by simp [Value.oneCell']) (by kernel_rfl) rfl
    have Y7 := (Y4.trans y5).trans y7
    have X7 := hn1.ext.trans Y7
    have l5 := y5.le; have l7 := y7.le
    refine ⟨w7, st7, _, _, _, _, _, hb7.loadA0 (by kernel_rfl), ?_⟩
    refine Ret.at (impl_Percent_c (o5.reps.ext y7) rfl (hp.ext X7)) ?_
    rintro v w8 ⟨hv, y8⟩
    subst hv
    have Y8 := Y7.trans y8
    have X8 := hn1.ext.trans Y8
    have hlow : lowD (cand (bodyT s).data.toList) = dsn b (lowM m (t + 2)) (lowS m (t + 2)) := by rw [hc, lowD_dsn]
    have htp : tpOk s = decide (percentT (dsn b (lowM m (t + 2)) (lowS m (t + 2))) = s) := by
      unfold tpOk
      rw [hl, hlast, hyes, hlow]; simp
    refine ⟨_, rfl, ifD (fun hne => zero w8 Y8 (by rw [htp]; exact decide_eq_false hne)) (fun heq => ?_)⟩
    have heq : percentT (dsn b (lowM m (t + 2)) (lowS m (t + 2))) = s := by simpa using heq
    have hyes2 : tpOk s = true := by rw [htp]; exact decide_eq_true heq
    have o5l := o5.lt
    obtain ⟨w9, st9, hb9, cg9, sz9⟩ := (hn1.blk.ext Y8).storeA0 (P := P) (t := T_impl_Dec) (xs := [.bool g0, .slice gp gn gc, .int .i64 gt]) (by kernel_rfl) rfl (by simp [Value.oneCell'])
    refine ⟨_, _, _, _, _, (hb7.ext y8).loadA0 (by kernel_rfl), w9, st9, _, _, _, _, _, hb9.loadA0 (by kernel_rfl), _, f5, by rw [hyes2], ?_, nd5, X8.chg cg9 (by simp; omega)⟩
    unfold tpR
    rw [hyes2, if_pos rfl, hlow]
    exact (((o5.ext y7).ext y8).chg cg9 (fun q hq => by have := o5l q hq; simp; omega)).mono (by omega)
  refine ifD (fun hemp => ifT (zero w1 (Ext.refl _) ?_)) (fun hne => ?_)
  · unfold tpOk
    rw [hemp]; rfl
  · have h0 : 0 < l.length := by
      cases l with
      | nil => exact absurd (ba_ext (by rw [hl])) hne
      | cons _ _ => exact Nat.succ_pos _
    have hix : ((s.size : Nat) : Int) - 1 = ((l.length - 1 : Nat) : Int) := by omega
    refine exW ⟨by omega, by omega⟩ ⟨by omega, l[l.length - 1]'(by omega), by subst hl; rw [hix]; exact ba_get (by omega), ifD (fun h37 => zero w1 (Ext.refl _) ?_) (fun h37 => main ?_)⟩
    · unfold tpOk
      rw [hl, List.getLast?_eq_getElem?, List.getElem?_eq_getElem (by omega)]
      have : l[l.length - 1]'(by omega) ≠ 37 := fun e => h37 (by rw [e]; rfl)
      simp [this]
    · rw [List.getLast?_eq_getElem?, List.getElem?_eq_getElem (by omega)]
      have h37' : (((l[l.length - 1]'(by omega)).toNat : Nat) : Int) = 37 := by simpa using h37
      exact congrArg some (UInt8.toNat_inj.1 (by show _ = 37; omega))
theorem tpR_code (s : ByteArray) : (tpR s).map D0.code = [.bool, .ints, .int] := by
  unfold tpR
  split
  · unfold lowD
    split <;> rfl
  · rfl
theorem tpR_cnt (s : ByteArray) : tcnts (tpR s) <= 1000000000 := by
  unfold tpR
  split
  · rename_i h
    unfold tpOk at h
    simp only [Bool.and_eq_true, decide_eq_true_eq] at h
    obtain ⟨b, m, t, hc, hb, hm, ht, hT⟩ := cand_parts h.2.1
    rw [hc, lowD_dsn]
    have h1 : (digs (lowM m (t + 2))).length <= (digs m).length := digs_mono_len (lowM_le m (t + 2))
    simp only [dsn, tcnts]
    omega
  · decide
theorem impl_TextPercent_c {w : World} (s : ByteArray) (hs : s.size <= 1048576) (hp : TabP w) : Ret P n_impl_TextPercent [.string s] w fun v w' => ∃ vs f, v = .tuple #[.agg ⟨vs⟩, .bool (tpOk s)] /\ Owns w' w.heap.size vs (tpR s) f /\ f.Nodup /\ (tpR s).map D0.code = [.bool, .ints, .int] /\ tcnts (tpR s) <= 1000000000 /\ Ext w w' :=
  (impl_TextPercent_o s hs hp).mono fun v w' ⟨vs, f, hv, ho, hn, hx⟩ => ⟨vs, f, hv, ho, hn, tpR_code s, tpR_cnt s, hx⟩
end Go.Proofs.YtgbknjdjbahdkaaGreatDoor
namespace Go.Proofs.YtgbknjdjbahdkaaGreatDoor
open Go Go.Proofs.YtgbknjdjbahdkaaGreatDoor.Sx
theorem money_mid {c : ByteArray} (hc : curKnown c = true) {z : Int} (h : z.natAbs < 1000000000000000000000000000000000000) : moneyOk (.str c :: enc z) = true := by
  have h4 : (digs z.natAbs).length <= 4 := digs_len 4 (by omega)
  have h5 : intOk (enc z) = true := enc_ok (by omega)
  show (curKnown c && intOk (enc z) && decide ((digs z.natAbs).length <= 4)) = true
  rw [hc, h5, decide_eq_true h4]; rfl
theorem rate_small : ∀ z ∈ rateNums, ∀ s ∈ rateScales, 0 <= z /\ z <= 1000 /\ 0 <= s /\ s <= 4 /\ z.toNat <= 10 ^ s.toNat := by decide
theorem rate_pct : ∀ z ∈ rateNums, ∀ s ∈ rateScales, tpOk (percentT (enc z ++ [.int s])) = true /\ dcmp (tpR (percentT (enc z ++ [.int s]))) (enc z ++ [.int s]) = 0 /\ (percentT (enc z ++ [.int s])).size <= 1048576 := by decide +kernel
structure RateF (dr : List D0) (m t : Nat) : Prop where
  form : dr = [.bool false, .ints (digs m), .int (t : Int)]
  tax : taxOk [.bool false, .ints (digs m), .int (t : Int)] = true
  le : m <= 10 ^ t
  num : m <= 1000
  sc : t <= 4
  pct : tpOk (percentT dr) = true /\ dcmp (tpR (percentT dr)) dr = 0 /\ (percentT dr).size <= 1048576
theorem rate_facts {z s : Int} (hz : z ∈ rateNums) (hs : s ∈ rateScales) : ∃ m t, RateF (enc z ++ [.int s]) m t := by
  obtain ⟨z0, z1, s0, s1, hle⟩ := rate_small z hz s hs
  obtain ⟨m, t, hf, ht⟩ := rate_form hz hs
  obtain ⟨a, rfl⟩ : ∃ a : Nat, z = a := ⟨z.toNat, by omega⟩
  obtain ⟨b, rfl⟩ : ∃ b : Nat, s = b := ⟨s.toNat, by omega⟩
  have e : enc (a : Int) ++ [.int (b : Int)] = [.bool false, .ints (digs a), .int (b : Int)] := by rw [enc_nat]; rfl
  have ht' : taxOk [.bool false, .ints (digs a), .int (b : Int)] = true := by rw [<- e, hf]; exact ht
  rw [Int.toNat_natCast, Int.toNat_natCast] at hle
  exact ⟨a, b, e, ht', hle, by omega, by omega, rate_pct _ hz _ hs⟩
theorem quot_le {X : Int} {Y : Nat} {r : Int} {U : Nat} (h1 : X.natAbs <= U * Y) (hn : (X - r * Y).natAbs < Y) : r.natAbs <= U := by
  have h5 : r.natAbs * Y < (U + 1) * Y := by
    have e1 : (r * (Y : Int)).natAbs = r.natAbs * Y := by rw [Int.natAbs_mul, Int.natAbs_natCast]
    rw [Nat.add_mul, Nat.one_mul, <- e1]
    omega
  have := Nat.lt_of_mul_lt_mul_right h5
  omega
structure InF (u : Int) (m t : Nat) (X : Int) (Y : Nat) (net : Int) : Prop where
  eqn : X * ((10 ^ t + m : Nat) : Int) = u * (10 ^ t : Nat) * Y
  pos : 0 < Y
  Yle : Y <= 11000
  Xle : X.natAbs <= u.natAbs * 10000
  near : (X - net * Y).natAbs < Y
  nle : net.natAbs <= u.natAbs
structure OnF (u : Int) (m t : Nat) (X : Int) (Y : Nat) (on : Int) : Prop where
  eqn : X * (10 ^ t : Nat) = u * m * Y
  pos : 0 < Y
  Yle : Y <= 10000
  Xle : X.natAbs <= u.natAbs * 10000
  near : (X - on * Y).natAbs < Y
  nle : on.natAbs <= u.natAbs
def VarS (W : World) (r : Nat) (e : TypeId) (cs : List Value) (d : List D0) : Prop := Blk W r e cs /\ Reps W cs d
theorem VarS.ext {W W' : World} {r : Nat} {e : TypeId} {cs : List Value} {d : List D0} (h : VarS W r e cs d) (y : Ext W W') : VarS W' r e cs d := ⟨h.1.ext y, h.2.ext y⟩
end Go.Proofs.YtgbknjdjbahdkaaGreatDoor
namespace Go.Proofs.YtgbknjdjbahdkaaGreatDoor
open Go Go.Proofs.YtgbknjdjbahdkaaGreatDoor.Sx
def itxtI (n : Int) : ByteArray := ⟨(Lib.itoa n).toArray⟩
theorem itxtI_data (n : Int) : (itxtI n).data.toList = Lib.itoa n := by simp [itxtI]
theorem itxtI_nn {n : Int} (h : 0 <= n) : itxtI n = itxt n.toNat := by
  unfold itxtI itxt Lib.itoa; rw [if_neg (by omega)]
def tiV (s : ByteArray) : Option Int := match Lib.atoiAll s.data.toList with
  | .ok v => if Lib.itoa v = s.data.toList then some v else none
  | _ => none
theorem decDigits_val (u : Nat) : digV (Lib.decDigits u) = u /\ (Lib.decDigits u).all isDig = true /\ Lib.decDigits u ≠ [] := ⟨digV_dec u, dec_all u, dec_ne u⟩
def foldD (acc : Nat) (l : List UInt8) : Nat := l.foldl (fun n c => n * 10 + (c.toNat - 48)) acc
theorem foldD_le : ∀ (l : List UInt8) (acc : Nat), acc <= foldD acc l
  | [], acc => Nat.le_refl _
  | d :: l, acc => by
    have := foldD_le l (acc * 10 + (d.toNat - 48))
    show acc <= foldD (acc * 10 + (d.toNat - 48)) l
    omega
theorem parse_fold : ∀ (l : List UInt8) (acc : Nat), l.all isDig = true -> foldD acc l < 18446744073709551616 -> Lib.parseUint10 acc l = .ok (foldD acc l)
  | [], acc, _, _ => rfl
  | c :: r, acc, h, hv => by
    rw [List.all_cons, Bool.and_eq_true] at h
    have hd := h.1
    simp only [isDig, Bool.and_eq_true, decide_eq_true_eq] at hd
    have hle := foldD_le r (acc * 10 + (c.toNat - 48))
    have hv' : foldD (acc * 10 + (c.toNat - 48)) r < 18446744073709551616 := hv
    unfold Lib.parseUint10
    rw [if_pos hd, if_neg (by omega), if_neg (by omega), parse_fold r _ h.2 hv']
    rfl
theorem parse_digits (l : List UInt8) (h : l.all isDig = true) (hv : digV l < 18446744073709551616) : Lib.parseUint10 0 l = .ok (digV l) := parse_fold l 0 h hv
theorem atoi_minus {c : UInt8} {r : List UInt8} {u : Nat} (hc : c.toNat = 45) (hp : Lib.parseMag r = .ok u) (hu : u <= 9223372036854775808) : Lib.atoiAll (c :: r) = .ok (-(u : Int)) := by
  unfold Lib.atoiAll
  simp only
  rw [if_pos (.inr hc), hp]
  simp only
  rw [if_neg (fun h => h.1 hc), if_neg (by omega), if_pos hc]
theorem tiV_itoa {s : ByteArray} {v : Int} (h0 : -9223372036854775808 <= v) (h1 : v <= 9223372036854775807) (hs : s.data.toList = Lib.itoa v) : tiV s = some v := by
  have key : Lib.atoiAll (Lib.itoa v) = .ok v := by
    by_cases hv : v < 0
    · obtain ⟨a, b, c⟩ := decDigits_val v.natAbs
      have e : Lib.itoa v = 45 :: Lib.decDigits v.natAbs := by unfold Lib.itoa; rw [if_pos hv]
      rw [e]
      have hp : Lib.parseMag (Lib.decDigits v.natAbs) = .ok v.natAbs := by
        unfold Lib.parseMag
        rw [if_neg c, parse_digits _ b (by rw [a]; omega), a]
      rw [atoi_minus (c := 45) rfl hp (by omega)]
      congr 1; omega
    · obtain ⟨a, b, c⟩ := decDigits_val v.toNat
      have e : Lib.itoa v = Lib.decDigits v.toNat := by unfold Lib.itoa; rw [if_neg hv]
      rw [e]
      have hp : Lib.parseMag (Lib.decDigits v.toNat) = .ok v.toNat := by
        unfold Lib.parseMag
        rw [if_neg c, parse_digits _ b (by rw [a]; omega), a]
      cases hl : Lib.decDigits v.toNat with
      | nil => exact absurd hl c
      | cons d r =>
        rw [hl] at b hp
        rw [List.all_cons, Bool.and_eq_true] at b
        have hd := b.1
        simp only [isDig, Bool.and_eq_true, decide_eq_true_eq] at hd
        unfold Lib.atoiAll
        simp only
        rw [if_neg (by omega), hp]
        simp only
        rw [if_neg (by omega), if_neg (by omega), if_neg (by omega)]
        congr 1; omega
  unfold tiV
  rw [hs, key]
  simp
theorem tiV_some {s : ByteArray} {v : Int} (h : tiV s = some v) : s = itxtI v /\ -9223372036854775808 <= v /\ v <= 9223372036854775807 := by
  unfold tiV at h
  split at h
  · rename_i v' hv
    split at h
    · rename_i he
      cases h
      refine ⟨ba_ext (by rw [itxtI_data, he]), ?_⟩
      unfold Lib.atoiAll at hv
      split at hv
      · cases hv
      · simp only at hv
        split at hv
        · cases hv
        · cases hv
        · split at hv
          · cases hv
          · split at hv
            · cases hv
            · injection hv with hv
              rw [<- hv]
              split <;> omega
    · cases h
  · cases h
end Go.Proofs.YtgbknjdjbahdkaaGreatDoor
namespace Go.Proofs.YtgbknjdjbahdkaaGreatDoor
open Go Go.Proofs.YtgbknjdjbahdkaaGreatDoor.Sx
def stepFrom : List D0 -> Int
  | .int n :: _ => n
  | _ => 0
def stepOk (l : List (List D0)) (i : Nat) : Bool := decide (0 <= stepFrom (l.getD i []) /\ stepFrom (l.getD i []) <= 1000000000) && taxOk ((l.getD i []).drop 1) && !(decide (0 < i) && decide (stepFrom (l.getD i []) <= stepFrom (l.getD (i - 1) [])))
def stepsOk (l : List (List D0)) : Bool := decide (1 <= l.length /\ l.length <= 8) && decide (stepFrom (l.getD 0 []) = 0) && (List.range l.length).all (stepOk l)
theorem steps_no {l : List (List D0)} {i : Nat} (hi : i < l.length) (h : stepOk l i = false) : stepsOk l = false := by
  unfold stepsOk
  have : (List.range l.length).all (stepOk l) = false := by
    rw [Bool.eq_false_iff]
    intro ha
    rw [List.all_eq_true] at ha
    have := ha i (List.mem_range.2 hi)
    rw [h] at this; cases this
  rw [this, Bool.and_false]
theorem steps_yes {l : List (List D0)} (h1 : 1 <= l.length /\ l.length <= 8) (h2 : stepFrom (l.getD 0 []) = 0) (h : ∀ i < l.length, stepOk l i = true) : stepsOk l = true := by
  unfold stepsOk
  have : (List.range l.length).all (stepOk l) = true := by
    rw [List.all_eq_true]
    exact fun i hi => h i (List.mem_range.1 hi)
  rw [this, decide_eq_true h1, decide_eq_true h2]; rfl
theorem getD_lt {α : Type} {l : List α} {i : Nat} {d : α} (h : i < l.length) : l.getD i d = l[i] := by
  rw [List.getD_eq_getElem?_getD, List.getElem?_eq_getElem h]; rfl
theorem impl_StepsOk_c {w : World} {p : Option Addr} {n c : Nat} {l : List (List D0)} (h : RowsR w 4 p n c l) (hc : ∀ x ∈ l, x.map D0.code = [.int, .bool, .ints, .int]) :
    Ret P n_impl_StepsOk [.slice p n c] w fun v w' => v = .bool (stepsOk l) /\ Ext w w' := by
  have hz := h.1; have hcap := h.2.1; have hcm := h.2.2.1
  refine impl_StepsOk_ret ?_
  unfold impl_StepsOk
  have bad : ¬ (1 <= l.length /\ l.length <= 8) -> stepsOk l = false := fun hno => by
    unfold stepsOk
    rw [show decide (1 <= l.length /\ l.length <= 8) = false by simpa using hno]
    rfl
  refine ifD (fun hlt => ifT (ifT ⟨by rw [bad (by omega)], Ext.refl _⟩)) (fun hge1 => ifD (fun hgt => ifT ⟨by rw [bad (by omega)], Ext.refl _⟩) (fun hle8 => ?_))
  have hlen : 1 <= l.length /\ l.length <= 8 := by omega
  obtain ⟨b, off, hpp, hs⟩ := h.2.2.2 (by omega)
  have first : ∀ i (hi : i < l.length), ∀ W, Ext w W -> Loads P T_int (((⟨b, off, none⟩ : Addr).add (i * 4)).add 0) (.int .i64 (stepFrom (l.getD i []))) W := by
    intro i hi W hW
    obtain ⟨cs, hk, hr, hsg⟩ := hs i _ (List.getElem?_eq_getElem hi)
    obtain ⟨a0, a1, a2p, a2n, a2c, a2z, a3, rfl, hd, _⟩ := open_Step hr (hc _ (List.getElem_mem hi))
    rw [getD_lt hi, hd]
    exact (hsg.ext hW).loadAt 0 (by simp [Addr.add]) (by kernel_rfl) rfl
  subst hpp
  refine ⟨⟨by omega, by omega⟩, _, by simpa using first 0 (by omega) w (Ext.refl _), ifD (fun hne => ⟨?_, Ext.refl _⟩) (fun he => ?_)⟩
  · unfold stepsOk
    rw [show decide (stepFrom (l.getD 0 []) = 0) = false by simpa using hne, Bool.and_false]
    rfl
  have he : stepFrom (l.getD 0 []) = 0 := by simpa using he
  unfold impl_StepsOk_j0
  refine ⟨fun i wr => ∃ j : Nat, i = j /\ j <= n /\ Ext w wr /\ ∀ i < j, stepOk l i = true, fun i _ => n - i.toNat, ⟨0, rfl, by omega, Ext.refl _, by simp⟩, ?_⟩
  intro junk wr i ⟨j, hij, hj, hx, hall⟩
  subst hij
  refine ifD (fun hlt => ?_) (fun hge => ⟨?_, hx⟩)
  · have hjn : j < n := by omega
    have hjl : j < l.length := by omega
    obtain ⟨a, cs, hp, hk, hr, hl⟩ := (h.ext hx).at (P := P) (t := T_impl_Step) (by kernel_rfl) hjn
    cases hp
    have hrr := hr; have hcode := hc _ (List.getElem_mem hjl)
    obtain ⟨a0, a1, a2p, a2n, a2c, a2z, a3, rfl, hd, ha⟩ := open_Step hr hcode
    have hgd : l.getD j [] = [.int a0, .bool a1, .ints a2z, .int a3] := by rw [getD_lt hjl, hd]
    have hprev : 0 < j -> 0 <= stepFrom (l.getD (j - 1) []) := fun h0 => by
      have := hall (j - 1) (by omega)
      simp only [stepOk, Bool.and_eq_true, decide_eq_true_eq] at this
      exact this.1.1.1
    have h00 : j = 0 -> a0 = 0 := fun h0 => by
      subst h0
      rw [hgd] at he; exact he
    refine ⟨⟨by omega, by omega⟩, _, _, _, _, _, _, by simpa using hl, ?_⟩
    intro r w2 hn2
    obtain ⟨w3, st, hb3, y3⟩ := hn2.fill (P := P) (t := T_impl_Step) hrr.cells1 (by kernel_rfl) rfl
    have D := Ext.drew w3
    have x3 := (hx.trans y3).trans D
    have hb4 := hb3.ext D
    have next : ∀ W, Ext w W -> stepOk l j = true -> ∃ t48 : Int, t48 = IntKind.wrap .i64 ((j : Int) + 1) /\ (fun (i : Int) (wr : World) => ∃ j : Nat, i = j /\ j <= n /\ Ext w wr /\ ∀ i < j, stepOk l i = true) t48 W /\ (fun (i : Int) (_ : World) => n - i.toNat) t48 W < (fun (i : Int) (_ : World) => n - i.toNat) (j : Int) wr := by
      intro W hW hs
      refine exW ⟨by omega, by omega⟩ ⟨⟨j + 1, by omega, by omega, hW, fun i hi => ?_⟩, ?_⟩
      · rcases Nat.lt_or_ge i j with h | h
        · exact hall i h
        · have : i = j := by omega
          subst this; exact hs
      · show n - ((j : Int) + 1).toNat < n - (j : Int).toNat
        omega
    have hdec : Reps w3.drew [.bool a1, .slice a2p a2n a2c, .int .i64 a3] [.bool a1, .ints a2z, .int a3] := ⟨rfl, ⟨_, _, _, rfl, ha.ext (y3.trans D)⟩, rfl, trivial⟩
    -- the rate, when the rest is well
    have rate : (0 <= a0 /\ a0 <= 1000000000) -> (0 < j -> stepFrom (l.getD (j - 1) []) < a0) -> ∃ (t470 : Bool) (t471_p : Option Addr) (t471_n : Nat) (t471_c : Nat) (t472 : Int), (∀ wv_8, Ext w3.drew wv_8 -> Loads P T_impl_Dec ((⟨r, 0, none⟩ : Addr).add 1) (.agg #[(.bool t470), (.slice t471_p t471_n t471_c), (.int .i64 t472)]) wv_8) /\ Calls P n_impl_TaxRateOk ⟨[(.agg #[(.bool t470), (.slice t471_p t471_n t471_c), (.int .i64 t472)])]⟩ w3.drew fun e_1 wv_9 =>
        ∃ (t48 : Bool), e_1 = .returned (.bool t48) /\
        ((!t48) = true -> (fun (v : Value) (w' : World) => v = .bool (stepsOk l) /\ Ext w w') (.bool false) wv_9) /\
        ((!t48) = false -> ∃ t51 : Int, t51 = IntKind.wrap .i64 ((j : Int) + 1) /\ (fun (i : Int) (wr : World) => ∃ j : Nat, i = j /\ j <= n /\ Ext w wr /\ ∀ i < j, stepOk l i = true) t51 wv_9 /\ (fun (i : Int) (_ : World) => n - i.toNat) t51 wv_9 < (fun (i : Int) (_ : World) => n - i.toNat) (j : Int) wr) := by
      intro hin hgt
      refine ⟨_, _, _, _, _, fun W hW => (hb4.ext hW).loadAAt 1 [.bool a1, .slice a2p a2n a2c, .int .i64 a3] rfl (by kernel_rfl) rfl, ?_⟩
      refine Ret.at (impl_TaxRateOk_c hdec rfl) ?_
      rintro v w5 ⟨hv, y5⟩
      subst hv
      have x5 := x3.trans y5
      refine ⟨_, rfl, ifN (fun hno => ⟨?_, x5⟩) (fun htax => next _ x5 ?_)⟩
      · rw [steps_no hjl]
        simp only [stepOk, hgd, stepFrom, List.drop_succ_cons, List.drop_zero, hno, Bool.and_false, Bool.false_and]
      · have hg : (decide (0 < j) && decide (a0 <= stepFrom (l.getD (j - 1) []))) = false := by
          simp only [Bool.and_eq_false_iff, decide_eq_false_iff_not]
          rcases Nat.eq_zero_or_pos j with h | h
          · exact .inl (by omega)
          · have := hgt h; exact .inr (by omega)
        unfold stepOk
        rw [hgd, show (decide (0 < j) && decide (stepFrom [D0.int a0, .bool a1, .ints a2z, .int a3] <= stepFrom (l.getD (j - 1) []))) = false from hg]
        simp only [stepFrom, List.drop_succ_cons, List.drop_zero, htax, Bool.not_false, Bool.and_true]
        exact decide_eq_true hin
    refine ⟨w3, st, _, fun W hW => (hb4.ext hW).loadAt 0 rfl (by kernel_rfl) rfl, ifD (fun hbig => ifT (ifT ⟨?_, x3⟩)) (fun hsmall => ?_)⟩
    · rw [steps_no hjl]
      simp only [stepOk, hgd, stepFrom, show decide (0 <= a0 /\ a0 <= 1000000000) = false by simp; omega, Bool.false_and]
    refine ifD (fun hpos => ?_) (fun hzero => ifF (rate ?_ ?_))
    · refine exW ⟨by omega, by omega⟩ ⟨⟨by omega, by omega⟩, stepFrom (l.getD (j - 1) []), fun W hW => ?_, _, fun W hW => (hb4.ext hW).loadAt 0 rfl (by kernel_rfl) rfl, ifD (fun hle => ifT ⟨?_, x3⟩) (fun hgt => rate ?_ ?_)⟩
      · have := first (j - 1) (by omega) W (x3.trans hW)
        rw [show ((j : Int) - 1).toNat = j - 1 by omega]
        exact this
      · rw [steps_no hjl]
        simp only [stepOk, hgd]
        rw [decide_eq_true (show stepFrom [.int a0, .bool a1, .ints a2z, .int a3] <= stepFrom (l.getD (j - 1) []) from hle), decide_eq_true (show 0 < j by omega)]
        simp
      · have := hprev (by omega)
        omega
      · intro _; omega
    · have := h00 (by omega)
      omega
    · intro h0; omega
  · rw [steps_yes hlen he (fun i hi => hall i (by omega))]
end Go.Proofs.YtgbknjdjbahdkaaGreatDoor
namespace Go.Proofs.YtgbknjdjbahdkaaGreatDoor
open Go Go.Proofs.YtgbknjdjbahdkaaGreatDoor.Sx
def stepT : List D0 -> ByteArray
  | [.int a, .bool b, .ints z, .int s] => (itxt a.toNat ++ S [58]) ++ percentT [.bool b, .ints z, .int s]
  | _ => S []
def stepsT (l : List (List D0)) : ByteArray := if stepsOk l then joinT (S [44]) (l.map stepT) else S []
theorem stepsOk_parts {l : List (List D0)} (h : stepsOk l = true) : l.length <= 8 /\ ∀ i (hi : i < l.length), 0 <= stepFrom (l[i]'hi) /\ stepFrom (l[i]'hi) <= 1000000000 := by
  simp only [stepsOk, Bool.and_eq_true, decide_eq_true_eq, List.all_eq_true] at h
  refine ⟨h.1.1.2, fun i hi => ?_⟩
  have h2 := h.2 i (List.mem_range.2 hi)
  simp only [stepOk, Bool.and_eq_true, decide_eq_true_eq] at h2
  have := h2.1.1
  rwa [getD_lt hi] at this
theorem stepT_size {x : List D0} (hc : x.map D0.code = [.int, .bool, .ints, .int]) (h : 0 <= stepFrom x /\ stepFrom x <= 1000000000) : (stepT x).size <= 300 := by
  unfold stepT
  split
  · rename_i a b z s
    have N := percentT_size [.bool b, .ints z, .int s]
    have s1 : (S [58]).size = 1 := rfl
    have h2 : 0 <= a /\ a <= 1000000000 := h
    have I : (itxt a.toNat).size <= 10 := itxt_lt 9 (by
      have : (10 : Nat) ^ (9 + 1) = 10000000000 := by decide
      omega)
    simp only [ByteArray.size_append, s1]
    omega
  · show 0 <= _; omega
theorem impl_StepsText_c {w : World} {p : Option Addr} {n c : Nat} {l : List (List D0)} (h : RowsR w 4 p n c l) (hc : ∀ x ∈ l, x.map D0.code = [.int, .bool, .ints, .int]) (hp : TabP w) :
    Ret P n_impl_StepsText [.slice p n c] w fun v w' => v = .string (stepsT l) /\ Ext w w' := by
  have hln := h.1
  refine impl_StepsText_ret ?_
  unfold impl_StepsText
  refine Ret.at (impl_StepsOk_c h hc) ?_
  rintro v w0 ⟨hv, y0⟩
  subst hv
  refine ⟨_, rfl, ifN (fun e => ⟨by simp only [stepsT, e, Bool.false_eq_true, if_false], y0⟩) (fun e => ?_)⟩
  have hgoal : stepsT l = joinT (S [44]) (l.map stepT) := by simp only [stepsT, e, if_true]
  rw [hgoal]
  obtain ⟨h8, hfrom⟩ := stepsOk_parts e
  intro r w1 hn1
  have e1 := hn1.r_eq; have z1 := hn1.size
  have l0 := y0.le
  refine ⟨fun q m d i wr => ∃ j : Nat, i = j /\ j <= n /\ m = j /\ Own wr w.heap.size T_string 1 q j d (((l.take j).map stepT).map Value.string) /\ Ext w wr, fun _ _ _ i _ => n - i.toNat, ⟨0, rfl, by omega, rfl, Own.of_blk0 hn1.blk (by omega) (by simp) (by decide), y0.trans hn1.ext⟩, ?_⟩
  intro junk wr q m d i ⟨j, hij, hj, hm, how, hx⟩
  subst hij; subst hm
  have lx := hx.le
  refine ifD (fun hlt => ?_) (fun hge => ?_)
  · have hjn : m < n := by omega
    have hjl : m < l.length := by omega
    obtain ⟨a, cs, hp', hk, hr, hl⟩ := (h.ext hx).at (P := P) (t := T_impl_Step) (by kernel_rfl) hjn
    subst hp'
    have hrr := hr; have hcode := hc _ (List.getElem_mem hjl)
    have hfj := hfrom m hjl
    have hsz := stepT_size hcode hfj
    obtain ⟨a0, a1, a2p, a2n, a2c, a2z, a3, rfl, hd, ha⟩ := open_Step hr hcode
    have hnext : ((l.take (m + 1)).map stepT).map Value.string = ((l.take m).map stepT).map Value.string ++ [.string (stepT (l[m]'hjl))] := by
      rw [List.take_add_one, List.getElem?_eq_getElem hjl, List.map_append, List.map_append]; rfl
    rw [hd] at hnext hfj hsz
    have hf0 : 0 <= a0 /\ a0 <= 1000000000 := hfj
    have hsz' : (itxt a0.toNat ++ S [58]).size + (percentT [.bool a1, .ints a2z, .int a3]).size <= 300 := by rw [<- ByteArray.size_append]; exact hsz
    have hsz2 : (itxt a0.toNat).size + 1 <= 300 := by
      rw [ByteArray.size_append] at hsz'
      have : (S [58]).size = 1 := rfl
      omega
    refine ⟨⟨by omega, by omega⟩, _, _, _, _, _, _, by simpa using hl, ?_⟩
    intro r2 w2 hn2
    obtain ⟨w3, st, hb3, y3⟩ := hn2.fill (P := P) (t := T_impl_Step) hrr.cells1 (by kernel_rfl) rfl
    have D := Ext.drew w3
    have X3 := (hx.trans y3).trans D
    have bk := hb3.ext D
    refine ⟨w3, st, _, fun W hW => (bk.ext hW).loadAt 0 rfl (by kernel_rfl) rfl, ?_⟩
    refine Ret.at (impl_IntText_c (hp.ext X3) (by omega) (by omega)) ?_
    rintro v w4 ⟨hv, y4⟩
    subst hv
    have X4 := X3.trans y4
    refine ⟨_, rfl, y4, ?_, _, rfl, _, _, _, _, _, fun W hW => (bk.ext hW).loadAAt 1 [.bool a1, .slice a2p a2n a2c, .int .i64 a3] rfl (by kernel_rfl) rfl, ?_⟩
    · show _ + 1 <= _
      omega
    have hm : Reps w4 [.bool a1, .slice a2p a2n a2c, .int .i64 a3] [.bool a1, .ints a2z, .int a3] := ⟨rfl, ⟨_, _, _, rfl, ha.ext ((y3.trans D).trans y4)⟩, rfl, trivial⟩
    refine Ret.at (impl_Percent_c hm rfl (hp.ext (X4))) ?_
    rintro v w6 ⟨hv, y6⟩
    subst hv
    refine ⟨_, rfl, by omega, _, rfl, ?_⟩
    intro r5 w5 hn5
    have Y5 := (((y3.trans D).trans y4).trans y6).trans hn5.ext
    have hb5 : w.heap.size <= w5.heap.size := (hx.trans Y5).le
    obtain ⟨p', c', w7, hap, how7, hch, _⟩ := (how.ext Y5).push1 (P := P) sliceT_string hb5 hn5.blk rfl (by simp [Value.oneCell']) (by omega) (by decide)
    refine ⟨p', m + 1, c', w7, hap, exW ⟨by omega, by omega⟩ ⟨⟨m + 1, by omega, by omega, rfl, by rw [hnext]; exact how7, ?_⟩, ?_⟩⟩
    · exact (hx.trans Y5).chg hch fun k hk => (World.ownsRow.lt how k (by cases q <;> simp_all [Value.ownBlock])).1
    · show n - ((m : Int) + 1).toNat < n - (m : Int).toNat
      omega
  · have hmn : m = n := by omega
    subst hmn
    rw [List.take_of_length_le (by omega)] at how
    have hst := own_strs how
    refine Ret.at (impl_Join_c hst (S [44]) (k := 300) ?_ ?_ (by omega)) ?_
    · intro x hx'
      obtain ⟨y, hy, rfl⟩ := List.mem_map.1 hx'
      obtain ⟨i, hi, rfl⟩ := List.getElem_of_mem hy
      exact stepT_size (hc _ (List.getElem_mem hi)) (hfrom i hi)
    · have : m * (300 + (S [44]).size) <= 8 * (300 + (S [44]).size) := Nat.mul_le_mul_right _ (by omega)
      have s2 : (S [44]).size = 1 := rfl
      rw [s2] at this ⊢
      omega
    rintro v w6 ⟨hv, y6⟩
    subst hv
    exact ⟨_, rfl, rfl, hx.trans y6⟩
end Go.Proofs.YtgbknjdjbahdkaaGreatDoor
namespace Go.Proofs.YtgbknjdjbahdkaaGreatDoor
open Go Go.Proofs.YtgbknjdjbahdkaaGreatDoor.Sx
def BA (l : List UInt8) : ByteArray := ⟨l.toArray⟩
theorem BA_data (l : List UInt8) : (BA l).data.toList = l := by simp [BA]
theorem BA_eq (s : ByteArray) : BA s.data.toList = s := ba_ext (by rw [BA_data])
def stR (p : List UInt8) : Option (List D0) := match cuts 58 [] p with
  | [a, b] => match tiV (BA a) with
    | some n => if tpOk (BA b) then some (.int n :: tpR (BA b)) else none
    | none => none
  | _ => none
def stL : List (List UInt8) -> Option (List (List D0))
  | [] => some []
  | p :: r => match stR p with
    | none => none
    | some x => match stL r with
      | none => none
      | some xs => some (x :: xs)
def tsV (s : ByteArray) : Option (List (List D0)) := match stL (cuts 44 [] s.data.toList) with
  | none => none
  | some l => if stepsOk l then some l else none
theorem stL_snoc : ∀ {ps : List (List UInt8)} {xs : List (List D0)} {p : List UInt8} {x : List D0}, stL ps = some xs -> stR p = some x -> stL (ps ++ [p]) = some (xs ++ [x])
  | [], xs, p, x, h, g => by
    simp only [stL, Option.some.injEq] at h
    subst h
    simp [stL, g]
  | q :: r, xs, p, x, h, g => by
    simp only [stL] at h
    cases hq : stR q with
    | none => rw [hq] at h; cases h
    | some y =>
      rw [hq] at h
      cases hr : stL r with
      | none => rw [hr] at h; cases h
      | some ys =>
        rw [hr] at h
        simp only [Option.some.injEq] at h
        subst h
        show (match stR q with | none => none | some x => match stL (r ++ [p]) with | none => none | some xs => some (x :: xs)) = _
        rw [hq, stL_snoc hr g]; rfl
theorem stL_bad : ∀ {ps : List (List UInt8)} {p : List UInt8}, p ∈ ps -> stR p = none -> stL ps = none
  | q :: r, p, hm, h => by
    simp only [stL]
    rcases List.mem_cons.1 hm with rfl | hm
    · rw [h]
    · cases stR q with
      | none => rfl
      | some y => rw [stL_bad hm h]
theorem stL_len : ∀ {ps : List (List UInt8)} {xs : List (List D0)}, stL ps = some xs -> xs.length = ps.length
  | [], xs, h => by simp only [stL, Option.some.injEq] at h; subst h; rfl
  | q :: r, xs, h => by
    simp only [stL] at h
    cases hq : stR q with
    | none => rw [hq] at h; cases h
    | some y =>
      rw [hq] at h
      cases hr : stL r with
      | none => rw [hr] at h; cases h
      | some ys =>
        rw [hr] at h
        simp only [Option.some.injEq] at h
        subst h
        simp [stL_len hr]
theorem stL_all : ∀ {ps : List (List UInt8)} {xs : List (List D0)}, stL ps = some xs -> ∀ i (hi : i < ps.length) (hj : i < xs.length), stR ps[i] = some xs[i]
  | [], xs, h, i, hi, _ => by simp at hi
  | q :: r, xs, h, i, hi, hj => by
    simp only [stL] at h
    cases hq : stR q with
    | none => rw [hq] at h; cases h
    | some y =>
      rw [hq] at h
      cases hr : stL r with
      | none => rw [hr] at h; cases h
      | some ys =>
        rw [hr] at h
        simp only [Option.some.injEq] at h
        subst h
        cases i with
        | zero => exact hq
        | succ i => exact stL_all hr i (by simpa using hi) (by simpa using hj)
theorem stR_parts {p : List UInt8} {x : List D0} (h : stR p = some x) : ∃ a b n, cuts 58 [] p = [a, b] /\ tiV (BA a) = some n /\ tpOk (BA b) = true /\ x = .int n :: tpR (BA b) := by
  unfold stR at h
  split at h
  · rename_i a b hab
    split at h
    · rename_i n hn
      split at h
      · rename_i ht
        cases h
        exact ⟨a, b, n, hab, hn, ht, rfl⟩
      · cases h
    · cases h
  · cases h
theorem stR_make {p a b : List UInt8} {n : Int} (h : cuts 58 [] p = [a, b]) (hn : tiV (BA a) = some n) (ht : tpOk (BA b) = true) : stR p = some (.int n :: tpR (BA b)) := by
  unfold stR
  rw [h]
  simp only
  rw [hn]
  simp only
  rw [if_pos ht]
theorem stR_no {p a b : List UInt8} (h : cuts 58 [] p = [a, b]) (hn : tiV (BA a) = none ∨ tpOk (BA b) = false) : stR p = none := by
  unfold stR
  rw [h]
  simp only
  rcases hn with hn | hn
  · rw [hn]
  · split
    · rw [if_neg (by rw [hn]; simp)]
    · rfl
theorem stR_len {p : List UInt8} (h : (cuts 58 [] p).length ≠ 2) : stR p = none := by
  cases hs : stR p with
  | none => rfl
  | some x =>
    obtain ⟨a, b, n, e, _⟩ := stR_parts hs
    rw [e] at h; exact absurd rfl h
theorem stL_code {ps : List (List UInt8)} {xs : List (List D0)} (h : stL ps = some xs) : ∀ x ∈ xs, x.map D0.code = [.int, .bool, .ints, .int] := fun x hx => by
  obtain ⟨i, hi, rfl⟩ := List.getElem_of_mem hx
  obtain ⟨a, b, n, _, _, _, e⟩ := stR_parts (stL_all h i (by rw [<- stL_len h]; exact hi) hi)
  rw [e, List.map_cons, tpR_code]; rfl
theorem join_cuts (c : UInt8) : ∀ (l acc : List UInt8), Lib.join (cuts c acc l) [c] = acc ++ l
  | [], acc => by rw [cuts, Lib.join_one, List.append_nil]
  | x :: r, acc => by
    by_cases hx : x = c
    · subst hx
      rw [cuts, if_pos rfl, Lib.join_cons]
      congr 1
      have ih := join_cuts x r []
      cases hc : cuts x [] r with
      | nil => exact absurd hc (cuts_ne _ _)
      | cons y ys =>
        rw [hc, Lib.join_cons, List.nil_append] at ih
        show [x] ++ y ++ Lib.joinTail [x] ys = x :: r
        rw [List.append_assoc, ih]; rfl
    · rw [cuts, if_neg hx, join_cuts c r, List.append_assoc]; rfl
theorem stR_text {p : List UInt8} {x : List D0} (h : stR p = some x) (h0 : 0 <= stepFrom x) : stepT x = BA p := by
  obtain ⟨a, b, n, e, hn, ht, rfl⟩ := stR_parts h
  have hp : p = a ++ 58 :: b := by
    have := join_cuts 58 p []
    rw [e, List.nil_append] at this
    rw [<- this]
    show a ++ ([58] ++ b ++ []) = _
    simp
  have hn0 : 0 <= n := h0
  obtain ⟨ha, _, _⟩ := tiV_some hn
  rw [itxtI_nn hn0] at ha
  have hb : percentT (tpR (BA b)) = BA b := by
    have ht2 := ht
    unfold tpR
    rw [if_pos ht]
    unfold tpOk at ht2
    simp only [Bool.and_eq_true, decide_eq_true_eq] at ht2
    exact ht2.2.2
  have hc := tpR_code (BA b)
  match hr : tpR (BA b), hc with
  | [.bool y, .ints z, .int t], _ =>
    show (itxt n.toNat ++ S [58]) ++ percentT [.bool y, .ints z, .int t] = _
    rw [<- hr, hb, <- ha]
    refine ba_ext ?_
    rw [ByteArray.data_append, ByteArray.data_append, Array.toList_append, Array.toList_append, BA_data, BA_data, BA_data, hp]
    show a ++ [58] ++ b = _
    simp
theorem steps_text {s : ByteArray} {xs : List (List D0)} (h : stL (cuts 44 [] s.data.toList) = some xs) (hok : stepsOk xs = true) : stepsT xs = s := by
  obtain ⟨_, hf⟩ := stepsOk_parts hok
  have hm : xs.map stepT = (cuts 44 [] s.data.toList).map BA := by
    refine List.ext_getElem (by simp [stL_len h]) fun i h1 h2 => ?_
    rw [List.getElem_map, List.getElem_map]
    have hi : i < xs.length := by simpa using h1
    exact stR_text (stL_all h i (by simpa using h2) hi) (hf i hi).1
  unfold stepsT
  rw [if_pos hok, hm]
  refine ba_ext ?_
  unfold joinT
  rw [List.map_map]
  have e : ((cuts 44 [] s.data.toList).map ((fun x : ByteArray => x.data.toList) ∘ BA)) = cuts 44 [] s.data.toList := by
    conv => rhs; rw [<- List.map_id (cuts 44 [] s.data.toList)]
    exact List.map_congr_left fun x _ => BA_data x
  rw [e]
  show (Lib.join (cuts 44 [] s.data.toList) [44]).toArray.toList = _
  rw [join_cuts]; simp
theorem tsV_bad {s : ByteArray} {p : List UInt8} (hm : p ∈ cuts 44 [] s.data.toList) (h : stR p = none) : tsV s = none := by
  unfold tsV; rw [stL_bad hm h]
theorem tsV_many {s : ByteArray} (h : 8 < (cuts 44 [] s.data.toList).length) : tsV s = none := by
  unfold tsV
  cases hs : stL (cuts 44 [] s.data.toList) with
  | none => rfl
  | some l =>
    simp only
    rw [if_neg]
    intro hok
    have := (stepsOk_parts hok).1
    rw [stL_len hs] at this; omega
theorem tsV_end {s : ByteArray} {xs : List (List D0)} (h : stL (cuts 44 [] s.data.toList) = some xs) : tsV s = if stepsOk xs then some xs else none := by
  unfold tsV; rw [h]
theorem cuts_le {c : UInt8} : ∀ (l acc : List UInt8), ∀ x ∈ cuts c acc l, x.length <= acc.length + l.length
  | [], acc, x, hx => by
    rw [cuts, List.mem_singleton] at hx
    subst hx; simp
  | y :: r, acc, x, hx => by
    rw [cuts] at hx
    split at hx
    · rcases List.mem_cons.1 hx with rfl | hx
      · simp
      · have := cuts_le r [] x hx
        simp only [List.length_nil, List.length_cons] at this ⊢
        omega
    · have := cuts_le r _ x hx
      simp only [List.length_append, List.length_cons, List.length_nil] at this ⊢
      omega
end Go.Proofs.YtgbknjdjbahdkaaGreatDoor
namespace Go.Proofs.YtgbknjdjbahdkaaGreatDoor
open Go Go.Shelf
def ren172 : Ren := ⟨fun x => match x with | 172 => 83 | 244 => 120 | 245 => 121 | 247 => 150 | 279 => 151 | 280 => 152 | 281 => 153 | 282 => 154 | 287 => 172 | 316 => 173 | 171 => 84 | 205 => 174 | 321 => 189 | 322 => 190 | 243 => 122 | 246 => 155 | 283 => 175 | 284 => 176 | 285 => 177 | 286 => 178 | 129 => 192 | 317 => 191 | 318 => 193 | 319 => 194 | 320 => 195 | 337 => 209 | 338 => 210 | n => n, fun x => match x with | 9 => 9 | 3 => 3 | 75 => 109 | 76 => 110 | 4 => 4 | 5 => 5 | 167 => 154 | 37 => 28 | 0 => 0 | 85 => 155 | 2 => 2 | 168 => 157 | 53 => 86 | 175 => 168 | 46 => 137 | 210 => 172 | 127 => 163 | 145 => 195 | 143 => 193 | 21 => 21 | 171 => 174 | 173 => 177 | 212 => 198 | 51 => 199 | 20 => 20 | 213 => 200 | 232 => 207 | 233 => 208 | 80 => 144 | n => n, fun x => match x with | 15 => 2 | 16 => 3 | 17 => 4 | 18 => 5 | 19 => 6 | n => n⟩
theorem lays172 : LaysC.n172 Tryz.prog ren172 := {
  mixed := by kernel_rfl,
  f129 := Tryz.func192.trans (congrArg some (by kernel_rfl)),
  f171 := Tryz.func84.trans (congrArg some (by kernel_rfl)),
  f172 := Tryz.func83.trans (congrArg some (by kernel_rfl)),
  f205 := Tryz.func174.trans (congrArg some (by kernel_rfl)),
  f243 := Tryz.func122.trans (congrArg some (by kernel_rfl)),
  f244 := Tryz.func120.trans (congrArg some (by kernel_rfl)),
  f245 := Tryz.func121.trans (congrArg some (by kernel_rfl)),
  f246 := Tryz.func155.trans (congrArg some (by kernel_rfl)),
  f247 := Tryz.func150.trans (congrArg some (by kernel_rfl)),
  f279 := Tryz.func151.trans (congrArg some (by kernel_rfl)),
  f280 := Tryz.func152.trans (congrArg some (by kernel_rfl)),
  f281 := Tryz.func153.trans (congrArg some (by kernel_rfl)),
  f282 := Tryz.func154.trans (congrArg some (by kernel_rfl)),
  f283 := Tryz.func175.trans (congrArg some (by kernel_rfl)),
  f284 := Tryz.func176.trans (congrArg some (by kernel_rfl)),
  f285 := Tryz.func177.trans (congrArg some (by kernel_rfl)),
  f286 := Tryz.func178.trans (congrArg some (by kernel_rfl)),
  f287 := Tryz.func172.trans (congrArg some (by kernel_rfl)),
  f316 := Tryz.func173.trans (congrArg some (by kernel_rfl)),
  f317 := Tryz.func191.trans (congrArg some (by kernel_rfl)),
  f318 := Tryz.func193.trans (congrArg some (by kernel_rfl)),
  f319 := Tryz.func194.trans (congrArg some (by kernel_rfl)),
  f320 := Tryz.func195.trans (congrArg some (by kernel_rfl)),
  f321 := Tryz.func189.trans (congrArg some (by kernel_rfl)),
  f322 := Tryz.func190.trans (congrArg some (by kernel_rfl)),
  f337 := Tryz.func209.trans (congrArg some (by kernel_rfl)),
  f338 := Tryz.func210.trans (congrArg some (by kernel_rfl)),
  t0 := Tryz.underlying0,
  a0 := Tryz.isAgg0,
  z0 := Tryz.sizeOf0,
  v0 := Tryz.zeroValue0,
  t2 := Tryz.underlying2,
  a2 := Tryz.isAgg2,
  z2 := Tryz.sizeOf2,
  v2 := Tryz.zeroValue2,
  t3 := Tryz.underlying3,
  a3 := Tryz.isAgg3,
  z3 := Tryz.sizeOf3,
  v3 := Tryz.zeroValue3,
  t4 := Tryz.underlying4,
  a4 := Tryz.isAgg4,
  z4 := Tryz.sizeOf4,
  v4 := Tryz.zeroValue4,
  t5 := Tryz.underlying5,
  a5 := Tryz.isAgg5,
  z5 := Tryz.sizeOf5,
  v5 := Tryz.zeroValue5,
  t9 := Tryz.underlying9,
  a9 := Tryz.isAgg9,
  z9 := Tryz.sizeOf9,
  v9 := Tryz.zeroValue9,
  t20 := Tryz.underlying20,
  a20 := Tryz.isAgg20,
  z20 := Tryz.sizeOf20,
  v20 := Tryz.zeroValue20,
  t21 := Tryz.underlying21,
  a21 := Tryz.isAgg21,
  z21 := Tryz.sizeOf21,
  v21 := Tryz.zeroValue21,
  t37 := Tryz.underlying28,
  a37 := Tryz.isAgg28,
  z37 := Tryz.sizeOf28,
  v37 := Tryz.zeroValue28,
  t46 := Tryz.underlying137,
  a46 := Tryz.isAgg137,
  z46 := Tryz.sizeOf137,
  v46 := Tryz.zeroValue137,
  t51 := Tryz.underlying199,
  a51 := Tryz.isAgg199,
  z51 := Tryz.sizeOf199,
  v51 := Tryz.zeroValue199,
  t53 := Tryz.underlying86,
  a53 := Tryz.isAgg86,
  z53 := Tryz.sizeOf86,
  v53 := Tryz.zeroValue86,
  t75 := Tryz.underlying109,
  a75 := Tryz.isAgg109,
  z75 := Tryz.sizeOf109,
  v75 := Tryz.zeroValue109,
  t76 := Tryz.underlying110,
  a76 := Tryz.isAgg110,
  z76 := Tryz.sizeOf110,
  v76 := Tryz.zeroValue110,
  t85 := Tryz.underlying155,
  a85 := Tryz.isAgg155,
  z85 := Tryz.sizeOf155,
  v85 := Tryz.zeroValue155,
  t127 := Tryz.underlying163,
  a127 := Tryz.isAgg163,
  z127 := Tryz.sizeOf163,
  v127 := Tryz.zeroValue163,
  t143 := Tryz.underlying193,
  a143 := Tryz.isAgg193,
  z143 := Tryz.sizeOf193,
  v143 := Tryz.zeroValue193,
  t145 := Tryz.underlying195,
  a145 := Tryz.isAgg195,
  z145 := Tryz.sizeOf195,
  v145 := Tryz.zeroValue195,
  t167 := Tryz.underlying154,
  a167 := Tryz.isAgg154,
  z167 := Tryz.sizeOf154,
  v167 := Tryz.zeroValue154,
  t168 := Tryz.underlying157,
  a168 := Tryz.isAgg157,
  z168 := Tryz.sizeOf157,
  v168 := Tryz.zeroValue157,
  t171 := Tryz.underlying174,
  a171 := Tryz.isAgg174,
  z171 := Tryz.sizeOf174,
  v171 := Tryz.zeroValue174,
  t173 := Tryz.underlying177,
  a173 := Tryz.isAgg177,
  z173 := Tryz.sizeOf177,
  v173 := Tryz.zeroValue177,
  t175 := Tryz.underlying168,
  a175 := Tryz.isAgg168,
  z175 := Tryz.sizeOf168,
  v175 := Tryz.zeroValue168,
  t210 := Tryz.underlying172,
  a210 := Tryz.isAgg172,
  z210 := Tryz.sizeOf172,
  v210 := Tryz.zeroValue172,
  t212 := Tryz.underlying198,
  a212 := Tryz.isAgg198,
  z212 := Tryz.sizeOf198,
  v212 := Tryz.zeroValue198,
  t213 := Tryz.underlying200,
  a213 := Tryz.isAgg200,
  z213 := Tryz.sizeOf200,
  t232 := Tryz.underlying207,
  a232 := Tryz.isAgg207,
  z232 := Tryz.sizeOf207,
  v232 := Tryz.zeroValue207,
  t233 := Tryz.underlying208,
  a233 := Tryz.isAgg208,
  z233 := Tryz.sizeOf208,
  v233 := Tryz.zeroValue208,
  g15 := by kernel_rfl,
  g16 := by kernel_rfl,
  g17 := by kernel_rfl,
  g18 := by kernel_rfl,
  g19 := by kernel_rfl,
  t80 := Tryz.underlying144,
  a80 := Tryz.isAgg144,
  z80 := Tryz.sizeOf144,
  v80 := Tryz.zeroValue144,
  i0 := by kernel_rfl,
  i2 := by kernel_rfl,
  i3 := by kernel_rfl,
  i4 := by kernel_rfl,
  i5 := by kernel_rfl,
  i9 := by kernel_rfl,
  i20 := by kernel_rfl,
  i21 := by kernel_rfl,
  i37 := by kernel_rfl,
  i46 := by kernel_rfl,
  i51 := by kernel_rfl,
  i53 := by kernel_rfl,
  i75 := by kernel_rfl,
  i76 := by kernel_rfl,
  i80 := by kernel_rfl,
  i85 := by kernel_rfl,
  i127 := by kernel_rfl,
  i143 := by kernel_rfl,
  i145 := by kernel_rfl,
  i167 := by kernel_rfl,
  i168 := by kernel_rfl,
  i171 := by kernel_rfl,
  i173 := by kernel_rfl,
  i175 := by kernel_rfl,
  i210 := by kernel_rfl,
  i212 := by kernel_rfl,
  i232 := by kernel_rfl,
  i233 := by kernel_rfl,
  m15 := by kernel_rfl,
  m16 := by kernel_rfl,
  m17 := by kernel_rfl,
  m18 := by kernel_rfl,
  m19 := by kernel_rfl,
  c0 := by kernel_rfl,
  c2 := by kernel_rfl,
  c3 := by kernel_rfl,
  c4 := by kernel_rfl,
  c5 := by kernel_rfl,
  c9 := by kernel_rfl,
  c20 := by kernel_rfl,
  c21 := by kernel_rfl,
  c37 := by kernel_rfl,
  c46 := by kernel_rfl,
  c51 := by kernel_rfl,
  c53 := by kernel_rfl,
  c75 := by kernel_rfl,
  c76 := by kernel_rfl,
  c80 := by kernel_rfl,
  c85 := by kernel_rfl,
  c127 := by kernel_rfl,
  c143 := by kernel_rfl,
  c145 := by kernel_rfl,
  c167 := by kernel_rfl,
  c168 := by kernel_rfl,
  c171 := by kernel_rfl,
  c173 := by kernel_rfl,
  c175 := by kernel_rfl,
  c210 := by kernel_rfl,
  c212 := by kernel_rfl,
  c213 := by kernel_rfl,
  c232 := by kernel_rfl,
  c233 := by kernel_rfl }
end Go.Proofs.YtgbknjdjbahdkaaGreatDoor
namespace Go.Proofs.YtgbknjdjbahdkaaGreatDoor
open Go Go.Proofs.YtgbknjdjbahdkaaGreatDoor.Sx
def TabE (w : World) : Prop := ∃ e1 e2 : Value, w.cell? ⟨ren172.g 15, 0, none⟩ = some e1 /\ (e1 = .nilIface ∨ ∃ te pe, e1 = .iface te pe) /\ w.cell? ⟨ren172.g 16, 0, none⟩ = some e2 /\ (e2 = .nilIface ∨ ∃ te pe, e2 = .iface te pe)
theorem cell_ext {w w' : World} (y : Ext w w') {a : Addr} {v : Value} (h : w.cell? a = some v) : w'.cell? a = some v := by
  have hlt := Lib.lt_of_cell h
  unfold World.cell? at h ⊢
  rw [y.block _ hlt]; exact h
theorem TabE.ext {w w' : World} (h : TabE w) (y : Ext w w') : TabE w' := by
  obtain ⟨e1, e2, a, b, c, d⟩ := h
  exact ⟨e1, e2, cell_ext y a, b, cell_ext y c, d⟩
theorem impl_TextInt_ok {w : World} {s : ByteArray} (hs : s.size <= 1048576) (hp : TabP w) {v : Int} (hv : Lib.atoiAll s.data.toList = .ok v) :
    Ret P n_impl_TextInt [.string s] w fun x w' => x = .tuple #[.int .i64 ((tiV s).getD 0), .bool (tiV s).isSome] /\ Ext w w' := by
  have hb := Lib.atoiAll_bounds hv
  refine impl_TextInt_ret ?_
  unfold impl_TextInt
  refine (Any.strconv_Atoi_ok lays172 s (by omega) v hv w).mono ?_
  rintro e w1 ⟨rfl, hw⟩
  have y1 : Ext w w1 := by
    rcases hw with rfl | ⟨t, rfl⟩
    · exact Ext.refl _
    · exact Lib.bytesWorld_below _ _ _
  refine ⟨_, _, rfl, .inl rfl, fun e => absurd e (by decide), fun _ => ?_⟩
  have e1 : tiV s = if Lib.itoa v = s.data.toList then some v else none := by unfold tiV; rw [hv]
  refine (Any.strconv_Itoa lays171 v hb.1 (by omega) w1 (hp.ext y1)).mono ?_
  rintro e w2 ⟨rfl, k, os, hw2⟩
  have y2 : Ext w1 w2 := by rw [hw2]; exact Lib.below_grow _ _ (Nat.le_refl _) _ _
  have hit : (⟨(Lib.itoa v).toArray⟩ : ByteArray) = s ↔ Lib.itoa v = s.data.toList := ⟨fun h => by rw [<- h], fun h => ba_ext (by simpa using h)⟩
  refine ⟨_, rfl, fun h => ⟨?_, y1.trans y2⟩, fun h => ⟨?_, y1.trans y2⟩⟩
  · have hne := of_decide_eq_true h
    rw [e1, if_neg (fun hh => hne (hit.2 hh))]; rfl
  · have heq := of_decide_eq_false h
    rw [e1, if_pos (hit.1 (Classical.not_not.1 heq))]; rfl
theorem impl_TextInt_c {w : World} (s : ByteArray) (hs : s.size <= 1048576) (hp : TabP w) (he : TabE w) :
    Ret P n_impl_TextInt [.string s] w fun x w' => x = .tuple #[.int .i64 ((tiV s).getD 0), .bool (tiV s).isSome] /\ Ext w w' := by
  obtain ⟨v1, v2, c1, k1, c2, k2⟩ := he
  rcases hv : Lib.atoiAll s.data.toList with v | _ | _
  · exact impl_TextInt_ok hs hp hv
  · have e1 : tiV s = none := by unfold tiV; rw [hv]
    refine impl_TextInt_ret ?_
    unfold impl_TextInt
    refine (Any.strconv_Atoi_syntax lays172 s (by omega) hv v1 w c1 k1).mono ?_
    rintro e w1 ⟨N, rfl, _, _, hb⟩
    refine ⟨_, _, rfl, .inr ⟨_, _, rfl⟩, fun _ => ⟨fun _ => ⟨by rw [e1]; rfl, hb⟩, fun e => absurd e (by simp)⟩, fun e => absurd e (by simp [ifNil])⟩
  · have e1 : tiV s = none := by unfold tiV; rw [hv]
    refine impl_TextInt_ret ?_
    unfold impl_TextInt
    refine (Any.strconv_Atoi_range lays172 s (by omega) hv v2 w c2 k2).mono ?_
    rintro e w1 ⟨N, rfl, _, _, hb⟩
    refine ⟨_, _, rfl, .inr ⟨_, _, rfl⟩, fun _ => ⟨fun _ => ⟨by rw [e1]; rfl, hb⟩, fun e => absurd e (by simp)⟩, fun e => absurd e (by simp [ifNil])⟩
end Go.Proofs.YtgbknjdjbahdkaaGreatDoor
namespace Go.Proofs.YtgbknjdjbahdkaaGreatDoor
open Go Go.Proofs.YtgbknjdjbahdkaaGreatDoor.Sx
theorem OwnRows_pushG {P : Program} {w : World} {B : Nat} {t e : TypeId} {z : Value} {k bytes : Nat} {p : Option Addr} {n c r : Nat} {l : List (List D0)} {f fx : List Nat} {cs : List Value} {x : List D0} (h : OwnRows w B e k p n c l f)
    (hT : sliceT P t e z k bytes) (hb : B <= w.heap.size) (hr : Blk w r e cs) (hl : cs.length = k) (ho : Owns w B cs x fx) (hfx : fx.Nodup) (hdis : ∀ q ∈ fx, q ∉ f)
    (hbytes : (n + 1) * bytes <= 140737488355328) (hby : 1 <= bytes) :
    ∃ p' c' w' f', Appends P [t, t] [.slice p n c, .slice (some ⟨r, 0, none⟩) 1 1] (.slice p' (n + 1) c') w w' /\ OwnRows w' B e k p' (n + 1) c' (l ++ [x]) f' /\ Chg (p.map (·.block)).toList w w' /\
      (∀ q ∈ f', q ∈ f ∨ q ∈ fx ∨ w.heap.size <= q) /\ (p'.map (·.block) = p.map (·.block) ∨ ∀ q, p'.map (·.block) = some q -> w.heap.size <= q) := by
  obtain ⟨hln, css, fs, ha, hown, rfl, hnd⟩ := h
  obtain ⟨p', c', w', hrun, hown', hch, hp⟩ := hown.push1 hT hb hr hl ho.reps.cells1 hbytes hby
  have hpl : ∀ q ∈ (p.map (·.block)).toList, B <= q := fun q hq => (World.ownsRow.lt hown q (by cases p <;> simp_all [Value.ownBlock])).1
  have hnd1 := (List.nodup_append.1 hnd)
  have hpin : ∀ q ∈ fs.flatten, q ∉ (p.map (·.block)).toList := fun q hq hm => hnd1.2.2 q hm q hq rfl
  have hpx : ∀ q ∈ fx, q ∉ (p.map (·.block)).toList := fun q hq hm => hdis q hq (List.mem_append_left _ hm)
  have hlt : ∀ q ∈ fs.flatten ++ fx, q < w.heap.size := fun q hq => by
    rcases List.mem_append.1 hq with hq | hq
    · exact (ha.lt q hq).2
    · exact (ho.lt q hq).2
  have e : (fs ++ [fx]).flatten = fs.flatten ++ fx := by simp
  refine ⟨p', c', w', (p'.map (·.block)).toList ++ (fs ++ [fx]).flatten, hrun, ⟨by simp [hln], css ++ [cs], fs ++ [fx], (ha.chg hch hpin).snoc hl (ho.chg hch hpx), by simpa using hown', rfl, ?_⟩, hch, fun q hq => ?_, hp⟩
  rotate_left
  · rw [e] at hq
    rcases List.mem_append.1 hq with hq | hq
    · have hpa := opt_mem hq
      rcases hp with hp | hp
      · rw [hp] at hpa
        exact .inl (List.mem_append_left _ (mem_opt hpa))
      · exact .inr (.inr (hp q hpa))
    · rcases List.mem_append.1 hq with hq | hq
      · exact .inl (List.mem_append_right _ hq)
      · exact .inr (.inl hq)
  rw [e, List.nodup_append]
  refine ⟨by cases p' <;> simp, ?_, ?_⟩
  · rw [List.nodup_append]
    exact ⟨hnd1.2.1, hfx, fun a ha b hb e => hdis b hb (by rw [<- e]; exact List.mem_append_right _ ha)⟩
  · intro a ha b hb hab
    subst hab
    have hpa := opt_mem ha
    rcases hp with hp | hp
    · rw [hp] at hpa
      have ham : a ∈ (p.map (·.block)).toList := mem_opt hpa
      rcases List.mem_append.1 hb with hb | hb
      · exact hpin a hb ham
      · exact hpx a hb ham
    · have := hp a hpa
      have := hlt a hb
      omega
theorem OwnRows_pushF {P : Program} {w : World} {B : Nat} {t e : TypeId} {z : Value} {k bytes : Nat} {p : Option Addr} {n c r : Nat} {l : List (List D0)} {f fx : List Nat} {cs : List Value} {x : List D0} (h : OwnRows w B e k p n c l f)
    (hT : sliceT P t e z k bytes) (hb : B <= w.heap.size) (hr : Blk w r e cs) (hl : cs.length = k) (ho : Owns w B cs x fx) (hfx : fx.Nodup) (hdis : ∀ q ∈ fx, q ∉ f)
    (hbytes : (n + 1) * bytes <= 140737488355328) (hby : 1 <= bytes) :
    ∃ p' c' w' f', Appends P [t, t] [.slice p n c, .slice (some ⟨r, 0, none⟩) 1 1] (.slice p' (n + 1) c') w w' /\ OwnRows w' B e k p' (n + 1) c' (l ++ [x]) f' /\ Chg (p.map (·.block)).toList w w' /\
      (∀ q ∈ f', q ∈ f ∨ q ∈ fx ∨ w.heap.size <= q) := by
  obtain ⟨p', c', w', f', h1, h2, h3, h4, _⟩ := OwnRows_pushG h hT hb hr hl ho hfx hdis hbytes hby
  exact ⟨p', c', w', f', h1, h2, h3, h4⟩
end Go.Proofs.YtgbknjdjbahdkaaGreatDoor
namespace Go.Proofs.YtgbknjdjbahdkaaGreatDoor
open Go Go.Proofs.YtgbknjdjbahdkaaGreatDoor.Sx
theorem Sx.OwnRows.blk_mem {w : World} {B : Nat} {e : TypeId} {k : Nat} {p : Option Addr} {n c : Nat} {l : List (List D0)} {f : List Nat} (h : OwnRows w B e k p n c l f) : ∀ q ∈ (p.map (·.block)).toList, q ∈ f := by
  obtain ⟨_, css, fs, _, _, rfl, _⟩ := h
  exact fun q hq => List.mem_append_left _ hq
theorem cntL_le {l : List (List D0)} {k : Int} (h : ∀ x ∈ l, cnts x <= k) : cntL l <= l.length * k := by
  induction l with
  | nil => simp [cntL]
  | cons a r ih =>
    have h1 := h a List.mem_cons_self
    have h2 := ih fun x hx => h x (List.mem_cons_of_mem _ hx)
    show cnts a + cntL r <= _
    rw [List.length_cons, Int.natCast_add, Int.add_mul]
    omega
end Go.Proofs.YtgbknjdjbahdkaaGreatDoor
namespace Go.Proofs.YtgbknjdjbahdkaaGreatDoor
open Go Go.Proofs.YtgbknjdjbahdkaaGreatDoor.Sx
set_option maxHeartbeats 1000000
theorem sliceT_step : sliceT P T_s_impl_Step T_impl_Step (.agg ⟨[.int .i64 0, .bool false, .slice none 0 0, .int .i64 0]⟩) 4 48 := ⟨by kernel_rfl, by kernel_rfl, rfl, by decide⟩
theorem part_size {s p : ByteArray} {c : UInt8} (h : p.data.toList ∈ cuts c [] s.data.toList) : p.size <= s.size := by
  have := cuts_le s.data.toList [] _ h
  rw [ba_size, ba_size]
  simpa using this
theorem impl_TextSteps_o {w : World} (s : ByteArray) (hs : s.size <= 1048576) (hp : TabP w) (he : TabE w) :
    Ret P n_impl_TextSteps [.string s] w fun v w' => ∃ p n c f, v = .tuple #[.slice p n c, .bool (tsV s).isSome] /\ OwnRows w' w.heap.size T_impl_Step 4 p n c ((tsV s).getD []) f /\ Ext w w' := by
  refine impl_TextSteps_ret ?_
  unfold impl_TextSteps
  intro r w1 hn1
  have e1 := hn1.r_eq; have s1 := hn1.size
  refine Ret.at (impl_CutAt_o s 44 hs) ?_
  rintro v w2 ⟨cp, cn, cc, ps, rfl, hS, hps, y2⟩
  have hpl : ps.length = cn := by have := hS.len; simpa using this
  have hcn : (cuts 44 [] s.data.toList).length = cn := by rw [<- hps, List.length_map]; exact hpl
  have hcl : cn <= 1048577 := by
    rw [<- hcn, cuts_len]
    have : s.data.toList.count 44 <= s.data.toList.length := List.count_le_length
    rw [<- ba_size] at this
    omega
  have no : tsV s = none -> ∀ W, Ext w W -> ∃ p n c f, Value.tuple #[.slice none 0 0, .bool false] = .tuple #[.slice p n c, .bool (tsV s).isSome] /\ OwnRows W w.heap.size T_impl_Step 4 p n c ((tsV s).getD []) f /\ Ext w W := fun h W hW => by
    rw [h]
    exact ⟨none, 0, 0, [], rfl, ⟨rfl, [], [], trivial, Own.nil _ _ _ _, by simp, by simp⟩, hW⟩
  have l2 := y2.le
  have clt : ∀ q, cp.map (·.block) = some q -> w1.heap.size <= q /\ q < w2.heap.size := fun q hq => World.ownsRow.lt hS q (by rw [<- hq]; cases cp <;> rfl)
  refine ⟨_, _, _, rfl, fun lp ln lc i W => ∃ (j : Nat) (xs : List (List D0)) (f : List Nat), i = j /\ j <= cn /\ OwnRows W w.heap.size T_impl_Step 4 lp ln lc xs f /\ stL ((cuts 44 [] s.data.toList).take j) = some xs /\ Own W w1.heap.size T_string 1 cp cn cc (ps.map Value.string) /\ (∀ q, cp.map (·.block) = some q -> q ∉ f) /\ Ext w W /\ w2.heap.size <= W.heap.size, fun _ _ _ i _ => cn - i.toNat,
    ⟨0, [], [r], rfl, by omega, (OwnRows.fresh hn1 (Nat.le_refl _)).ext y2, rfl, hS, fun q hq hm => by have := clt q hq; have := List.mem_singleton.1 hm; omega, hn1.ext.trans y2, Nat.le_refl _⟩, ?_⟩
  rintro junk W lp ln lc i ⟨j, xs, f, rfl, hj, hO, hst, hC, hcf, hX, hW2⟩
  have hln : xs.length = ln := hO.rows.1
  have hxj : xs.length = j := by rw [stL_len hst, List.length_take, hcn]; omega
  refine ifD (fun hlt => ?_) (fun hge => ?_)
  · have hjc : j < cn := by omega
    have hjp : j < ps.length := by omega
    have hjq : j < (cuts 44 [] s.data.toList).length := by omega
    have hpj : (ps[j]).data.toList = (cuts 44 [] s.data.toList)[j] := by
      have h5 : (ps.map (fun x : ByteArray => x.data.toList))[j]'(by simpa using hjp) = (cuts 44 [] s.data.toList)[j] := by simp only [hps]
      simpa using h5
    have hmem : (ps[j]).data.toList ∈ cuts 44 [] s.data.toList := hpj ▸ List.getElem_mem hjq
    have hbad : stR (ps[j]).data.toList = none -> tsV s = none := fun h => tsV_bad hmem h
    obtain ⟨ad, hcp, hld⟩ := (own_strs hC).at (P := P) (t := T_string) (by kernel_rfl) hjc
    subst hcp
    have hsz := part_size hmem
    refine ⟨⟨by omega, by omega⟩, ps[j], by rw [Int.toNat_natCast]; exact hld, ?_⟩
    refine Ret.at (impl_CutAt_c ps[j] 58 (by omega)) ?_
    rintro v w3 ⟨qp, qn, qc, ps2, rfl, hS2, hps2, y3⟩
    have X3 := hX.trans y3
    have hqn : (cuts 58 [] (ps[j]).data.toList).length = qn := by rw [<- hps2, List.length_map]; exact hS2.1
    refine ⟨_, _, _, rfl, ifD (fun hne => ⟨fun _ => no (hbad (stR_len (by rw [hqn]; omega))) _ X3, fun e => absurd e (by simp)⟩) (fun heq => ifD (fun h8 => no (tsV_many (by rw [hcn]; omega)) _ X3) (fun h8 => ?_))⟩
    have hq2 : qn = 2 := by omega
    subst hq2
    unfold impl_TextSteps_j0
    match ps2, hS2, hps2 with
    | [s1', s2'], hS2, hps2 =>
      have hcut : cuts 58 [] (ps[j]).data.toList = [s1'.data.toList, s2'.data.toList] := hps2.symm
      obtain ⟨ad2, hqp, hld0⟩ := hS2.at (P := P) (t := T_string) (k := 0) (by kernel_rfl) (by omega)
      obtain ⟨ad3, hqp3, hld1⟩ := hS2.at (P := P) (t := T_string) (k := 1) (by kernel_rfl) (by omega)
      subst hqp
      cases hqp3
      have z1 : s1'.size <= (ps[j]).size := part_size (by rw [hcut]; simp)
      have z2 : s2'.size <= (ps[j]).size := part_size (by rw [hcut]; simp)
      refine ⟨⟨by omega, by omega⟩, s1', hld0, ?_⟩
      refine Ret.at (impl_TextInt_c s1' (by omega) (hp.ext X3) (he.ext X3)) ?_
      rintro v w4 ⟨rfl, y4⟩
      have X4 := X3.trans y4
      obtain ⟨_, hq3, hld1'⟩ := (hS2.ext y4).at (P := P) (t := T_string) (k := 1) (by kernel_rfl) (by omega)
      cases hq3
      refine ⟨_, _, rfl, ⟨by omega, by omega⟩, s2', hld1', ?_⟩
      refine Ret.at (impl_TextPercent_c s2' (by omega) (hp.ext X4)) ?_
      rintro v w5 ⟨vs5, f5, rfl, o5, nd5, c5, _, y5⟩
      have r5 := o5.reps
      have r5c := r5
      obtain ⟨g0, gp, gn, gc, gz, g2, rfl, _, _⟩ := open_Dec r5 c5
      refine ⟨_, _, _, _, _, _, rfl, ?_⟩
      intro r1 w6 hn6
      obtain ⟨w7, st7, b7, y7⟩ := hn6.fill (P := P) (t := T_impl_Dec) r5c.cells1 (by kernel_rfl) rfl
      have X7 := (X4.trans y5).trans y7
      have hno1 : tiV s1' = none -> tsV s = none := fun h => hbad (stR_no hcut (.inl (by rw [BA_eq]; exact h)))
      have hno2 : tpOk s2' = false -> tsV s = none := fun h => hbad (stR_no hcut (.inr (by rw [BA_eq]; exact h)))
      refine ⟨w7, st7, fun h1 => ⟨fun _ => no (hno1 ?_) _ X7, fun e => absurd e (by simp)⟩, fun h1 => ⟨fun h2 => no (hno2 (by cases hh : tpOk s2' <;> simp_all)) _ X7, fun h2 => ?_⟩⟩
      · cases hh : tiV s1' with
        | none => rfl
        | some v => rw [hh] at h1; simp at h1
      · have ht : tpOk s2' = true := by cases hh : tpOk s2' <;> simp_all
        obtain ⟨nv, hnv⟩ : ∃ nv, tiV s1' = some nv := by
          cases hh : tiV s1' with
          | none => rw [hh] at h1; simp at h1
          | some v => exact ⟨v, rfl⟩
        rw [hnv]
        refine ⟨_, _, _, _, _, b7.loadA0 (by kernel_rfl), ?_⟩
        intro r3 w8 hn8
        have e8 := hn8.r_eq; have s8 := hn8.size
        have l3 := y3.le; have l4 := y4.le; have l5 := y5.le; have l7 := y7.le; have lX := hX.le
        have f5lt := o5.lt
        have hOlt := hO.lt
        have Y8 := ((y3.trans y4).trans (y5.trans (y7.trans hn8.ext)))
        have row : Owns w8 w.heap.size [.int .i64 nv, .bool g0, .slice gp gn gc, .int .i64 g2] (.int nv :: tpR s2') f5 := by
          have := Owns.append (Owns.int w8 w.heap.size nv) ((o5.ext (y7.trans hn8.ext)).mono (B' := w.heap.size) (by omega))
          simpa using this
        obtain ⟨p', c', w9, f', ap9, hO9, ch9, hf'⟩ := OwnRows_pushF (hO.ext Y8) sliceT_step (by omega) hn8.blk rfl row nd5 (fun q hq hm => by have := f5lt q hq; have := hOlt q hm; omega) (by omega) (by decide)
        have pbf : ∀ x ∈ (lp.map (·.block)).toList, x ∈ f := hO.blk_mem
        have hxr : stR (ps[j]).data.toList = some (.int nv :: tpR s2') := by
          have := stR_make (p := (ps[j]).data.toList) hcut (n := nv) (by rw [BA_eq]; exact hnv) (by rw [BA_eq]; exact ht)
          rw [BA_eq] at this; exact this
        have z9 := ch9.size
        refine ⟨p', _, c', w9, ap9, exW ⟨by omega, by omega⟩ ⟨⟨j + 1, xs ++ [.int nv :: tpR s2'], f', by omega, by omega, hO9, ?_, (hC.ext Y8).chg ch9 (fun q hq hm => hcf q hq (pbf q hm)), fun q hq hm => ?_, (hX.trans Y8).chg ch9 (fun q hq => (hOlt q (pbf q hq)).1), by omega⟩, by show cn - ((j : Int) + 1).toNat < cn - (j : Int).toNat; omega⟩⟩
        · rw [List.take_succ_eq_append_getElem hjq, <- hpj]
          exact stL_snoc hst hxr
        · have hq2 := clt q hq
          rcases hf' q hm with h | h | h
          · exact hcf q hq h
          · have := f5lt q h; omega
          · omega
  · have hjn : j = cn := by omega
    have hall : stL (cuts 44 [] s.data.toList) = some xs := by
      rw [List.take_of_length_le (by omega)] at hst
      exact hst
    refine Ret.at (impl_StepsOk_c hO.rows (stL_code hall)) ?_
    rintro v w3 ⟨rfl, y3⟩
    have hend := tsV_end hall
    refine ⟨_, rfl, fun hb => no (by rw [hend, if_neg (by simpa using hb)]) _ (hX.trans y3), fun hb => ?_⟩
    have hok : stepsOk xs = true := by simpa using hb
    rw [hend, if_pos hok]
    exact ⟨_, _, _, f, rfl, hO.ext y3, hX.trans y3⟩
end Go.Proofs.YtgbknjdjbahdkaaGreatDoor
namespace Go.Proofs.YtgbknjdjbahdkaaGreatDoor
open Go Go.Proofs.YtgbknjdjbahdkaaGreatDoor.Sx
def StepD (x : List D0) : Prop := ∃ F z s : Int, x = .int F :: (enc z ++ [.int s]) /\ 0 <= F /\ F <= 2703 /\ z ∈ rateNums /\ s ∈ rateScales
structure StepsD (l : List (List D0)) (top : Int) : Prop where
  row : ∀ x ∈ l, StepD x
  pos : 1 <= l.length
  head : stepFrom (l.getD 0 []) = 0
  inc : ∀ i, i + 1 < l.length -> stepFrom (l.getD i []) < stepFrom (l.getD (i + 1) [])
  last : stepFrom (l.getD (l.length - 1) []) = top
theorem getD_left {l : List (List D0)} {x : List D0} {i : Nat} (h : i < l.length) : (l ++ [x]).getD i [] = l.getD i [] := by
  rw [getD_lt h, getD_lt (by rw [List.length_append]; omega), List.getElem_append_left h]
theorem getD_last {l : List (List D0)} {x : List D0} : (l ++ [x]).getD l.length [] = x := by
  rw [getD_lt (by rw [List.length_append]; simp), List.getElem_append_right (Nat.le_refl _)]
  simp
theorem StepsD.snoc {l : List (List D0)} {top : Int} {x : List D0} (h : StepsD l top) (hx : StepD x) (hlt : top < stepFrom x) : StepsD (l ++ [x]) (stepFrom x) := by
  have hp := h.pos
  have hl : (l ++ [x]).length = l.length + 1 := by rw [List.length_append]; rfl
  refine ⟨fun y hy => ?_, by omega, ?_, fun i hi => ?_, ?_⟩
  · rcases List.mem_append.1 hy with hy | hy
    · exact h.row y hy
    · rw [List.mem_singleton] at hy; rw [hy]; exact hx
  · rw [getD_left (by omega)]; exact h.head
  · rw [hl] at hi
    by_cases hi2 : i + 1 < l.length
    · rw [getD_left (by omega), getD_left hi2]; exact h.inc i hi2
    · have hi3 : i + 1 = l.length := by omega
      rw [getD_left (by omega), hi3, getD_last]
      have : i = l.length - 1 := by omega
      rw [this, h.last]; exact hlt
  · rw [hl, Nat.add_sub_cancel, getD_last]
theorem StepsD.one {x : List D0} (hx : StepD x) (h0 : stepFrom x = 0) : StepsD [x] 0 :=
  ⟨fun y hy => by rw [List.mem_singleton] at hy; rw [hy]; exact hx, Nat.le_refl _, h0, fun i hi => absurd hi (by simp), h0⟩
theorem spec_l14Draw_c {w : World} {r n c : Nat} {p : Option Addr} (hc : Cur w r p n c) (hb : ByR w p n) (hne : 0 < n -> ∀ q, p.map (·.block) = some q -> q ≠ r) (hn : n <= 1048576) :
    Ret P n_spec_l14Draw [.pointer (some ⟨r, 0, none⟩)] w fun v w' => ∃ p' n' c' l top, v = .slice p' n' c' /\ RowsR w' 4 p' n' c' l /\ StepsD l top /\ l.length <= 4 /\ Chg [r] w w' := by
  refine spec_l14Draw_ret ?_
  unfold spec_l14Draw
  have hlt := hc.lt
  refine Ret.at (spec_l13Rate_c hc hb hne hn) ?_
  rintro v w1 ⟨z, s, vs, f1, rfl, hz, hs, ho1, nd1, hc1, ch1⟩
  have lt1 := ho1.lt
  have l1 := ch1.size
  obtain ⟨a0, ap, an, ac, az, sc, rfl, _, _⟩ := open_Dec ho1.reps (by rfl)
  refine ⟨_, _, _, _, _, rfl, ?_⟩
  intro r0 w2 hn2
  have e2 := hn2.r_eq; have s2 := hn2.size
  have row : Owns w2 w.heap.size [.int .i64 0, .bool a0, .slice ap an ac, .int .i64 sc] (.int 0 :: (enc z ++ [.int s])) f1 := by
    have := Owns.append (Owns.int w2 w.heap.size 0) (ho1.ext hn2.ext)
    simpa using this
  have hO0 : OwnRows w2 w.heap.size T_impl_Step 4 (some ⟨r0, 0, none⟩) 1 1 [.int 0 :: (enc z ++ [.int s])] (r0 :: f1) := by
    refine ⟨rfl, [[.int .i64 0, .bool a0, .slice ap an ac, .int .i64 sc]], [f1], ⟨rfl, row, trivial⟩, Own.of_blk hn2.blk (by omega) rfl (by decide), by simp, ?_⟩
    rw [List.nodup_cons]
    exact ⟨fun hm => by have := (lt1 _ hm).2; omega, nd1⟩
  have D0 : StepsD [.int 0 :: (enc z ++ [.int s])] 0 := StepsD.one ⟨0, z, s, rfl, by decide, by decide, hz, hs⟩ rfl
  have C2 : Chg [r] w w2 := ch1.trans hn2.ext.toChg
  refine Ret.at (spec_l01Below_c (hc1.ext hn2.ext) (hb.chg C2 hne) hne hn (k := 4) (by decide) (by decide)) ?_
  rintro v w3 ⟨k, rfl, k0, k1, hc3, ch3⟩
  have l3 := ch3.size
  refine ⟨_, rfl, fun lp ln lc fr j W => ∃ l f, 0 <= j /\ j <= 3 /\ (ln : Int) + j <= 4 /\ 0 <= fr /\ fr + 901 * j <= 2703 /\ OwnRows W w.heap.size T_impl_Step 4 lp ln lc l f /\ r ∉ f /\ StepsD l fr /\ Cur W r p n c /\ Chg [r] w W, fun _ _ _ _ j _ => j.toNat,
    ⟨_, _, k0, by omega, by show ((1 : Nat) : Int) + k <= 4; omega, Int.le_refl _, by omega, hO0.chg ch3 (fun q hq hm => ?_), ?_, D0, hc3, C2.trans ch3⟩, ?_⟩
  · have := (hO0.lt q hq).1; have := List.mem_singleton.1 hm; omega
  · intro hm; have := (hO0.lt r hm).1; omega
  rintro junk W lp ln lc fr j ⟨l, f, j0, j3, jn, fr0, fr1, hO, hrf, hD, hcW, hX⟩
  have lW := hX.size
  have hll := hO.rows.1
  have hbW := hb.chg hX hne
  refine ifD (fun hlt2 => ?_) (fun hge => ⟨lp, ln, lc, l, fr, rfl, hO.rows, hD, by omega, hX⟩)
  refine exW ⟨by omega, by omega⟩ ?_
  refine Ret.at (spec_l01Below_c hcW hbW hne hn (k := 900) (by decide) (by decide)) ?_
  rintro v w4 ⟨d, rfl, d0, d1, hc4, ch4⟩
  have l4 := ch4.size
  have X4 := hX.trans ch4
  refine ⟨_, rfl, exW ⟨by omega, by omega⟩ ?_⟩
  refine Ret.at (spec_l13Rate_c hc4 (hb.chg X4 hne) hne hn) ?_
  rintro v w5 ⟨z2, s2, vs2, f5, rfl, hz2, hs2, ho5, nd5, hc5, ch5⟩
  have lt5 := ho5.lt
  have l5 := ch5.size
  obtain ⟨b0, bp, bn, bc, bz, bs, rfl, _, _⟩ := open_Dec ho5.reps (by rfl)
  refine ⟨_, _, _, _, _, rfl, ?_⟩
  intro r6 w6 hn6
  have e6 := hn6.r_eq; have s6 := hn6.size
  have Y6 : Chg [r] W w6 := (ch4.trans ch5).trans hn6.ext.toChg
  have lf := hO.lt
  have hO6 := hO.chg Y6 (fun q hq hm => hrf (by rw [<- List.mem_singleton.1 hm]; exact hq))
  have row6 : Owns w6 w.heap.size [.int .i64 (fr + 1 + d), .bool b0, .slice bp bn bc, .int .i64 bs] (.int (fr + 1 + d) :: (enc z2 ++ [.int s2])) f5 := by
    have := Owns.append (Owns.int w6 w.heap.size (fr + 1 + d)) ((ho5.ext hn6.ext).mono (B' := w.heap.size) (by omega))
    simpa using this
  obtain ⟨p', c', w7, f', hap, hO', chp, hf'⟩ := OwnRows_pushF (P := P) hO6 sliceT_step (by omega) hn6.blk rfl row6 nd5 (fun q hq hm => by
    have := (lt5 q hq).1; have := (lf q hm).2; omega) (by omega) (by omega)
  have pl : ∀ q ∈ (lp.map (·.block)).toList, w.heap.size <= q := fun q hq => by
    have := hO6.blk_mem q (by cases lp <;> simp_all)
    exact (hO6.lt q this).1
  refine ⟨p', ln + 1, c', w7, hap, exW ⟨by omega, by omega⟩ ⟨⟨l ++ [.int (fr + 1 + d) :: (enc z2 ++ [.int s2])], f', by omega, by omega, by push_cast; omega, by omega, by omega, hO', ?_, ?_, ?_, ?_⟩, by show (j - 1).toNat < j.toNat; omega⟩⟩
  · intro hm
    rcases hf' r hm with h | h | h
    · exact hrf h
    · have := (lt5 r h).1; omega
    · omega
  · exact hD.snoc ⟨fr + 1 + d, z2, s2, rfl, by omega, by omega, hz2, hs2⟩ (by show fr < fr + 1 + d; omega)
  · have h9 := hc5.ext hn6.ext
    obtain ⟨e, i, x, g1, g2⟩ := h9
    exact ⟨e, i, x, g1, g2.chg chp (fun hm => by have := pl _ hm; omega)⟩
  · have X9 := hX.trans Y6
    refine ⟨chp.os.trans X9.os, chp.tape.trans X9.tape, chp.output.trans X9.output, Nat.le_trans X9.size chp.size, fun q hq hm => ?_⟩
    rw [chp.block q (Nat.lt_of_lt_of_le hq X9.size) (fun h7 => by have := pl q h7; omega)]
    exact X9.block q hq hm
theorem spec_MakeSteps_c {w : World} {p : Option Addr} {n c : Nat} (h : ByR w p n) (hn : n <= 1048576) : Ret P n_spec_MakeSteps [.slice p n c] w fun v w' => ∃ p' n' c' l top, v = .slice p' n' c' /\ RowsR w' 4 p' n' c' l /\ StepsD l top /\ l.length <= 4 /\ Ext w w' := by
  refine spec_MakeSteps_ret ?_
  unfold spec_MakeSteps
  refine Ret.at (spec_l01New_c h hn) ?_
  rintro v w1 ⟨r, rfl, hr, hc, y1⟩
  refine ⟨_, rfl, ?_⟩
  refine Ret.at (spec_l14Draw_c hc (h.ext y1) (h.ne hr) hn) ?_
  rintro v w2 ⟨p', n', c', l, top, rfl, hl, hD, hlen, ch2⟩
  exact ⟨_, _, _, rfl, p', n', c', l, top, rfl, hl, hD, hlen, y1.chg ch2 (fun q hq => by have := List.mem_singleton.1 hq; omega)⟩
end Go.Proofs.YtgbknjdjbahdkaaGreatDoor
namespace Go.Proofs.YtgbknjdjbahdkaaGreatDoor
theorem red_scale {n : Int} {d k : Nat} (hk : 0 < k) : redN (n * (k : Int)) (d * k) = redN n d /\ redD (n * (k : Int)) (d * k) = redD n d := by
  have ha : (n * (k : Int)).natAbs = n.natAbs * k := by rw [Int.natAbs_mul, Int.natAbs_natCast]
  have hg : Nat.gcd (n.natAbs * k) (d * k) = Nat.gcd n.natAbs d * k := Nat.gcd_mul_right _ _ _
  have h1 : n.natAbs * k / (Nat.gcd n.natAbs d * k) = n.natAbs / Nat.gcd n.natAbs d := Nat.mul_div_mul_right _ _ hk
  have h2 : d * k / (Nat.gcd n.natAbs d * k) = d / Nat.gcd n.natAbs d := Nat.mul_div_mul_right _ _ hk
  refine ⟨?_, by unfold redD; rw [ha, hg, h2]⟩
  unfold redN
  rw [ha, hg, h1]
  by_cases h : n < 0
  · have : n * (k : Int) < 0 := Int.mul_neg_of_neg_of_pos h (by omega)
    rw [if_pos h, if_pos this]
  · have : 0 <= n * (k : Int) := Int.mul_nonneg (by omega) (by omega)
    rw [if_neg h, if_neg (by omega)]
theorem red_cross {n n' : Int} {d d' : Nat} (hd : 0 < d) (hd' : 0 < d') (h : n * (d' : Int) = n' * (d : Int)) : redN n d = redN n' d' /\ redD n d = redD n' d' := by
  have h1 := red_scale (n := n) (d := d) hd'
  have h2 := red_scale (n := n') (d := d') hd
  rw [h, Nat.mul_comm d d'] at h1
  exact ⟨h1.1.symm.trans h2.1, h1.2.symm.trans h2.2⟩
theorem redOk_eq (n : Int) (d : Nat) : redOk n d = (decide ((digs (redN n d).natAbs).length <= 18) && decide ((digs (redD n d)).length <= 18)) := by rw [redN_abs]; rfl
theorem redR_cross {n n' : Int} {d d' : Nat} (hd : 0 < d) (hd' : 0 < d') (h : n * (d' : Int) = n' * (d : Int)) : redR n d = redR n' d' /\ redOk n d = redOk n' d' := by
  obtain ⟨h1, h2⟩ := red_cross hd hd' h
  have h3 : redOk n d = redOk n' d' := by rw [redOk_eq, redOk_eq, h1, h2]
  exact ⟨by unfold redR; rw [h1, h2, h3], h3⟩
theorem red_eq {n : Int} {d : Nat} (hd : 0 < d) : redN n d * (d : Int) = n * (redD n d : Int) := by
  have h1 : n.natAbs / Nat.gcd n.natAbs d * Nat.gcd n.natAbs d = n.natAbs := Nat.div_mul_cancel (Nat.gcd_dvd_left _ _)
  have h2 : d / Nat.gcd n.natAbs d * Nat.gcd n.natAbs d = d := Nat.div_mul_cancel (Nat.gcd_dvd_right _ _)
  have h3 : n.natAbs / Nat.gcd n.natAbs d * d = n.natAbs * (d / Nat.gcd n.natAbs d) := by
    generalize n.natAbs / Nat.gcd n.natAbs d = q at h1 ⊢
    generalize d / Nat.gcd n.natAbs d = r at h2 ⊢
    generalize Nat.gcd n.natAbs d = g at h1 h2
    rw [<- h1, <- h2, Nat.mul_assoc, Nat.mul_comm g r]
  have h4 : ((n.natAbs / Nat.gcd n.natAbs d : Nat) : Int) * (d : Int) = (n.natAbs : Int) * ((d / Nat.gcd n.natAbs d : Nat) : Int) := by
    rw [<- Int.natCast_mul, <- Int.natCast_mul, h3]
  unfold redN redD
  by_cases h : n < 0
  · rw [if_pos h, Int.neg_mul, h4, <- Int.neg_mul]
    congr 1
    omega
  · rw [if_neg h, h4]
    congr 1
    omega
theorem red_add {V v : Int} {X : Nat} (hX : 0 < X) : redR (redN V X * (redD v X : Int) + redN v X * (redD V X : Int)) (redD V X * redD v X) = redR (V + v) X /\ redOk (redN V X * (redD v X : Int) + redN v X * (redD V X : Int)) (redD V X * redD v X) = redOk (V + v) X := by
  have h1 := red_eq (n := V) hX; have h2 := red_eq (n := v) hX
  have p1 : 0 < redD V X := redD_pos hX
  have p2 : 0 < redD v X := redD_pos hX
  refine redR_cross (Nat.mul_pos p1 p2) hX ?_
  generalize redN V X = N1 at *
  generalize redN v X = N2 at *
  generalize redD V X = D1 at *
  generalize redD v X = D2 at *
  rw [Int.natCast_mul, Int.add_mul, Int.add_mul]
  congr 1
  · rw [Int.mul_right_comm, h1, Int.mul_assoc]
  · rw [Int.mul_right_comm, h2, Int.mul_assoc, Int.mul_comm (D2 : Int)]
theorem red_dec {c m t : Nat} (ht : t <= 30) : redR ((c : Int) * redN (m : Int) (10 ^ t)) (1 * redD (m : Int) (10 ^ t)) = redR ((c * m * 10 ^ (30 - t) : Nat) : Int) (10 ^ 30) /\ redOk ((c : Int) * redN (m : Int) (10 ^ t)) (1 * redD (m : Int) (10 ^ t)) = redOk ((c * m * 10 ^ (30 - t) : Nat) : Int) (10 ^ 30) := by
  have hpow : 0 < 10 ^ t := Nat.pow_pos (by decide)
  have h1 := red_eq (n := (m : Int)) hpow
  have p1 : 0 < redD (m : Int) (10 ^ t) := redD_pos hpow
  refine redR_cross (by omega) (Nat.pow_pos (by decide)) ?_
  have hX : (10 ^ 30 : Nat) = 10 ^ t * 10 ^ (30 - t) := by rw [<- Nat.pow_add]; congr 1; omega
  rw [hX, Nat.one_mul, Int.natCast_mul, Int.natCast_mul, Int.natCast_mul]
  generalize redN (m : Int) (10 ^ t) = N at *
  generalize redD (m : Int) (10 ^ t) = D at *
  generalize ((10 ^ t : Nat) : Int) = A at *
  generalize ((10 ^ (30 - t) : Nat) : Int) = B at *
  rw [Int.mul_assoc, <- Int.mul_assoc N, h1]
  simp only [Int.mul_assoc]
  congr 2
  exact Int.mul_comm _ _
end Go.Proofs.YtgbknjdjbahdkaaGreatDoor
namespace Go.Proofs.YtgbknjdjbahdkaaGreatDoor
open Go Go.Proofs.YtgbknjdjbahdkaaGreatDoor.Sx
theorem RV.neg {d : List D0} {N : Int} {D : Nat} (h : RV d N D) : RV (rmk (-(ratNum d)) (ratDen d)) (-N) D := by
  obtain ⟨n, e, k, rfl, h1, h2, h3, rfl, rfl⟩ := h
  rw [ratNum_rmk, ratDen_rmk]
  exact ⟨-n, e, k, rfl, ratOk_neg h1, h2, h3, by rw [Int.neg_mul], rfl⟩
theorem RV.ok {d : List D0} {N : Int} {D : Nat} (h : RV d N D) : ratOk d = true := by
  obtain ⟨n, e, k, rfl, h1, _⟩ := h
  exact h1
theorem sgn_scale {z : Int} {k : Nat} (hk : 0 < k) : sgn (z * k) = sgn z := by
  unfold sgn
  by_cases h1 : z < 0
  · rw [if_pos h1, if_pos (Int.mul_neg_of_neg_of_pos h1 (by omega))]
  · rw [if_neg h1, if_neg (by have := Int.mul_nonneg (show 0 <= z by omega) (show 0 <= (k : Int) by omega); omega)]
    by_cases h2 : z = 0
    · rw [if_pos h2, if_pos (by rw [h2, Int.zero_mul])]
    · rw [if_neg h2, if_neg (by have := Int.mul_pos (show 0 < z by omega) (show 0 < (k : Int) by omega); omega)]
theorem rsign_v {d : List D0} {N : Int} {D : Nat} (r : RV d N D) : rsign d < 0 ↔ N < 0 := by
  obtain ⟨n, e, k, rfl, h1, h2, h3, rfl, rfl⟩ := r
  unfold rsign
  rw [if_pos h1, ratNum_rmk, <- sgn_scale (z := n) h3]
  unfold sgn
  split
  · simp_all
  · split <;> simp_all
theorem impl_RatCmp_v {w : World} {xs ys : List Value} {d1 d2 : List D0} {N1 N2 : Int} {D1 D2 : Nat} (h : Reps w xs d1) (g : Reps w ys d2) (r1 : RV d1 N1 D1) (r2 : RV d2 N2 D2) :
    Ret P n_impl_RatCmp [.agg ⟨xs⟩, .agg ⟨ys⟩] w fun v w' => v = .int .i64 (sgn (N1 * D2 - N2 * D1)) /\ Ext w w' := by
  obtain ⟨n1, e1, k1, rfl, hok, p1, q1, rfl, rfl⟩ := r1
  obtain ⟨n2, e2, k2, rfl, gok, p2, q2, rfl, rfl⟩ := r2
  have hs : sgn (n1 * (k1 : Int) * ((e2 * k2 : Nat) : Int) - n2 * (k2 : Int) * ((e1 * k1 : Nat) : Int)) = sgn (n1 * e2 - n2 * e1) := by
    have e : n1 * (k1 : Int) * ((e2 * k2 : Nat) : Int) - n2 * (k2 : Int) * ((e1 * k1 : Nat) : Int) = (n1 * e2 - n2 * e1) * ((k1 * k2 : Nat) : Int) := by
      rw [Int.natCast_mul, Int.natCast_mul, Int.natCast_mul, cast_mul2, cast_mul2 n2 k2, Int.sub_mul, Int.mul_comm (k2 : Int) (k1 : Int)]
    rw [e, sgn_scale (Nat.mul_pos q1 q2)]
  rw [hs]
  obtain ⟨_, _, _, l1, m1⟩ := ratOk_enc hok
  obtain ⟨_, _, _, l2, m2⟩ := ratOk_enc gok
  rw [ratNum_rmk] at l1 l2
  rw [ratDen_rmk] at m1 m2
  obtain ⟨b1, ap, an, ac, az, bp, bn, bc, bz, rfl, hd, i1, i2⟩ := open_Rat h (rmk_code _ _)
  obtain ⟨b2, cp, cn, cc, cz, dp, dn, dc, dz, rfl, hd2, j1, j2⟩ := open_Rat g (rmk_code _ _)
  have hbz : bz = digs e1 := by simp only [rmk, List.cons.injEq, D0.ints.injEq, and_true] at hd; exact hd.2.2.symm
  have hdz : dz = digs e2 := by simp only [rmk, List.cons.injEq, D0.ints.injEq, and_true] at hd2; exact hd2.2.2.symm
  subst hbz; subst hdz
  have ibn := i2.1; have jdn := j2.1
  refine impl_RatCmp_ret ?_
  unfold impl_RatCmp
  intro r w1 hn1 r' w2 hn2
  have X2 := hn1.ext.trans hn2.ext
  refine ⟨_, _, _, _, _, _, _, (hn1.blk.ext hn2.ext).loadA0 (by kernel_rfl), _, _, _, _, _, _, _, hn2.blk.loadA0 (by kernel_rfl), ?_⟩
  refine Ret.at (impl_ratsOk_c (h.ext X2) (g.ext X2) hok gok) ?_
  rintro v w3 ⟨hv, y3⟩
  subst hv
  have D := Ext.drew w3
  have b0 := ((hn1.blk.ext hn2.ext).ext y3).ext D
  have b1' := (hn2.blk.ext y3).ext D
  have X3 := (X2.trans y3).trans D
  refine ⟨_, rfl, fun e => absurd e (by simp), fun _ => ?_⟩
  refine ⟨_, _, _, _, _, _, _, fun W hW => (b0.ext hW).loadA0 (by kernel_rfl), _, _, _, fun W hW => (b1'.ext hW).loadAt 2 rfl (by kernel_rfl) rfl, ?_⟩
  refine Ret.at (impl_Rat_num_n (h.ext X3) hok (j2.ext X3) (by omega)) ?_
  rintro v w4 ⟨vs4, f4, hv, o4, _, y4⟩
  subst hv
  obtain ⟨g0, gp, gn, gc, gz, rfl, _, _⟩ := open_Signed o4.reps (enc_code _)
  refine ⟨_, _, _, _, rfl, y4, _, _, _, _, _, _, _, fun W hW => (b1'.ext hW).loadA0 (by kernel_rfl), _, _, _, fun W hW => (b0.ext hW).loadAt 2 rfl (by kernel_rfl) rfl, ?_⟩
  refine Ret.at (impl_Rat_num_n (g.ext (X3.trans y4)) gok (i2.ext (X3.trans y4)) (by omega)) ?_
  rintro v w5 ⟨vs5, f5, hv, o5, _, y5⟩
  subst hv
  obtain ⟨t0, tp, tn, tc, tz, rfl, _, _⟩ := open_Signed o5.reps (enc_code _)
  refine ⟨_, _, _, _, rfl, ?_⟩
  have p1l := prod_len (x := n1.natAbs) (y := e2) l1 m2
  have p2l := prod_len (x := n2.natAbs) (y := e1) l2 m1
  refine Ret.at (impl_intCmp_c (o4.reps.ext y5) o5.reps (by rw [Int.natAbs_mul, Int.natAbs_natCast]; omega) (by rw [Int.natAbs_mul, Int.natAbs_natCast]; omega)) ?_
  rintro v w6 ⟨hv, y6⟩
  subst hv
  exact ⟨_, rfl, rfl, ((X3.trans y4).trans y5).trans y6⟩
theorem laws_must_c {w : World} {xs : List Value} {d : List D0} (h : Reps w xs d) (hc : d.map D0.code = [.bool, .ints, .ints]) :
    Ret P n_laws_must [.agg ⟨xs⟩, .bool true] w fun v w' => v = .agg ⟨xs⟩ /\ Ext w w' := by
  have hh := h
  obtain ⟨b1, ap, an, ac, az, bp, bn, bc, bz, rfl, _, _, _⟩ := open_Rat h hc
  refine laws_must_ret ?_
  unfold laws_must
  intro r0 w1 hn1 r1 w2 hn2
  have e2 := hn2.r_eq; have s1 := hn1.size
  have X2 := hn1.ext.trans hn2.ext
  obtain ⟨w3, st3, b3, ch3, _⟩ := hn2.blk.storeA0 (P := P) (t := T_impl_Rat) (xs := [.bool b1, .slice ap an ac, .slice bp bn bc]) (by kernel_rfl) rfl hh.cells1
  exact ⟨fun e => absurd e (by simp), fun _ => ⟨_, _, _, _, _, _, _, (hn1.blk.ext hn2.ext).loadA0 (by kernel_rfl), w3, st3, _, _, _, _, _, _, _, b3.loadA0 (by kernel_rfl), rfl, X2.chg ch3 (fun q hq => by have := List.mem_singleton.1 hq; omega)⟩⟩
end Go.Proofs.YtgbknjdjbahdkaaGreatDoor
namespace Go.Proofs.YtgbknjdjbahdkaaGreatDoor
open Go Go.Proofs.YtgbknjdjbahdkaaGreatDoor.Sx
set_option maxHeartbeats 1000000
theorem tsV_rows (s : ByteArray) : (∀ x ∈ (tsV s).getD [], x.map D0.code = [.int, .bool, .ints, .int]) /\ cntL ((tsV s).getD []) <= 1000000000 := by
  unfold tsV
  cases hst : stL (cuts 44 [] s.data.toList) with
  | none => exact ⟨fun x hx => by simp at hx, by decide⟩
  | some l =>
    simp only
    by_cases hok : stepsOk l = true
    · rw [if_pos hok]
      refine ⟨fun x hx => stL_code hst x hx, ?_⟩
      have hl := (stepsOk_parts hok).1
      have hc : ∀ x ∈ l, cnts x <= 60 := fun x hx => by
        obtain ⟨i, hi, rfl⟩ := List.getElem_of_mem hx
        obtain ⟨a, b, n, _, _, ht, e⟩ := stR_parts (stL_all hst i (by rw [<- stL_len hst]; exact hi) hi)
        rw [e]
        unfold tpR
        rw [if_pos ht]
        have ht2 := ht
        unfold tpOk at ht2
        simp only [Bool.and_eq_true, decide_eq_true_eq] at ht2
        obtain ⟨b', m, t, hc, hb, hm, htt, hT⟩ := cand_parts ht2.2.1
        rw [hc, lowD_dsn]
        have h1 : (digs (lowM m (t + 2))).length <= (digs m).length := digs_mono_len (lowM_le m (t + 2))
        simp only [dsn, cnts, D0.cnt]
        omega
      have := cntL_le (k := 60) hc
      show cntL l <= 1000000000
      omega
    · rw [if_neg hok]
      exact ⟨fun x hx => by simp at hx, by decide⟩
def tsOk (s : ByteArray) : Bool := (tsV s).isSome
def tsR (s : ByteArray) : List (List D0) := (tsV s).getD []
theorem impl_TextSteps_c {w : World} (s : ByteArray) (hs : s.size <= 1048576) (hp : TabP w) (he : TabE w) :
    Ret P n_impl_TextSteps [.string s] w fun v w' => ∃ p n c f, v = .tuple #[.slice p n c, .bool (tsOk s)] /\ OwnRows w' w.heap.size T_impl_Step 4 p n c (tsR s) f /\ (∀ x ∈ tsR s, x.map D0.code = [.int, .bool, .ints, .int]) /\ cntL (tsR s) <= 1000000000 /\ Ext w w' :=
  (impl_TextSteps_o s hs hp he).mono fun v w' ⟨p, n, c, f, hv, ho, hx⟩ => ⟨p, n, c, f, hv, ho, (tsV_rows s).1, (tsV_rows s).2, hx⟩
end Go.Proofs.YtgbknjdjbahdkaaGreatDoor
namespace Go.Proofs.YtgbknjdjbahdkaaGreatDoor
open Go Go.Proofs.YtgbknjdjbahdkaaGreatDoor.Sx
theorem impl_MoneyOf_c {w : World} (cur : ByteArray) {n : Int} (h0 : -9223372036854775808 <= n) (h1 : n <= 9223372036854775807) (ht : Tab w) :
    Ret P n_impl_MoneyOf [.string cur, .int .i64 n] w fun v w' => ∃ vs f, v = .tuple #[.agg ⟨vs⟩, .bool (moneyOk (.str cur :: enc n))] /\ Owns w' w.heap.size vs (moneyMk cur n) f /\ f.Nodup /\ Ext w w' := by
  refine impl_MoneyOf_ret ?_
  unfold impl_MoneyOf
  intro r w1 hn1
  have e1 := hn1.r_eq; have s1 := hn1.size
  refine Ret.at (impl_IntOf_c h0 h1) ?_
  rintro v w2 ⟨vs2, f2, hv, ho2, nd2, y2⟩
  subst hv
  obtain ⟨a0, ap, an, ac, az, rfl, _, _⟩ := open_Signed ho2.reps (enc_code _)
  have l2 := y2.le
  have X2 := hn1.ext.trans y2
  refine ⟨_, _, _, _, rfl, ?_⟩
  refine Ret.at (impl_moneyOf_c (ht.ext X2) cur ho2 nd2 (by omega)) ?_
  rintro v w3 ⟨vs3, f3, hv, ho3, nd3, y3⟩
  subst hv
  have l3 := y3.le
  obtain ⟨b0, b1, bp, bn, bc, bz, rfl, _, _⟩ := open_Money ho3.reps (moneyMk_code _ _)
  obtain ⟨W', st', ld', ow', xx', _, _⟩ := agg_end (t := T_impl_Money) ((hn1.blk.ext y2).ext y3) (X2.trans y3) (by omega) ho3 (by kernel_rfl) rfl (by omega) (by omega)
  exact ⟨_, _, _, _, _, _, rfl, W', st', _, _, _, _, _, ld', _, f3, rfl, ow', nd3, xx'⟩
end Go.Proofs.YtgbknjdjbahdkaaGreatDoor
namespace Go.Proofs.YtgbknjdjbahdkaaGreatDoor
open Go Go.Proofs.YtgbknjdjbahdkaaGreatDoor.Sx
theorem impl_MoneySame_c {w : World} {xs ys : List Value} {dx dy : List D0} (h : Reps w xs dx) (k : Reps w ys dy) (hc : dx.map D0.code = [.str, .bool, .ints]) (kc : dy.map D0.code = [.str, .bool, .ints]) :
    Ret P n_impl_MoneySame [.agg ⟨xs⟩, .agg ⟨ys⟩] w fun v w' => v = .bool (decide (dx = dy)) /\ Ext w w' := by
  obtain ⟨a0, a1, a2p, a2n, a2c, a2z, rfl, rfl, ha⟩ := open_Money h hc
  obtain ⟨b0, b1, b2p, b2n, b2c, b2z, rfl, rfl, hb⟩ := open_Money k kc
  refine impl_MoneySame_ret ?_
  unfold impl_MoneySame
  intro r w1 hn1 r1 w2 hn2
  have x := hn1.ext.trans hn2.ext
  have k0 := hn1.blk.ext hn2.ext; have k1 := hn2.blk
  refine ⟨_, k0.load (by kernel_rfl) rfl, _, k1.load (by kernel_rfl) rfl, ifD (fun e => ?_) (fun e => ⟨dec_no (fun h => e (by simp at h; exact h.1)), x⟩)⟩
  subst e
  refine ⟨_, _, _, _, k0.loadA (xs := [.bool a1, .slice a2p a2n a2c]) (by kernel_rfl) rfl, _, _, _, _, k1.loadA (xs := [.bool b1, .slice b2p b2n b2c]) (by kernel_rfl) rfl, ?_⟩
  refine Ret.at (impl_intSame_c (dx := [.bool a1, .ints a2z]) (dy := [.bool b1, .ints b2z]) ⟨rfl, ⟨_, _, _, rfl, ha.ext x⟩, trivial⟩ ⟨rfl, ⟨_, _, _, rfl, hb.ext x⟩, trivial⟩ rfl rfl) ?_
  rintro v w3 ⟨hv, y⟩
  subst hv
  exact ⟨_, rfl, by simp, x.trans y⟩
end Go.Proofs.YtgbknjdjbahdkaaGreatDoor
namespace Go.Proofs.YtgbknjdjbahdkaaGreatDoor.Sx
open Go Go.RowKit Go.ChangeShapes Go.WideShapes
def rowedV (P : Program) (ns : List String) : Bool := ns.all fun n => ((P.globalNamed n).bind (P.globals[·]?)).all fun gl => P.readableRec gl.type && decide (gl.type < P.types.size)
section
variable {H : Type} {enc : TypeId × Value -> H} {P : Program}
theorem trodAll_ext (hl : laidOutB P = true) {W W' : World} (hb : Ext W W') (sp' : Nat -> Bool) : ∀ {ts : List TypeId} {vs : List Value} {ds : List (DataW H)} {ps : List MemPlace},
    (∀ t ∈ ts, P.readableRec t = true /\ t < P.types.size) -> (∀ p ∈ ps, p.block < W.heap.size) -> (∀ p ∈ ps, sp' p.block = true) ->
    DataW.TrodAll enc P W 0 (fun _ => true) true ts vs ds ps -> DataW.TrodAll enc P W' 0 sp' true ts vs ds ps
  | [], _, _, _, _, _, _, h => by
    obtain ⟨rfl, rfl, rfl⟩ := trodAll_nil h
    exact rfl
  | t :: ts, _, _, _, hr, hlt, hsp, h => by
    obtain ⟨v, vs1, d, ds1, a, b, rfl, rfl, rfl, h1, h2⟩ := trodAll_cons h
    have hrt := hr t (by simp)
    exact ⟨a, b, WideElems.Trod_stays hl hrt.1 hrt.2 h1 (fun x hx => Below.same hb (hlt x (by simp [hx]))) (fun x hx => hsp x (by simp [hx])),
      trodAll_ext hl hb sp' (fun u hu => hr u (by simp [hu])) (fun x hx => hlt x (by simp [hx])) (fun x hx => hsp x (by simp [hx])) h2, rfl⟩
theorem trodVars_sp (hl : laidOutB P = true) {W W' : World} (hb : Ext W W') (sp' : Nat -> Bool) :
    ∀ {ns : List String} {gs : List (DataW H)} {ps : List MemPlace}, rowedV P ns = true -> (∀ p ∈ ps, sp' p.block = true) -> DataW.TrodVars enc P W (fun _ => true) ns gs ps -> DataW.TrodVars enc P W' sp' ns gs ps
  | [], [], _, _, _, h => h
  | [], _ :: _, _, _, _, h => h.elim
  | _ :: _, [], _, _, _, h => h.elim
  | n :: ns, d :: ds, ps, hv, hsp, h => by
    have hlt := h.lt
    obtain ⟨g, t, cs, fuel, p, q, h1, h2, h3, h4, hs, e⟩ := h
    simp only [rowedV, List.all_cons, Bool.and_eq_true] at hv
    have ht : P.readableRec t = true /\ t < P.types.size := by
      have := hv.1
      rw [h1] at this
      cases hg : P.globals[g]? with
      | none => rw [hg] at h2; cases h2
      | some gl =>
        rw [hg] at h2
        obtain rfl : gl.type = t := Option.some.inj h2
        simpa [hg] using this
    have hp : ∀ x ∈ p, x.block < W.heap.size := fun x hx => hlt x (by rw [e]; simp [hx])
    have h3' : W'.var? P n = some cs := by
      unfold World.var? at h3 ⊢
      rw [h1] at h3 ⊢
      simp only [Option.bind_some] at h3 ⊢
      have hg : g < W.heap.size := by
        cases hh : W.heap[g]? with
        | none => rw [hh] at h3; cases h3
        | some o => exact (Array.getElem?_eq_some_iff.1 hh).1
      rw [hb.block g hg]; exact h3
    exact ⟨g, t, cs, fuel, p, q, h1, h2, h3', DataW.trod_stays (kids_book hl ht.1) (book_sized ht.1) (fun h => by cases h) ⟨ht.2, book_self t⟩ h4 (fun x hx => Below.same hb (hp x hx)) (fun x hx => hsp x (by rw [e]; simp [hx])),
      trodVars_sp hl hb sp' (by simpa [rowedV] using hv.2) (fun x hx => hsp x (by rw [e]; simp [hx])) hs, e⟩
theorem post_of_ext {f : Func} {s : ChangeSpec} {apart fresh handsOn again : Bool} {W W' : World} {args : Array Value} {ds gs : List (DataW H)} {before : List MemPlace} {tb : TypeId}
    (hl : laidOutB P = true) (hpar : ∀ t ∈ f.params.toList, P.readableRec t = true /\ t < P.types.size) (hvr : rowedV P s.vars = true)
    (hrt : f.resultTypes = #[tb]) (htb : P.underlying tb = some .bool)
    (hW : DataW.Whole enc P f.params.toList s.vars apart W args.toList ds gs before) (hx : Ext W W')
    (hfn : s.fn H (ds ++ gs) = { results := [.lit (.bool true)], args := ds, vars := gs }) :
    s.post enc P f apart fresh handsOn again W args (.bool true) W' := by
  have hW0 := hW
  have hlt : ∀ p ∈ before, p.block < W.heap.size := hW.lt
  obtain ⟨pa, pv, hA, hV, rfl, hz, hn⟩ := hW
  have hlta : ∀ p ∈ pa, p.block < W.heap.size := fun p hp => hlt p (by simp [hp])
  have hltv : ∀ p ∈ pv, p.block < W.heap.size := fun p hp => hlt p (by simp [hp])
  have hr : (Value.bool true).resultList f.resultTypes.size = [Value.bool true] := by rw [hrt]; rfl
  refine ⟨ds, gs, pa ++ pv, [], pa, pv, hW0, ?_, ?_, ?_, Below.frame hx _, fun _ => ?_⟩
  · rw [hfn, hr, hrt]
    exact trodAll_mk1 (shut_bool htb _)
  · rw [hfn]
    exact trodAll_ext hl hx _ hpar hlta (fun p hp => by simpa using hlta p hp) hA
  · rw [hfn]
    exact trodVars_sp hl hx _ hvr (fun p hp => by simpa using hltv p hp) hV
  · refine ⟨?_, (.lit (.bool true)) :: ds, gs, pa ++ pv, ⟨[] ++ pa, pv, ?_, ?_, by simp, ?_, ?_⟩, fun p hp _ => hp⟩
    · rw [hr, hrt]
      exact ok_one (f := { f with resultTypes := #[tb] }) rfl rfl (okWide_bool_mk htb _)
    · rw [hr, hrt]
      exact trodAll_append (trodAll_ext hl hx _ hpar hlta (fun _ _ => rfl) hA) (trodAll_mk1 (shut_bool htb _))
    · exact trodVars_sp hl hx _ hvr (fun _ _ => rfl) hV
    · intro b off hp
      have := hlt _ hp
      rw [Below.frozen hx (p := ⟨b, off, none⟩) this]
      exact hz b off hp
    · exact hn
end
end Go.Proofs.YtgbknjdjbahdkaaGreatDoor.Sx
namespace Go.Proofs.YtgbknjdjbahdkaaGreatDoor.Sx
open Go Go.RowKit Go.ChangeShapes Go.WideShapes
section
variable {H : Type} {enc : TypeId × Value -> H} {P : Program} {w : World}
theorem spot_none {a : Addr} {v : Value} (h : w.cell? a = some v) : a = ⟨a.block, a.off, none⟩ := by
  obtain ⟨b, o, spot⟩ := a
  have : spot = none := by simpa using World.cell?_spot h
  subst this; rfl
end
end Go.Proofs.YtgbknjdjbahdkaaGreatDoor.Sx
namespace Go.Proofs.YtgbknjdjbahdkaaGreatDoor
open Go Go.RowKit Go.ChangeShapes Go.Proofs.YtgbknjdjbahdkaaGreatDoor.Sx
theorem bytes_of_trod {H : Type} {enc : TypeId × Value -> H} {P : Program} {w : World} {t e : TypeId} {fuel : Nat} {sp : Nat -> Bool} {hd : Bool} {cs : List Value} {x : DataW H × List MemPlace} (ht : P.underlying t = some (.slice e)) (he : P.underlying e = some (.int .u8)) (hc : P.cellsOf e = 1)
    (h : DataW.trod enc P w 0 sp hd fuel t cs = some x) : ∃ p n c, cs = [.slice p n c] /\ ByR w p n := by
  rcases Go.ChangeShapes.open_ints ht he hc h with ⟨rfl, _⟩ | ⟨a, len, cap, zs, rfl, _, hl, hm, hz, _, hcell, _⟩
  · exact ⟨none, 0, 0, rfl, fun h => absurd h (by omega)⟩
  · have hlz : len <= zs.length := by rw [hz]; split <;> omega
    refine ⟨some a, len, cap, rfl, fun hpos => ?_⟩
    have h0 := hcell 0 (by omega)
    have hs := spot_none h0
    have ha : a = ⟨a.block, a.off, none⟩ := by
      obtain ⟨b, o, s⟩ := a
      simp [Addr.add] at hs
      simp [hs]
    have hlt := World.block_lt_of_cell? w _ h0
    refine ⟨a.block, a.off, zs.take len, by rw [<- ha], by simp; omega, fun j v hj => ?_, by simpa [Addr.add] using hlt⟩
    simp only [List.getElem?_map, List.getElem?_take] at hj
    split at hj
    · rename_i hjl
      have hjz : j < zs.length := by omega
      have := hcell j hjz
      rw [ha, addr_add] at this
      rw [this]
      rw [List.getElem?_eq_getElem hjz] at hj
      simp at hj
      rw [<- hj]
      simp [hjz]
    · simp at hj
end Go.Proofs.YtgbknjdjbahdkaaGreatDoor
namespace Go.Proofs.YtgbknjdjbahdkaaGreatDoor
variable {w : World} {R : Value -> World -> Prop}
open Go Go.Proofs.YtgbknjdjbahdkaaGreatDoor.Sx
set_option maxRecDepth 100000
def laws_FnFee_s_j9 (r a0 a1 : Nat) (a2 : Bool) (wd_2 a3 : World) (R : Value -> World -> Prop) : Prop :=
 (a2 = true ->
 ∃ a4 a5 a6 a7 a8, (∀ wv_35, Ext wd_2 wv_35 -> Loads P 52 ⟨a0, 0, none⟩ (.agg #[.string a4, .bool a5, .slice a6 a7 a8]) wv_35) /\ Calls P 28 ⟨[.agg #[.string a4, .bool a5, .slice a6 a7 a8]]⟩ a3 fun a9 aa =>
 ∃ ab ac ae af ag ah ai, a9 = .returned (.agg #[.bool ab, .slice ac ae af, .slice ag ah ai]) /\
 Ext a3 aa /\ ∃ aj ak al am an ao ap, (∀ wv_37, Ext wd_2 wv_37 -> Loads P 35 ⟨a1, 0, none⟩ (.agg #[.bool aj, .slice ak al am, .slice an ao ap]) wv_37) /\ Calls P 27 ⟨[.agg #[.bool ab, .slice ac ae af, .slice ag ah ai], .agg #[.bool aj, .slice ak al am, .slice an ao ap]]⟩ aa fun aq ar =>
 ∃ au av aw ax ay az b0 b1, aq = .returned (.tuple #[.agg #[.bool au, .slice av aw ax, .slice ay az b0], .bool b1]) /\
 Ext aa ar /\ Calls P 15 ⟨[.agg #[.bool au, .slice av aw ax, .slice ay az b0], .bool b1]⟩ ar fun b2 b3 =>
 ∃ b4 b5 b6 b7 b8 b9 ba, b2 = .returned (.agg #[.bool b4, .slice b5 b6 b7, .slice b8 b9 ba]) /\
 Ext ar b3 /\ ∃ bb bc bd be bf bg bh, (∀ wv_40, Ext wd_2 wv_40 -> Loads P 35 ⟨r, 0, none⟩ (.agg #[.bool bb, .slice bc bd be, .slice bf bg bh]) wv_40) /\ Calls P 18 ⟨[.agg #[.bool b4, .slice b5 b6 b7, .slice b8 b9 ba], .agg #[.bool bb, .slice bc bd be, .slice bf bg bh]]⟩ b3 fun bi bj =>
 ∃ bk, bi = .returned (.int .i64 bk) /\
 R (.bool (decide ((bk : Int) = 0))) bj) /\
 (a2 = false ->
 R (.bool false) a3)
def laws_FnFee_s_j8 (r a0 : Nat) (a1 a2 a3 : Nat) (a4 : World) (a5 : Bool) (a6 : World) (R : Value -> World -> Prop) : Prop :=
 (a5 = true ->
 ∃ a7 a8 a9 aa ab, (∀ wv_32, Ext a4.drew wv_32 -> Loads P 52 ⟨a3, 0, none⟩ (.agg #[.string a7, .bool a8, .slice a9 aa ab]) wv_32) /\ ∃ ac ae af ag ah, (∀ wv_33, Ext a4.drew wv_33 -> Loads P 52 ⟨a0, 0, none⟩ (.agg #[.string ac, .bool ae, .slice af ag ah]) wv_33) /\ Calls P 26 ⟨[.agg #[.string a7, .bool a8, .slice a9 aa ab], .agg #[.string ac, .bool ae, .slice af ag ah]]⟩ a6 fun ai aj =>
 ∃ ak, ai = .returned (.bool ak) /\
 laws_FnFee_s_j9 r a1 a2 ak aj aj R) /\
 (a5 = false ->
 laws_FnFee_s_j9 r a1 a2 false a4.drew a6 R)
def laws_FnFee_s_j7 (r a0 : Nat) (a1 a2 : Nat) (a3 : Bool) (a4 : Nat) (a5 : World) (a6 : Bool) (a7 : World) (R : Value -> World -> Prop) : Prop :=
 (a6 = true ->
 laws_FnFee_s_j8 r a0 a1 a2 a4 a5 a3 a7 R) /\
 (a6 = false ->
 laws_FnFee_s_j8 r a0 a1 a2 a4 a5 false a7 R)
def laws_FnFee_s_j6 (a0 : Option Addr) (a1 a2 : Nat) (a3 : Int) (r : Nat) (a4 : World) (R : Value -> World -> Prop) : Prop :=
 Calls P 22 ⟨[(.string (S [67, 72, 70])), .int .i64 a3]⟩ a4 fun a5 a6 =>
 ∃ a7 a8 a9 aa ab ac, a5 = .returned (.tuple #[.agg #[.string a7, .bool a8, .slice a9 aa ab], .bool ac]) /\
 ∀ ae af, New a6 (.cells ⟨[.string ByteArray.empty, .bool false, .slice none 0 0]⟩ 52 (0, 0)) ae af ->
 ∃ wv_20, Stores P 52 ⟨ae, 0, none⟩ (.agg #[.string a7, .bool a8, .slice a9 aa ab]) af wv_20 /\
 ∃ ag ah ai aj ak, Loads P 52 ⟨ae, 0, none⟩ (.agg #[.string ag, .bool ah, .slice ai aj ak]) wv_20 /\ Calls P 23 ⟨[.slice a0 a1 a2, .agg #[.string ag, .bool ah, .slice ai aj ak], .int .i64 5]⟩ wv_20 fun al am =>
 ∃ an ao ap aq ar au av aw ax ay az b0 b1, al = .returned (.tuple #[.agg #[.string an, .bool ao, .slice ap aq ar], .agg #[.bool au, .slice av aw ax, .slice ay az b0], .bool b1]) /\
 ∀ b2 b3, New am (.cells ⟨[.string ByteArray.empty, .bool false, .slice none 0 0]⟩ 52 (0, 0)) b2 b3 ->
 ∀ b4 b5, New b3 (.cells ⟨[.bool false, .slice none 0 0, .slice none 0 0]⟩ 35 (0, 0)) b4 b5 ->
 ∃ wv_24, Stores P 52 ⟨b2, 0, none⟩ (.agg #[.string an, .bool ao, .slice ap aq ar]) b5 wv_24 /\
 ∃ wv_25, Stores P 35 ⟨b4, 0, none⟩ (.agg #[.bool au, .slice av aw ax, .slice ay az b0]) wv_24 wv_25 /\
 ∃ b6 b7 b8 b9 ba, Loads P 52 ⟨ae, 0, none⟩ (.agg #[.string b6, .bool b7, .slice b8 b9 ba]) wv_25 /\ Calls P 24 ⟨[.slice a0 a1 a2, .agg #[.string b6, .bool b7, .slice b8 b9 ba], .int .i64 5]⟩ wv_25 fun bb bc =>
 ∃ bd be bf bg bh bi, bb = .returned (.tuple #[.agg #[.string bd, .bool be, .slice bf bg bh], .bool bi]) /\
 ∀ bj bk, New bc (.cells ⟨[.string ByteArray.empty, .bool false, .slice none 0 0]⟩ 52 (0, 0)) bj bk ->
 ∃ wv_28, Stores P 52 ⟨bj, 0, none⟩ (.agg #[.string bd, .bool be, .slice bf bg bh]) bk wv_28 /\
 ∃ bl bm bn bo bp, Loads P 52 ⟨bj, 0, none⟩ (.agg #[.string bl, .bool bm, .slice bn bo bp]) wv_28 /\ ∃ bq br bs bt bu, Loads P 52 ⟨b2, 0, none⟩ (.agg #[.string bq, .bool br, .slice bs bt bu]) wv_28 /\ Calls P 25 ⟨[.agg #[.string bl, .bool bm, .slice bn bo bp], .agg #[.string bq, .bool br, .slice bs bt bu]]⟩ wv_28 fun bv bw =>
 ∃ bx bz c0 c1 c2 c3, bv = .returned (.tuple #[.agg #[.string bx, .bool bz, .slice c0 c1 c2], .bool c3]) /\
 ∀ c4 c5, New bw (.cells ⟨[.string ByteArray.empty, .bool false, .slice none 0 0]⟩ 52 (0, 0)) c4 c5 ->
 ∃ wv_31, Stores P 52 ⟨c4, 0, none⟩ (.agg #[.string bx, .bool bz, .slice c0 c1 c2]) c5 wv_31 /\
 (b1 = true ->
 laws_FnFee_s_j7 r ae b2 b4 c3 c4 wv_31 bi wv_31.drew R) /\
 (b1 = false ->
 laws_FnFee_s_j7 r ae b2 b4 c3 c4 wv_31 false wv_31.drew R)
def laws_FnFee_s_j5 (a0 : Option Addr) (a1 a2 : Nat) (a3 : Int) (r : Nat) (a4 : Option Addr) (a5 a6 : Nat) (a7 : Bool) (a8 : World) (R : Value -> World -> Prop) : Prop :=
 (a7 = true ->
 (true = true ->
 R (.bool false) a8) /\
 (true = false ->
 laws_FnFee_s_j6 a0 a1 a2 a3 r a8 R)) /\
 (a7 = false ->
 Calls P 17 ⟨[.slice a4 a5 a6]⟩ a8 fun a9 aa =>
 ∃ ab, a9 = .returned (.string ab) /\
 Calls P 17 ⟨[.slice a0 a1 a2]⟩ aa fun ac ae =>
 ∃ af, ac = .returned (.string af) /\
 ((decide (ab ≠ af)) = true ->
 R (.bool false) ae) /\
 ((decide (ab ≠ af)) = false ->
 laws_FnFee_s_j6 a0 a1 a2 a3 r ae R))
def laws_FnFee_s_j4 (a0 : Option Addr) (a1 a2 : Nat) (a3 : Int) (r : Nat) (a4 : Option Addr) (a5 a6 : Nat) (a7 a8 : Bool) (a9 : World) (R : Value -> World -> Prop) : Prop :=
 (a8 = true ->
 laws_FnFee_s_j5 a0 a1 a2 a3 r a4 a5 a6 true a9 R) /\
 (a8 = false ->
 laws_FnFee_s_j5 a0 a1 a2 a3 r a4 a5 a6 (!a7) a9 R)
def laws_FnFee_s_j3 (a0 : Option Addr) (a1 a2 : Nat) (a3 : Int) (r : Nat) (a4 : Option Addr) (a5 a6 : Nat) (a7 a8 : Bool) (wd_1 a9 : World) (R : Value -> World -> Prop) : Prop :=
 (a8 = true ->
 laws_FnFee_s_j4 a0 a1 a2 a3 r a4 a5 a6 a7 true a9 R) /\
 (a8 = false ->
 ∃ aa ab ac ae af ag ah, (∀ wv_44, Ext wd_1 wv_44 -> Loads P 35 ⟨r, 0, none⟩ (.agg #[.bool aa, .slice ab ac ae, .slice af ag ah]) wv_44) /\ Calls P 21 ⟨[.agg #[.bool aa, .slice ab ac ae, .slice af ag ah]]⟩ a9 fun ai aj =>
 ∃ ak, ai = .returned (.int .i64 ak) /\
 laws_FnFee_s_j4 a0 a1 a2 a3 r a4 a5 a6 a7 ((decide ((ak : Int) < 0))) aj R)
def laws_FnFee_s_j2 (a0 : Option Addr) (a1 a2 : Nat) (a3 : Int) (r : Nat) (a4 : Option Addr) (a5 a6 : Nat) (a7 a8 : Bool) (wd a9 : World) (R : Value -> World -> Prop) : Prop :=
 (a8 = true ->
 laws_FnFee_s_j3 a0 a1 a2 a3 r a4 a5 a6 a7 true wd a9 R) /\
 (a8 = false ->
 ∃ aa ab ac ae af ag ah, (∀ wv_46, Ext wd wv_46 -> Loads P 35 ⟨r, 0, none⟩ (.agg #[.bool aa, .slice ab ac ae, .slice af ag ah]) wv_46) /\ Calls P 13 ⟨[.int .i64 a3]⟩ a9 fun ai aj =>
 ∃ ak al am an, ai = .returned (.agg #[.bool ak, .slice al am an]) /\
 Ext a9 aj /\ Calls P 20 ⟨[.agg #[.bool ak, .slice al am an]]⟩ aj fun ao ap =>
 ∃ aq ar au av aw ax ay az, ao = .returned (.tuple #[.agg #[.bool aq, .slice ar au av, .slice aw ax ay], .bool az]) /\
 Ext aj ap /\ Calls P 15 ⟨[.agg #[.bool aq, .slice ar au av, .slice aw ax ay], .bool az]⟩ ap fun b0 b1 =>
 ∃ b2 b3 b4 b5 b6 b7 b8, b0 = .returned (.agg #[.bool b2, .slice b3 b4 b5, .slice b6 b7 b8]) /\
 Ext ap b1 /\ Calls P 18 ⟨[.agg #[.bool aa, .slice ab ac ae, .slice af ag ah], .agg #[.bool b2, .slice b3 b4 b5, .slice b6 b7 b8]]⟩ b1 fun b9 ba =>
 ∃ bb, b9 = .returned (.int .i64 bb) /\
 laws_FnFee_s_j3 a0 a1 a2 a3 r a4 a5 a6 a7 ((decide ((0 : Int) < bb))) ba ba R)
def laws_FnFee_s_j1 (a0 : Option Addr) (a1 a2 : Nat) (a3 : Int) (r : Nat) (a4 : Int) (a5 : Nat) (a6 : Option Addr) (a7 a8 : Nat) (a9 : Bool) (aa : World) (ab : Bool) (ac : World) (R : Value -> World -> Prop) : Prop :=
 (ab = true ->
 laws_FnFee_s_j2 a0 a1 a2 a3 r a6 a7 a8 a9 true aa.drew ac R) /\
 (ab = false ->
 ∃ ae af ag ah ai aj ak, (∀ wv_51, Ext aa.drew wv_51 -> Loads P 35 ⟨a5, 0, none⟩ (.agg #[.bool ae, .slice af ag ah, .slice ai aj ak]) wv_51) /\ (0 <= (a4 : Int) /\ (a4 : Int) < (a1 : Nat)) /\ ptrS a0 fun ad => ∃ al am an ao ap, (∀ wv_52, Ext aa.drew wv_52 -> Loads P 46 ((ad.add (a4.toNat * 4)).add 1) (.agg #[.bool al, .slice am an ao, .int .i64 ap]) wv_52) /\ Calls P 19 ⟨[.agg #[.bool al, .slice am an ao, .int .i64 ap]]⟩ ac fun aq ar =>
 ∃ au av aw ax ay az b0, aq = .returned (.agg #[.bool au, .slice av aw ax, .slice ay az b0]) /\
 Ext ac ar /\ Calls P 18 ⟨[.agg #[.bool ae, .slice af ag ah, .slice ai aj ak], .agg #[.bool au, .slice av aw ax, .slice ay az b0]]⟩ ar fun b1 b2 =>
 ∃ b3, b1 = .returned (.int .i64 b3) /\
 laws_FnFee_s_j2 a0 a1 a2 a3 r a6 a7 a8 a9 ((decide ((b3 : Int) ≠ 0))) b2 b2 R)
def laws_FnFee_s_j0 (a0 : Option Addr) (a1 a2 : Nat) (a3 : Int) (r : Nat) (a4 : Int) (a5 : Nat) (a6 : Option Addr) (a7 a8 : Nat) (a9 : Bool) (aa : World) (ab : Bool) (W : World) (R : Value -> World -> Prop) : Prop :=
 (ab = true ->
 laws_FnFee_s_j1 a0 a1 a2 a3 r a4 a5 a6 a7 a8 a9 aa true W R) /\
 (ab = false ->
 laws_FnFee_s_j1 a0 a1 a2 a3 r a4 a5 a6 a7 a8 a9 aa ((decide ((a4 : Int) < 0))) W R)
def laws_FnFee_s (a0 : Option Addr) (a1 a2 : Nat) (w : World) (R : Value -> World -> Prop) : Prop :=
 ((decide ((1048576 : Int) < ((a1 : Nat) : Int))) = true ->
 R (.bool true) w) /\
 ((decide ((1048576 : Int) < ((a1 : Nat) : Int))) = false ->
 Calls P 10 ⟨[.slice a0 a1 a2]⟩ w fun e wv =>
 ∃ a3 a4 a5, e = .returned (.slice a3 a4 a5) /\
 Calls P 11 ⟨[.slice a0 a1 a2, .int .i64 4000]⟩ wv fun a6 a7 =>
 ∃ a8, a6 = .returned (.int .i64 a8) /\
 Calls P 13 ⟨[.int .i64 a8]⟩ a7 fun a9 aa =>
 ∃ ab ac ae af, a9 = .returned (.agg #[.bool ab, .slice ac ae af]) /\
 Calls P 12 ⟨[.slice a3 a4 a5, .agg #[.bool ab, .slice ac ae af]]⟩ aa fun ag ah =>
 ∃ ai aj ak al am an ao ap, ag = .returned (.tuple #[.agg #[.bool ai, .slice aj ak al, .slice am an ao], .bool ap]) /\
 ∀ r aq, New ah (.cells ⟨[.bool false, .slice none 0 0, .slice none 0 0]⟩ 35 (0, 0)) r aq ->
 ∃ wv_5, Stores P 35 ⟨r, 0, none⟩ (.agg #[.bool ai, .slice aj ak al, .slice am an ao]) aq wv_5 /\
 ∃ ar : Int, ar = IntKind.wrap .i64 (a8 + 1) /\ Calls P 13 ⟨[.int .i64 ar]⟩ wv_5 fun au av =>
 ∃ aw ax ay az, au = .returned (.agg #[.bool aw, .slice ax ay az]) /\
 Calls P 12 ⟨[.slice a3 a4 a5, .agg #[.bool aw, .slice ax ay az]]⟩ av fun b0 b1 =>
 ∃ b2 b3 b4 b5 b6 b7 b8 b9, b0 = .returned (.tuple #[.agg #[.bool b2, .slice b3 b4 b5, .slice b6 b7 b8], .bool b9]) /\
 ∀ ba bb, New b1 (.cells ⟨[.bool false, .slice none 0 0, .slice none 0 0]⟩ 35 (0, 0)) ba bb ->
 ∃ wv_9, Stores P 35 ⟨ba, 0, none⟩ (.agg #[.bool b2, .slice b3 b4 b5, .slice b6 b7 b8]) bb wv_9 /\
 Calls P 13 ⟨[.int .i64 a8]⟩ wv_9 fun bc bd =>
 ∃ be bf bg bh, bc = .returned (.agg #[.bool be, .slice bf bg bh]) /\
 Calls P 14 ⟨[.slice a3 a4 a5, .agg #[.bool be, .slice bf bg bh]]⟩ bd fun bi bj =>
 ∃ bk, bi = .returned (.int .i64 bk) /\
 ∃ bl bm bn bo bp bq br, Loads P 35 ⟨ba, 0, none⟩ (.agg #[.bool bl, .slice bm bn bo, .slice bp bq br]) bj /\ ∃ bs bt bu bv bw bx bz, Loads P 35 ⟨r, 0, none⟩ (.agg #[.bool bs, .slice bt bu bv, .slice bw bx bz]) bj /\ Calls P 16 ⟨[.agg #[.bool bl, .slice bm bn bo, .slice bp bq br], .agg #[.bool bs, .slice bt bu bv, .slice bw bx bz]]⟩ bj fun c0 c1 =>
 ∃ c2 c3 c4 c5 c6 c7 c8 c9, c0 = .returned (.tuple #[.agg #[.bool c2, .slice c3 c4 c5, .slice c6 c7 c8], .bool c9]) /\
 Calls P 15 ⟨[.agg #[.bool c2, .slice c3 c4 c5, .slice c6 c7 c8], .bool c9]⟩ c1 fun ca cb =>
 ∃ cc cd ce cf cg ch ci, ca = .returned (.agg #[.bool cc, .slice cd ce cf, .slice cg ch ci]) /\
 ∀ cj ck, New cb (.cells ⟨[.bool false, .slice none 0 0, .slice none 0 0]⟩ 35 (0, 0)) cj ck ->
 ∃ wv_15, Stores P 35 ⟨cj, 0, none⟩ (.agg #[.bool cc, .slice cd ce cf, .slice cg ch ci]) ck wv_15 /\
 Calls P 17 ⟨[.slice a3 a4 a5]⟩ wv_15 fun cl cm =>
 ∃ cn, cl = .returned (.string cn) /\
 Calls P 6 ⟨[.string cn]⟩ cm fun co cp =>
 ∃ cq cr cs ct, co = .returned (.tuple #[.slice cq cr cs, .bool ct]) /\
 ((!ap) = true ->
 laws_FnFee_s_j0 a3 a4 a5 a8 r bk cj cq cr cs ct cp true cp.drew R) /\
 ((!ap) = false ->
 laws_FnFee_s_j0 a3 a4 a5 a8 r bk cj cq cr cs ct cp (!b9) cp.drew R))
theorem laws_FnFee_s_ret {a : Option Addr} {a0 a1 : Nat} (h : laws_FnFee_s a a0 a1 w R) : Ret P 4 [.slice a a0 a1] w R := Ret.of_fsem Tryz.func4 rfl (Eq.mp (show _ = fsem P Tryz.f4 (fun k => []) _ R w from by kernel_rfl) h)
end Go.Proofs.YtgbknjdjbahdkaaGreatDoor
namespace Go.Proofs.YtgbknjdjbahdkaaGreatDoor
open Go Go.Proofs.YtgbknjdjbahdkaaGreatDoor.Sx
def curData {H : Type} (r : CurRow) : DataW H := .agg [.lit (.string r.1.data.toList), .lit (.string r.2.1.data.toList), .lit (.int .i64 r.2.2.1), .lit (.int .i64 r.2.2.2)]
theorem bytes_eq {a b : ByteArray} (h : a.data.toList = b.data.toList) : a = b := by
  obtain ⟨⟨x⟩⟩ := a; obtain ⟨⟨y⟩⟩ := b
  simp at h; subst h; rfl
set_option maxRecDepth 100000 in
theorem cur_cells {H : Type} {enc : TypeId × Value -> H} {w : World} {sp : Nat -> Bool} {hd : Bool} {fuel : Nat} {cs : List Value} {r : CurRow} {p : List MemPlace}
    (h : DataW.trod enc P w 0 sp hd fuel T_impl_currency cs = some (curData r, p)) : cs = curCells r := by
  obtain ⟨fs, hu, hsz, ⟨f0, e0, t0, o0⟩, ⟨f1, e1, t1, o1⟩, ⟨f2, e2, t2, o2⟩, ⟨f3, e3, t3, o3⟩⟩ := cur_fields
  have hu : P.underlying T_impl_currency = some (.struct fs) := hu
  have hs : P.underlying T_string = some .string := by kernel_rfl
  have hi : P.underlying T_int = some (.int .i64) := by kernel_rfl
  have cS : P.cellsOf T_string = 1 := by kernel_rfl
  have cI : P.cellsOf T_int = 1 := by kernel_rfl
  have cC : P.cellsOf T_impl_currency = 4 := by kernel_rfl
  obtain ⟨xs, n, rfl, hx, hlen, hxl, hf⟩ := DataW.trod_struct hu h
  rw [cC] at hlen
  rw [hsz] at hxl
  have h0 := hf 0 f0 e0; have h1 := hf 1 f1 e1; have h2 := hf 2 f2 e2; have h3 := hf 3 f3 e3
  rw [t0, o0, cS] at h0; rw [t1, o1, cS] at h1; rw [t2, o2, cI] at h2; rw [t3, o3, cI] at h3
  match cs, hlen, xs, hxl, hx, h0, h1, h2, h3 with
  | [c0, c1, c2, c3], _, [x0, x1, x2, x3], _, hx, h0, h1, h2, h3 =>
    simp only [List.drop_succ_cons, List.drop_zero, List.take_succ_cons, List.take_zero, List.getElem?_cons_zero, List.getElem?_cons_succ] at h0 h1 h2 h3
    obtain ⟨s0, a0, b0, _⟩ := DataW.trod_string hs h0
    obtain ⟨s1, a1, b1, _⟩ := DataW.trod_string hs h1
    obtain ⟨z2, a2, b2, _⟩ := DataW.trod_int hi h2
    obtain ⟨z3, a3, b3, _⟩ := DataW.trod_int hi h3
    simp only [Prod.mk.injEq, curData, DataW.agg.injEq, List.map_cons, List.map_nil, List.cons.injEq, b0, b1, b2, b3, DataW.lit.injEq, Lit.string.injEq, Lit.int.injEq, true_and, and_true] at hx
    simp only [List.cons.injEq, and_true] at a0 a1 a2 a3
    obtain ⟨⟨q0, q1, q2, q3⟩, _⟩ := hx
    rw [a0, a1, a2, a3, <- bytes_eq q0, <- bytes_eq q1, <- q2, <- q3]
    rfl
theorem flat_of_rows : ∀ (l : List CurRow) (cs : List Value), cs.length = l.length * 4 -> (∀ i (hi : i < l.length), (cs.drop (i * 4)).take 4 = curCells (l[i]'hi)) -> cs = l.flatMap curCells
  | [], cs, h, _ => by simpa using h
  | r :: l, cs, h, hr => by
    have h0 := hr 0 (by simp)
    simp only [Nat.zero_mul, List.drop_zero, List.getElem_cons_zero] at h0
    rw [List.flatMap_cons, <- h0, <- flat_of_rows l (cs.drop 4) (by simp at h ⊢; omega) (fun i hi => by
      have := hr (i + 1) (by simpa using hi)
      rw [List.drop_drop, show 4 + i * 4 = (i + 1) * 4 by omega]
      simpa using this), List.take_append_drop]
def curVar : String := "loop.example/g00793/impl.currencies"
set_option maxRecDepth 100000 in
theorem tab_of_head {W : World} {rest : List (String × DataW Unit)} (h : laidMet P ((curVar, Rows.laid_loop_example_g00793_impl_currencies) :: rest) W) : Tab W := by
  obtain ⟨ps, ⟨g, t, cs, fuel, p, q, hg, ht, hvar, hd, _, _⟩, _⟩ := h
  have hg0 : P.globalNamed curVar = some 0 := by kernel_rfl
  have ht0 : (P.globals[0]?).map (·.type) = some T_20_impl_currency := by kernel_rfl
  obtain rfl := Option.some.inj (hg0.symm.trans hg)
  obtain rfl := Option.some.inj (ht0.symm.trans ht)
  have hu : P.underlying T_20_impl_currency = some (.array 20 T_impl_currency) := und_T_20_impl_currency
  have cC : P.cellsOf T_impl_currency = 4 := by kernel_rfl
  have cA : P.cellsOf T_20_impl_currency = 80 := by kernel_rfl
  obtain ⟨xs, m, rfl, hx, hlen, hxl, hf⟩ := DataW.trod_array hu hd
  rw [cA] at hlen
  have hdat : (Rows.laid_loop_example_g00793_impl_currencies : DataW Unit) = .agg (implTab.map curData) := by rfl
  rw [hdat] at hx
  simp only [Prod.mk.injEq, DataW.agg.injEq] at hx
  have hl := impl_length
  have hcs : cs.toList = implTab.flatMap curCells := by
    refine flat_of_rows implTab _ (by omega) fun i hi => ?_
    have h1 := hf i (by omega)
    rw [cC] at h1
    have h2 : (xs.map (·.1))[i]? = some (curData (implTab[i]'hi)) := by rw [<- hx.1]; simp [hi]
    rw [List.getElem?_map] at h2
    cases h3 : xs[i]? with
    | none => rw [h3] at h2; cases h2
    | some x =>
      rw [h3] at h1 h2
      simp only [Option.map_some, Option.some.injEq] at h2
      obtain ⟨d, pp⟩ := x
      simp only at h2
      subst h2
      exact cur_cells h1
  intro i v hv
  have := World.var?_cell hg0 hvar i
  rw [Nat.zero_add, this, <- hv, <- hcs]
  simp
theorem trodVars_one {H : Type} {enc : TypeId × Value -> H} {w : World} {sp : Nat -> Bool} {n : String} {gs : List (DataW H)} {ps : List MemPlace} (h : DataW.TrodVars enc P w sp [n] gs ps) : ∃ g, gs = [g] := by
  match gs, h with
  | [g], _ => exact ⟨g, rfl⟩
  | g :: g2 :: r, h =>
    obtain ⟨_, _, _, _, _, _, _, _, _, _, h2, _⟩ := h
    exact h2.elim
end Go.Proofs.YtgbknjdjbahdkaaGreatDoor
namespace Go.Proofs.YtgbknjdjbahdkaaGreatDoor
open Go Go.Proofs.YtgbknjdjbahdkaaGreatDoor.Sx
theorem laidMet_tail {W : World} {x : String × DataW Unit} {rest : List (String × DataW Unit)} (h : laidMet P (x :: rest) W) : laidMet P rest W := by
  obtain ⟨ps, hv, hn, hr⟩ := h
  obtain ⟨n, d⟩ := x
  obtain ⟨g, t, cs, fuel, p, q, _, _, _, _, hrest, rfl⟩ := hv
  exact ⟨q, hrest, (List.nodup_append.1 hn).2.1, fun b off hm => hr b off (List.mem_append_right _ hm)⟩
theorem pow_data : (Rows.laid_internal_strconv_uint64pow10 : DataW Unit) = Lib.tabData .u64 Lib.pow10Tab := by kernel_rfl
set_option maxRecDepth 100000 in
theorem tabP_of_head {W : World} {rest : List (String × DataW Unit)} (h : laidMet P (("internal/strconv.uint64pow10", Rows.laid_internal_strconv_uint64pow10) :: rest) W) : TabP W := by
  rw [pow_data] at h
  exact Lib.tabIs_of_head (g := G_pow) (t := TA_pow) (e := TE_pow) (n := 20) (by kernel_rfl) (by kernel_rfl) und_A_pow und_E_pow (by kernel_rfl) (by kernel_rfl) h
def layAt (cs : List Value) : Obj -> Obj
  | .cells _ t frozen => .cells ⟨cs⟩ t frozen
  | o => o
end Go.Proofs.YtgbknjdjbahdkaaGreatDoor
namespace Go.Proofs.YtgbknjdjbahdkaaGreatDoor
open Go Go.Proofs.YtgbknjdjbahdkaaGreatDoor.Sx
noncomputable def laidWorldX (os : Os) (args : Array Value) : World :=
 { World.holding P os ⟨#[], args, []⟩ with heap := (((((World.holding P os ⟨#[], args, []⟩).heap.modify G_cur (layAt (implTab.flatMap curCells))).modify G_pow (layAt (L_pow.map (Value.int .u64)))).modify G_d32 (layAt (L_d32.map (Value.int .u8)))).modify G_d64 (layAt (L_d64.map (Value.int .u8)))) }
end Go.Proofs.YtgbknjdjbahdkaaGreatDoor
namespace Go.Proofs.YtgbknjdjbahdkaaGreatDoor
open Go Go.Proofs.YtgbknjdjbahdkaaGreatDoor.Sx
def isIfT : Option TypeDesc -> Bool
  | some (.interface _) => true
  | _ => false
theorem iface_of_trod {Q : Program} {w : World} {sp : Nat -> Bool} {fuel : Nat} {t : TypeId} {cs : List Value} {d : DataW Unit} {p : List MemPlace} (ht : isIfT (Q.underlying t) = true)
    (h : DataW.trod (fun _ => ()) Q w 0 sp false fuel t cs = some (d, p)) : ∃ v, cs = [v] /\ (v = .nilIface ∨ ∃ te pe, v = .iface te pe) := by
  cases fuel with
  | zero => simp [DataW.trod] at h
  | succ fuel =>
    cases hu : Q.underlying t with
    | none => rw [hu] at ht; cases ht
    | some u =>
      rw [hu] at ht
      cases u with
      | interface m =>
        simp only [DataW.trod, hu] at h
        match cs, h with
        | [.nilIface], _ => exact ⟨_, rfl, .inl rfl⟩
        | [.iface a b], _ => exact ⟨_, rfl, .inr ⟨a, b, rfl⟩⟩
      | _ => cases ht
theorem laid_iface {Q : Program} {W : World} {name : String} {d : DataW Unit} {rest : List (String × DataW Unit)} {g : Nat} {t : TypeId} (hg : Q.globalNamed name = some g) (hty : (Q.globals[g]?).map (·.type) = some t) (ht : isIfT (Q.underlying t) = true)
    (h : laidMet Q ((name, d) :: rest) W) : ∃ v, W.cell? ⟨g, 0, none⟩ = some v /\ (v = .nilIface ∨ ∃ te pe, v = .iface te pe) := by
  obtain ⟨ps, ⟨g', t', cs, fuel, p, q, hg', ht', hvar, hd, _, _⟩, _⟩ := h
  obtain rfl := Option.some.inj (hg.symm.trans hg')
  obtain rfl := Option.some.inj (hty.symm.trans ht')
  obtain ⟨v, hv, hi⟩ := iface_of_trod ht hd
  refine ⟨v, ?_, hi⟩
  have hc := World.var?_cell hg hvar 0
  rw [hc, <- Array.getElem?_toList, hv]; rfl
abbrev T_err : Nat := 109
set_option maxRecDepth 100000 in
theorem tabE_of_two {W : World} {d1 d2 : DataW Unit} {rest : List (String × DataW Unit)} (h : laidMet P (("strconv.ErrRange", d1) :: ("strconv.ErrSyntax", d2) :: rest) W) : TabE W := by
  obtain ⟨v2, c2, k2⟩ := laid_iface (g := 3) (t := T_err) (by kernel_rfl) (by kernel_rfl) (by kernel_rfl) h
  obtain ⟨v1, c1, k1⟩ := laid_iface (g := 2) (t := T_err) (by kernel_rfl) (by kernel_rfl) (by kernel_rfl) (laidMet_tail h)
  exact ⟨v1, v2, c1, k1, c2, k2⟩
theorem tabsF_of_laid {W : World} (h : laidMetH P [("math/bits.deBruijn32tab", Rows.laid_math_bits_deBruijn32tab), ("math/bits.deBruijn64tab", Rows.laid_math_bits_deBruijn64tab), ("internal/strconv.uint64pow10", Rows.laid_internal_strconv_uint64pow10), ("strconv.ErrRange", Rows.laid_strconv_ErrRange), ("strconv.ErrSyntax", Rows.laid_strconv_ErrSyntax), (curVar, Rows.laid_loop_example_g00793_impl_currencies)] W) : Tab W /\ TabP W /\ TabE W := by
  have h : laidMet P [("math/bits.deBruijn32tab", Rows.laid_math_bits_deBruijn32tab), ("math/bits.deBruijn64tab", Rows.laid_math_bits_deBruijn64tab), ("internal/strconv.uint64pow10", Rows.laid_internal_strconv_uint64pow10), ("strconv.ErrRange", Rows.laid_strconv_ErrRange), ("strconv.ErrSyntax", Rows.laid_strconv_ErrSyntax), (curVar, Rows.laid_loop_example_g00793_impl_currencies)] W := h
  have h2 := laidMet_tail (laidMet_tail h)
  have h3 := laidMet_tail h2
  exact ⟨tab_of_head (laidMet_tail (laidMet_tail h3)), tabP_of_head h2, tabE_of_two h3⟩
noncomputable def layErrs (w : World) : World :=
 { w with heap := (((w.heap.modify 3 (layAt [.iface 193 (.pointer (some ⟨w.heap.size, 0, none⟩))])).modify 2 (layAt [.iface 193 (.pointer (some ⟨w.heap.size + 1, 0, none⟩))])).push
 (.cells ⟨[.string (S [118, 97, 108, 117, 101, 32, 111, 117, 116, 32, 111, 102, 32, 114, 97, 110, 103, 101])]⟩ 195)).push (.cells ⟨[.string (S [105, 110, 118, 97, 108, 105, 100, 32, 115, 121, 110, 116, 97, 120])]⟩ 195) }
noncomputable def laidWorldF (os : Os) (args : Array Value) : World := layErrs (laidWorldX os args)
end Go.Proofs.YtgbknjdjbahdkaaGreatDoor
