/-
  Parts of the proof of fnTaxSums_holds: CTaxSJ, CFlat, CTaxTotal, CRV, CTaxInL, CFnTaxSumsL, CSame, SxRow, SxOpen, CByR, CFnTaxSums, CTab.
  Conditions: none.
-/
import Derived.ProofKit
import Derived.Deep.Slices
import Derived.Test.YtbgokfhcgcoipaaDoorRows
import Derived.OpenShut
import Derived.Lib.LaidTab
import Derived.Test.YtbgokfhcgcoipaaDoorFt4
set_option linter.unusedVariables false
set_option linter.unusedSimpArgs false
namespace Go.ChangeShapes
end Go.ChangeShapes
namespace Go.RowKit
end Go.RowKit
namespace Go.WideShapes
end Go.WideShapes

namespace Go.Proofs.YtbgokfhcgcoipaaDoor
open Go Go.Proofs.YtbgokfhcgcoipaaDoor.Sx
theorem Sx.Owns.split {w : World} {B : Nat} : ∀ {vs us : List Value} {ds es : List D0} {f : List Nat}, vs.length = ds.length -> Owns w B (vs ++ us) (ds ++ es) f -> ∃ f1 f2, f = f1 ++ f2 /\ Owns w B vs ds f1 /\ Owns w B us es f2
  | [], us, [], es, f, _, h => ⟨[], f, rfl, rfl, h⟩
  | v :: vs, us, d :: ds, es, f, hl, h => by
    obtain ⟨fa, fb, e, h1, h2⟩ := h
    obtain ⟨f1, f2, e2, h3, h4⟩ := Owns.split (by simpa using hl) h2
    exact ⟨fa ++ f1, f2, by rw [e, e2, List.append_assoc], ⟨fa, f1, rfl, h1, h3⟩, h4⟩
  | [], _, _ :: _, _, _, hl, _ => by simp at hl
  | _ :: _, _, [], _, _, hl, _ => by simp at hl
theorem nodup3 {a b c d : List Nat} {m : Nat} (h : (a ++ (b ++ c)).Nodup) (hd : d.Nodup) (h1 : ∀ y ∈ a ++ (b ++ c), y < m) (h2 : ∀ y ∈ d, m <= y) : (a ++ (d ++ c)).Nodup := by
  obtain ⟨k1, k2, k3⟩ := List.nodup_append.1 h
  obtain ⟨k4, k5, k6⟩ := List.nodup_append.1 k2
  refine List.nodup_append.2 ⟨k1, List.nodup_append.2 ⟨hd, k5, fun x hx y hy e => ?_⟩, fun x hx y hy e => ?_⟩
  · subst e
    have := h1 x (List.mem_append_right _ (List.mem_append_right _ hy)); have := h2 x hx; omega
  · subst e
    rcases List.mem_append.1 hy with hy | hy
    · have := h1 x (List.mem_append_left _ hx); have := h2 x hy; omega
    · exact k3 x hx x (List.mem_append_right _ hy) rfl
theorem taxSums_bad {l : List (List D0)} {mode : Int} {j : Nat} (hj : j < l.length) (h : lnOk (hdCur l) (l[j]'hj) = false) : taxSumsOk l mode = false := by
  unfold taxSumsOk
  have : l.all (lnOk (hdCur l)) = false := by
    rw [List.all_eq_false]
    exact ⟨_, List.getElem_mem hj, by rw [h]; simp⟩
  rw [this]; simp
theorem taxSums_bad2 {l : List (List D0)} {mode : Int} {e : TE} (he : e ∈ taxS l) (h : (taxOf (hdCur l) mode e).1 = false) : taxSumsOk l mode = false := by
  unfold taxSumsOk
  have : ((taxS l).all fun e => (taxOf (hdCur l) mode e).1) = false := by
    rw [List.all_eq_false]
    exact ⟨_, he, by rw [h]; simp⟩
  rw [this]; simp
theorem hdCur_get {l : List (List D0)} (h : 0 < l.length) : hdCur l = lnCur (l[0]'h) := by
  cases l with
  | nil => simp at h
  | cons x l => rfl
theorem putAt_rows {c : ByteArray} {s : List TE} {m t M : Nat} (hs : ∀ e ∈ s, TE.ok M e) (hm : m < 1000000000) (ht : t <= 30) :
    putAt (fun x => dcmp (x.take 3) (dnn (lowM m t) (lowS m t))) (posT s (keyT m t)) (s.map (taxRow c)) (taxRow c (lowM m t, lowS m t, 0)) = (if hasT s (keyT m t) then s else s.take (posT s (keyT m t)) ++ (lowM m t, lowS m t, 0) :: s.drop (posT s (keyT m t))).map (taxRow c) := by
  have hlm := lowM_le m t; have hls := (lowS_spec m t).1
  unfold putAt
  have := tax_found (c := c) hs (m := lowM m t) (t := lowS m t) (by omega) (by omega) (posT s (keyT m t))
  rw [keyT_low m t ht] at this
  refine Eq.trans (congrArg (fun b : Bool => if b = true then s.map (taxRow c) else (s.map (taxRow c)).take (posT s (keyT m t)) ++ taxRow c (lowM m t, lowS m t, 0) :: (s.map (taxRow c)).drop (posT s (keyT m t))) this) ?_
  show (if hasT s (keyT m t) = true then _ else _) = _
  split
  · rfl
  · rw [List.map_append, List.map_cons, List.map_take, List.map_drop]
set_option maxHeartbeats 1000000 in
theorem impl_TaxSums_c {w : World} {p : Option Addr} {n c : Nat} {l : List (List D0)} (h : RowsR w 6 p n c l) (hc : ∀ x ∈ l, x.map D0.code = C6) (hn : n <= 1048576) (hb : ∀ x ∈ l, bulks x <= 1048576) (mode : Int) (ht : Tab w) :
    Ret P n_impl_TaxSums [.slice p n c, .int .i64 mode] w fun v w' => ∃ p' n' c' f, v = .tuple #[.slice p' n' c', .bool (taxSumsOk l mode)] /\ OwnRows w' w.heap.size T_impl_TaxSum 9 p' n' c' (taxSums l mode) f /\ (∀ x ∈ taxSums l mode, x.map D0.code = C9) /\ cntL (taxSums l mode) <= 1000000000 /\ Ext w w' := by
  have hln := h.1; have hcap := h.2.1; have hcm := h.2.2.1
  have kc := taxSums_code l mode; have kn := taxSums_cnt hc mode (by omega)
  have no : ∀ W, Ext w W -> taxSumsOk l mode = false -> ∃ p' n' c' f, Value.tuple #[.slice none 0 0, .bool false] = .tuple #[.slice p' n' c', .bool (taxSumsOk l mode)] /\ OwnRows W w.heap.size T_impl_TaxSum 9 p' n' c' (taxSums l mode) f /\ (∀ x ∈ taxSums l mode, x.map D0.code = C9) /\ cntL (taxSums l mode) <= 1000000000 /\ Ext w W := fun W hW hno => by
    refine ⟨none, 0, 0, [], by rw [hno], ?_, kc, kn, hW⟩
    unfold taxSums
    rw [hno]
    exact ⟨rfl, [], [], trivial, Own.nil _ _ _ _, rfl, List.nodup_nil⟩
  refine impl_TaxSums_ret ?_
  unfold impl_TaxSums
  refine ifD (fun h0 => ?_) (fun hpos => ?_)
  · have : l = [] := List.eq_nil_of_length_eq_zero (by omega)
    exact no w (Ext.refl _) (by rw [this]; rfl)
  intro r w1 hn1
  have e1 := hn1.r_eq; have z1 := hn1.size
  obtain ⟨w2, st2, b2, y2⟩ := hn1.fill (P := P) (t := T_impl_ordered_loop_example_g00793_impl_TaxSum) (xs := [.slice none 0 0, .func (.func n_impl_TaxSums_1) ⟨[]⟩ ⟨[]⟩]) (by simp [Value.oneCell']) (by kernel_rfl) rfl
  obtain ⟨bl, offl, hpl, hs⟩ := h.2.2.2 (by omega)
  subst hpl
  obtain ⟨cs0, _, hr0, hsg0⟩ := hs 0 _ (List.getElem?_eq_getElem (show 0 < l.length by omega))
  obtain ⟨g0, g1, g2p, g2n, g2c, g2z, g3, g4p, g4n, g4c, g4z, g5, rfl, hd0, _⟩ := open_TaxLine hr0 (hc _ (List.getElem_mem _))
  have hcur : hdCur l = g0 := by rw [hdCur_get (by omega), hd0]; rfl
  obtain ⟨c0, hc0⟩ : ∃ c0, hdCur l = c0 := ⟨_, rfl⟩
  have hg0 : g0 = c0 := by rw [<- hcur, hc0]
  subst hg0
  have ld0 : ∀ W, Ext w W -> Loads P T_string ((((⟨bl, offl, none⟩ : Addr).add (0 * 6)).add 0).add 0) (.string g0) W := fun W hW => (hsg0.ext hW).loadAt 0 (by rw [addr_add, addr_add, addr_add]) (by kernel_rfl) rfl
  obtain ⟨Inv, hI⟩ : ∃ I : Int -> World -> Prop, ∀ i wr, I i wr ↔ ∃ (j : Nat) (q : Option Addr) (n' c' : Nat) (f : List Nat), i = j /\ j <= n /\ Blk wr r T_impl_ordered_loop_example_g00793_impl_TaxSum [.slice q n' c', .func (.func n_impl_TaxSums_1) ⟨[]⟩ ⟨[]⟩] /\ OwnRows wr w.heap.size T_impl_TaxSum 9 q n' c' ((taxS (l.take j)).map (taxRow g0)) f /\ r ∉ f /\ (∀ x ∈ l.take j, lnOk g0 x = true) /\ Ext w wr := ⟨_, fun _ _ => Iff.rfl⟩
  obtain ⟨mu, hmu⟩ : ∃ m : Int -> World -> Nat, ∀ i wr, m i wr = n - i.toNat := ⟨fun i _ => n - i.toNat, fun _ _ => rfl⟩
  refine ⟨w2, st2, Inv, mu, (hI _ _).2 ⟨0, none, 0, 0, [], rfl, by omega, b2, ⟨rfl, [], [], trivial, Own.nil _ _ _ _, rfl, List.nodup_nil⟩, by simp, fun x hx => (by simp at hx), y2⟩, ?_⟩
  intro junk wr i hinv
  obtain ⟨j, q, n', c', f, hi, hj, hbr, hor, hrf, hall, hx⟩ := (hI _ _).1 hinv
  subst hi
  have lx := hx.le
  obtain ⟨hord, hok, hlenS⟩ := taxS_facts hc (show j <= l.length by omega) hall
  have hn' : n' = (taxS (l.take j)).length := by have := hor.1; rw [List.length_map] at this; omega
  refine ifD (fun hlt => ?_) (fun hge => ?_)
  · have hjl : j < l.length := by omega
    obtain ⟨cs, hk, hr, hsg⟩ := hs j _ (List.getElem?_eq_getElem hjl)
    have hcode := hc _ (List.getElem_mem hjl)
    obtain ⟨a0, a1, a2p, a2n, a2c, a2z, a3, a4p, a4n, a4c, a4z, a5, rfl, hd, i2, i4⟩ := open_TaxLine hr hcode
    have hld : Loads P T_impl_TaxLine ((⟨bl, offl, none⟩ : Addr).add (j * 6)) (.agg ⟨[.string a0, .bool a1, .slice a2p a2n a2c, .bool a3, .slice a4p a4n a4c, .int .i64 a5]⟩) wr := (hsg.ext hx).loadAAt 0 _ (by rw [addr_add]; rfl) (by kernel_rfl) rfl
    have hlok : lnOk g0 (l[j]'hjl) = (moneyOk [.str a0, .bool a1, .ints a2z] && (taxOk [.bool a3, .ints a4z, .int a5] && decide (a0 = g0))) := by rw [hd]; rfl
    have bad : lnOk g0 (l[j]'hjl) = false -> taxSumsOk l mode = false := fun hh => taxSums_bad hjl (by rw [hc0]; exact hh)
    refine ⟨⟨by omega, by omega⟩, _, _, _, _, _, _, _, _, _, _, by simpa using hld, ?_⟩
    intro r1 w3 hn3
    have e3 := hn3.r_eq; have z3 := hn3.size
    obtain ⟨w4, st4, b4, y4⟩ := hn3.fill (P := P) (t := T_impl_TaxLine) (xs := [.string a0, .bool a1, .slice a2p a2n a2c, .bool a3, .slice a4p a4n a4c, .int .i64 a5]) (by simp [Value.oneCell']) (by kernel_rfl) rfl
    have D4 := Ext.drew w4
    have X4 := (hx.trans y4).trans D4
    refine ⟨w4, st4, _, _, _, _, _, fun W hW => (b4.ext (D4.trans hW)).loadAAt 0 [.string a0, .bool a1, .slice a2p a2n a2c] rfl (by kernel_rfl) rfl, ?_⟩
    refine Ret.at (impl_MoneyOk_c (ht.ext X4) (dx := [.str a0, .bool a1, .ints a2z]) ⟨rfl, rfl, ⟨_, _, _, rfl, i2.ext X4⟩, trivial⟩ rfl) ?_
    rintro v w6 ⟨hv, y6⟩
    subst hv
    have X6 := X4.trans y6
    have b6 := (b4.ext D4).ext y6
    refine ⟨_, rfl, ifN (fun hno => ifT (ifT (no w6 X6 (bad (by rw [hlok, hno]; rfl))))) (fun hmok => ?_)⟩
    refine ⟨_, _, _, _, _, fun W hW => (b6.ext hW).loadAAt 3 [.bool a3, .slice a4p a4n a4c, .int .i64 a5] rfl (by kernel_rfl) rfl, ?_⟩
    refine Ret.at (impl_TaxRateOk_c (dx := [.bool a3, .ints a4z, .int a5]) ⟨rfl, ⟨_, _, _, rfl, i4.ext X6⟩, rfl, trivial⟩ rfl) ?_
    rintro v w7 ⟨hv, y7⟩
    subst hv
    have X7 := X6.trans y7
    have b7 := b6.ext y7
    refine ⟨_, rfl, ifN (fun hno => ifT (no w7 X7 (bad (by rw [hlok, hno]; simp)))) (fun hrok => ?_)⟩
    refine ⟨_, fun W hW => (b7.ext hW).loadAt 0 rfl (by kernel_rfl) rfl, ⟨by omega, by omega⟩, _, fun W hW => ld0 W (X7.trans hW), ifD (fun hne => no w7 X7 (bad (by rw [hlok, decide_eq_false hne]; simp))) (fun heq => ?_)⟩
    have heq : a0 = g0 := by simpa using heq
    have hlt2 : lnOk g0 (l[j]'hjl) = true := by rw [hlok, hmok, hrok, decide_eq_true heq]; rfl
    obtain ⟨u, m, t, hxe, _, eu, em, et, hu, hm, ht30, _, _, _⟩ := ln_parts hcode hlt2
    have hq : [D0.str a0, .bool a1, .ints a2z, .bool a3, .ints a4z, .int a5] = [.str g0, .bool (decide (u < 0)), .ints (digs u.natAbs), .bool false, .ints (digs m), .int (t : Int)] := hd.symm.trans hxe
    simp only [List.cons.injEq, D0.str.injEq, D0.bool.injEq, D0.ints.injEq, D0.int.injEq, and_true] at hq
    obtain ⟨rfl, rfl, rfl, rfl, rfl, rfl⟩ := hq
    unfold impl_TaxSums_j0
    have D7 := Ext.drew w7
    have X7d := X7.trans D7
    have l7 := X7d.le
    refine ⟨_, _, _, _, _, fun W hW => (b7.ext (D7.trans hW)).loadAAt 3 [.bool false, .slice a4p a4n a4c, .int .i64 (t : Int)] rfl (by kernel_rfl) rfl, ?_⟩
    refine Ret.at (impl_DecLow_o (b := false) (m := m) (s := t) ⟨rfl, ⟨_, _, _, rfl, i4.ext X7d⟩, rfl, trivial⟩ (by simp) (one_len6 hm) ht30) ?_
    rintro v w8 ⟨vsR, fR, hv, hoR, ndR, y8⟩
    subst hv
    obtain ⟨d0, dp, dn, dc, dz, ds, rfl, _, _⟩ := open_Dec hoR.reps rfl
    have X8 := X7d.trans y8
    refine ⟨_, _, _, _, _, rfl, y8, _, fun W hW => (b7.ext (D7.trans hW)).loadAt 0 rfl (by kernel_rfl) rfl, ?_⟩
    have Y8 : Ext wr w8 := ((((y4.trans D4).trans y6).trans y7).trans D7).trans y8
    have ox : Owns w8 w.heap.size [.bool d0, .slice dp dn dc, .int .i64 ds, .string a0, .bool false, .slice none 0 0, .string ByteArray.empty, .bool false, .slice none 0 0] (taxRow a0 (lowM m t, lowS m t, 0)) fR := by
      rw [taxRow_new]
      have h1 := Owns.append (hoR.mono (B' := w.heap.size) (by omega)) (Owns.append (Owns.str w8 w.heap.size a0) (Owns.append (Owns.bool w8 w.heap.size false) (Owns.append (Owns.ints (zs := []) (Own.nil w8 w.heap.size T_int 1)) (Owns.append (Owns.str w8 w.heap.size ByteArray.empty) (Owns.append (Owns.bool w8 w.heap.size false) (Owns.ints (zs := []) (Own.nil w8 w.heap.size T_int 1)))))))
      simpa [dsn, dnn] using h1
    have hfR := hoR.lt
    have lY := Y8.le
    have hlm := lowM_le m t; have hls := (lowS_spec m t).1
    have hkl := keyT_low m t ht30
    have hpk := posT_le (taxS (l.take j)) (keyT m t)
    refine Ret.at (at_TaxSum_c (hbr.ext Y8) (hor.ext Y8) hrf (by have := X8.le; omega) (by omega) (fun x hx2 => by obtain ⟨e, _, rfl⟩ := List.mem_map.1 hx2; exact taxRow_code _ _) ox (taxRow_code _ _) ndR (fun y hy hm2 => by
        have h8 := (hfR y hy).1; have h9 := (hor.lt y hm2).2; have := (((y4.trans D4).trans y6).trans y7).le; have := D7.le; omega) (fun hm2 => by
        have h8 := (hfR r hm2).1; have h9 := hbr.lt; have := (((y4.trans D4).trans y6).trans y7).le; have := D7.le; omega) (fun x => dcmp (x.take 3) (dnn (lowM m t) (lowS m t))) (fun cs x w' hw' hm2 hr1 hr2 => ?_) (posT (taxS (l.take j)) (keyT m t)) (by omega) (fun a x ha hlt3 => ?_) (fun a x ha hge3 => ?_)) ?_
    · obtain ⟨e, _, rfl⟩ := List.mem_map.1 hm2
      refine ⟨_, _, _, rfl, by kernel_rfl, Calls.mono (impl_TaxSums_1_c hr1 hr2 (taxRow_code _ _) (taxRow_code _ _)) ?_⟩
      rintro e2 w9 ⟨v, he2, hv, hy9⟩
      subst hv
      exact ⟨he2, hy9⟩
    · obtain ⟨e, he, rfl⟩ := rows_at ha
      rw [taxRow_cmp (hok e (List.mem_of_getElem? he)) (by omega) (by omega), sgn_neg2, hkl]
      have := posT_lo _ _ _ _ he hlt3
      omega
    · obtain ⟨e, he, rfl⟩ := rows_at ha
      rw [taxRow_cmp (hok e (List.mem_of_getElem? he)) (by omega) (by omega), sgn_neg2, hkl]
      have := posT_hi hord he hge3
      omega
    rintro v w10 ⟨b, n2, c2, f2, hv, hbq, hor2, hkn, hch, hf2⟩
    subst hv
    rw [putAt_rows hok hm ht30] at hor2
    obtain ⟨e, he, hadd, hmem⟩ := taxAdd_two (s := taxS (l.take j)) (m := m) (t := t) (u := u) (c := a0)
    obtain ⟨S0, hS0⟩ : ∃ S0, (if hasT (taxS (l.take j)) (keyT m t) then taxS (l.take j) else (taxS (l.take j)).take (posT (taxS (l.take j)) (keyT m t)) ++ (lowM m t, lowS m t, 0) :: (taxS (l.take j)).drop (posT (taxS (l.take j)) (keyT m t))) = S0 := ⟨_, rfl⟩
    rw [hS0] at hor2 he hadd
    obtain ⟨k, hkk⟩ : ∃ k, posT (taxS (l.take j)) (keyT m t) = k := ⟨_, rfl⟩
    rw [hkk] at he hadd hkn ⊢
    have heok : TE.ok (j * 1000000000000000000000000000000000000) e := by
      rcases hmem with hm2 | hm2
      · exact hok e hm2
      · rw [hm2]; exact ⟨by show lowM m t < 1000000000; omega, by show lowS m t <= 30; omega, Nat.zero_le _⟩
    have hrow : (S0.map (taxRow a0))[k]? = some (taxRow a0 e) := by rw [List.getElem?_map, he]; rfl
    obtain ⟨bb, xs, cs, zs, fi, hpb, hbB, hbf, hxl, hcl, hblk, how, hndi, hbfi, hfif, hput⟩ := hor2.swap hrow
    simp only [Option.some.injEq, Addr.mk.injEq, and_true] at hpb
    subst hpb
    obtain ⟨k0, k1p, k1n, k1c, k1z, k2, k3, k4, k5p, k5n, k5c, k5z, k6, k7, k8p, k8n, k8c, k8z, rfl, hkd, _⟩ := open_TaxSum how.reps (taxRow_code a0 e)
    have hpw : ∀ y ∈ (q.map (·.block)).toList, y ∈ f := fun y hy => by obtain ⟨_, _, _, _, _, hff, _⟩ := hor; rw [hff]; exact List.mem_append_left _ hy
    have hchw : ∀ y ∈ r :: (q.map (·.block)).toList, w.heap.size <= y := fun y hy => by
      rcases List.mem_cons.1 hy with e2 | hy
      · omega
      · exact (hor.lt y (hpw y hy)).1
    have X10 := X8.chg hch hchw
    have lX8 := X8.le; have l10 := X10.le; have lch := hch.size
    obtain ⟨fa, fbc, hfe, hoa, hobc⟩ := Owns.split (vs := [.bool k0, .slice k1p k1n k1c, .int .i64 k2, .string k3]) (ds := [.bool false, .ints (digs e.1), .int (e.2.1 : Int), .str a0]) (us := [.bool k4, .slice k5p k5n k5c, .string k6, .bool k7, .slice k8p k8n k8c]) (es := enc e.2.2 ++ money0) rfl how
    obtain ⟨fb, fc, hfe2, hob, hoc⟩ := Owns.split (vs := [.bool k4, .slice k5p k5n k5c]) (ds := enc e.2.2) (us := [.string k6, .bool k7, .slice k8p k8n k8c]) (es := money0) rfl hobc
    subst hfe2
    subst hfe
    have D10 := Ext.drew w10
    have b10 := fun (W : World) (hW : Ext w10 W) => (((b7.ext D7).ext y8).chg hch (fun hm2 => by
      rcases List.mem_cons.1 hm2 with e2 | hm2
      · have := hbr.lt; omega
      · have := (hor.lt r1 (hpw r1 hm2)).2; omega)).ext hW
    refine ⟨_, rfl, _, _, _, _, fun W hW => ((hblk.ext D10).ext hW).loadAAt (k * 9 + 4) [.bool k4, .slice k5p k5n k5c] (by rw [addr_add, addr_add]) (by kernel_rfl) (by rw [<- hxl, List.append_assoc, List.drop_length_add_append]; rfl), _, _, _, _, fun W hW => (b10 W (D10.trans hW)).loadAAt 1 [.bool (decide (u < 0)), .slice a2p a2n a2c] rfl (by kernel_rfl) rfl, ?_⟩
    have X10d := X10.trans D10
    have hfit := tax_fit (show j <= 1048576 by omega) heok.2.2
    refine Ret.at (impl_intAdd_c (x := e.2.2) (y := u) (hob.ext D10).reps ⟨rfl, ⟨_, _, _, rfl, i2.ext X10d⟩, trivial⟩ (Nat.le_trans (digs_len 6 (by omega)) (by decide)) (Nat.le_trans (digs_len 6 (by omega)) (by decide))) ?_
    rintro v w13 ⟨pu, nu, cu, hv, hou, y13⟩
    subst hv
    have Y13 := D10.trans y13
    have l13 := Y13.le
    have X13 := X10.trans Y13
    have hb13 := hblk.ext Y13
    obtain ⟨w14, st14, hb14, ch14, sz14⟩ := hb13.storeA (P := P) (t := T_impl_Signed) (k := k * 9 + 4) (xs := [.bool (decide (e.2.2 + u < 0)), .slice pu nu cu]) (by kernel_rfl) (by simp [hxl]; omega) (by simp [Value.oneCell'])
    have hnew : (xs ++ [Value.bool k0, .slice k1p k1n k1c, .int .i64 k2, .string k3, .bool k4, .slice k5p k5n k5c, .string k6, .bool k7, .slice k8p k8n k8c] ++ zs).take (k * 9 + 4) ++ [Value.bool (decide (e.2.2 + u < 0)), .slice pu nu cu] ++ (xs ++ [Value.bool k0, .slice k1p k1n k1c, .int .i64 k2, .string k3, .bool k4, .slice k5p k5n k5c, .string k6, .bool k7, .slice k8p k8n k8c] ++ zs).drop (k * 9 + 4 + [Value.bool (decide (e.2.2 + u < 0)), Value.slice pu nu cu].length) = xs ++ [Value.bool k0, .slice k1p k1n k1c, .int .i64 k2, .string k3, .bool (decide (e.2.2 + u < 0)), .slice pu nu cu, .string k6, .bool k7, .slice k8p k8n k8c] ++ zs := by
      rw [<- hxl, List.append_assoc xs, List.take_length_add_append, Nat.add_assoc, List.drop_length_add_append]
      simp
    rw [hnew] at hb14
    have hbl := hblk.lt
    have hdl := D10.le
    have nb : ∀ {y}, y ∈ fa ++ (fb ++ fc) -> y ∉ [b] := fun {y} hy hm2 => by simp at hm2; subst hm2; exact hbfi hy
    have oa := (hoa.ext Y13).chg ch14 (fun y hy => nb (List.mem_append_left _ hy))
    have oc := (hoc.ext Y13).chg ch14 (fun y hy => nb (List.mem_append_right _ (List.mem_append_right _ hy)))
    have hou2 : Owns w13 w10.heap.size [.bool (decide (e.2.2 + u < 0)), .slice pu nu cu] (enc (e.2.2 + u)) (pu.map (·.block)).toList := Owns.append (Owns.bool _ _ _) (Owns.ints (hou.mono hdl))
    have on' := (hou2.chg ch14 (fun y hy hm2 => by have := (hou2.lt y hy).1; simp at hm2; omega)).mono (B' := w.heap.size) (by omega)
    obtain ⟨f3, hor3, hf3⟩ := hput w14 _ (taxRow a0 (e.1, e.2.1, e.2.2 + u)) (fa ++ ((pu.map (·.block)).toList ++ fc)) (Y13.toChg.trans ch14) rfl hb14 (Owns.append oa (Owns.append on' oc)) (nodup3 hndi (by cases pu <;> simp) (fun y hy => (how.lt y hy).2) (fun y hy => (hou2.lt y hy).1)) (fun y hy => by
      rcases List.mem_append.1 hy with hy | hy
      · exact .inl (List.mem_append_left _ hy)
      · rcases List.mem_append.1 hy with hy | hy
        · refine .inr fun hm2 => ?_
          have h8 := (hou2.lt y hy).1; have h9 := (hor2.lt y hm2).2; omega
        · exact .inl (List.mem_append_right _ (List.mem_append_right _ hy)))
    have hrb : r ∉ [b] := fun hm2 => by
      simp at hm2; subst hm2
      rcases hf2 r hbf with h8 | h8 | h8
      · exact hrf h8
      · have := (hfR r h8).1; have := hbr.lt; have := (((y4.trans D4).trans y6).trans y7).le; have := D7.le; omega
      · have := hbr.lt; omega
    refine ⟨_, _, _, _, rfl, w14, ?_, exW ⟨by omega, by omega⟩ ⟨(hI _ _).2 ⟨j + 1, some ⟨b, 0, none⟩, n2, c2, f3, rfl, by omega, (hbq.ext Y13).chg ch14 hrb, ?_, ?_, ?_, X13.chg ch14 (by simp; omega)⟩, ?_⟩⟩
    · rw [addr_add] at st14 ⊢
      rw [addr_add]
      rw [Nat.zero_add] at st14
      exact st14
    · rw [taxS_snoc hjl, em, et, eu, hadd, List.map_set]
      exact hor3
    · intro hm2
      rcases hf3 r hm2 with h8 | h8
      · rcases hf2 r h8 with h9 | h9 | h9
        · exact hrf h9
        · have := (hfR r h9).1; have := hbr.lt; have := (((y4.trans D4).trans y6).trans y7).le; have := D7.le; omega
        · have := hbr.lt; omega
      · rcases List.mem_append.1 h8 with h9 | h9
        · have h10 := hfif r (List.mem_append_left _ h9)
          rcases hf2 r h10 with h9 | h9 | h9
          · exact hrf h9
          · have := (hfR r h9).1; have := hbr.lt; have := (((y4.trans D4).trans y6).trans y7).le; have := D7.le; omega
          · have := hbr.lt; omega
        · rcases List.mem_append.1 h9 with h9 | h9
          · have := (hou2.lt r h9).1; have := hbr.lt; omega
          · have h10 := hfif r (List.mem_append_right _ (List.mem_append_right _ h9))
            rcases hf2 r h10 with h9 | h9 | h9
            · exact hrf h9
            · have := (hfR r h9).1; have := hbr.lt; have := (((y4.trans D4).trans y6).trans y7).le; have := D7.le; omega
            · have := hbr.lt; omega
    · intro x hx2
      rw [List.take_succ_eq_append_getElem hjl] at hx2
      rcases List.mem_append.1 hx2 with hx2 | hx2
      · exact hall x hx2
      · simp only [List.mem_singleton] at hx2; rw [hx2]; exact hlt2
    · rw [hmu, hmu]; omega
  · have hjn : j = n := by omega
    subst hjn
    rw [List.take_of_length_le (by omega)] at hall hor hok hn' hlenS
    refine ⟨_, _, _, hbr.loadAt 0 rfl (by kernel_rfl) rfl, ?_⟩
    obtain ⟨S, hS⟩ : ∃ S, taxS l = S := ⟨_, rfl⟩
    rw [hS] at hor hok hn' hlenS
    obtain ⟨Inv1, hI1⟩ : ∃ I : Int -> World -> Prop, ∀ i wr', I i wr' ↔ ∃ (a : Nat) (f : List Nat), i = a /\ a <= n' /\ Blk wr' r T_impl_ordered_loop_example_g00793_impl_TaxSum [.slice q n' c', .func (.func n_impl_TaxSums_1) ⟨[]⟩ ⟨[]⟩] /\ OwnRows wr' w.heap.size T_impl_TaxSum 9 q n' c' ((S.take a).map (taxRowT g0 mode) ++ (S.drop a).map (taxRow g0)) f /\ r ∉ f /\ (∀ e ∈ S.take a, (taxOf g0 mode e).1 = true) /\ Ext w wr' := ⟨_, fun _ _ => Iff.rfl⟩
    obtain ⟨mu1, hmu1⟩ : ∃ m : Int -> World -> Nat, ∀ i wr', m i wr' = n' - i.toNat := ⟨fun i _ => n' - i.toNat, fun _ _ => rfl⟩
    refine ⟨Inv1, mu1, (hI1 _ _).2 ⟨0, f, rfl, by omega, hbr, by simpa using hor, hrf, fun e he => (by simp at he), hx⟩, ?_⟩
    clear hor hrf hx hbr hinv
    intro junk1 wa i1 hinv1
    obtain ⟨a, f, hi1, ha, hbr, hor, hrf, htx, hx⟩ := (hI1 _ _).1 hinv1
    subst hi1
    refine ifD (fun hlt1 => ?_) (fun hge1 => ?_)
    · have han : a < S.length := by omega
      have lx := hx.le
      obtain ⟨e, he⟩ : ∃ e, S[a]'han = e := ⟨_, rfl⟩
      have hml : ((S.take a).map (taxRowT g0 mode)).length = a := by rw [List.length_map, List.length_take]; omega
      have hdrop : S.drop a = e :: S.drop (a + 1) := by rw [List.drop_eq_getElem_cons han, he]
      have hrow : ((S.take a).map (taxRowT g0 mode) ++ (S.drop a).map (taxRow g0))[a]? = some (taxRow g0 e) := by
        rw [List.getElem?_append_right (by omega), hml, Nat.sub_self, hdrop]; rfl
      obtain ⟨b, xs, cs, zs, fi, hpb, hbB, hbf, hxl, hcl, hblk, how, hndi, hbfi, hfif, hput⟩ := hor.swap hrow
      subst hpb
      obtain ⟨k0, k1p, k1n, k1c, k1z, k2, k3, k4, k5p, k5n, k5c, k5z, k6, k7, k8p, k8n, k8c, k8z, rfl, hkd, _⟩ := open_TaxSum how.reps (taxRow_code g0 e)
      obtain ⟨fa, fbc, hfe, hoa, hobc⟩ := Owns.split (vs := [.bool k0, .slice k1p k1n k1c, .int .i64 k2]) (ds := dnn e.1 e.2.1) (us := [.string k3, .bool k4, .slice k5p k5n k5c, .string k6, .bool k7, .slice k8p k8n k8c]) (es := netOf g0 e ++ money0) rfl how
      obtain ⟨fb, fc, hfe2, hob, hoc⟩ := Owns.split (vs := [.string k3, .bool k4, .slice k5p k5n k5c]) (ds := netOf g0 e) (us := [.string k6, .bool k7, .slice k8p k8n k8c]) (es := money0) rfl hobc
      subst hfe2
      subst hfe
      have D := Ext.drew wa
      have hbl := hblk.lt; have hrl := hbr.lt
      refine ⟨_, _, _, hbr.loadAt 0 rfl (by kernel_rfl) rfl, ⟨by omega, by omega⟩, ?_⟩
      rw [Int.toNat_natCast]
      refine ⟨_, _, _, _, _, fun W hW => ((hblk.ext D).ext hW).loadAAt (a * 9 + 3) [.string k3, .bool k4, .slice k5p k5n k5c] (by rw [addr_add, addr_add, Nat.zero_add]) (by kernel_rfl) (by rw [<- hxl, List.append_assoc, List.drop_length_add_append]; rfl), _, _, _, _, _, fun W hW => ((hblk.ext D).ext hW).loadAAt (a * 9) [.bool k0, .slice k1p k1n k1c, .int .i64 k2] (by rw [addr_add, addr_add, Nat.zero_add, Nat.add_zero]) (by kernel_rfl) (by rw [<- hxl, List.append_assoc, List.drop_left']; rfl; rfl), ?_⟩
      intro ss w24 f1
      have S1 := FlS.first f1 rfl
      have y1 := D.trans f1.ext
      refine Ret.at (impl_TaxOn_o (hob.ext y1).reps (hoa.ext y1).reps rfl rfl mode (ht.ext (hx.trans y1))) ?_
      rintro v w25 ⟨vs0, g0', vs1, g1', hv, ho0, nd0, ho1, nd1, _, y2⟩
      subst hv
      have S2 := S1.ext y2
      obtain ⟨t0, t1, t2p, t2n, t2c, t2z, rfl, _, _⟩ := open_Money ho0.reps (taxOf_code g0 mode e)
      obtain ⟨u0, u1p, u1n, u1c, u1z, u2p, u2n, u2c, u2z, rfl, _, _, _⟩ := open_Rat ho1.reps (taxOnT_facts _ _ mode).2.2.1
      refine ⟨_, _, _, _, _, _, _, _, _, _, _, _, _, rfl, ?_⟩
      intro ss1 w26 r2 f2 g2 ss2 w27 r3 f3 g3
      have S3 := S2.step f2
      have S4 := S3.step f3
      have gg2 := f3.keeps g2
      obtain ⟨sr2, lr2, bk2⟩ := S4.blk gg2 rfl
      obtain ⟨sr3, lr3, bk3⟩ := S4.blk g3 rfl
      have ne23 := S4.ne gg2 g3 (by decide)
      have ap2 := S1.apart f2 g2
      have ap3 := S1.apart (f2.trans f3) g3
      have Y4 := ((y1.trans y2).trans f2.ext).trans f3.ext
      have Y25 : Ext w25 w27 := f2.ext.trans f3.ext
      have lD := D.le; have l27 := Y4.le; have l24 := f1.ext.le
      obtain ⟨w28, st28, bk28, ch28, sz28⟩ := bk2.storeA0 (P := P) (t := T_impl_Money) (xs := [.string t0, .bool t1, .slice t2p t2n t2c]) (by kernel_rfl) rfl (by simp [Value.oneCell'])
      have bk3' := bk3.chg ch28 (fun hm2 => ne23 (by simp at hm2; omega))
      obtain ⟨w29, st29, bk29, ch29, sz29⟩ := bk3'.storeA0 (P := P) (t := T_impl_Rat) (xs := [.bool u0, .slice u1p u1n u1c, .slice u2p u2n u2c]) (by kernel_rfl) rfl (by simp [Value.oneCell'])
      have X29 : Ext wa w29 := (Y4.chg ch28 (by simp; omega)).chg ch29 (by simp; omega)
      refine ⟨w28, st28, w29, st29, ifN (fun hno => no w29 (hx.trans X29) (taxSums_bad2 (e := e) (by rw [hS, <- he]; exact List.getElem_mem _) (by rw [hc0]; exact hno))) (fun hyes => ?_)⟩
      refine ⟨_, _, _, _, _, (bk28.chg ch29 (fun hm2 => ne23 (by simp at hm2; omega))).loadA0 (by kernel_rfl), ?_⟩
      have hb29 := hblk.ext X29
      obtain ⟨w30, st30, hb30, ch30, sz30⟩ := hb29.storeA (P := P) (t := T_impl_Money) (k := a * 9 + 6) (xs := [.string t0, .bool t1, .slice t2p t2n t2c]) (by kernel_rfl) (by simp [hxl]; omega) (by simp [Value.oneCell'])
      have hnew : (xs ++ [Value.bool k0, .slice k1p k1n k1c, .int .i64 k2, .string k3, .bool k4, .slice k5p k5n k5c, .string k6, .bool k7, .slice k8p k8n k8c] ++ zs).take (a * 9 + 6) ++ [Value.string t0, .bool t1, .slice t2p t2n t2c] ++ (xs ++ [Value.bool k0, .slice k1p k1n k1c, .int .i64 k2, .string k3, .bool k4, .slice k5p k5n k5c, .string k6, .bool k7, .slice k8p k8n k8c] ++ zs).drop (a * 9 + 6 + [Value.string t0, Value.bool t1, .slice t2p t2n t2c].length) = xs ++ [Value.bool k0, .slice k1p k1n k1c, .int .i64 k2, .string k3, .bool k4, .slice k5p k5n k5c, .string t0, .bool t1, .slice t2p t2n t2c] ++ zs := by
        rw [<- hxl, List.append_assoc xs, List.take_length_add_append, Nat.add_assoc, List.drop_length_add_append]
        simp
      rw [hnew] at hb30
      have l0 := ho0.lt
      have nb : ∀ {y}, y ∈ fa ++ (fb ++ fc) -> y ∉ [b] := fun {y} hy hm2 => by simp at hm2; subst hm2; exact hbfi hy
      have oa := (hoa.ext X29).chg ch30 (fun y hy => nb (List.mem_append_left _ hy))
      have ob := (hob.ext X29).chg ch30 (fun y hy => nb (List.mem_append_right _ (List.mem_append_left _ hy)))
      have ot : Owns w30 w24.heap.size [.string t0, .bool t1, .slice t2p t2n t2c] (taxOf g0 mode e).2.1 g0' := ((((ho0.ext Y25).chg ch28 (fun y hy hm2 => by have := l0 y hy; simp at hm2; omega)).chg ch29 (fun y hy hm2 => by have := l0 y hy; simp at hm2; omega)).chg ch30 (fun y hy hm2 => by have := l0 y hy; simp at hm2; omega))
      have hnd2 : (fa ++ (fb ++ g0')).Nodup := by
        have h8 : ((fa ++ fb) ++ (fc ++ [])).Nodup := by rw [List.append_nil, List.append_assoc]; exact hndi
        have h9 := nodup3 h8 nd0 (m := w24.heap.size) (fun y hy => by
          have := (how.lt y (by simpa using hy)).2
          omega) (fun y hy => (l0 y hy).1)
        simpa using h9
      obtain ⟨f4, hor4, hf4⟩ := hput w30 _ (taxRowT g0 mode e) (fa ++ (fb ++ g0')) (X29.toChg.trans ch30) rfl hb30 (Owns.append oa (Owns.append ob (ot.mono (by omega)))) hnd2 (fun y hy => by
        rcases List.mem_append.1 hy with hy | hy
        · exact .inl (List.mem_append_left _ hy)
        · rcases List.mem_append.1 hy with hy | hy
          · exact .inl (List.mem_append_right _ (List.mem_append_left _ hy))
          · refine .inr fun hm2 => ?_
            have h8 := (l0 y hy).1; have h9 := (hor.lt y hm2).2; omega)
      have hrb : r ∉ [b] := fun hm2 => by simp at hm2; subst hm2; exact hrf hbf
      refine ⟨w30, ?_, exW ⟨by omega, by omega⟩ ⟨(hI1 _ _).2 ⟨a + 1, f4, rfl, by omega, (hbr.ext X29).chg ch30 hrb, ?_, ?_, ?_, (hx.trans X29).chg ch30 (by simp; omega)⟩, ?_⟩⟩
      · rw [addr_add] at st30
        rw [addr_add, addr_add]
        rw [Nat.zero_add] at st30
        rw [Nat.zero_add]
        exact st30
      · have e2 : ((S.take a).map (taxRowT g0 mode) ++ (S.drop a).map (taxRow g0)).set a (taxRowT g0 mode e) = (S.take (a + 1)).map (taxRowT g0 mode) ++ (S.drop (a + 1)).map (taxRow g0) := by
          rw [List.set_append_right _ _ (by omega), hml, Nat.sub_self, hdrop, List.map_cons, List.set_cons_zero, List.take_succ_eq_append_getElem han, he, List.map_append, List.append_assoc]
          rfl
        rw [<- e2]
        exact hor4
      · intro hm2
        rcases hf4 r hm2 with h8 | h8
        · exact hrf h8
        · rcases List.mem_append.1 h8 with h9 | h9
          · exact hrf (hfif r (List.mem_append_left _ h9))
          · rcases List.mem_append.1 h9 with h9 | h9
            · exact hrf (hfif r (List.mem_append_right _ (List.mem_append_left _ h9)))
            · have := (l0 r h9).1; omega
      · intro e2 he2
        rw [List.take_succ_eq_append_getElem han, he] at he2
        rcases List.mem_append.1 he2 with he2 | he2
        · exact htx e2 he2
        · simp only [List.mem_singleton] at he2; rw [he2]; exact hyes
      · rw [hmu1, hmu1]; omega
    · have han : a = S.length := by omega
      rw [han, List.take_length, List.drop_length, List.map_nil, List.append_nil] at hor
      rw [han, List.take_length] at htx
      have hyes : taxSumsOk l mode = true := by
        unfold taxSumsOk
        rw [hc0, hS]
        simp only [Bool.and_eq_true, List.all_eq_true]
        refine ⟨?_, hall, htx⟩
        cases l with
        | nil => simp at hln; omega
        | cons _ _ => rfl
      refine ⟨_, _, _, hbr.loadAt 0 rfl (by kernel_rfl) rfl, q, n', c', f, by rw [hyes], ?_, kc, kn, hx⟩
      unfold taxSums
      rw [hyes, if_pos rfl, hc0, hS]
      exact hor
end Go.Proofs.YtbgokfhcgcoipaaDoor
namespace Go.Proofs.YtbgokfhcgcoipaaDoor
open Go Go.Proofs.YtbgokfhcgcoipaaDoor.Sx
def AllR (w : World) (k : Nat) : List (List Value) -> List (List D0) -> Prop
  | [], [] => True
  | cs :: css, x :: l => cs.length = k /\ Reps w cs x /\ AllR w k css l
  | _, _ => False
theorem AllR.ext {w w' : World} {k : Nat} : ∀ {css : List (List Value)} {l : List (List D0)}, AllR w k css l -> Ext w w' -> AllR w' k css l
  | [], [], _, _ => trivial
  | _ :: _, _ :: _, h, e => ⟨h.1, h.2.1.ext e, AllR.ext h.2.2 e⟩
  | [], _ :: _, h, _ => h.elim
  | _ :: _, [], h, _ => h.elim
theorem AllR.snoc {w : World} {k : Nat} {cs : List Value} {x : List D0} (hc : cs.length = k) (hr : Reps w cs x) : ∀ {css : List (List Value)} {l : List (List D0)}, AllR w k css l -> AllR w k (css ++ [cs]) (l ++ [x])
  | [], [], _ => ⟨hc, hr, trivial⟩
  | _ :: _, _ :: _, h => ⟨h.1, h.2.1, AllR.snoc hc hr h.2.2⟩
  | [], _ :: _, h => h.elim
  | _ :: _, [], h => h.elim
theorem AllR.at {w : World} {k : Nat} : ∀ {css : List (List Value)} {l : List (List D0)}, AllR w k css l -> ∀ i x, l[i]? = some x -> ∃ cs, cs.length = k /\ Reps w cs x /\ (css.flatten.drop (i * k)).take k = cs
  | [], [], _, i, x, hx => by simp at hx
  | cs :: css, y :: l, h, i, x, hx => by
    cases i with
    | zero =>
      simp only [List.getElem?_cons_zero, Option.some.injEq] at hx
      subst hx
      refine ⟨cs, h.1, h.2.1, ?_⟩
      rw [Nat.zero_mul, List.drop_zero, List.flatten_cons, <- h.1, List.take_left]
    | succ i =>
      simp only [List.getElem?_cons_succ] at hx
      obtain ⟨c, h1, h2, h3⟩ := AllR.at h.2.2 i x hx
      refine ⟨c, h1, h2, ?_⟩
      rw [List.flatten_cons, Nat.succ_mul, Nat.add_comm, <- List.drop_drop, <- h.1, List.drop_left, h.1]
      exact h3
  | [], _ :: _, h, _, _, _ => h.elim
  | _ :: _, [], h, _, _, _ => h.elim
theorem rows_of_own {w : World} {B : Nat} {e : TypeId} {k : Nat} {p : Option Addr} {n c : Nat} {css : List (List Value)} {l : List (List D0)} (h : Own w B e k p n c css.flatten) (ha : AllR w k css l) (hl : l.length = n) : RowsR w k p n c l := by
  refine ⟨hl, h.le, h.capLe, fun hn => ?_⟩
  obtain ⟨b, hp, _, hs⟩ := h.seg hn
  refine ⟨b, 0, hp, fun i x hx => ?_⟩
  obtain ⟨cs, h1, h2, h3⟩ := ha.at i x hx
  exact ⟨cs, h1, h2, by rw [<- h3]; exact (hs.drop (i * k)).take k⟩
end Go.Proofs.YtbgokfhcgcoipaaDoor
namespace Go.Proofs.YtbgokfhcgcoipaaDoor
open Go Go.Proofs.YtbgokfhcgcoipaaDoor.Sx
def taxTA (x : List D0) : List D0 := (x.drop 3).take 3
def taxTB (x : List D0) : List D0 := (x.drop 6).take 3
def curAt (l : List (List D0)) : ByteArray := match taxTA (l.getD 0 []) with
  | .str s :: _ => s
  | _ => ByteArray.empty
def taxTOk (cur : ByteArray) (l : List (List D0)) : Bool := decide (0 < l.length) && (msAll cur (l.map taxTA) && msAll cur (l.map taxTB))
def taxTR (cur : ByteArray) (f : List D0 -> List D0) (l : List (List D0)) : List D0 := if taxTOk cur l then moneySum cur (l.map f) else zeroMoney
theorem taxTR_code (cur : ByteArray) (f : List D0 -> List D0) (l : List (List D0)) : (taxTR cur f l).map D0.code = [.str, .bool, .ints] := by unfold taxTR; split; exact moneySum_code _ _; rfl
theorem taxTR_cnt {cur : ByteArray} {f : List D0 -> List D0} {l : List (List D0)} (hl : l.length <= 1048576) : tcnts (taxTR cur f l) <= 1000000000 := by
  unfold taxTR
  split
  · exact moneySum_cnt (by simpa using hl)
  · decide
theorem taxTA_code {l : List (List D0)} (hc : ∀ x ∈ l, x.map D0.code = [.bool, .ints, .int, .str, .bool, .ints, .str, .bool, .ints]) : ∀ x ∈ l.map taxTA, x.map D0.code = [.str, .bool, .ints] := fun x hx => by
  obtain ⟨y, hy, rfl⟩ := List.mem_map.1 hx
  unfold taxTA
  rw [List.map_take, List.map_drop, hc y hy]; rfl
theorem taxTB_code {l : List (List D0)} (hc : ∀ x ∈ l, x.map D0.code = [.bool, .ints, .int, .str, .bool, .ints, .str, .bool, .ints]) : ∀ x ∈ l.map taxTB, x.map D0.code = [.str, .bool, .ints] := fun x hx => by
  obtain ⟨y, hy, rfl⟩ := List.mem_map.1 hx
  unfold taxTB
  rw [List.map_take, List.map_drop, hc y hy]; rfl
theorem taxT_snoc {f : List D0 -> List D0} {l : List (List D0)} {j : Nat} (hj : j < l.length) : (l.take (j + 1)).map f = (l.take j).map f ++ [f (l[j]'hj)] := by
  rw [take_snoc (List.getElem?_eq_getElem hj), List.map_append]; rfl
theorem taxT_sliceT : sliceT P T_s_impl_Money T_impl_Money (.agg ⟨[.string ByteArray.empty, .bool false, .slice none 0 0]⟩) 3 48 := ⟨by kernel_rfl, by kernel_rfl, rfl, by decide⟩
theorem impl_TaxTotal_c {w : World} {p : Option Addr} {n c : Nat} {l : List (List D0)} (h : RowsR w 9 p n c l) (hc : ∀ x ∈ l, x.map D0.code = [.bool, .ints, .int, .str, .bool, .ints, .str, .bool, .ints]) (hn : n <= 1048576) (hbb : ∀ x ∈ l, bulks x <= 1048576) (ht : Tab w) :
    Ret P n_impl_TaxTotal [.slice p n c] w fun v w' => ∃ vs0 f0 vs1 f1, v = .tuple #[.agg ⟨vs0⟩, .agg ⟨vs1⟩, .bool (taxTOk (curAt l) l)] /\ Owns w' w.heap.size vs0 (taxTR (curAt l) taxTA l) f0 /\ f0.Nodup /\ (taxTR (curAt l) taxTA l).map D0.code = [.str, .bool, .ints] /\ tcnts (taxTR (curAt l) taxTA l) <= 1000000000 /\ Owns w' w.heap.size vs1 (taxTR (curAt l) taxTB l) f1 /\ f1.Nodup /\ (taxTR (curAt l) taxTB l).map D0.code = [.str, .bool, .ints] /\ tcnts (taxTR (curAt l) taxTB l) <= 1000000000 /\ (∀ k ∈ f0, k ∉ f1) /\ Ext w w' := by
  have hz := h.1; have hcap := h.2.1; have hcm := h.2.2.1
  refine impl_TaxTotal_ret ?_
  unfold impl_TaxTotal
  intro r w1 hn1 r1 w2 hn2
  have e1 := hn1.r_eq; have e2 := hn2.r_eq; have s1 := hn1.size; have s2 := hn2.size
  have X2 := hn1.ext.trans hn2.ext
  have K0 := hn1.blk.ext hn2.ext; have K1 := hn2.blk
  have zero : ∀ W, Ext w2 W -> taxTOk (curAt l) l = false -> ∃ wv_19, Stores P T_impl_Money ⟨r, 0, none⟩ (.agg #[(.string ByteArray.empty), (.bool false), (.slice none 0 0)]) W wv_19 /\
      ∃ wv_20, Stores P T_impl_Money ⟨r1, 0, none⟩ (.agg #[(.string ByteArray.empty), (.bool false), (.slice none 0 0)]) wv_19 wv_20 /\
      ∃ (r0_2 : ByteArray) (r1_2 : Bool) (r2_p_2 : Option Addr) (r2_n_2 : Nat) (r2_c_2 : Nat), Loads P T_impl_Money ⟨r, 0, none⟩ (.agg #[(.string r0_2), (.bool r1_2), (.slice r2_p_2 r2_n_2 r2_c_2)]) wv_20 /\ ∃ (r0_3 : ByteArray) (r1_3 : Bool) (r2_p_3 : Option Addr) (r2_n_3 : Nat) (r2_c_3 : Nat), Loads P T_impl_Money ⟨r1, 0, none⟩ (.agg #[(.string r0_3), (.bool r1_3), (.slice r2_p_3 r2_n_3 r2_c_3)]) wv_20 /\ (fun (v : Value) (w' : World) => ∃ vs0 f0 vs1 f1, v = .tuple #[.agg ⟨vs0⟩, .agg ⟨vs1⟩, .bool (taxTOk (curAt l) l)] /\ Owns w' w.heap.size vs0 (taxTR (curAt l) taxTA l) f0 /\ f0.Nodup /\ (taxTR (curAt l) taxTA l).map D0.code = [.str, .bool, .ints] /\ tcnts (taxTR (curAt l) taxTA l) <= 1000000000 /\ Owns w' w.heap.size vs1 (taxTR (curAt l) taxTB l) f1 /\ f1.Nodup /\ (taxTR (curAt l) taxTB l).map D0.code = [.str, .bool, .ints] /\ tcnts (taxTR (curAt l) taxTB l) <= 1000000000 /\ (∀ k ∈ f0, k ∉ f1) /\ Ext w w') (.tuple #[(.agg #[(.string r0_2), (.bool r1_2), (.slice r2_p_2 r2_n_2 r2_c_2)]), (.agg #[(.string r0_3), (.bool r1_3), (.slice r2_p_3 r2_n_3 r2_c_3)]), (.bool false)]) wv_20 := by
    intro W hW hno
    obtain ⟨w6, st6, hb6, ch6, sz6⟩ := (K0.ext hW).storeA0 (P := P) (t := T_impl_Money) (xs := [.string ByteArray.empty, .bool false, .slice none 0 0]) (by kernel_rfl) rfl (by simp [Value.oneCell'])
    obtain ⟨w7, st7, hb7, ch7, sz7⟩ := ((K1.ext hW).chg ch6 (by simp; omega)).storeA0 (P := P) (t := T_impl_Money) (xs := [.string ByteArray.empty, .bool false, .slice none 0 0]) (by kernel_rfl) rfl (by simp [Value.oneCell'])
    have z : ∀ f, taxTR (curAt l) f l = zeroMoney := fun f => by unfold taxTR; rw [hno]; rfl
    have oz : Owns w7 w.heap.size [.string ByteArray.empty, .bool false, .slice none 0 0] zeroMoney [] := Owns.append (Owns.str _ _ _) (Owns.append (Owns.bool _ _ false) (Owns.ints (zs := []) (Own.nil w7 w.heap.size T_int 1)))
    refine ⟨w6, st6, w7, st7, _, _, _, _, _, (hb6.chg ch7 (by simp; omega)).loadA0 (by kernel_rfl), _, _, _, _, _, hb7.loadA0 (by kernel_rfl), [.string ByteArray.empty, .bool false, .slice none 0 0], [], [.string ByteArray.empty, .bool false, .slice none 0 0], [], by rw [hno], by rw [z]; exact oz, List.nodup_nil, taxTR_code _ _ _, taxTR_cnt (by omega), by rw [z]; exact oz, List.nodup_nil, taxTR_code _ _ _, taxTR_cnt (by omega), by simp, ((X2.trans hW).chg ch6 (by simp; omega)).chg ch7 (by simp; omega)⟩
  refine ifD (fun h0 => zero _ (Ext.refl _) (by unfold taxTOk; rw [decide_eq_false (show ¬ 0 < l.length by omega)]; rfl)) (fun h0 => ?_)
  intro r2 w3 hn3 r3 w4 hn4
  have e3 := hn3.r_eq; have e4 := hn4.r_eq; have s3 := hn3.size; have s4 := hn4.size
  refine ⟨fun ap an ac bp bn bc i wr => ∃ (css dss : List (List Value)), i = an /\ an <= n /\ bn = an /\ Ext w2 wr /\ Own wr w2.heap.size T_impl_Money 3 ap an ac css.flatten /\ Own wr w2.heap.size T_impl_Money 3 bp an bc dss.flatten /\ (∀ q, ap.map (·.block) = some q -> bp.map (·.block) ≠ some q) /\ AllR w 3 css ((l.take an).map taxTA) /\ AllR w 3 dss ((l.take an).map taxTB), fun _ _ _ _ _ _ i _ => n - i.toNat,
    ⟨[], [], rfl, by omega, rfl, hn3.ext.trans hn4.ext, Own.of_blk0 (hn3.blk.ext hn4.ext) (by omega) (by simp) (by decide), Own.of_blk0 hn4.blk (by omega) (by simp) (by decide), fun q h1 h2 => by simp at h1 h2; omega, trivial, trivial⟩, ?_⟩
  intro junk wr ap an ac bp bn bc i ⟨css, dss, hi, hle, hbn, hx, hoa, hob, hdis, hra, hrb⟩
  subst hi; subst hbn
  have lx := hx.le
  refine ifD (fun hlt => ?_) (fun hge => ?_)
  · have hjl : bn < l.length := by omega
    obtain ⟨b, off, hpp, hs⟩ := h.2.2.2 (by omega)
    subst hpp
    obtain ⟨cs, hk, hr, hsg⟩ := hs bn _ (List.getElem?_eq_getElem hjl)
    have hcode := hc _ (List.getElem_mem hjl)
    have hrr := hr
    obtain ⟨a0, a1p, a1n, a1c, a1z, a2, a3, a4, a5p, a5n, a5c, a5z, a6, a7, a8p, a8n, a8c, a8z, rfl, hd, ir1, ir5, ir8⟩ := open_TaxSum hr hcode
    have hl : Loads P T_impl_TaxSum (((⟨b, off, none⟩ : Addr)).add (((bn : Nat) : Int).toNat * 9)) (.agg ⟨[.bool a0, .slice a1p a1n a1c, .int .i64 a2, .string a3, .bool a4, .slice a5p a5n a5c, .string a6, .bool a7, .slice a8p a8n a8c]⟩) wr := by
      rw [Int.toNat_natCast, addr_add]; exact loadsA (by kernel_rfl) (hsg.ext (X2.trans hx))
    have sa := taxT_snoc (f := taxTA) hjl; have sb := taxT_snoc (f := taxTB) hjl
    rw [hd] at sa sb
    refine ⟨⟨by omega, by omega⟩, _, _, _, _, _, _, _, _, _, _, _, _, _, _, _, hl, ?_⟩
    intro r4 w5 hn5
    obtain ⟨w6, st6, hb6, y6⟩ := hn5.fill (P := P) (t := T_impl_TaxSum) hrr.cells1 (by kernel_rfl) rfl
    refine ⟨w6, st6, _, _, _, _, _, hb6.loadAAt 3 [.string a3, .bool a4, .slice a5p a5n a5c] rfl (by kernel_rfl) rfl, ?_⟩
    intro r5 w7 hn7
    have l6 := y6.le; have l7 := hn7.ext.le; have e7 := hn7.r_eq
    have y7 := y6.trans hn7.ext
    obtain ⟨p8, c8, w8, a8, o8, ch8, d8⟩ := (hoa.ext y7).push1 (P := P) taxT_sliceT (by omega) hn7.blk rfl (by simp [Value.oneCell']) (by omega) (by omega)
    have pa : ∀ q ∈ (ap.map (·.block)).toList, w2.heap.size <= q /\ q < wr.heap.size := fun q hq => World.ownsRow.lt hoa q (by cases ap <;> simp_all [Value.ownBlock])
    have pb : ∀ q, bp.map (·.block) = some q -> w2.heap.size <= q /\ q < wr.heap.size := fun q hq => World.ownsRow.lt hob q (by rw [<- hq]; cases bp <;> rfl)
    have hob8 := (hob.ext y7).chg ch8 (fun q hq hm => hdis q (opt_mem hm) hq)
    have x8 : Ext w2 w8 := (hx.trans y7).chg ch8 fun q hq => (pa q hq).1
    have l8 := ch8.size
    have e5 := hn5.r_eq
    have hb8 := (hb6.ext hn7.ext).chg ch8 (fun hm => by have := (pa _ hm).2; omega)
    refine ⟨_, _, _, _, a8, _, _, _, _, _, hb8.loadAAt 6 [.string a6, .bool a7, .slice a8p a8n a8c] rfl (by kernel_rfl) rfl, ?_⟩
    intro r6 w9 hn9
    have l9 := hn9.ext.le; have e9 := hn9.r_eq; have s9 := hn9.size
    obtain ⟨p10, c10, w10, a10, o10, ch10, d10⟩ := (hob8.ext hn9.ext).push1 (P := P) taxT_sliceT (by omega) hn9.blk rfl (by simp [Value.oneCell']) (by omega) (by omega)
    have pbl : ∀ q ∈ (bp.map (·.block)).toList, w2.heap.size <= q /\ q < wr.heap.size := fun q hq => pb q (opt_mem hq)
    have hd8 : ∀ q, p8.map (·.block) = some q -> bp.map (·.block) ≠ some q := fun q hq hb => by
      rcases d8 with d8 | d8
      · exact hdis q (d8 ▸ hq) hb
      · have := d8 q hq; have := (pb q hb).2; omega
    have p8lt : ∀ q, p8.map (·.block) = some q -> q < w8.heap.size := fun q hq => (World.ownsRow.lt o8 q (by rw [<- hq]; cases p8 <;> rfl)).2
    have o8' := (o8.ext hn9.ext).chg ch10 (fun q hq hm => hd8 q hq (opt_mem hm))
    have x10 : Ext w2 w10 := (x8.trans hn9.ext).chg ch10 fun q hq => (pbl q hq).1
    refine ⟨_, _, _, _, a10, exW ⟨by omega, by omega⟩ ⟨⟨css ++ [[.string a3, .bool a4, .slice a5p a5n a5c]], dss ++ [[.string a6, .bool a7, .slice a8p a8n a8c]], by omega, by omega, rfl, x10, by simpa using o8', by simpa using o10, fun q hq hb => ?_, ?_, ?_⟩, ?_⟩⟩
    · rcases d10 with d10 | d10
      · exact hd8 q hq (d10 ▸ hb)
      · have := d10 q hb; have := p8lt q hq; omega
    · rw [sa]
      refine AllR.snoc (k := 3) rfl ?_ hra; exact ⟨rfl, rfl, ⟨_, _, _, rfl, ir5⟩, trivial⟩
    · rw [sb]
      refine AllR.snoc (k := 3) rfl ?_ hrb; exact ⟨rfl, rfl, ⟨_, _, _, rfl, ir8⟩, trivial⟩
    · show n - ((bn : Int) + 1).toNat < n - (bn : Int).toNat
      omega
  · have hjn : bn = n := by omega
    rw [List.take_of_length_le (by omega)] at hra hrb
    have Xr := X2.trans hx
    have rowsA := rows_of_own hoa (hra.ext Xr) (by simp; omega)
    have rowsB := rows_of_own hob (hrb.ext Xr) (by simp; omega)
    obtain ⟨b, off, hpp, hs⟩ := h.2.2.2 (by omega)
    subst hpp
    have hcur : ∀ W, Ext w W -> Loads P T_string ((((⟨b, off, none⟩ : Addr).add (0 * 9)).add 3).add 0) (.string (curAt l)) W := by
      intro W hW
      obtain ⟨cs, hk, hr, hsg⟩ := hs 0 _ (List.getElem?_eq_getElem (show 0 < l.length by omega))
      obtain ⟨a0, a1p, a1n, a1c, a1z, a2, a3, a4, a5p, a5n, a5c, a5z, a6, a7, a8p, a8n, a8c, a8z, rfl, hd, _⟩ := open_TaxSum hr (hc _ (List.getElem_mem _))
      have : curAt l = a3 := by
        unfold curAt
        rw [List.getD_eq_getElem?_getD, List.getElem?_eq_getElem (show 0 < l.length by omega)]
        show (match taxTA (l[0]'(by omega)) with | .str s :: _ => s | _ => ByteArray.empty) = a3
        rw [hd]; rfl
      rw [this]
      exact (hsg.ext hW).loadAt 3 (by simp [Addr.add]) (by kernel_rfl) rfl
    refine ⟨⟨by omega, by omega⟩, _, hcur wr Xr, ?_⟩
    refine Ret.at (impl_MoneySum_c (curAt l) rowsA (taxTA_code hc) (by omega) (ht.ext Xr)) ?_
    rintro v w5 ⟨vs5, f5, hv, ho5, hnd5, y5⟩
    subst hv
    have ho5' := ho5
    obtain ⟨d0, d1, dp, dn, dc, dz, rfl, _, _⟩ := open_Money ho5.reps (moneySum_code _ _)
    refine ⟨_, _, _, _, _, _, rfl, ?_⟩
    intro r7 w6 hn6
    obtain ⟨w7, st7, hb7, y7⟩ := hn6.fill (P := P) (t := T_impl_Money) (xs := [.string d0, .bool d1, .slice dp dn dc]) (by simp [Value.oneCell']) (by kernel_rfl) rfl
    have e6 := hn6.r_eq
    have Y7 := y5.trans y7
    refine ⟨w7, st7, ?_⟩
    refine ⟨⟨by omega, by omega⟩, _, hcur w7 (Xr.trans Y7), ?_⟩
    refine Ret.at (impl_MoneySum_c (curAt l) (rowsB.ext Y7) (taxTB_code hc) (by omega) (ht.ext (Xr.trans Y7))) ?_
    rintro v w8 ⟨vs8, f8, hv, ho8, hnd8, y8⟩
    subst hv
    have ho8' := ho8
    obtain ⟨g0, g1, gp, gn, gc, gz, rfl, _, _⟩ := open_Money ho8.reps (moneySum_code _ _)
    refine ⟨_, _, _, _, _, _, rfl, ?_⟩
    intro r8 w9 hn9
    have e9 := hn9.r_eq
    obtain ⟨w10, st10, hb10, y10⟩ := hn9.fill (P := P) (t := T_impl_Money) (xs := [.string g0, .bool g1, .slice gp gn gc]) (by simp [Value.oneCell']) (by kernel_rfl) rfl
    have Y10 := (hx.trans Y7).trans (y8.trans y10)
    have l5 := y5.le; have l7 := y7.le; have l8 := y8.le; have l10 := y10.le; have l6 := hn6.ext.le; have l9 := hn9.ext.le
    refine ⟨w10, st10, ifN (fun hno => ifT (zero _ Y10 (by unfold taxTOk; rw [hno]; simp))) (fun h1 => ifN (fun hno => zero _ Y10 (by unfold taxTOk; rw [hno]; simp)) (fun h2 => ?_))⟩
    have hok : taxTOk (curAt l) l = true := by unfold taxTOk; rw [h1, h2]; rw [decide_eq_true (show 0 < l.length by omega)]; rfl
    have hR : ∀ f, taxTR (curAt l) f l = moneySum (curAt l) (l.map f) := fun f => by unfold taxTR; rw [hok]; rfl
    have D := Ext.drew w10
    have lD := D.le
    have k7 := ((hb7.ext y8).ext y10).ext D
    have k8 := hb10.ext D
    obtain ⟨w11, st11, hb11, ch11, sz11⟩ := ((K0.ext Y10).ext D).storeA0 (P := P) (t := T_impl_Money) (xs := [.string d0, .bool d1, .slice dp dn dc]) (by kernel_rfl) rfl (by simp [Value.oneCell'])
    obtain ⟨w12, st12, hb12, ch12, sz12⟩ := (((K1.ext Y10).ext D).chg ch11 (by simp; omega)).storeA0 (P := P) (t := T_impl_Money) (xs := [.string g0, .bool g1, .slice gp gn gc]) (by kernel_rfl) rfl (by simp [Value.oneCell'])
    have o5 := ((((ho5'.ext (y7.trans (y8.trans y10))).ext D).chg1 ch11 (by omega)).chg1 ch12 (by omega)).mono (B' := w.heap.size) (by omega)
    have o8 := ((((ho8'.ext y10).ext D).chg1 ch11 (by omega)).chg1 ch12 (by omega)).mono (B' := w.heap.size) (by omega)
    refine ⟨[r], _, _, _, _, _, fun W hW => (k7.chg (show Chg [r] w10.drew W from hW) (by simp; omega)).loadA0 (by kernel_rfl), _, _, _, _, _, fun W hW => (k8.chg (show Chg [r] w10.drew W from hW) (by simp; omega)).loadA0 (by kernel_rfl), w11, st11, show Chg [r] w10.drew w11 from ch11, w12, st12, _, _, _, _, _, (hb11.chg ch12 (by simp; omega)).loadA0 (by kernel_rfl), _, _, _, _, _, hb12.loadA0 (by kernel_rfl), [.string d0, .bool d1, .slice dp dn dc], f5, [.string g0, .bool g1, .slice gp gn gc], f8, by rw [hok], by rw [hR]; exact o5, hnd5, taxTR_code _ _ _, taxTR_cnt (by omega), by rw [hR]; exact o8, hnd8, taxTR_code _ _ _, taxTR_cnt (by omega), fun k hk hm => ?_, (((X2.trans Y10).trans D).chg ch11 (by simp; omega)).chg ch12 (by simp; omega)⟩
    have h3 := (ho5'.lt k hk).2; have h4 := (ho8'.lt k hm).1
    omega
end Go.Proofs.YtbgokfhcgcoipaaDoor
namespace Go.Proofs.YtbgokfhcgcoipaaDoor
open Go Go.Proofs.YtbgokfhcgcoipaaDoor.Sx
def RV (d : List D0) (N : Int) (D : Nat) : Prop := ∃ (n : Int) (e k : Nat), d = rmk n e /\ ratOk (rmk n e) = true /\ 0 < e /\ 0 < k /\ N = n * k /\ D = e * k
theorem RV.pos {d : List D0} {N : Int} {D : Nat} (h : RV d N D) : 0 < D := by
  obtain ⟨n, e, k, _, _, h1, h2, _, rfl⟩ := h
  exact Nat.mul_pos h1 h2
theorem RV.scale {d : List D0} {N : Int} {D : Nat} (h : RV d N D) {j : Nat} (hj : 0 < j) : RV d (N * j) (D * j) := by
  obtain ⟨n, e, k, h0, h1, h2, h3, rfl, rfl⟩ := h
  exact ⟨n, e, k * j, h0, h1, h2, Nat.mul_pos h3 hj, by rw [Int.natCast_mul, Int.mul_assoc], by rw [Nat.mul_assoc]⟩
theorem RV.code {d : List D0} {N : Int} {D : Nat} (h : RV d N D) : d.map D0.code = [.bool, .ints, .ints] := by
  obtain ⟨n, e, k, rfl, _⟩ := h
  rfl
theorem red_parts (N : Int) {D : Nat} (hD : 0 < D) : ∃ g : Nat, 0 < g /\ N = redN N D * g /\ D = redD N D * g := by
  refine ⟨Nat.gcd N.natAbs D, gcd_pos_right hD, ?_, ?_⟩
  · unfold redN
    have h := Nat.div_mul_cancel (Nat.gcd_dvd_left N.natAbs D)
    generalize Nat.gcd N.natAbs D = g at *
    generalize N.natAbs / g = q at *
    split
    · rw [Int.neg_mul, <- Int.natCast_mul, h]; omega
    · rw [<- Int.natCast_mul, h]; omega
  · unfold redD
    exact (Nat.div_mul_cancel (Nat.gcd_dvd_right N.natAbs D)).symm
theorem RV.int {z : Int} (h : (digs z.natAbs).length <= 18) : RV (rmk z 1) z 1 := ⟨z, 1, 1, rfl, rmk_int_ok h, by decide, by decide, by omega, rfl⟩
end Go.Proofs.YtbgokfhcgcoipaaDoor
namespace Go.Proofs.YtbgokfhcgcoipaaDoor
open Go Go.Proofs.YtbgokfhcgcoipaaDoor.Sx
theorem rround_near {n : Int} {d : Nat} (m : Int) (hd : 0 < d) : (n - rround n d m * d).natAbs < d := by
  have e := Nat.div_add_mod n.natAbs d
  have l := Nat.mod_lt n.natAbs hd
  have hc : d * (n.natAbs / d) = n.natAbs / d * d := Nat.mul_comm _ _
  have key : (n.natAbs % d = 0 -> roundM n d m = n.natAbs / d) /\ (roundM n d m = n.natAbs / d ∨ roundM n d m = n.natAbs / d + 1) := by
    unfold roundM
    refine ⟨fun h => if_neg fun h2 => h2.1 h, ?_⟩
    split
    · exact .inr rfl
    · exact .inl rfl
  have fin : ∃ r : Int, n.natAbs = (roundM n d m * d : Nat) + r /\ r.natAbs < d := by
    by_cases h0 : n.natAbs % d = 0
    · rw [key.1 h0]; exact ⟨0, by omega, by simpa using hd⟩
    · rcases key.2 with h | h <;> rw [h]
      · exact ⟨((n.natAbs % d : Nat) : Int), by omega, by omega⟩
      · rw [Nat.succ_mul]
        exact ⟨((n.natAbs % d : Nat) : Int) - d, by omega, by omega⟩
  obtain ⟨r, h1, h2⟩ := fin
  rw [Int.natCast_mul] at h1
  unfold rround
  split
  · rw [Int.neg_mul]; omega
  · omega
theorem ex_val (u : Int) (m t : Nat) : exN u m t * (10 ^ t : Nat) = u * m * exD u m t /\ 0 < exD u m t := by
  have h10 : 0 < 10 ^ t := Nat.pos_of_ne_zero (by simp)
  obtain ⟨g, hg, e1, e2⟩ := red_parts (m : Int) h10
  have hB := redD_pos (n := (m : Int)) h10
  unfold exN exD
  generalize redN (m : Int) (10 ^ t) = A at *
  generalize redD (m : Int) (10 ^ t) = B at *
  have hB1 : 0 < 1 * B := by omega
  obtain ⟨h, hh, e3, e4⟩ := red_parts (u * A) hB1
  have hY := redD_pos (n := u * A) hB1
  generalize redN (u * A) (1 * B) = X at *
  generalize redD (u * A) (1 * B) = Y at *
  refine ⟨?_, hY⟩
  rw [e2, e1]
  have e4' : (B : Int) = (Y : Int) * (h : Int) := by rw [<- Int.natCast_mul, <- e4]; omega
  calc X * ((B * g : Nat) : Int) = X * ((Y : Int) * h * g) := by rw [Int.natCast_mul, e4']
    _ = X * h * (g * Y) := by rw [Int.mul_assoc X, Int.mul_comm (Y : Int) (h : Int), Int.mul_assoc, Int.mul_comm (Y : Int) (g : Int)]
    _ = u * A * (g * Y) := by rw [<- e3]
    _ = u * (A * g) * Y := by rw [Int.mul_assoc, Int.mul_assoc, Int.mul_assoc]
end Go.Proofs.YtbgokfhcgcoipaaDoor
namespace Go.Proofs.YtbgokfhcgcoipaaDoor
open Go Go.Proofs.YtbgokfhcgcoipaaDoor.Sx
theorem money_smallT {c : ByteArray} (hc : curKnown c = true) {z : Int} (h : z.natAbs < 1000000000) : moneyOk (.str c :: enc z) = true := by
  have h4 : (digs z.natAbs).length <= 1 := digs_len 1 (by omega)
  have h5 : intOk (enc z) = true := enc_ok (by omega)
  show (curKnown c && intOk (enc z) && decide ((digs z.natAbs).length <= 4)) = true
  rw [hc, h5, decide_eq_true (show (digs z.natAbs).length <= 4 by omega)]; rfl
theorem low_rates : ∀ z ∈ rateNums, ∀ s ∈ rateScales, taxOk (dnn (lowM z.toNat s.toNat) ((lowS z.toNat s.toNat : Nat) : Int)) = true /\ lowM z.toNat s.toNat <= 10 ^ lowS z.toNat s.toNat /\ s.toNat <= 30 /\ 0 <= z /\ 0 <= s /\ z <= 1000 := by decide +kernel
structure LineF (cur : ByteArray) (x : List D0) : Prop where
  form : x = (.str cur :: enc (lnU x)) ++ dnn (lnM x) ((lnS x : Nat) : Int)
  ok : lnOk cur x = true
  sc : lnS x <= 30
  num : lnM x <= 1000
  u : (lnU x).natAbs <= 8100
  low : taxOk (dnn (lowM (lnM x) (lnS x)) ((lowS (lnM x) (lnS x) : Nat) : Int)) = true
  lowle : lowM (lnM x) (lnS x) <= 10 ^ lowS (lnM x) (lnS x)
theorem TaxD.facts {cur : ByteArray} {x : List D0} (hc : curKnown cur = true) (h : TaxD cur x) : LineF cur x := by
  obtain ⟨u, z, s, rfl, u0, u1, hz, hs⟩ := h
  obtain ⟨l1, l2, l3, z0, s0, z1⟩ := low_rates z hz s hs
  obtain ⟨m, t, hf, ht⟩ := rate_form hz hs
  obtain ⟨a, ha⟩ : ∃ a : Nat, z = a := ⟨z.toNat, by omega⟩
  obtain ⟨b, hb⟩ : ∃ b : Nat, s = b := ⟨s.toNat, by omega⟩
  subst ha; subst hb
  rw [Int.toNat_natCast, Int.toNat_natCast] at l1 l2
  rw [Int.toNat_natCast] at l3
  rw [enc_nat] at hf
  have hU : lnU ((.str cur :: enc u) ++ (enc (a : Int) ++ [.int (b : Int)])) = u := ival_enc u
  have hM : lnM ((.str cur :: enc u) ++ (enc (a : Int) ++ [.int (b : Int)])) = a := by
    rw [enc_nat]
    show (val (digs a)).toNat = a
    rw [val_digs]; omega
  have hS : lnS ((.str cur :: enc u) ++ (enc (a : Int) ++ [.int (b : Int)])) = b := by
    show ((b : Int)).toNat = b
    omega
  have htx : taxOk (enc (a : Int) ++ [.int (b : Int)]) = true := by rw [enc_nat, hf]; exact ht
  refine ⟨?_, ?_, by rw [hS]; exact l3, by rw [hM]; omega, by rw [hU]; omega, by rw [hM, hS]; exact l1, by rw [hM, hS]; exact l2⟩
  · rw [hU, hM, hS, enc_nat]; rfl
  · show (moneyOk (.str cur :: enc u) && (taxOk (enc (a : Int) ++ [.int (b : Int)]) && decide (cur = cur))) = true
    rw [money_smallT hc (by omega), htx, decide_eq_true rfl]; rfl
theorem fold_units : ∀ (l : List (List D0)) (s : List TE) (M : Nat), (∀ e ∈ s, e.2.2.natAbs <= M) -> (∀ x ∈ l, (lnU x).natAbs <= 8100) -> ∀ e ∈ l.foldl (fun s x => taxAdd s (lnM x) (lnS x) (lnU x)) s, e.2.2.natAbs <= M + 8100 * l.length
  | [], s, M, h, _, e, he => by have := h e he; simp; omega
  | x :: r, s, M, h, hu, e, he => by
    have hx := hu x (by simp)
    have h2 : ∀ e ∈ taxAdd s (lnM x) (lnS x) (lnU x), e.2.2.natAbs <= M + 8100 := by
      intro y hy
      rcases taxAdd_cases s (lnM x) (lnS x) (lnU x) with ⟨p, hp, _, e1⟩ | ⟨p, e1⟩ <;> rw [e1] at hy
      · rcases List.mem_or_eq_of_mem_set hy with hy | hy
        · have := h y hy; omega
        · have := h _ (List.getElem_mem hp)
          subst hy
          show (s[p].2.2 + lnU x).natAbs <= _
          omega
      · rcases List.mem_append.1 hy with hy | hy
        · have := h y (List.mem_of_mem_take hy); omega
        · rcases List.mem_cons.1 hy with hy | hy
          · subst hy; show (lnU x).natAbs <= _; omega
          · have := h y (List.mem_of_mem_drop hy); omega
    have := fold_units r _ (M + 8100) h2 (fun y hy => hu y (by simp [hy])) e he
    rw [List.length_cons]; omega
def sumZ {α : Type} (f : α -> Int) : List α -> Int
  | [] => 0
  | x :: r => f x + sumZ f r
theorem sumZ_append {α : Type} (f : α -> Int) : ∀ (a b : List α), sumZ f (a ++ b) = sumZ f a + sumZ f b
  | [], b => by simp [sumZ]
  | x :: a, b => by have := sumZ_append f a b; show f x + sumZ f (a ++ b) = f x + sumZ f a + sumZ f b; omega
theorem sumZ_set {s : List TE} {p : Nat} {x : TE} (h : p < s.length) : sumZ (fun e : TE => e.2.2) (s.set p x) = sumZ (fun e : TE => e.2.2) s - s[p].2.2 + x.2.2 := by
  induction s generalizing p with
  | nil => simp at h
  | cons e s ih =>
    cases p with
    | zero => show x.2.2 + sumZ _ s = e.2.2 + sumZ _ s - e.2.2 + x.2.2; omega
    | succ p =>
      have := ih (p := p) (by simpa using h)
      show e.2.2 + sumZ _ (s.set p x) = e.2.2 + sumZ _ s - (s[p]'(by simpa using h)).2.2 + x.2.2
      omega
theorem fold_total : ∀ (l : List (List D0)) (s : List TE), sumZ (fun e : TE => e.2.2) (l.foldl (fun s x => taxAdd s (lnM x) (lnS x) (lnU x)) s) = sumZ (fun e : TE => e.2.2) s + sumZ lnU l
  | [], s => by show _ = _ + 0; rw [Int.add_zero]; rfl
  | x :: r, s => by
    have ih := fold_total r (taxAdd s (lnM x) (lnS x) (lnU x))
    have h1 : sumZ (fun e : TE => e.2.2) (taxAdd s (lnM x) (lnS x) (lnU x)) = sumZ (fun e : TE => e.2.2) s + lnU x := by
      rcases taxAdd_cases s (lnM x) (lnS x) (lnU x) with ⟨p, hp, _, e1⟩ | ⟨p, e1⟩ <;> rw [e1]
      · rw [sumZ_set hp]
        show _ - _ + (s[p].2.2 + lnU x) = _
        omega
      · have h2 : sumZ (fun e : TE => e.2.2) s = sumZ (fun e : TE => e.2.2) (s.take p) + sumZ (fun e : TE => e.2.2) (s.drop p) := by rw [<- sumZ_append, List.take_append_drop]
        rw [sumZ_append, h2]
        show _ + (lnU x + sumZ _ (s.drop p)) = _
        omega
    rw [List.foldl_cons, ih, h1]
    show _ = _ + (lnU x + sumZ lnU r)
    omega
theorem sumZ_bound {α : Type} {f : α -> Int} {M : Nat} : ∀ {l : List α}, (∀ x ∈ l, (f x).natAbs <= M) -> (sumZ f l).natAbs <= M * l.length
  | [], _ => by simp [sumZ]
  | x :: r, h => by
    have h1 := h x (by simp)
    have h2 := sumZ_bound (l := r) fun y hy => h y (by simp [hy])
    rw [List.length_cons, Nat.mul_succ]
    show (f x + sumZ f r).natAbs <= _
    omega
theorem sumI_Z {α : Type} (f : α -> Int) (g : α -> List D0) : ∀ l : List α, (∀ x ∈ l, moneyVal (g x) = f x) -> sumI moneyVal (l.map g) = sumZ f l
  | [], _ => rfl
  | x :: r, h => by
    have ih := sumI_Z f g r fun y hy => h y (by simp [hy])
    have h1 := h x (by simp)
    show moneyVal (g x) + sumI moneyVal (r.map g) = f x + sumZ f r
    rw [h1, ih]
theorem msAll_Z {α : Type} {c : ByteArray} (hc : curKnown c = true) (f : α -> Int) (g : α -> List D0) {l : List α} (hg : ∀ x ∈ l, g x = .str c :: enc (f x)) (hb : ∀ x ∈ l, (f x).natAbs < 1000000000) (hs : (sumZ f l).natAbs < 1000000000) :
    msAll c (l.map g) = true /\ moneySum c (l.map g) = .str c :: enc (sumZ f l) := by
  have e := sumI_Z f g l (fun x hx => by
    rw [hg x hx]
    show ival (enc (f x)) = _
    exact ival_enc _)
  have h1 : (l.map g).all (msOk c) = true := by
    rw [List.all_eq_true]
    intro x hx
    obtain ⟨y, hy, rfl⟩ := List.mem_map.1 hx
    rw [hg y hy]
    show (moneyOk (.str c :: enc (f y)) && decide (c = c)) = true
    rw [money_smallT hc (hb y hy), decide_eq_true rfl]; rfl
  have h2 := money_smallT hc hs
  constructor
  · unfold msAll; rw [h1, e, h2]; rfl
  · unfold moneySum moneyMk; rw [h1, e, h2]; rfl
def txE (mode : Int) (e : TE) : Int := rround (exN e.2.2 e.1 e.2.1) (exD e.2.2 e.1 e.2.1) mode
def rowE (c : ByteArray) (mode : Int) (e : TE) : List D0 := dnn e.1 ((e.2.1 : Nat) : Int) ++ ((.str c :: enc e.2.2) ++ (.str c :: enc (txE mode e)))
structure EntF (e : TE) : Prop where
  u : e.2.2.natAbs <= 48600
  tax : taxOk (dnn e.1 ((e.2.1 : Nat) : Int)) = true
  le : e.1 <= 10 ^ e.2.1
  num : e.1 <= 1000
  sc : e.2.1 <= 30
theorem txE_le {mode : Int} {e : TE} (h : EntF e) : (txE mode e).natAbs <= e.2.2.natAbs := by
  obtain ⟨h1, h2⟩ := ex_val e.2.2 e.1 e.2.1
  have hn := rround_near (n := exN e.2.2 e.1 e.2.1) mode h2
  unfold txE
  obtain ⟨X, hX⟩ : ∃ X, exN e.2.2 e.1 e.2.1 = X := ⟨_, rfl⟩
  obtain ⟨Y, hY⟩ : ∃ Y, exD e.2.2 e.1 e.2.1 = Y := ⟨_, rfl⟩
  rw [hX, hY] at h1 hn ⊢
  rw [hY] at h2
  obtain ⟨r, hr⟩ : ∃ r, rround X Y mode = r := ⟨_, rfl⟩
  rw [hr] at hn ⊢
  have hp : 0 < 10 ^ e.2.1 := Nat.pow_pos (by decide)
  have h3 : X.natAbs * 10 ^ e.2.1 = e.2.2.natAbs * e.1 * Y := by
    have := congrArg Int.natAbs h1
    rw [Int.natAbs_mul, Int.natAbs_mul, Int.natAbs_mul, Int.natAbs_natCast, Int.natAbs_natCast, Int.natAbs_natCast] at this
    exact this
  have h4 : X.natAbs <= e.2.2.natAbs * Y := by
    refine Nat.le_of_mul_le_mul_right (c := 10 ^ e.2.1) ?_ hp
    rw [h3, Nat.mul_right_comm]
    exact Nat.mul_le_mul_left _ h.le
  have h5 : r.natAbs * Y < (e.2.2.natAbs + 1) * Y := by
    have e1 : (r * (Y : Int)).natAbs = r.natAbs * Y := by rw [Int.natAbs_mul, Int.natAbs_natCast]
    rw [Nat.add_mul, Nat.one_mul, <- e1]
    omega
  have := Nat.lt_of_mul_lt_mul_right h5
  omega
theorem taxOf_eq {c : ByteArray} {mode : Int} {e : TE} (hc : curKnown c = true) (hm : modeOk mode = true) (h : EntF e) : (taxOf c mode e).1 = true /\ (taxOf c mode e).2.1 = .str c :: enc (txE mode e) := by
  have hmo := money_smallT hc (z := e.2.2) (by have := h.u; omega)
  have hcond : (moneyOk (.str c :: enc e.2.2) && taxOk (dnn e.1 ((e.2.1 : Nat) : Int))) = true := by rw [hmo, h.tax]; rfl
  have hv : ival (enc e.2.2) = e.2.2 := ival_enc _
  have hd : (val (digs e.1)).toNat = e.1 := by rw [val_digs]; omega
  have hr : rmOk c (exN e.2.2 e.1 e.2.1) (exD e.2.2 e.1 e.2.1) mode = true := by
    unfold rmOk
    have := txE_le (mode := mode) h
    have hu := h.u
    rw [hm, money_smallT hc (z := rround (exN e.2.2 e.1 e.2.1) (exD e.2.2 e.1 e.2.1) mode) (by unfold txE at this; omega)]; rfl
  have key : taxOf c mode e = (rmOk c (exN e.2.2 e.1 e.2.1) (exD e.2.2 e.1 e.2.1) mode, rmMoney c (exN e.2.2 e.1 e.2.1) (exD e.2.2 e.1 e.2.1) mode, rmRest c (exN e.2.2 e.1 e.2.1) (exD e.2.2 e.1 e.2.1) mode) := by
    show taxOnT [.str c, .bool (decide (e.2.2 < 0)), .ints (digs e.2.2.natAbs)] [.bool false, .ints (digs e.1), .int ((e.2.1 : Nat) : Int)] mode = _
    unfold taxOnT
    simp only
    have hcond' : (moneyOk [.str c, .bool (decide (e.2.2 < 0)), .ints (digs e.2.2.natAbs)] && taxOk [.bool false, .ints (digs e.1), .int ((e.2.1 : Nat) : Int)]) = true := hcond
    rw [if_pos hcond']
    have hv' : ival [.bool (decide (e.2.2 < 0)), .ints (digs e.2.2.natAbs)] = e.2.2 := hv
    rw [hv', hd, Int.toNat_natCast]
  rw [key]
  refine ⟨hr, ?_⟩
  show rmMoney _ _ _ _ = _
  unfold rmMoney
  rw [if_pos hr]; rfl
theorem sums_facts {cur : ByteArray} (hc : curKnown cur = true) {l : List (List D0)} {mode : Int} (hm : modeOk mode = true) (h : ∀ x ∈ l, LineF cur x) (h1 : 1 <= l.length) (h6 : l.length <= 6) :
    taxSumsOk l mode = true /\ taxSums l mode = (taxS l).map (rowE cur mode) /\ (∀ e ∈ taxS l, EntF e) /\ 0 < (taxS l).length /\ (taxS l).length <= 6 /\ OrdT (taxS l) /\ sumZ (fun e : TE => e.2.2) (taxS l) = sumZ lnU l := by
  obtain ⟨a, b, c, d⟩ := taxFold l [] (fun x hx => (h x hx).sc) List.Pairwise.nil (by simp)
  have hE : ∀ e ∈ taxS l, EntF e := fun e he => by
    have hu := fold_units l [] 0 (by simp) (fun x hx => (h x hx).u) e he
    obtain ⟨x, hx, hk⟩ : ∃ x ∈ l, keyT (lnM x) (lnS x) = TE.key e := by
      rcases (c (TE.key e)).1 ⟨e, he, rfl⟩ with ⟨y, hy, _⟩ | hh
      · simp at hy
      · exact hh
    obtain ⟨c1, c2⟩ := b e he
    have F := h x hx
    obtain ⟨q1, q2⟩ := low_key (m := lnM x) F.sc
    rw [hk] at q1 q2
    rw [q2] at c1; rw [q1] at c2
    have := lowM_le (lnM x) (lnS x); have := (lowS_spec (lnM x) (lnS x)).1; have := F.num; have := F.sc
    refine ⟨by omega, by rw [c1, c2]; exact F.low, by rw [c1, c2]; exact F.lowle, by omega, by omega⟩
  have hne : l ≠ [] := fun e => by subst e; simp at h1
  have hcur : hdCur l = cur := by
    cases l with
    | nil => exact absurd rfl hne
    | cons x r =>
      have hx := (h x (by simp)).form
      show lnCur x = cur
      rw [hx]; rfl
  have hlen : ∀ (l : List (List D0)) (s : List TE), (l.foldl (fun s x => taxAdd s (lnM x) (lnS x) (lnU x)) s).length <= s.length + l.length := by
    intro l
    induction l with
    | nil => intro s; exact Nat.le_refl _
    | cons x r ih =>
      intro s
      have := ih (taxAdd s (lnM x) (lnS x) (lnU x))
      have := taxAdd_len s (lnM x) (lnS x) (lnU x)
      rw [List.foldl_cons, List.length_cons]
      omega
  have hok : taxSumsOk l mode = true := by
    unfold taxSumsOk
    rw [hcur]
    have e1 : l.isEmpty = false := by cases l with | nil => exact absurd rfl hne | cons => rfl
    have e2 : l.all (lnOk cur) = true := List.all_eq_true.2 fun x hx => (h x hx).ok
    have e3 : ((taxS l).all fun e => (taxOf cur mode e).1) = true := List.all_eq_true.2 fun e he => (taxOf_eq hc hm (hE e he)).1
    rw [e1, e2, e3]; rfl
  refine ⟨hok, ?_, hE, ?_, ?_, a, ?_⟩
  · unfold taxSums
    rw [if_pos hok, hcur]
    refine List.map_congr_left fun e he => ?_
    unfold taxRowT
    rw [(taxOf_eq hc hm (hE e he)).2]; rfl
  · cases l with
    | nil => exact absurd rfl hne
    | cons x r =>
      obtain ⟨e, he, _⟩ := (c (keyT (lnM x) (lnS x))).2 (.inr ⟨x, by simp, rfl⟩)
      exact List.length_pos_of_mem he
  · have := hlen l []
    simp only [List.length_nil] at this
    exact Nat.le_trans this (by omega)
  · have := fold_total l []
    show sumZ _ (List.foldl _ _ _) = _
    rw [this]
    show 0 + _ = _
    omega
theorem total_facts {cur : ByteArray} (hc : curKnown cur = true) {s : List TE} {mode : Int} (h : ∀ e ∈ s, EntF e) (h1 : 0 < s.length) (h6 : s.length <= 6) :
    curAt (s.map (rowE cur mode)) = cur /\ taxTOk cur (s.map (rowE cur mode)) = true /\ taxTR cur taxTA (s.map (rowE cur mode)) = .str cur :: enc (sumZ (fun e : TE => e.2.2) s) /\ taxTR cur taxTB (s.map (rowE cur mode)) = .str cur :: enc (sumZ (txE mode) s) := by
  have b1 : ∀ e ∈ s, ((fun e : TE => e.2.2) e).natAbs <= 48600 := fun e he => (h e he).u
  have b2 : ∀ e ∈ s, (txE mode e).natAbs <= 48600 := fun e he => Nat.le_trans (txE_le (h e he)) (h e he).u
  have t1 := sumZ_bound b1; have t2 := sumZ_bound b2
  have hm : 48600 * s.length <= 48600 * 6 := Nat.mul_le_mul_left _ h6
  obtain ⟨m1, m2⟩ := msAll_Z hc (fun e : TE => e.2.2) (taxTA ∘ rowE cur mode) (l := s) (fun e _ => rfl) (fun e he => Nat.lt_of_le_of_lt (b1 e he) (by decide)) (by omega)
  obtain ⟨m3, m4⟩ := msAll_Z hc (txE mode) (taxTB ∘ rowE cur mode) (l := s) (fun e _ => rfl) (fun e he => by have := b2 e he; omega) (by omega)
  have ok : taxTOk cur (s.map (rowE cur mode)) = true := by
    unfold taxTOk
    rw [List.map_map, List.map_map, m1, m3, decide_eq_true (by simpa using h1)]; rfl
  refine ⟨?_, ok, ?_, ?_⟩
  · cases s with
    | nil => simp at h1
    | cons e r => rfl
  · unfold taxTR; rw [if_pos ok, List.map_map, m2]
  · unfold taxTR; rw [if_pos ok, List.map_map, m4]
theorem nets_facts {cur : ByteArray} (hc : curKnown cur = true) {l : List (List D0)} (h : ∀ x ∈ l, LineF cur x) (h6 : l.length <= 6) : msAll cur (l.map fun x => x.take 3) = true /\ moneySum cur (l.map fun x => x.take 3) = .str cur :: enc (sumZ lnU l) := by
  have b1 : ∀ x ∈ l, (lnU x).natAbs <= 8100 := fun x hx => (h x hx).u
  have t1 := sumZ_bound b1
  have hm : 8100 * l.length <= 8100 * 6 := Nat.mul_le_mul_left _ h6
  refine msAll_Z hc lnU (fun x => x.take 3) (fun x hx => ?_) (fun x hx => by have := b1 x hx; omega) (by omega)
  have := (h x hx).form
  conv => lhs; rw [this]
  rfl
theorem line_code {cur : ByteArray} {x : List D0} (h : LineF cur x) : x.map D0.code = [.str, .bool, .ints, .bool, .ints, .int] := by rw [h.form]; rfl
theorem line_bulk {cur : ByteArray} {x : List D0} (hs : cur.size <= 50) (h : LineF cur x) : bulks x <= 1048576 := by
  have h1 : (digs (lnU x).natAbs).length <= 1 := digs_len 1 (by have := h.u; omega)
  have h2 : (digs (lnM x)).length <= 1 := digs_len 1 (by have := h.num; omega)
  rw [h.form]
  simp only [enc, dnn, bulks, D0.bulk, List.cons_append, List.nil_append, List.map_cons, List.map_nil, List.sum_cons, List.sum_nil]
  omega
theorem rowE_code (c : ByteArray) (mode : Int) (e : TE) : (rowE c mode e).map D0.code = [.bool, .ints, .int, .str, .bool, .ints, .str, .bool, .ints] := rfl
theorem rowE_bulk {c : ByteArray} {mode : Int} {e : TE} (hs : c.size <= 50) (h : EntF e) : bulks (rowE c mode e) <= 1048576 := by
  have h1 : (digs e.2.2.natAbs).length <= 1 := digs_len 1 (by have := h.u; omega)
  have h2 : (digs e.1).length <= 1 := digs_len 1 (by have := h.num; omega)
  have h3 : (digs (txE mode e).natAbs).length <= 1 := digs_len 1 (by have := h.u; have := txE_le (mode := mode) h; omega)
  simp only [rowE, enc, dnn, bulks, D0.bulk, List.cons_append, List.nil_append, List.map_cons, List.map_nil, List.sum_cons, List.sum_nil]
  omega
theorem rows_less {s : List TE} (ho : OrdT s) (h : ∀ e ∈ s, EntF e) {i j : Nat} (hi : i < s.length) (hj : j < s.length) (hij : i < j) : dcmp (dnn s[i].1 ((s[i].2.1 : Nat) : Int)) (dnn s[j].1 ((s[j].2.1 : Nat) : Int)) < 0 := by
  have hk := List.pairwise_iff_getElem.1 ho i j hi hj hij
  have e1 := h _ (List.getElem_mem hi); have e2 := h _ (List.getElem_mem hj)
  have d1 : (digs s[i].1).length <= 6 := digs_len 6 (by have := e1.num; omega)
  have d2 : (digs s[j].1).length <= 6 := digs_len 6 (by have := e2.num; omega)
  rw [dcmp_key d1 d2 e1.sc e2.sc, sgn_neg2]
  have hk' : keyT s[i].1 s[i].2.1 < keyT s[j].1 s[j].2.1 := hk
  omega
end Go.Proofs.YtbgokfhcgcoipaaDoor
namespace Go.Proofs.YtbgokfhcgcoipaaDoor
open Go Go.Proofs.YtbgokfhcgcoipaaDoor.Sx
theorem impl_MoneySame_c {w : World} {xs ys : List Value} {dx dy : List D0} (h : Reps w xs dx) (k : Reps w ys dy) (hc : dx.map D0.code = [.str, .bool, .ints]) (kc : dy.map D0.code = [.str, .bool, .ints]) :
    Ret P n_impl_MoneySame [.agg ⟨xs⟩, .agg ⟨ys⟩] w fun v w' => v = .bool (decide (dx = dy)) /\ Ext w w' := by
  obtain ⟨a0, a1, a2p, a2n, a2c, a2z, rfl, rfl, ha⟩ := open_Money h hc
  obtain ⟨b0, b1, b2p, b2n, b2c, b2z, rfl, rfl, hb⟩ := open_Money k kc
  refine impl_MoneySame_ret ?_
  unfold impl_MoneySame
  intro r w1 hn1 r1 w2 hn2
  have x := hn1.ext.trans hn2.ext
  have k0 := hn1.blk.ext hn2.ext; have k1 := hn2.blk
  refine ⟨_, k0.load (by kernel_rfl) rfl, _, k1.load (by kernel_rfl) rfl, ifD (fun e => ?_) (fun e => ⟨dec_no (fun h => e (by simp at h; exact h.1)), x⟩)⟩
  subst e
  refine ⟨_, _, _, _, k0.loadA (xs := [.bool a1, .slice a2p a2n a2c]) (by kernel_rfl) rfl, _, _, _, _, k1.loadA (xs := [.bool b1, .slice b2p b2n b2c]) (by kernel_rfl) rfl, ?_⟩
  refine Ret.at (impl_intSame_c (dx := [.bool a1, .ints a2z]) (dy := [.bool b1, .ints b2z]) ⟨rfl, ⟨_, _, _, rfl, ha.ext x⟩, trivial⟩ ⟨rfl, ⟨_, _, _, rfl, hb.ext x⟩, trivial⟩ rfl rfl) ?_
  rintro v w3 ⟨hv, y⟩
  subst hv
  exact ⟨_, rfl, by simp, x.trans y⟩
end Go.Proofs.YtbgokfhcgcoipaaDoor
namespace Go.Proofs.YtbgokfhcgcoipaaDoor.Sx
open Go Go.RowKit Go.ChangeShapes Go.WideShapes
def rowedV (P : Program) (ns : List String) : Bool := ns.all fun n => ((P.globalNamed n).bind (P.globals[·]?)).all fun gl => P.readableRec gl.type && decide (gl.type < P.types.size)
section
variable {H : Type} {enc : TypeId × Value -> H} {P : Program}
theorem trodAll_ext (hl : laidOutB P = true) {W W' : World} (hb : Ext W W') (sp' : Nat -> Bool) : ∀ {ts : List TypeId} {vs : List Value} {ds : List (DataW H)} {ps : List MemPlace},
    (∀ t ∈ ts, P.readableRec t = true /\ t < P.types.size) -> (∀ p ∈ ps, p.block < W.heap.size) -> (∀ p ∈ ps, sp' p.block = true) ->
    DataW.TrodAll enc P W 0 (fun _ => true) true ts vs ds ps -> DataW.TrodAll enc P W' 0 sp' true ts vs ds ps
  | [], _, _, _, _, _, _, h => by
    obtain ⟨rfl, rfl, rfl⟩ := trodAll_nil h
    exact rfl
  | t :: ts, _, _, _, hr, hlt, hsp, h => by
    obtain ⟨v, vs1, d, ds1, a, b, rfl, rfl, rfl, h1, h2⟩ := trodAll_cons h
    have hrt := hr t (by simp)
    exact ⟨a, b, WideElems.Trod_stays hl hrt.1 hrt.2 h1 (fun x hx => Below.same hb (hlt x (by simp [hx]))) (fun x hx => hsp x (by simp [hx])),
      trodAll_ext hl hb sp' (fun u hu => hr u (by simp [hu])) (fun x hx => hlt x (by simp [hx])) (fun x hx => hsp x (by simp [hx])) h2, rfl⟩
theorem trodVars_sp (hl : laidOutB P = true) {W W' : World} (hb : Ext W W') (sp' : Nat -> Bool) :
    ∀ {ns : List String} {gs : List (DataW H)} {ps : List MemPlace}, rowedV P ns = true -> (∀ p ∈ ps, sp' p.block = true) -> DataW.TrodVars enc P W (fun _ => true) ns gs ps -> DataW.TrodVars enc P W' sp' ns gs ps
  | [], [], _, _, _, h => h
  | [], _ :: _, _, _, _, h => h.elim
  | _ :: _, [], _, _, _, h => h.elim
  | n :: ns, d :: ds, ps, hv, hsp, h => by
    have hlt := h.lt
    obtain ⟨g, t, cs, fuel, p, q, h1, h2, h3, h4, hs, e⟩ := h
    simp only [rowedV, List.all_cons, Bool.and_eq_true] at hv
    have ht : P.readableRec t = true /\ t < P.types.size := by
      have := hv.1
      rw [h1] at this
      cases hg : P.globals[g]? with
      | none => rw [hg] at h2; cases h2
      | some gl =>
        rw [hg] at h2
        obtain rfl : gl.type = t := Option.some.inj h2
        simpa [hg] using this
    have hp : ∀ x ∈ p, x.block < W.heap.size := fun x hx => hlt x (by rw [e]; simp [hx])
    have h3' : W'.var? P n = some cs := by
      unfold World.var? at h3 ⊢
      rw [h1] at h3 ⊢
      simp only [Option.bind_some] at h3 ⊢
      have hg : g < W.heap.size := by
        cases hh : W.heap[g]? with
        | none => rw [hh] at h3; cases h3
        | some o => exact (Array.getElem?_eq_some_iff.1 hh).1
      rw [hb.block g hg]; exact h3
    exact ⟨g, t, cs, fuel, p, q, h1, h2, h3', DataW.trod_stays (kids_book hl ht.1) (book_sized ht.1) (fun h => by cases h) ⟨ht.2, book_self t⟩ h4 (fun x hx => Below.same hb (hp x hx)) (fun x hx => hsp x (by rw [e]; simp [hx])),
      trodVars_sp hl hb sp' (by simpa [rowedV] using hv.2) (fun x hx => hsp x (by rw [e]; simp [hx])) hs, e⟩
theorem post_of_ext {f : Func} {s : ChangeSpec} {apart fresh handsOn again : Bool} {W W' : World} {args : Array Value} {ds gs : List (DataW H)} {before : List MemPlace} {tb : TypeId}
    (hl : laidOutB P = true) (hpar : ∀ t ∈ f.params.toList, P.readableRec t = true /\ t < P.types.size) (hvr : rowedV P s.vars = true)
    (hrt : f.resultTypes = #[tb]) (htb : P.underlying tb = some .bool)
    (hW : DataW.Whole enc P f.params.toList s.vars apart W args.toList ds gs before) (hx : Ext W W')
    (hfn : s.fn H (ds ++ gs) = { results := [.lit (.bool true)], args := ds, vars := gs }) :
    s.post enc P f apart fresh handsOn again W args (.bool true) W' := by
  have hW0 := hW
  have hlt : ∀ p ∈ before, p.block < W.heap.size := hW.lt
  obtain ⟨pa, pv, hA, hV, rfl, hz, hn⟩ := hW
  have hlta : ∀ p ∈ pa, p.block < W.heap.size := fun p hp => hlt p (by simp [hp])
  have hltv : ∀ p ∈ pv, p.block < W.heap.size := fun p hp => hlt p (by simp [hp])
  have hr : (Value.bool true).resultList f.resultTypes.size = [Value.bool true] := by rw [hrt]; rfl
  refine ⟨ds, gs, pa ++ pv, [], pa, pv, hW0, ?_, ?_, ?_, Below.frame hx _, fun _ => ?_⟩
  · rw [hfn, hr, hrt]
    exact trodAll_mk1 (shut_bool htb _)
  · rw [hfn]
    exact trodAll_ext hl hx _ hpar hlta (fun p hp => by simpa using hlta p hp) hA
  · rw [hfn]
    exact trodVars_sp hl hx _ hvr (fun p hp => by simpa using hltv p hp) hV
  · refine ⟨?_, (.lit (.bool true)) :: ds, gs, pa ++ pv, ⟨[] ++ pa, pv, ?_, ?_, by simp, ?_, ?_⟩, fun p hp _ => hp⟩
    · rw [hr, hrt]
      exact ok_one (f := { f with resultTypes := #[tb] }) rfl rfl (okWide_bool_mk htb _)
    · rw [hr, hrt]
      exact trodAll_append (trodAll_ext hl hx _ hpar hlta (fun _ _ => rfl) hA) (trodAll_mk1 (shut_bool htb _))
    · exact trodVars_sp hl hx _ hvr (fun _ _ => rfl) hV
    · intro b off hp
      have := hlt _ hp
      rw [Below.frozen hx (p := ⟨b, off, none⟩) this]
      exact hz b off hp
    · exact hn
end
end Go.Proofs.YtbgokfhcgcoipaaDoor.Sx
namespace Go.Proofs.YtbgokfhcgcoipaaDoor.Sx
open Go Go.RowKit Go.ChangeShapes Go.WideShapes
section
variable {H : Type} {enc : TypeId × Value -> H} {P : Program} {w : World}
theorem spot_none {a : Addr} {v : Value} (h : w.cell? a = some v) : a = ⟨a.block, a.off, none⟩ := by
  obtain ⟨b, o, spot⟩ := a
  have : spot = none := by simpa using World.cell?_spot h
  subst this; rfl
end
end Go.Proofs.YtbgokfhcgcoipaaDoor.Sx
namespace Go.Proofs.YtbgokfhcgcoipaaDoor
open Go Go.RowKit Go.ChangeShapes Go.Proofs.YtbgokfhcgcoipaaDoor.Sx
theorem bytes_of_trod {H : Type} {enc : TypeId × Value -> H} {P : Program} {w : World} {t e : TypeId} {fuel : Nat} {sp : Nat -> Bool} {hd : Bool} {cs : List Value} {x : DataW H × List MemPlace} (ht : P.underlying t = some (.slice e)) (he : P.underlying e = some (.int .u8)) (hc : P.cellsOf e = 1)
    (h : DataW.trod enc P w 0 sp hd fuel t cs = some x) : ∃ p n c, cs = [.slice p n c] /\ ByR w p n := by
  rcases Go.ChangeShapes.open_ints ht he hc h with ⟨rfl, _⟩ | ⟨a, len, cap, zs, rfl, _, hl, hm, hz, _, hcell, _⟩
  · exact ⟨none, 0, 0, rfl, fun h => absurd h (by omega)⟩
  · have hlz : len <= zs.length := by rw [hz]; split <;> omega
    refine ⟨some a, len, cap, rfl, fun hpos => ?_⟩
    have h0 := hcell 0 (by omega)
    have hs := spot_none h0
    have ha : a = ⟨a.block, a.off, none⟩ := by
      obtain ⟨b, o, s⟩ := a
      simp [Addr.add] at hs
      simp [hs]
    have hlt := World.block_lt_of_cell? w _ h0
    refine ⟨a.block, a.off, zs.take len, by rw [<- ha], by simp; omega, fun j v hj => ?_, by simpa [Addr.add] using hlt⟩
    simp only [List.getElem?_map, List.getElem?_take] at hj
    split at hj
    · rename_i hjl
      have hjz : j < zs.length := by omega
      have := hcell j hjz
      rw [ha, addr_add] at this
      rw [this]
      rw [List.getElem?_eq_getElem hjz] at hj
      simp at hj
      rw [<- hj]
      simp [hjz]
    · simp at hj
end Go.Proofs.YtbgokfhcgcoipaaDoor
namespace Go.Proofs.YtbgokfhcgcoipaaDoor
open Go Go.Proofs.YtbgokfhcgcoipaaDoor.Sx
theorem curs7_size : ∀ c ∈ curs7, c.size <= 50 := by decide
theorem sums_loop {w0 w : World} {cur : ByteArray} {mode : Int} {s : List TE} {p q : Option Addr} {n c d : Nat} (hw : Ext w0 w) (ht : Tab w) (hc : curKnown cur = true) (hm : modeOk mode = true) (hE : ∀ e ∈ s, EntF e) (ho : OrdT s) (hs6 : s.length <= 6)
    (hx : RowsR w 9 p n c (s.map (rowE cur mode))) (hy : RowsR w 9 q n d (s.map (rowE cur mode))) : laws_FnTaxSums_j0 mode p n q n w fun v w' => v = .bool true /\ Ext w0 w' := by
  have hln : s.length = n := by have := hx.1; simpa using this
  unfold laws_FnTaxSums_j0
  refine ⟨fun i W => ∃ j : Nat, i = j /\ j <= n /\ Ext w W, fun i _ => n - i.toNat, ⟨0, rfl, by omega, Ext.refl _⟩, ?_⟩
  rintro junk W i ⟨j, rfl, hj, hX⟩
  refine ifD (fun hlt => ?_) (fun hge => ⟨rfl, hw.trans hX⟩)
  have hjl : j < s.length := by omega
  have hjm : j < (s.map (rowE cur mode)).length := by simpa using hjl
  obtain ⟨b, o, hp, hs⟩ := hx.2.2.2 (by omega)
  obtain ⟨b2, o2, hq, hs2⟩ := hy.2.2.2 (by omega)
  obtain ⟨cs, hk, hr, hsg⟩ := hs j _ (List.getElem?_eq_getElem hjm)
  obtain ⟨cs2, hk2, hr2, hsg2⟩ := hs2 j _ (List.getElem?_eq_getElem hjm)
  rw [List.getElem_map] at hr hr2
  have hEj := hE _ (List.getElem_mem hjl)
  obtain ⟨e, he⟩ : ∃ e, s[j] = e := ⟨_, rfl⟩
  rw [he] at hr hr2 hEj
  have R := hr; have R2 := hr2
  obtain ⟨a0, a1p, a1n, a1c, a1z, a2, a3, a4, a5p, a5n, a5c, a5z, a6, a7, a8p, a8n, a8c, a8z, rfl, _, _, _, _⟩ := open_TaxSum hr (rowE_code _ _ _)
  obtain ⟨g0, g1p, g1n, g1c, g1z, g2, g3, g4, g5p, g5n, g5c, g5z, g6, g7, g8p, g8n, g8c, g8z, rfl, _, _, _, _⟩ := open_TaxSum hr2 (rowE_code _ _ _)
  subst hp; subst hq
  have rR : Reps w [.bool a0, .slice a1p a1n a1c, .int .i64 a2] (dnn e.1 ((e.2.1 : Nat) : Int)) := ⟨R.1, R.2.1, R.2.2.1, trivial⟩
  have rN : Reps w [.string a3, .bool a4, .slice a5p a5n a5c] (.str cur :: enc e.2.2) := ⟨R.2.2.2.1, R.2.2.2.2.1, R.2.2.2.2.2.1, trivial⟩
  have rT : Reps w [.string a6, .bool a7, .slice a8p a8n a8c] (.str cur :: enc (txE mode e)) := R.2.2.2.2.2.2
  have rN2 : Reps w [.string g3, .bool g4, .slice g5p g5n g5c] (.str cur :: enc e.2.2) := ⟨R2.2.2.2.1, R2.2.2.2.2.1, R2.2.2.2.2.2.1, trivial⟩
  have rT2 : Reps w [.string g6, .bool g7, .slice g8p g8n g8c] (.str cur :: enc (txE mode e)) := R2.2.2.2.2.2.2
  have ad : ∀ (bb oo kk : Nat), (((⟨bb, oo, none⟩ : Addr).add (((j : Nat) : Int).toNat * 9)).add kk) = ⟨bb, (oo + j * 9) + kk, none⟩ := fun bb oo kk => by rw [addr_add, addr_add, Int.toNat_natCast]
  have D := Ext.drew W
  refine ⟨⟨by omega, by omega⟩, _, _, _, _, _, fun W' hW => (hsg.ext ((hX.trans D).trans hW)).loadAAt 3 [.string a3, .bool a4, .slice a5p a5n a5c] (ad _ _ _) (by kernel_rfl) rfl, ⟨by omega, by omega⟩, _, _, _, _, _, fun W' hW => (hsg.ext ((hX.trans D).trans hW)).loadAAt 0 [.bool a0, .slice a1p a1n a1c, .int .i64 a2] (ad _ _ _) (by kernel_rfl) rfl, ?_⟩
  intro ss w2 F1
  have S1 := FlS.first F1 rfl
  have Y2 := (hX.trans D).trans F1.ext
  refine Ret.at (impl_TaxOn_c (rN.ext Y2) rfl (rR.ext Y2) rfl mode (ht.ext Y2)) ?_
  rintro v w3 ⟨vs0, f0, vs1, f1, hv, o0, _, _, _, o1, _, c1, _, _, y3⟩
  subst hv
  have hT := taxOf_eq hc hm hEj
  have t1 : (taxOnT (.str cur :: enc e.2.2) (dnn e.1 ((e.2.1 : Nat) : Int)) mode).2.1 = .str cur :: enc (txE mode e) := hT.2
  have r0 := o0.reps; have r1 := o1.reps
  rw [t1] at r0
  obtain ⟨u0, u1, up, un, uc, uz, rfl, _, _⟩ := open_Money r0 rfl
  have r0 := o0.reps
  rw [t1] at r0
  have r1' := r1
  obtain ⟨k0, k1p, k1n, k1c, k1z, k2p, k2n, k2c, k2z, rfl, _, _, _⟩ := open_Rat r1 c1
  refine ⟨_, _, _, _, _, _, _, _, _, _, _, _, _, rfl, ?_⟩
  intro ss1 w4 r7 F2 G2 ss2 w5 r8 F3 G3
  have S3 := ((S1.ext y3).step F2).step F3
  obtain ⟨q7, l7, B7⟩ := S3.blk (F3.keeps G2) rfl
  obtain ⟨q8, l8, B8⟩ := S3.blk G3 rfl
  have hne := S3.ne (F3.keeps G2) G3 (by decide)
  have Y5 := ((Y2.trans y3).trans F2.ext).trans F3.ext
  have lD := D.le
  have lX := hX.le
  obtain ⟨w6, st6, B7', ch6, sz6⟩ := B7.storeA0 (P := P) (t := T_impl_Money) (xs := [.string u0, .bool u1, .slice up un uc]) (by kernel_rfl) rfl r0.cells1
  obtain ⟨w7, st7, B8', ch7, sz7⟩ := (B8.chg ch6 (fun hm => hne (List.mem_singleton.1 hm).symm)).storeA0 (P := P) (t := T_impl_Rat) (xs := [.bool k0, .slice k1p k1n k1c, .slice k2p k2n k2c]) (by kernel_rfl) rfl r1'.cells1
  have B7' := B7'.chg ch7 (fun hm => hne (List.mem_singleton.1 hm))
  have Y7 : Ext w w7 := (Y5.chg ch6 (fun q hq => by have := List.mem_singleton.1 hq; omega)).chg ch7 (fun q hq => by have := List.mem_singleton.1 hq; omega)
  have FF := F2.trans F3
  have ap7 := S1.apart FF (F3.keeps G2)
  have ap8 := S1.apart FF G3
  have lt0 := o0.lt
  have o0' := ((o0.ext FF.ext).chg ch6 (fun q hq hm => by have := lt0 q hq; have := List.mem_singleton.1 hm; omega)).chg ch7 (fun q hq hm => by have := lt0 q hq; have := List.mem_singleton.1 hm; omega)
  have r07 := o0'.reps
  rw [t1] at r07
  have D7 := Ext.drew w7
  have Y8 := Y7.trans D7
  refine ⟨w6, st6, w7, st7, ⟨by omega, by omega⟩, _, _, _, _, _, fun W' hW => (hsg.ext (Y8.trans hW)).loadAAt 3 [.string a3, .bool a4, .slice a5p a5n a5c] (ad _ _ _) (by kernel_rfl) rfl, ⟨by omega, by omega⟩, _, _, _, _, _, fun W' hW => (hsg2.ext (Y8.trans hW)).loadAAt 3 [.string g3, .bool g4, .slice g5p g5n g5c] (ad _ _ _) (by kernel_rfl) rfl, ?_⟩
  refine Ret.at (impl_MoneySame_c (rN.ext Y8) (rN2.ext Y8) rfl rfl) ?_
  rintro v w9 ⟨hv, y9⟩
  subst hv
  rw [decide_eq_true rfl]
  have Y9 := Y8.trans y9
  refine ⟨_, rfl, fun e => absurd e (by simp), fun _ => ?_⟩
  refine ⟨⟨by omega, by omega⟩, _, _, _, _, _, fun W' hW => (hsg.ext (Y9.trans hW)).loadAAt 6 [.string a6, .bool a7, .slice a8p a8n a8c] (ad _ _ _) (by kernel_rfl) rfl, ⟨by omega, by omega⟩, _, _, _, _, _, fun W' hW => (hsg2.ext (Y9.trans hW)).loadAAt 6 [.string g6, .bool g7, .slice g8p g8n g8c] (ad _ _ _) (by kernel_rfl) rfl, ?_⟩
  refine Ret.at (impl_MoneySame_c (rT.ext Y9) (rT2.ext Y9) rfl rfl) ?_
  rintro v w10 ⟨hv, y10⟩
  subst hv
  rw [decide_eq_true rfl]
  have Y10 := Y9.trans y10
  refine ⟨_, rfl, fun e => absurd e (by simp), fun _ => ?_⟩
  refine ⟨_, _, _, _, _, fun W' hW => (((B7'.ext D7).ext y9).ext (y10.trans hW)).loadA0 (by kernel_rfl), ⟨by omega, by omega⟩, _, _, _, _, _, fun W' hW => (hsg.ext (Y10.trans hW)).loadAAt 6 [.string a6, .bool a7, .slice a8p a8n a8c] (ad _ _ _) (by kernel_rfl) rfl, ?_⟩
  refine Ret.at (impl_MoneySame_c (r07.ext ((D7.trans y9).trans y10)) (rT.ext Y10) rfl rfl) ?_
  rintro v w11 ⟨hv, y11⟩
  subst hv
  rw [decide_eq_true rfl]
  have Y11 := Y10.trans y11
  refine ⟨_, rfl, fun e => absurd e (by simp), fun _ => ?_⟩
  have next : ∀ Wn, Ext w Wn -> ∃ t : Int, t = IntKind.wrap .i64 (((j : Nat) : Int) + 1) /\ (∃ j' : Nat, t = j' /\ j' <= n /\ Ext w Wn) /\ n - t.toNat < n - ((j : Nat) : Int).toNat := fun Wn hW => exW ⟨by omega, by omega⟩ ⟨⟨j + 1, by omega, by omega, hW⟩, by omega⟩
  refine ifD (fun hpos => ?_) (fun _ => ⟨fun e => absurd e (by simp), fun _ => next _ Y11⟩)
  obtain ⟨i, rfl⟩ : ∃ i, j = i + 1 := ⟨j - 1, by omega⟩
  have hil : i < s.length := by omega
  have him : i < (s.map (rowE cur mode)).length := by simpa using hil
  obtain ⟨cs3, hk3, hr3, hsg3⟩ := hs i _ (List.getElem?_eq_getElem him)
  rw [List.getElem_map] at hr3
  have R3 := hr3
  obtain ⟨m0, m1p, m1n, m1c, m1z, m2, m3, m4, m5p, m5n, m5c, m5z, m6, m7, m8p, m8n, m8c, m8z, rfl, _, _, _, _⟩ := open_TaxSum hr3 (rowE_code _ _ _)
  have rR3 : Reps w [.bool m0, .slice m1p m1n m1c, .int .i64 m2] (dnn s[i].1 ((s[i].2.1 : Nat) : Int)) := ⟨R3.1, R3.2.1, R3.2.2.1, trivial⟩
  refine exW ⟨by omega, by omega⟩ ⟨⟨by omega, by omega⟩, _, _, _, _, _, fun W' hW => (hsg3.ext (Y11.trans hW)).loadAAt 0 [.bool m0, .slice m1p m1n m1c, .int .i64 m2] (by rw [addr_add, addr_add, show (((i + 1 : Nat) : Int) - 1).toNat = i by omega]) (by kernel_rfl) rfl, ⟨by omega, by omega⟩, _, _, _, _, _, fun W' hW => (hsg.ext (Y11.trans hW)).loadAAt 0 [.bool a0, .slice a1p a1n a1c, .int .i64 a2] (ad _ _ _) (by kernel_rfl) rfl, ?_⟩
  refine Ret.at (impl_DecCmp_c (rR3.ext Y11) (rR.ext Y11) rfl rfl) ?_
  rintro v w12 ⟨hv, y12⟩
  subst hv
  have hless := rows_less ho hE hil hjl (Nat.lt_succ_self i)
  rw [he] at hless
  exact ⟨_, rfl, ifD (fun h0 => absurd h0 (by omega)) (fun _ => next _ (Y11.trans y12))⟩
theorem laws_FnTaxSums_c {w : World} {p0 : Option Addr} {n0 c0 : Nat} (h0 : ByR w p0 n0) (ht : Tab w) : Ret P n_laws_FnTaxSums [.slice p0 n0 c0] w fun v w' => v = .bool true /\ Ext w w' := by
  have h := h0
  refine laws_FnTaxSums_ret ?_
  unfold laws_FnTaxSums
  refine ifD (fun _ => ⟨rfl, Ext.refl w⟩) (fun hs => ?_)
  have hn0 : n0 <= 1048576 := by omega
  refine Ret.at (spec_MakeTaxes_c h hn0) ?_
  rintro v w1 ⟨cur, lp, n, lc, l, hv, hcur, hl, hD, hn1', hn6, y1⟩
  subst hv
  have hck := curs7_known cur hcur
  have hcs := curs7_size cur hcur
  have hF : ∀ x ∈ l, LineF cur x := fun x hx => (hD x hx).facts hck
  have hcode : ∀ x ∈ l, x.map D0.code = [.str, .bool, .ints, .bool, .ints, .int] := fun x hx => line_code (hF x hx)
  have hbulk : ∀ x ∈ l, bulks x <= 1048576 := fun x hx => line_bulk hcs (hF x hx)
  have hz := hl.1
  obtain ⟨b, off, hpp, hsr⟩ := hl.2.2.2 (by omega)
  subst hpp
  refine ⟨_, _, _, rfl, ?_⟩
  intro r2 w3 hn3 r3 w4 hn4
  have e3 := hn3.r_eq; have e4 := hn4.r_eq; have s3 := hn3.size; have s4 := hn4.size
  refine ⟨fun ap an ac bp bn bc i wr => ∃ (css dss : List (List Value)), i = an /\ an <= n /\ bn = an /\ Ext w1 wr /\ Own wr w1.heap.size T_impl_TaxLine 6 ap an ac css.flatten /\ Own wr w1.heap.size T_impl_Money 3 bp an bc dss.flatten /\ (∀ q, ap.map (·.block) = some q -> bp.map (·.block) ≠ some q) /\ AllR w1 6 css (l.reverse.take an) /\ AllR w1 3 dss ((l.take an).map fun x => x.take 3), fun _ _ _ _ _ _ i _ => n - i.toNat,
    ⟨[], [], rfl, by omega, rfl, hn3.ext.trans hn4.ext, Own.of_blk0 (hn3.blk.ext hn4.ext) (by omega) (by simp) (by decide), Own.of_blk0 hn4.blk (by omega) (by simp) (by decide), fun q h1 h2 => by simp at h1 h2; omega, trivial, trivial⟩, ?_⟩
  intro junk wr ap an ac bp bn bc i ⟨css, dss, hi, hle, hbn, hx, hoa, hob, hdis, hra, hrb⟩
  subst hi; subst hbn
  have lx := hx.le
  refine ifD (fun hlt => ?_) (fun hge => ?_)
  · have hjl : bn < l.length := by omega
    have hrl : l.length - 1 - bn < l.length := by omega
    obtain ⟨cs, hk, hr, hsg⟩ := hsr (l.length - 1 - bn) _ (List.getElem?_eq_getElem hrl)
    obtain ⟨cs2, hk2, hr2, hsg2⟩ := hsr bn _ (List.getElem?_eq_getElem hjl)
    have hcd := hcode _ (List.getElem_mem hrl); have hcd2 := hcode _ (List.getElem_mem hjl)
    have hrr := hr; have hrr2 := hr2
    obtain ⟨a0, a1, a2p, a2n, a2c, a2z, a3, a4p, a4n, a4c, a4z, a5, rfl, _, _, _⟩ := open_TaxLine hr hcd
    obtain ⟨g0, g1, g2p, g2n, g2c, g2z, g3, g4p, g4n, g4c, g4z, g5, rfl, hgd, gi2, _⟩ := open_TaxLine hr2 hcd2
    refine exW ⟨by omega, by omega⟩ (exW ⟨by omega, by omega⟩ ⟨⟨by omega, by omega⟩, _, _, _, _, _, _, _, _, _, _, (hsg.ext hx).loadAAt 0 [.string a0, .bool a1, .slice a2p a2n a2c, .bool a3, .slice a4p a4n a4c, .int .i64 a5] (by rw [addr_add, show (((n : Nat) : Int) - 1 - ((bn : Nat) : Int)).toNat = l.length - 1 - bn by omega]; rfl) (by kernel_rfl) rfl, ?_⟩)
    intro r5 w7 hn7
    have l7 := hn7.ext.le; have e7 := hn7.r_eq
    obtain ⟨p8, c8, w8, a8, o8, ch8, d8⟩ := (hoa.ext hn7.ext).push1 (P := P) sliceT_line (by omega) hn7.blk rfl (by simp [Value.oneCell']) (by omega) (by omega)
    have pa : ∀ q ∈ (ap.map (·.block)).toList, w1.heap.size <= q /\ q < wr.heap.size := fun q hq => World.ownsRow.lt hoa q (by cases ap <;> simp_all [Value.ownBlock])
    have pb : ∀ q, bp.map (·.block) = some q -> w1.heap.size <= q /\ q < wr.heap.size := fun q hq => World.ownsRow.lt hob q (by rw [<- hq]; cases bp <;> rfl)
    have hob8 := (hob.ext hn7.ext).chg ch8 (fun q hq hm => hdis q (opt_mem hm) hq)
    have x8 : Ext w1 w8 := (hx.trans hn7.ext).chg ch8 fun q hq => (pa q hq).1
    have l8 := ch8.size
    refine ⟨_, _, _, _, a8, ⟨by omega, by omega⟩, _, _, _, _, _, (hsg2.ext x8).loadAAt 0 [.string g0, .bool g1, .slice g2p g2n g2c] (by rw [addr_add, addr_add, Int.toNat_natCast]) (by kernel_rfl) rfl, ?_⟩
    intro r6 w9 hn9
    have l9 := hn9.ext.le; have e9 := hn9.r_eq; have s9 := hn9.size
    obtain ⟨p10, c10, w10, a10, o10, ch10, d10⟩ := (hob8.ext hn9.ext).push1 (P := P) taxT_sliceT (by omega) hn9.blk rfl (by simp [Value.oneCell']) (by omega) (by omega)
    have pbl : ∀ q ∈ (bp.map (·.block)).toList, w1.heap.size <= q /\ q < wr.heap.size := fun q hq => pb q (opt_mem hq)
    have hd8 : ∀ q, p8.map (·.block) = some q -> bp.map (·.block) ≠ some q := fun q hq hb => by
      rcases d8 with d8 | d8
      · exact hdis q (d8 ▸ hq) hb
      · have := d8 q hq; have := (pb q hb).2; omega
    have p8lt : ∀ q, p8.map (·.block) = some q -> q < w8.heap.size := fun q hq => (World.ownsRow.lt o8 q (by rw [<- hq]; cases p8 <;> rfl)).2
    have o8' := (o8.ext hn9.ext).chg ch10 (fun q hq hm => hd8 q hq (opt_mem hm))
    have x10 : Ext w1 w10 := (x8.trans hn9.ext).chg ch10 fun q hq => (pbl q hq).1
    have sa : l.reverse.take (bn + 1) = l.reverse.take bn ++ [l[l.length - 1 - bn]] := by
      rw [List.take_succ_eq_append_getElem (by simpa using hjl), List.getElem_reverse]
    have sb : (l.take (bn + 1)).map (fun x => x.take 3) = (l.take bn).map (fun x => x.take 3) ++ [l[bn].take 3] := by
      rw [List.take_succ_eq_append_getElem hjl, List.map_append]; rfl
    refine ⟨_, _, _, _, a10, exW ⟨by omega, by omega⟩ ⟨⟨css ++ [[.string a0, .bool a1, .slice a2p a2n a2c, .bool a3, .slice a4p a4n a4c, .int .i64 a5]], dss ++ [[.string g0, .bool g1, .slice g2p g2n g2c]], by omega, by omega, rfl, x10, by simpa using o8', by simpa using o10, fun q hq hb => ?_, ?_, ?_⟩, ?_⟩⟩
    · rcases d10 with d10 | d10
      · exact hd8 q hq (d10 ▸ hb)
      · have := d10 q hb; have := p8lt q hq; omega
    · rw [sa]
      exact AllR.snoc (k := 6) rfl hrr hra
    · rw [sb, hgd]
      refine AllR.snoc (k := 3) rfl ?_ hrb
      exact ⟨rfl, rfl, ⟨_, _, _, rfl, gi2⟩, trivial⟩
    · show n - ((bn : Int) + 1).toNat < n - (bn : Int).toNat
      omega
  · have hjn : bn = n := by omega
    subst hjn
    rw [List.take_of_length_le (by simp; omega)] at hra
    rw [List.take_of_length_le (by omega)] at hrb
    have rowsA := rows_of_own hoa (hra.ext hx) (by simp; omega)
    have rowsB := rows_of_own hob (hrb.ext hx) (by simp; omega)
    refine Ret.at (spec_MakeMode_c (h.ext (y1.trans hx)) hn0) ?_
    rintro v w5 ⟨mode, hv, hm0, hm1, y5⟩
    subst hv
    have hmo := mode_form hm0 hm1
    obtain ⟨T1, T2, T3, T4, T5, T6, T7⟩ := sums_facts hck hmo hF (by omega) (by omega)
    have hFr : ∀ x ∈ l.reverse, LineF cur x := fun x hx => hF x (List.mem_reverse.1 hx)
    obtain ⟨U1, U2, _⟩ := sums_facts hck hmo hFr (by simp; omega) (by simp; omega)
    rw [taxS_rev (fun x hx => (hF x hx).sc)] at U2
    obtain ⟨V1, V2, V3, V4⟩ := total_facts (mode := mode) hck T3 T4 T5
    obtain ⟨N1, N2⟩ := nets_facts hck hF (by omega)
    have Y5 := hx.trans y5
    refine ⟨_, rfl, ?_⟩
    refine Ret.at (impl_TaxSums_c (hl.ext Y5) hcode (by omega) hbulk mode (ht.ext (y1.trans Y5))) ?_
    rintro v w6 ⟨xp, xn, xc, xf, hv, oX, _, _, y6⟩
    rw [T1] at hv
    rw [T2] at oX
    subst hv
    have Y6 := Y5.trans y6
    refine ⟨_, _, _, _, rfl, ?_⟩
    refine Ret.at (impl_TaxSums_c (rowsA.ext (y5.trans y6)) (fun x hx => line_code (hFr x hx)) (by omega) (fun x hx => line_bulk hcs (hFr x hx)) mode (ht.ext (y1.trans Y6))) ?_
    rintro v w7 ⟨yp, yn, yc, yf, hv, oY, _, _, y7⟩
    rw [U1] at hv
    rw [U2] at oY
    subst hv
    have Y7 := Y6.trans y7
    have rX := oX.rows.ext y7; have rY := oY.rows
    have hxn : (taxS l).length = xn := by have := rX.1; simpa using this
    have hyn : (taxS l).length = yn := by have := rY.1; simpa using this
    refine ⟨_, _, _, _, rfl, ?_⟩
    refine Ret.at (impl_TaxTotal_c rX (fun x hx => by obtain ⟨e, _, rfl⟩ := List.mem_map.1 hx; exact rowE_code _ _ _) (by omega) (fun x hx => by obtain ⟨e, he, rfl⟩ := List.mem_map.1 hx; exact rowE_bulk hcs (T3 e he)) (ht.ext (y1.trans Y7))) ?_
    rintro v w8 ⟨vsN, fN, vsT, fT, hv, oN, _, _, _, oT, _, _, _, _, y8⟩
    rw [V1] at hv oN oT
    rw [V2] at hv
    rw [V3] at oN
    rw [V4] at oT
    subst hv
    have rN := oN.reps; have rT := oT.reps
    obtain ⟨i0, i1, ip, in_, ic, iz, rfl, hi0, _⟩ := open_Money oN.reps rfl
    obtain ⟨q0, q1, qp, qn, qc, qz, rfl, hq0, _⟩ := open_Money oT.reps rfl
    have Y8 := Y7.trans y8
    refine ⟨_, _, _, _, _, _, _, _, _, _, _, rfl, ?_⟩
    intro r4 w9 hn9 r5 w10 hn10
    have e9 := hn9.r_eq; have e10 := hn10.r_eq; have s9 := hn9.size; have s10 := hn10.size
    obtain ⟨w11, st11, b4, ch11, sz11⟩ := (hn9.blk.ext hn10.ext).storeA0 (P := P) (t := T_impl_Money) (xs := [.string i0, .bool i1, .slice ip in_ ic]) (by kernel_rfl) rfl rN.cells1
    obtain ⟨w12, st12, b5, ch12, sz12⟩ := (hn10.blk.chg ch11 (by simp; omega)).storeA0 (P := P) (t := T_impl_Money) (xs := [.string q0, .bool q1, .slice qp qn qc]) (by kernel_rfl) rfl rT.cells1
    have b4 := b4.chg ch12 (by simp; omega)
    have y12 : Ext w8 w12 := ((hn9.ext.trans hn10.ext).chg ch11 (by simp; omega)).chg ch12 (by simp; omega)
    have Y12 := Y8.trans y12
    obtain ⟨cs0, hk0, hr0, hsg0⟩ := hsr 0 _ (List.getElem?_eq_getElem (show 0 < l.length by omega))
    have hF0 := hF _ (List.getElem_mem (show 0 < l.length by omega))
    obtain ⟨a0, a1, a2p, a2n, a2c, a2z, a3, a4p, a4n, a4c, a4z, a5, rfl, had, _, _⟩ := open_TaxLine hr0 (line_code hF0)
    have ha0 : a0 = cur := by
      have e := hF0.form
      rw [had] at e
      simp only [enc, dnn, List.cons_append, List.cons.injEq, D0.str.injEq] at e
      exact e.1
    refine ⟨w11, st11, w12, st12, ⟨by omega, by omega⟩, _, (hsg0.ext Y12).loadAt 0 (by rw [addr_add, addr_add, addr_add]) (by kernel_rfl) rfl, ?_⟩
    rw [ha0]
    have y512 : Ext wr w12 := ((((y5.trans y6).trans y7).trans y8).trans y12)
    refine Ret.at (impl_MoneySum_c cur (rowsB.ext y512) (fun x hx => by
      obtain ⟨z, hz, rfl⟩ := List.mem_map.1 hx
      rw [List.map_take, hcode z hz]; rfl) (by omega) (ht.ext (y1.trans Y12))) ?_
    rintro v w13 ⟨vsA, fA, hv, oA, _, y13⟩
    rw [N1] at hv
    rw [N2, <- T7] at oA
    subst hv
    have rA := oA.reps
    obtain ⟨m0, m1, mp, mn, mc, mz, rfl, _, _⟩ := open_Money oA.reps rfl
    refine ⟨_, _, _, _, _, _, rfl, ?_⟩
    intro r6 w14 hn14
    obtain ⟨w15, st15, b6, y15⟩ := hn14.fill (P := P) (t := T_impl_Money) rA.cells1 (by kernel_rfl) rfl
    have y1315 := y13.trans y15
    refine ⟨w15, st15, fun e => absurd e (by simp), fun _ => ⟨fun e => absurd e (by simp), fun _ => ⟨fun e => absurd e (by simp), fun _ => ⟨fun e => absurd e (by simp), fun _ => ifD (fun hne => absurd hne (by omega)) (fun _ => ?_)⟩⟩⟩⟩
    refine ⟨_, _, _, _, _, (b4.ext y1315).loadA0 (by kernel_rfl), _, _, _, _, _, b6.loadA0 (by kernel_rfl), ?_⟩
    refine Ret.at (impl_MoneySame_c ((rN.ext y12).ext y1315) (rA.ext y15) rfl rfl) ?_
    rintro v w16 ⟨hv, y16⟩
    subst hv
    rw [decide_eq_true rfl]
    have Z := y1315.trans y16
    have hic : i0 = cur := by simp only [enc, List.cons.injEq, D0.str.injEq] at hi0; exact hi0.1.symm
    have hqc : q0 = cur := by simp only [enc, List.cons.injEq, D0.str.injEq] at hq0; exact hq0.1.symm
    refine ⟨_, rfl, fun e => absurd e (by simp), fun _ => ⟨_, (b5.ext Z).loadAt 0 rfl (by kernel_rfl) rfl, _, (b4.ext Z).loadAt 0 rfl (by kernel_rfl) rfl, ifD (fun hne => absurd (hqc.trans hic.symm) hne) (fun _ => ?_)⟩⟩
    have YY := Y12.trans Z
    have hyx : yn = xn := by omega
    subst hyx
    exact sums_loop (y1.trans YY) (ht.ext (y1.trans YY)) hck hmo T3 T6 T5 ((rX.ext (y8.trans y12)).ext Z) ((rY.ext (y8.trans y12)).ext Z)
end Go.Proofs.YtbgokfhcgcoipaaDoor
namespace Go.Proofs.YtbgokfhcgcoipaaDoor
open Go Go.Proofs.YtbgokfhcgcoipaaDoor.Sx
def curData {H : Type} (r : CurRow) : DataW H := .agg [.lit (.string r.1.data.toList), .lit (.string r.2.1.data.toList), .lit (.int .i64 r.2.2.1), .lit (.int .i64 r.2.2.2)]
theorem bytes_eq {a b : ByteArray} (h : a.data.toList = b.data.toList) : a = b := by
  obtain ⟨⟨x⟩⟩ := a; obtain ⟨⟨y⟩⟩ := b
  simp at h; subst h; rfl
set_option maxRecDepth 100000 in
theorem cur_cells {H : Type} {enc : TypeId × Value -> H} {w : World} {sp : Nat -> Bool} {hd : Bool} {fuel : Nat} {cs : List Value} {r : CurRow} {p : List MemPlace}
    (h : DataW.trod enc P w 0 sp hd fuel T_impl_currency cs = some (curData r, p)) : cs = curCells r := by
  obtain ⟨fs, hu, hsz, ⟨f0, e0, t0, o0⟩, ⟨f1, e1, t1, o1⟩, ⟨f2, e2, t2, o2⟩, ⟨f3, e3, t3, o3⟩⟩ := cur_fields
  have hu : P.underlying T_impl_currency = some (.struct fs) := hu
  have hs : P.underlying T_string = some .string := by kernel_rfl
  have hi : P.underlying T_int = some (.int .i64) := by kernel_rfl
  have cS : P.cellsOf T_string = 1 := by kernel_rfl
  have cI : P.cellsOf T_int = 1 := by kernel_rfl
  have cC : P.cellsOf T_impl_currency = 4 := by kernel_rfl
  obtain ⟨xs, n, rfl, hx, hlen, hxl, hf⟩ := DataW.trod_struct hu h
  rw [cC] at hlen
  rw [hsz] at hxl
  have h0 := hf 0 f0 e0; have h1 := hf 1 f1 e1; have h2 := hf 2 f2 e2; have h3 := hf 3 f3 e3
  rw [t0, o0, cS] at h0; rw [t1, o1, cS] at h1; rw [t2, o2, cI] at h2; rw [t3, o3, cI] at h3
  match cs, hlen, xs, hxl, hx, h0, h1, h2, h3 with
  | [c0, c1, c2, c3], _, [x0, x1, x2, x3], _, hx, h0, h1, h2, h3 =>
    simp only [List.drop_succ_cons, List.drop_zero, List.take_succ_cons, List.take_zero, List.getElem?_cons_zero, List.getElem?_cons_succ] at h0 h1 h2 h3
    obtain ⟨s0, a0, b0, _⟩ := DataW.trod_string hs h0
    obtain ⟨s1, a1, b1, _⟩ := DataW.trod_string hs h1
    obtain ⟨z2, a2, b2, _⟩ := DataW.trod_int hi h2
    obtain ⟨z3, a3, b3, _⟩ := DataW.trod_int hi h3
    simp only [Prod.mk.injEq, curData, DataW.agg.injEq, List.map_cons, List.map_nil, List.cons.injEq, b0, b1, b2, b3, DataW.lit.injEq, Lit.string.injEq, Lit.int.injEq, true_and, and_true] at hx
    simp only [List.cons.injEq, and_true] at a0 a1 a2 a3
    obtain ⟨⟨q0, q1, q2, q3⟩, _⟩ := hx
    rw [a0, a1, a2, a3, <- bytes_eq q0, <- bytes_eq q1, <- q2, <- q3]
    rfl
theorem flat_of_rows : ∀ (l : List CurRow) (cs : List Value), cs.length = l.length * 4 -> (∀ i (hi : i < l.length), (cs.drop (i * 4)).take 4 = curCells (l[i]'hi)) -> cs = l.flatMap curCells
  | [], cs, h, _ => by simpa using h
  | r :: l, cs, h, hr => by
    have h0 := hr 0 (by simp)
    simp only [Nat.zero_mul, List.drop_zero, List.getElem_cons_zero] at h0
    rw [List.flatMap_cons, <- h0, <- flat_of_rows l (cs.drop 4) (by simp at h ⊢; omega) (fun i hi => by
      have := hr (i + 1) (by simpa using hi)
      rw [List.drop_drop, show 4 + i * 4 = (i + 1) * 4 by omega]
      simpa using this), List.take_append_drop]
def curVar : String := "loop.example/g00793/impl.currencies"
set_option maxRecDepth 100000 in
theorem tab_of_head {W : World} {rest : List (String × DataW Unit)} (h : laidMet P ((curVar, Rows.laid_loop_example_g00793_impl_currencies) :: rest) W) : Tab W := by
  obtain ⟨ps, ⟨g, t, cs, fuel, p, q, hg, ht, hvar, hd, _, _⟩, _⟩ := h
  have hg0 : P.globalNamed curVar = some 0 := by kernel_rfl
  have ht0 : (P.globals[0]?).map (·.type) = some T_20_impl_currency := by kernel_rfl
  obtain rfl := Option.some.inj (hg0.symm.trans hg)
  obtain rfl := Option.some.inj (ht0.symm.trans ht)
  have hu : P.underlying T_20_impl_currency = some (.array 20 T_impl_currency) := und_T_20_impl_currency
  have cC : P.cellsOf T_impl_currency = 4 := by kernel_rfl
  have cA : P.cellsOf T_20_impl_currency = 80 := by kernel_rfl
  obtain ⟨xs, m, rfl, hx, hlen, hxl, hf⟩ := DataW.trod_array hu hd
  rw [cA] at hlen
  have hdat : (Rows.laid_loop_example_g00793_impl_currencies : DataW Unit) = .agg (implTab.map curData) := by rfl
  rw [hdat] at hx
  simp only [Prod.mk.injEq, DataW.agg.injEq] at hx
  have hl := impl_length
  have hcs : cs.toList = implTab.flatMap curCells := by
    refine flat_of_rows implTab _ (by omega) fun i hi => ?_
    have h1 := hf i (by omega)
    rw [cC] at h1
    have h2 : (xs.map (·.1))[i]? = some (curData (implTab[i]'hi)) := by rw [<- hx.1]; simp [hi]
    rw [List.getElem?_map] at h2
    cases h3 : xs[i]? with
    | none => rw [h3] at h2; cases h2
    | some x =>
      rw [h3] at h1 h2
      simp only [Option.map_some, Option.some.injEq] at h2
      obtain ⟨d, pp⟩ := x
      simp only at h2
      subst h2
      exact cur_cells h1
  intro i v hv
  have := World.var?_cell hg0 hvar i
  rw [Nat.zero_add, this, <- hv, <- hcs]
  simp
theorem tab_of_laid {W : World} (h : laidMetH P [(curVar, Rows.laid_loop_example_g00793_impl_currencies)] W) : Tab W := tab_of_head (rest := []) h
noncomputable def laidWorld (os : Os) (args : Array Value) : World :=
  { World.holding P os ⟨#[], args, []⟩ with heap := (World.holding P os ⟨#[], args, []⟩).heap.modify 0 fun
      | .cells _ t frozen => .cells ⟨implTab.flatMap curCells⟩ t frozen
      | o => o }
theorem trodVars_one {H : Type} {enc : TypeId × Value -> H} {w : World} {sp : Nat -> Bool} {n : String} {gs : List (DataW H)} {ps : List MemPlace} (h : DataW.TrodVars enc P w sp [n] gs ps) : ∃ g, gs = [g] := by
  match gs, h with
  | [g], _ => exact ⟨g, rfl⟩
  | g :: g2 :: r, h =>
    obtain ⟨_, _, _, _, _, _, _, _, _, _, h2, _⟩ := h
    exact h2.elim
end Go.Proofs.YtbgokfhcgcoipaaDoor
