/-
  Parts of the proof of taxSums_holds: CTaxSJ, CPushA, CIns3, CTaxSS, DM, WTaxSums, SxRow, SxOpen, CTab.
  Conditions: none.
-/
import Derived.ProofKit
import Derived.Deep.Slices
import Derived.Test.YtfehpaekbbmkcaaGreatDoorRows
import Derived.OpenShut
import Derived.Lib.LaidTab
import Derived.Test.YtfehpaekbbmkcaaGreatDoorTs6

namespace Go.Proofs.YtfehpaekbbmkcaaGreatDoor
open Go Go.Proofs.YtfehpaekbbmkcaaGreatDoor.Sx
set_option linter.unusedVariables false
set_option linter.unusedSimpArgs false
theorem Sx.Owns.split {w : World} {B : Nat} : ∀ {vs us : List Value} {ds es : List D0} {f : List Nat}, vs.length = ds.length → Owns w B (vs ++ us) (ds ++ es) f → ∃ f1 f2, f = f1 ++ f2 ∧ Owns w B vs ds f1 ∧ Owns w B us es f2
  | [], us, [], es, f, _, h => ⟨[], f, rfl, rfl, h⟩
  | v :: vs, us, d :: ds, es, f, hl, h => by
    obtain ⟨fa, fb, e, h1, h2⟩ := h
    obtain ⟨f1, f2, e2, h3, h4⟩ := Owns.split (by simpa using hl) h2
    exact ⟨fa ++ f1, f2, by rw [e, e2, List.append_assoc], ⟨fa, f1, rfl, h1, h3⟩, h4⟩
  | [], _, _ :: _, _, _, hl, _ => by simp at hl
  | _ :: _, _, [], _, _, hl, _ => by simp at hl
theorem nodup3 {a b c d : List Nat} {m : Nat} (h : (a ++ (b ++ c)).Nodup) (hd : d.Nodup) (h1 : ∀ y ∈ a ++ (b ++ c), y < m) (h2 : ∀ y ∈ d, m ≤ y) : (a ++ (d ++ c)).Nodup := by
  obtain ⟨k1, k2, k3⟩ := List.nodup_append.1 h
  obtain ⟨k4, k5, k6⟩ := List.nodup_append.1 k2
  refine List.nodup_append.2 ⟨k1, List.nodup_append.2 ⟨hd, k5, fun x hx y hy e => ?_⟩, fun x hx y hy e => ?_⟩
  · subst e
    have := h1 x (List.mem_append_right _ (List.mem_append_right _ hy)); have := h2 x hx; omega
  · subst e
    rcases List.mem_append.1 hy with hy | hy
    · have := h1 x (List.mem_append_left _ hx); have := h2 x hy; omega
    · exact k3 x hx x (List.mem_append_right _ hy) rfl
theorem taxSums_bad {l : List (List D0)} {mode : Int} {j : Nat} (hj : j < l.length) (h : lnOk (hdCur l) (l[j]'hj) = false) : taxSumsOk l mode = false := by
  unfold taxSumsOk
  have : l.all (lnOk (hdCur l)) = false := by
    rw [List.all_eq_false]
    exact ⟨_, List.getElem_mem hj, by rw [h]; simp⟩
  rw [this]; simp
theorem taxSums_bad2 {l : List (List D0)} {mode : Int} {e : TE} (he : e ∈ taxS l) (h : (taxOf (hdCur l) mode e).1 = false) : taxSumsOk l mode = false := by
  unfold taxSumsOk
  have : ((taxS l).all fun e => (taxOf (hdCur l) mode e).1) = false := by
    rw [List.all_eq_false]
    exact ⟨_, he, by rw [h]; simp⟩
  rw [this]; simp
theorem hdCur_get {l : List (List D0)} (h : 0 < l.length) : hdCur l = lnCur (l[0]'h) := by
  cases l with
  | nil => simp at h
  | cons x l => rfl
theorem putAt_rows {c : ByteArray} {s : List TE} {m t M : Nat} (hs : ∀ e ∈ s, TE.ok M e) (hm : m < 1000000000) (ht : t ≤ 30) :
    putAt (fun x => dcmp (x.take 3) (dnn (lowM m t) (lowS m t))) (posT s (keyT m t)) (s.map (taxRow c)) (taxRow c (lowM m t, lowS m t, 0)) = (if hasT s (keyT m t) then s else s.take (posT s (keyT m t)) ++ (lowM m t, lowS m t, 0) :: s.drop (posT s (keyT m t))).map (taxRow c) := by
  have hlm := lowM_le m t; have hls := (lowS_spec m t).1
  unfold putAt
  have := tax_found (c := c) hs (m := lowM m t) (t := lowS m t) (by omega) (by omega) (posT s (keyT m t))
  rw [keyT_low m t ht] at this
  refine Eq.trans (congrArg (fun b : Bool => if b = true then s.map (taxRow c) else (s.map (taxRow c)).take (posT s (keyT m t)) ++ taxRow c (lowM m t, lowS m t, 0) :: (s.map (taxRow c)).drop (posT s (keyT m t))) this) ?_
  show (if hasT s (keyT m t) = true then _ else _) = _
  split
  · rfl
  · rw [List.map_append, List.map_cons, List.map_take, List.map_drop]
set_option maxHeartbeats 1000000 in
theorem impl_TaxSums_c {w : World} {p : Option Addr} {n c : Nat} {l : List (List D0)} (h : RowsR w 6 p n c l) (hc : ∀ x ∈ l, x.map D0.code = C6) (hn : n ≤ 1048576) (hb : ∀ x ∈ l, bulks x ≤ 1048576) (mode : Int) (ht : Tab w) :
    Ret P n_impl_TaxSums [.slice p n c, .int .i64 mode] w fun v w' => ∃ p' n' c' f, v = .tuple #[.slice p' n' c', .bool (taxSumsOk l mode)] ∧ OwnRows w' w.heap.size T_impl_TaxSum 9 p' n' c' (taxSums l mode) f ∧ (∀ x ∈ taxSums l mode, x.map D0.code = C9) ∧ cntL (taxSums l mode) ≤ 1000000000 ∧ Ext w w' := by
  have hln := h.1; have hcap := h.2.1; have hcm := h.2.2.1
  have kc := taxSums_code l mode; have kn := taxSums_cnt hc mode (by omega)
  have no : ∀ W, Ext w W → taxSumsOk l mode = false → ∃ p' n' c' f, Value.tuple #[.slice none 0 0, .bool false] = .tuple #[.slice p' n' c', .bool (taxSumsOk l mode)] ∧ OwnRows W w.heap.size T_impl_TaxSum 9 p' n' c' (taxSums l mode) f ∧ (∀ x ∈ taxSums l mode, x.map D0.code = C9) ∧ cntL (taxSums l mode) ≤ 1000000000 ∧ Ext w W := fun W hW hno => by
    refine ⟨none, 0, 0, [], by rw [hno], ?_, kc, kn, hW⟩
    unfold taxSums
    rw [hno]
    exact ⟨rfl, [], [], trivial, Own.nil _ _ _ _, rfl, List.nodup_nil⟩
  refine impl_TaxSums_ret ?_
  unfold impl_TaxSums
  refine ifD (fun h0 => ?_) (fun hpos => ?_)
  · have : l = [] := List.eq_nil_of_length_eq_zero (by omega)
    exact no w (Ext.refl _) (by rw [this]; rfl)
  intro r w1 hn1
  have e1 := hn1.r_eq; have z1 := hn1.size
  obtain ⟨w2, st2, b2, y2⟩ := hn1.fill (P := P) (t := T_impl_ordered_loop_example_g00793_impl_TaxSum) (xs := [.slice none 0 0, .func (.func n_impl_TaxSums_1) ⟨[]⟩ ⟨[]⟩]) (by simp [Value.oneCell']) (by kernel_rfl) rfl
  obtain ⟨bl, offl, hpl, hs⟩ := h.2.2.2 (by omega)
  subst hpl
  obtain ⟨cs0, _, hr0, hsg0⟩ := hs 0 _ (List.getElem?_eq_getElem (show 0 < l.length by omega))
  obtain ⟨g0, g1, g2p, g2n, g2c, g2z, g3, g4p, g4n, g4c, g4z, g5, rfl, hd0, _⟩ := open_TaxLine hr0 (hc _ (List.getElem_mem _))
  have hcur : hdCur l = g0 := by rw [hdCur_get (by omega), hd0]; rfl
  obtain ⟨c0, hc0⟩ : ∃ c0, hdCur l = c0 := ⟨_, rfl⟩
  have hg0 : g0 = c0 := by rw [← hcur, hc0]
  subst hg0
  have ld0 : ∀ W, Ext w W → Loads P T_string ((((⟨bl, offl, none⟩ : Addr).add (0 * 6)).add 0).add 0) (.string g0) W := fun W hW => (hsg0.ext hW).loadAt 0 (by rw [addr_add, addr_add, addr_add]) (by kernel_rfl) rfl
  obtain ⟨Inv, hI⟩ : ∃ I : Int → World → Prop, ∀ i wr, I i wr ↔ ∃ (j : Nat) (q : Option Addr) (n' c' : Nat) (f : List Nat), i = j ∧ j ≤ n ∧ Blk wr r T_impl_ordered_loop_example_g00793_impl_TaxSum [.slice q n' c', .func (.func n_impl_TaxSums_1) ⟨[]⟩ ⟨[]⟩] ∧ OwnRows wr w.heap.size T_impl_TaxSum 9 q n' c' ((taxS (l.take j)).map (taxRow g0)) f ∧ r ∉ f ∧ (∀ x ∈ l.take j, lnOk g0 x = true) ∧ Ext w wr := ⟨_, fun _ _ => Iff.rfl⟩
  obtain ⟨mu, hmu⟩ : ∃ m : Int → World → Nat, ∀ i wr, m i wr = n - i.toNat := ⟨fun i _ => n - i.toNat, fun _ _ => rfl⟩
  refine ⟨w2, st2, Inv, mu, (hI _ _).2 ⟨0, none, 0, 0, [], rfl, by omega, b2, ⟨rfl, [], [], trivial, Own.nil _ _ _ _, rfl, List.nodup_nil⟩, by simp, fun x hx => (by simp at hx), y2⟩, ?_⟩
  intro junk wr i hinv
  obtain ⟨j, q, n', c', f, hi, hj, hbr, hor, hrf, hall, hx⟩ := (hI _ _).1 hinv
  subst hi
  have lx := hx.le
  obtain ⟨hord, hok, hlenS⟩ := taxS_facts hc (show j ≤ l.length by omega) hall
  have hn' : n' = (taxS (l.take j)).length := by have := hor.1; rw [List.length_map] at this; omega
  refine ifD (fun hlt => ?_) (fun hge => ?_)
  · have hjl : j < l.length := by omega
    obtain ⟨cs, hk, hr, hsg⟩ := hs j _ (List.getElem?_eq_getElem hjl)
    have hcode := hc _ (List.getElem_mem hjl)
    obtain ⟨a0, a1, a2p, a2n, a2c, a2z, a3, a4p, a4n, a4c, a4z, a5, rfl, hd, i2, i4⟩ := open_TaxLine hr hcode
    have hld : Loads P T_impl_TaxLine ((⟨bl, offl, none⟩ : Addr).add (j * 6)) (.agg ⟨[.string a0, .bool a1, .slice a2p a2n a2c, .bool a3, .slice a4p a4n a4c, .int .i64 a5]⟩) wr := (hsg.ext hx).loadAAt 0 _ (by rw [addr_add]; rfl) (by kernel_rfl) rfl
    have hlok : lnOk g0 (l[j]'hjl) = (moneyOk [.str a0, .bool a1, .ints a2z] && (taxOk [.bool a3, .ints a4z, .int a5] && decide (a0 = g0))) := by rw [hd]; rfl
    have bad : lnOk g0 (l[j]'hjl) = false → taxSumsOk l mode = false := fun hh => taxSums_bad hjl (by rw [hc0]; exact hh)
    refine ⟨⟨by omega, by omega⟩, _, _, _, _, _, _, _, _, _, _, by simpa using hld, ?_⟩
    intro r1 w3 hn3
    have e3 := hn3.r_eq; have z3 := hn3.size
    obtain ⟨w4, st4, b4, y4⟩ := hn3.fill (P := P) (t := T_impl_TaxLine) (xs := [.string a0, .bool a1, .slice a2p a2n a2c, .bool a3, .slice a4p a4n a4c, .int .i64 a5]) (by simp [Value.oneCell']) (by kernel_rfl) rfl
    have D4 := Ext.drew w4
    have X4 := (hx.trans y4).trans D4
    refine ⟨w4, st4, _, _, _, _, _, fun W hW => (b4.ext (D4.trans hW)).loadAAt 0 [.string a0, .bool a1, .slice a2p a2n a2c] rfl (by kernel_rfl) rfl, ?_⟩
    refine Ret.at (impl_MoneyOk_c (ht.ext X4) (dx := [.str a0, .bool a1, .ints a2z]) ⟨rfl, rfl, ⟨_, _, _, rfl, i2.ext X4⟩, trivial⟩ rfl) ?_
    rintro v w6 ⟨hv, y6⟩
    subst hv
    have X6 := X4.trans y6
    have b6 := (b4.ext D4).ext y6
    refine ⟨_, rfl, ifN (fun hno => ifT (ifT (no w6 X6 (bad (by rw [hlok, hno]; rfl))))) (fun hmok => ?_)⟩
    refine ⟨_, _, _, _, _, fun W hW => (b6.ext hW).loadAAt 3 [.bool a3, .slice a4p a4n a4c, .int .i64 a5] rfl (by kernel_rfl) rfl, ?_⟩
    refine Ret.at (impl_TaxRateOk_c (dx := [.bool a3, .ints a4z, .int a5]) ⟨rfl, ⟨_, _, _, rfl, i4.ext X6⟩, rfl, trivial⟩ rfl) ?_
    rintro v w7 ⟨hv, y7⟩
    subst hv
    have X7 := X6.trans y7
    have b7 := b6.ext y7
    refine ⟨_, rfl, ifN (fun hno => ifT (no w7 X7 (bad (by rw [hlok, hno]; simp)))) (fun hrok => ?_)⟩
    refine ⟨_, fun W hW => (b7.ext hW).loadAt 0 rfl (by kernel_rfl) rfl, ⟨by omega, by omega⟩, _, fun W hW => ld0 W (X7.trans hW), ifD (fun hne => no w7 X7 (bad (by rw [hlok, decide_eq_false hne]; simp))) (fun heq => ?_)⟩
    have heq : a0 = g0 := by simpa using heq
    have hlt2 : lnOk g0 (l[j]'hjl) = true := by rw [hlok, hmok, hrok, decide_eq_true heq]; rfl
    obtain ⟨u, m, t, hxe, _, eu, em, et, hu, hm, ht30, _, _, _⟩ := ln_parts hcode hlt2
    have hq : [D0.str a0, .bool a1, .ints a2z, .bool a3, .ints a4z, .int a5] = [.str g0, .bool (decide (u < 0)), .ints (digs u.natAbs), .bool false, .ints (digs m), .int (t : Int)] := hd.symm.trans hxe
    simp only [List.cons.injEq, D0.str.injEq, D0.bool.injEq, D0.ints.injEq, D0.int.injEq, and_true] at hq
    obtain ⟨rfl, rfl, rfl, rfl, rfl, rfl⟩ := hq
    unfold impl_TaxSums_j0
    have D7 := Ext.drew w7
    have X7d := X7.trans D7
    have l7 := X7d.le
    refine ⟨_, _, _, _, _, fun W hW => (b7.ext (D7.trans hW)).loadAAt 3 [.bool false, .slice a4p a4n a4c, .int .i64 (t : Int)] rfl (by kernel_rfl) rfl, ?_⟩
    refine Ret.at (impl_DecLow_o (b := false) (m := m) (s := t) ⟨rfl, ⟨_, _, _, rfl, i4.ext X7d⟩, rfl, trivial⟩ (by simp) (one_len6 hm) ht30) ?_
    rintro v w8 ⟨vsR, fR, hv, hoR, ndR, y8⟩
    subst hv
    obtain ⟨d0, dp, dn, dc, dz, ds, rfl, _, _⟩ := open_Dec hoR.reps rfl
    have X8 := X7d.trans y8
    refine ⟨_, _, _, _, _, rfl, y8, _, fun W hW => (b7.ext (D7.trans hW)).loadAt 0 rfl (by kernel_rfl) rfl, ?_⟩
    have Y8 : Ext wr w8 := ((((y4.trans D4).trans y6).trans y7).trans D7).trans y8
    have ox : Owns w8 w.heap.size [.bool d0, .slice dp dn dc, .int .i64 ds, .string a0, .bool false, .slice none 0 0, .string ByteArray.empty, .bool false, .slice none 0 0] (taxRow a0 (lowM m t, lowS m t, 0)) fR := by
      rw [taxRow_new]
      have h1 := Owns.append (hoR.mono (B' := w.heap.size) (by omega)) (Owns.append (Owns.str w8 w.heap.size a0) (Owns.append (Owns.bool w8 w.heap.size false) (Owns.append (Owns.ints (zs := []) (Own.nil w8 w.heap.size T_int 1)) (Owns.append (Owns.str w8 w.heap.size ByteArray.empty) (Owns.append (Owns.bool w8 w.heap.size false) (Owns.ints (zs := []) (Own.nil w8 w.heap.size T_int 1)))))))
      simpa [dsn, dnn] using h1
    have hfR := hoR.lt
    have lY := Y8.le
    have hlm := lowM_le m t; have hls := (lowS_spec m t).1
    have hkl := keyT_low m t ht30
    have hpk := posT_le (taxS (l.take j)) (keyT m t)
    refine Ret.at (at_TaxSum_c (hbr.ext Y8) (hor.ext Y8) hrf (by have := X8.le; omega) (by omega) (fun x hx2 => by obtain ⟨e, _, rfl⟩ := List.mem_map.1 hx2; exact taxRow_code _ _) ox (taxRow_code _ _) ndR (fun y hy hm2 => by
        have h8 := (hfR y hy).1; have h9 := (hor.lt y hm2).2; have := (((y4.trans D4).trans y6).trans y7).le; have := D7.le; omega) (fun hm2 => by
        have h8 := (hfR r hm2).1; have h9 := hbr.lt; have := (((y4.trans D4).trans y6).trans y7).le; have := D7.le; omega) (fun x => dcmp (x.take 3) (dnn (lowM m t) (lowS m t))) (fun cs x w' hw' hm2 hr1 hr2 => ?_) (posT (taxS (l.take j)) (keyT m t)) (by omega) (fun a x ha hlt3 => ?_) (fun a x ha hge3 => ?_)) ?_
    · obtain ⟨e, _, rfl⟩ := List.mem_map.1 hm2
      refine ⟨_, _, _, rfl, by kernel_rfl, Calls.mono (impl_TaxSums_1_c hr1 hr2 (taxRow_code _ _) (taxRow_code _ _)) ?_⟩
      rintro e2 w9 ⟨v, he2, hv, hy9⟩
      subst hv
      exact ⟨he2, hy9⟩
    · obtain ⟨e, he, rfl⟩ := rows_at ha
      rw [taxRow_cmp (hok e (List.mem_of_getElem? he)) (by omega) (by omega), sgn_neg2, hkl]
      have := posT_lo _ _ _ _ he hlt3
      omega
    · obtain ⟨e, he, rfl⟩ := rows_at ha
      rw [taxRow_cmp (hok e (List.mem_of_getElem? he)) (by omega) (by omega), sgn_neg2, hkl]
      have := posT_hi hord he hge3
      omega
    rintro v w10 ⟨b, n2, c2, f2, hv, hbq, hor2, hkn, hch, hf2⟩
    subst hv
    rw [putAt_rows hok hm ht30] at hor2
    obtain ⟨e, he, hadd, hmem⟩ := taxAdd_two (s := taxS (l.take j)) (m := m) (t := t) (u := u) (c := a0)
    obtain ⟨S0, hS0⟩ : ∃ S0, (if hasT (taxS (l.take j)) (keyT m t) then taxS (l.take j) else (taxS (l.take j)).take (posT (taxS (l.take j)) (keyT m t)) ++ (lowM m t, lowS m t, 0) :: (taxS (l.take j)).drop (posT (taxS (l.take j)) (keyT m t))) = S0 := ⟨_, rfl⟩
    rw [hS0] at hor2 he hadd
    obtain ⟨k, hkk⟩ : ∃ k, posT (taxS (l.take j)) (keyT m t) = k := ⟨_, rfl⟩
    rw [hkk] at he hadd hkn ⊢
    have heok : TE.ok (j * 1000000000000000000000000000000000000) e := by
      rcases hmem with hm2 | hm2
      · exact hok e hm2
      · rw [hm2]; exact ⟨by show lowM m t < 1000000000; omega, by show lowS m t ≤ 30; omega, Nat.zero_le _⟩
    have hrow : (S0.map (taxRow a0))[k]? = some (taxRow a0 e) := by rw [List.getElem?_map, he]; rfl
    obtain ⟨bb, xs, cs, zs, fi, hpb, hbB, hbf, hxl, hcl, hblk, how, hndi, hbfi, hfif, hput⟩ := hor2.swap hrow
    simp only [Option.some.injEq, Addr.mk.injEq, and_true] at hpb
    subst hpb
    obtain ⟨k0, k1p, k1n, k1c, k1z, k2, k3, k4, k5p, k5n, k5c, k5z, k6, k7, k8p, k8n, k8c, k8z, rfl, hkd, _⟩ := open_TaxSum how.reps (taxRow_code a0 e)
    have hpw : ∀ y ∈ (q.map (·.block)).toList, y ∈ f := fun y hy => by obtain ⟨_, _, _, _, _, hff, _⟩ := hor; rw [hff]; exact List.mem_append_left _ hy
    have hchw : ∀ y ∈ r :: (q.map (·.block)).toList, w.heap.size ≤ y := fun y hy => by
      rcases List.mem_cons.1 hy with e2 | hy
      · omega
      · exact (hor.lt y (hpw y hy)).1
    have X10 := X8.chg hch hchw
    have lX8 := X8.le; have l10 := X10.le; have lch := hch.size
    obtain ⟨fa, fbc, hfe, hoa, hobc⟩ := Owns.split (vs := [.bool k0, .slice k1p k1n k1c, .int .i64 k2, .string k3]) (ds := [.bool false, .ints (digs e.1), .int (e.2.1 : Int), .str a0]) (us := [.bool k4, .slice k5p k5n k5c, .string k6, .bool k7, .slice k8p k8n k8c]) (es := enc e.2.2 ++ money0) rfl how
    obtain ⟨fb, fc, hfe2, hob, hoc⟩ := Owns.split (vs := [.bool k4, .slice k5p k5n k5c]) (ds := enc e.2.2) (us := [.string k6, .bool k7, .slice k8p k8n k8c]) (es := money0) rfl hobc
    subst hfe2
    subst hfe
    have D10 := Ext.drew w10
    have b10 := fun (W : World) (hW : Ext w10 W) => (((b7.ext D7).ext y8).chg hch (fun hm2 => by
      rcases List.mem_cons.1 hm2 with e2 | hm2
      · have := hbr.lt; omega
      · have := (hor.lt r1 (hpw r1 hm2)).2; omega)).ext hW
    refine ⟨_, rfl, _, _, _, _, fun W hW => ((hblk.ext D10).ext hW).loadAAt (k * 9 + 4) [.bool k4, .slice k5p k5n k5c] (by rw [addr_add, addr_add]) (by kernel_rfl) (by rw [← hxl, List.append_assoc, List.drop_length_add_append]; rfl), _, _, _, _, fun W hW => (b10 W (D10.trans hW)).loadAAt 1 [.bool (decide (u < 0)), .slice a2p a2n a2c] rfl (by kernel_rfl) rfl, ?_⟩
    have X10d := X10.trans D10
    have hfit := tax_fit (show j ≤ 1048576 by omega) heok.2.2
    refine Ret.at (impl_intAdd_c (x := e.2.2) (y := u) (hob.ext D10).reps ⟨rfl, ⟨_, _, _, rfl, i2.ext X10d⟩, trivial⟩ (Nat.le_trans (digs_len 6 (by omega)) (by decide)) (Nat.le_trans (digs_len 6 (by omega)) (by decide))) ?_
    rintro v w13 ⟨pu, nu, cu, hv, hou, y13⟩
    subst hv
    have Y13 := D10.trans y13
    have l13 := Y13.le
    have X13 := X10.trans Y13
    have hb13 := hblk.ext Y13
    obtain ⟨w14, st14, hb14, ch14, sz14⟩ := hb13.storeA (P := P) (t := T_impl_Signed) (k := k * 9 + 4) (xs := [.bool (decide (e.2.2 + u < 0)), .slice pu nu cu]) (by kernel_rfl) (by simp [hxl]; omega) (by simp [Value.oneCell'])
    have hnew : (xs ++ [Value.bool k0, .slice k1p k1n k1c, .int .i64 k2, .string k3, .bool k4, .slice k5p k5n k5c, .string k6, .bool k7, .slice k8p k8n k8c] ++ zs).take (k * 9 + 4) ++ [Value.bool (decide (e.2.2 + u < 0)), .slice pu nu cu] ++ (xs ++ [Value.bool k0, .slice k1p k1n k1c, .int .i64 k2, .string k3, .bool k4, .slice k5p k5n k5c, .string k6, .bool k7, .slice k8p k8n k8c] ++ zs).drop (k * 9 + 4 + [Value.bool (decide (e.2.2 + u < 0)), Value.slice pu nu cu].length) = xs ++ [Value.bool k0, .slice k1p k1n k1c, .int .i64 k2, .string k3, .bool (decide (e.2.2 + u < 0)), .slice pu nu cu, .string k6, .bool k7, .slice k8p k8n k8c] ++ zs := by
      rw [← hxl, List.append_assoc xs, List.take_length_add_append, Nat.add_assoc, List.drop_length_add_append]
      simp
    rw [hnew] at hb14
    have hbl := hblk.lt
    have hdl := D10.le
    have nb : ∀ {y}, y ∈ fa ++ (fb ++ fc) → y ∉ [b] := fun {y} hy hm2 => by simp at hm2; subst hm2; exact hbfi hy
    have oa := (hoa.ext Y13).chg ch14 (fun y hy => nb (List.mem_append_left _ hy))
    have oc := (hoc.ext Y13).chg ch14 (fun y hy => nb (List.mem_append_right _ (List.mem_append_right _ hy)))
    have hou2 : Owns w13 w10.heap.size [.bool (decide (e.2.2 + u < 0)), .slice pu nu cu] (enc (e.2.2 + u)) (pu.map (·.block)).toList := Owns.append (Owns.bool _ _ _) (Owns.ints (hou.mono hdl))
    have on' := (hou2.chg ch14 (fun y hy hm2 => by have := (hou2.lt y hy).1; simp at hm2; omega)).mono (B' := w.heap.size) (by omega)
    obtain ⟨f3, hor3, hf3⟩ := hput w14 _ (taxRow a0 (e.1, e.2.1, e.2.2 + u)) (fa ++ ((pu.map (·.block)).toList ++ fc)) (Y13.toChg.trans ch14) rfl hb14 (Owns.append oa (Owns.append on' oc)) (nodup3 hndi (by cases pu <;> simp) (fun y hy => (how.lt y hy).2) (fun y hy => (hou2.lt y hy).1)) (fun y hy => by
      rcases List.mem_append.1 hy with hy | hy
      · exact .inl (List.mem_append_left _ hy)
      · rcases List.mem_append.1 hy with hy | hy
        · refine .inr fun hm2 => ?_
          have h8 := (hou2.lt y hy).1; have h9 := (hor2.lt y hm2).2; omega
        · exact .inl (List.mem_append_right _ (List.mem_append_right _ hy)))
    have hrb : r ∉ [b] := fun hm2 => by
      simp at hm2; subst hm2
      rcases hf2 r hbf with h8 | h8 | h8
      · exact hrf h8
      · have := (hfR r h8).1; have := hbr.lt; have := (((y4.trans D4).trans y6).trans y7).le; have := D7.le; omega
      · have := hbr.lt; omega
    refine ⟨_, _, _, _, rfl, w14, ?_, exW ⟨by omega, by omega⟩ ⟨(hI _ _).2 ⟨j + 1, some ⟨b, 0, none⟩, n2, c2, f3, rfl, by omega, (hbq.ext Y13).chg ch14 hrb, ?_, ?_, ?_, X13.chg ch14 (by simp; omega)⟩, ?_⟩⟩
    · rw [addr_add] at st14 ⊢
      rw [addr_add]
      rw [Nat.zero_add] at st14
      exact st14
    · rw [taxS_snoc hjl, em, et, eu, hadd, List.map_set]
      exact hor3
    · intro hm2
      rcases hf3 r hm2 with h8 | h8
      · rcases hf2 r h8 with h9 | h9 | h9
        · exact hrf h9
        · have := (hfR r h9).1; have := hbr.lt; have := (((y4.trans D4).trans y6).trans y7).le; have := D7.le; omega
        · have := hbr.lt; omega
      · rcases List.mem_append.1 h8 with h9 | h9
        · have h10 := hfif r (List.mem_append_left _ h9)
          rcases hf2 r h10 with h9 | h9 | h9
          · exact hrf h9
          · have := (hfR r h9).1; have := hbr.lt; have := (((y4.trans D4).trans y6).trans y7).le; have := D7.le; omega
          · have := hbr.lt; omega
        · rcases List.mem_append.1 h9 with h9 | h9
          · have := (hou2.lt r h9).1; have := hbr.lt; omega
          · have h10 := hfif r (List.mem_append_right _ (List.mem_append_right _ h9))
            rcases hf2 r h10 with h9 | h9 | h9
            · exact hrf h9
            · have := (hfR r h9).1; have := hbr.lt; have := (((y4.trans D4).trans y6).trans y7).le; have := D7.le; omega
            · have := hbr.lt; omega
    · intro x hx2
      rw [List.take_succ_eq_append_getElem hjl] at hx2
      rcases List.mem_append.1 hx2 with hx2 | hx2
      · exact hall x hx2
      · simp only [List.mem_singleton] at hx2; rw [hx2]; exact hlt2
    · rw [hmu, hmu]; omega
  · have hjn : j = n := by omega
    subst hjn
    rw [List.take_of_length_le (by omega)] at hall hor hok hn' hlenS
    refine ⟨_, _, _, hbr.loadAt 0 rfl (by kernel_rfl) rfl, ?_⟩
    obtain ⟨S, hS⟩ : ∃ S, taxS l = S := ⟨_, rfl⟩
    rw [hS] at hor hok hn' hlenS
    obtain ⟨Inv1, hI1⟩ : ∃ I : Int → World → Prop, ∀ i wr', I i wr' ↔ ∃ (a : Nat) (f : List Nat), i = a ∧ a ≤ n' ∧ Blk wr' r T_impl_ordered_loop_example_g00793_impl_TaxSum [.slice q n' c', .func (.func n_impl_TaxSums_1) ⟨[]⟩ ⟨[]⟩] ∧ OwnRows wr' w.heap.size T_impl_TaxSum 9 q n' c' ((S.take a).map (taxRowT g0 mode) ++ (S.drop a).map (taxRow g0)) f ∧ r ∉ f ∧ (∀ e ∈ S.take a, (taxOf g0 mode e).1 = true) ∧ Ext w wr' := ⟨_, fun _ _ => Iff.rfl⟩
    obtain ⟨mu1, hmu1⟩ : ∃ m : Int → World → Nat, ∀ i wr', m i wr' = n' - i.toNat := ⟨fun i _ => n' - i.toNat, fun _ _ => rfl⟩
    refine ⟨Inv1, mu1, (hI1 _ _).2 ⟨0, f, rfl, by omega, hbr, by simpa using hor, hrf, fun e he => (by simp at he), hx⟩, ?_⟩
    clear hor hrf hx hbr hinv
    intro junk1 wa i1 hinv1
    obtain ⟨a, f, hi1, ha, hbr, hor, hrf, htx, hx⟩ := (hI1 _ _).1 hinv1
    subst hi1
    refine ifD (fun hlt1 => ?_) (fun hge1 => ?_)
    · have han : a < S.length := by omega
      have lx := hx.le
      obtain ⟨e, he⟩ : ∃ e, S[a]'han = e := ⟨_, rfl⟩
      have hml : ((S.take a).map (taxRowT g0 mode)).length = a := by rw [List.length_map, List.length_take]; omega
      have hdrop : S.drop a = e :: S.drop (a + 1) := by rw [List.drop_eq_getElem_cons han, he]
      have hrow : ((S.take a).map (taxRowT g0 mode) ++ (S.drop a).map (taxRow g0))[a]? = some (taxRow g0 e) := by
        rw [List.getElem?_append_right (by omega), hml, Nat.sub_self, hdrop]; rfl
      obtain ⟨b, xs, cs, zs, fi, hpb, hbB, hbf, hxl, hcl, hblk, how, hndi, hbfi, hfif, hput⟩ := hor.swap hrow
      subst hpb
      obtain ⟨k0, k1p, k1n, k1c, k1z, k2, k3, k4, k5p, k5n, k5c, k5z, k6, k7, k8p, k8n, k8c, k8z, rfl, hkd, _⟩ := open_TaxSum how.reps (taxRow_code g0 e)
      obtain ⟨fa, fbc, hfe, hoa, hobc⟩ := Owns.split (vs := [.bool k0, .slice k1p k1n k1c, .int .i64 k2]) (ds := dnn e.1 e.2.1) (us := [.string k3, .bool k4, .slice k5p k5n k5c, .string k6, .bool k7, .slice k8p k8n k8c]) (es := netOf g0 e ++ money0) rfl how
      obtain ⟨fb, fc, hfe2, hob, hoc⟩ := Owns.split (vs := [.string k3, .bool k4, .slice k5p k5n k5c]) (ds := netOf g0 e) (us := [.string k6, .bool k7, .slice k8p k8n k8c]) (es := money0) rfl hobc
      subst hfe2
      subst hfe
      have D := Ext.drew wa
      have hbl := hblk.lt; have hrl := hbr.lt
      refine ⟨_, _, _, hbr.loadAt 0 rfl (by kernel_rfl) rfl, ⟨by omega, by omega⟩, ?_⟩
      rw [Int.toNat_natCast]
      refine ⟨_, _, _, _, _, fun W hW => ((hblk.ext D).ext hW).loadAAt (a * 9 + 3) [.string k3, .bool k4, .slice k5p k5n k5c] (by rw [addr_add, addr_add, Nat.zero_add]) (by kernel_rfl) (by rw [← hxl, List.append_assoc, List.drop_length_add_append]; rfl), _, _, _, _, _, fun W hW => ((hblk.ext D).ext hW).loadAAt (a * 9) [.bool k0, .slice k1p k1n k1c, .int .i64 k2] (by rw [addr_add, addr_add, Nat.zero_add, Nat.add_zero]) (by kernel_rfl) (by rw [← hxl, List.append_assoc, List.drop_left']; rfl; rfl), ?_⟩
      intro ss w24 f1
      have S1 := FlS.first f1 rfl
      have y1 := D.trans f1.ext
      refine Ret.at (impl_TaxOn_o (hob.ext y1).reps (hoa.ext y1).reps rfl rfl mode (ht.ext (hx.trans y1))) ?_
      rintro v w25 ⟨vs0, g0', vs1, g1', hv, ho0, nd0, ho1, nd1, _, y2⟩
      subst hv
      have S2 := S1.ext y2
      obtain ⟨t0, t1, t2p, t2n, t2c, t2z, rfl, _, _⟩ := open_Money ho0.reps (taxOf_code g0 mode e)
      obtain ⟨u0, u1p, u1n, u1c, u1z, u2p, u2n, u2c, u2z, rfl, _, _, _⟩ := open_Rat ho1.reps (taxOnT_facts _ _ mode).2.2.1
      refine ⟨_, _, _, _, _, _, _, _, _, _, _, _, _, rfl, ?_⟩
      intro ss1 w26 r2 f2 g2 ss2 w27 r3 f3 g3
      have S3 := S2.step f2
      have S4 := S3.step f3
      have gg2 := f3.keeps g2
      obtain ⟨sr2, lr2, bk2⟩ := S4.blk gg2 rfl
      obtain ⟨sr3, lr3, bk3⟩ := S4.blk g3 rfl
      have ne23 := S4.ne gg2 g3 (by decide)
      have ap2 := S1.apart f2 g2
      have ap3 := S1.apart (f2.trans f3) g3
      have Y4 := ((y1.trans y2).trans f2.ext).trans f3.ext
      have Y25 : Ext w25 w27 := f2.ext.trans f3.ext
      have lD := D.le; have l27 := Y4.le; have l24 := f1.ext.le
      obtain ⟨w28, st28, bk28, ch28, sz28⟩ := bk2.storeA0 (P := P) (t := T_impl_Money) (xs := [.string t0, .bool t1, .slice t2p t2n t2c]) (by kernel_rfl) rfl (by simp [Value.oneCell'])
      have bk3' := bk3.chg ch28 (fun hm2 => ne23 (by simp at hm2; omega))
      obtain ⟨w29, st29, bk29, ch29, sz29⟩ := bk3'.storeA0 (P := P) (t := T_impl_Rat) (xs := [.bool u0, .slice u1p u1n u1c, .slice u2p u2n u2c]) (by kernel_rfl) rfl (by simp [Value.oneCell'])
      have X29 : Ext wa w29 := (Y4.chg ch28 (by simp; omega)).chg ch29 (by simp; omega)
      refine ⟨w28, st28, w29, st29, ifN (fun hno => no w29 (hx.trans X29) (taxSums_bad2 (e := e) (by rw [hS, ← he]; exact List.getElem_mem _) (by rw [hc0]; exact hno))) (fun hyes => ?_)⟩
      refine ⟨_, _, _, _, _, (bk28.chg ch29 (fun hm2 => ne23 (by simp at hm2; omega))).loadA0 (by kernel_rfl), ?_⟩
      have hb29 := hblk.ext X29
      obtain ⟨w30, st30, hb30, ch30, sz30⟩ := hb29.storeA (P := P) (t := T_impl_Money) (k := a * 9 + 6) (xs := [.string t0, .bool t1, .slice t2p t2n t2c]) (by kernel_rfl) (by simp [hxl]; omega) (by simp [Value.oneCell'])
      have hnew : (xs ++ [Value.bool k0, .slice k1p k1n k1c, .int .i64 k2, .string k3, .bool k4, .slice k5p k5n k5c, .string k6, .bool k7, .slice k8p k8n k8c] ++ zs).take (a * 9 + 6) ++ [Value.string t0, .bool t1, .slice t2p t2n t2c] ++ (xs ++ [Value.bool k0, .slice k1p k1n k1c, .int .i64 k2, .string k3, .bool k4, .slice k5p k5n k5c, .string k6, .bool k7, .slice k8p k8n k8c] ++ zs).drop (a * 9 + 6 + [Value.string t0, Value.bool t1, .slice t2p t2n t2c].length) = xs ++ [Value.bool k0, .slice k1p k1n k1c, .int .i64 k2, .string k3, .bool k4, .slice k5p k5n k5c, .string t0, .bool t1, .slice t2p t2n t2c] ++ zs := by
        rw [← hxl, List.append_assoc xs, List.take_length_add_append, Nat.add_assoc, List.drop_length_add_append]
        simp
      rw [hnew] at hb30
      have l0 := ho0.lt
      have nb : ∀ {y}, y ∈ fa ++ (fb ++ fc) → y ∉ [b] := fun {y} hy hm2 => by simp at hm2; subst hm2; exact hbfi hy
      have oa := (hoa.ext X29).chg ch30 (fun y hy => nb (List.mem_append_left _ hy))
      have ob := (hob.ext X29).chg ch30 (fun y hy => nb (List.mem_append_right _ (List.mem_append_left _ hy)))
      have ot : Owns w30 w24.heap.size [.string t0, .bool t1, .slice t2p t2n t2c] (taxOf g0 mode e).2.1 g0' := ((((ho0.ext Y25).chg ch28 (fun y hy hm2 => by have := l0 y hy; simp at hm2; omega)).chg ch29 (fun y hy hm2 => by have := l0 y hy; simp at hm2; omega)).chg ch30 (fun y hy hm2 => by have := l0 y hy; simp at hm2; omega))
      have hnd2 : (fa ++ (fb ++ g0')).Nodup := by
        have h8 : ((fa ++ fb) ++ (fc ++ [])).Nodup := by rw [List.append_nil, List.append_assoc]; exact hndi
        have h9 := nodup3 h8 nd0 (m := w24.heap.size) (fun y hy => by
          have := (how.lt y (by simpa using hy)).2
          omega) (fun y hy => (l0 y hy).1)
        simpa using h9
      obtain ⟨f4, hor4, hf4⟩ := hput w30 _ (taxRowT g0 mode e) (fa ++ (fb ++ g0')) (X29.toChg.trans ch30) rfl hb30 (Owns.append oa (Owns.append ob (ot.mono (by omega)))) hnd2 (fun y hy => by
        rcases List.mem_append.1 hy with hy | hy
        · exact .inl (List.mem_append_left _ hy)
        · rcases List.mem_append.1 hy with hy | hy
          · exact .inl (List.mem_append_right _ (List.mem_append_left _ hy))
          · refine .inr fun hm2 => ?_
            have h8 := (l0 y hy).1; have h9 := (hor.lt y hm2).2; omega)
      have hrb : r ∉ [b] := fun hm2 => by simp at hm2; subst hm2; exact hrf hbf
      refine ⟨w30, ?_, exW ⟨by omega, by omega⟩ ⟨(hI1 _ _).2 ⟨a + 1, f4, rfl, by omega, (hbr.ext X29).chg ch30 hrb, ?_, ?_, ?_, (hx.trans X29).chg ch30 (by simp; omega)⟩, ?_⟩⟩
      · rw [addr_add] at st30
        rw [addr_add, addr_add]
        rw [Nat.zero_add] at st30
        rw [Nat.zero_add]
        exact st30
      · have e2 : ((S.take a).map (taxRowT g0 mode) ++ (S.drop a).map (taxRow g0)).set a (taxRowT g0 mode e) = (S.take (a + 1)).map (taxRowT g0 mode) ++ (S.drop (a + 1)).map (taxRow g0) := by
          rw [List.set_append_right _ _ (by omega), hml, Nat.sub_self, hdrop, List.map_cons, List.set_cons_zero, List.take_succ_eq_append_getElem han, he, List.map_append, List.append_assoc]
          rfl
        rw [← e2]
        exact hor4
      · intro hm2
        rcases hf4 r hm2 with h8 | h8
        · exact hrf h8
        · rcases List.mem_append.1 h8 with h9 | h9
          · exact hrf (hfif r (List.mem_append_left _ h9))
          · rcases List.mem_append.1 h9 with h9 | h9
            · exact hrf (hfif r (List.mem_append_right _ (List.mem_append_left _ h9)))
            · have := (l0 r h9).1; omega
      · intro e2 he2
        rw [List.take_succ_eq_append_getElem han, he] at he2
        rcases List.mem_append.1 he2 with he2 | he2
        · exact htx e2 he2
        · simp only [List.mem_singleton] at he2; rw [he2]; exact hyes
      · rw [hmu1, hmu1]; omega
    · have han : a = S.length := by omega
      rw [han, List.take_length, List.drop_length, List.map_nil, List.append_nil] at hor
      rw [han, List.take_length] at htx
      have hyes : taxSumsOk l mode = true := by
        unfold taxSumsOk
        rw [hc0, hS]
        simp only [Bool.and_eq_true, List.all_eq_true]
        refine ⟨?_, hall, htx⟩
        cases l with
        | nil => simp at hln; omega
        | cons _ _ => rfl
      refine ⟨_, _, _, hbr.loadAt 0 rfl (by kernel_rfl) rfl, q, n', c', f, by rw [hyes], ?_, kc, kn, hx⟩
      unfold taxSums
      rw [hyes, if_pos rfl, hc0, hS]
      exact hor
end Go.Proofs.YtfehpaekbbmkcaaGreatDoor

namespace Go.Proofs.YtfehpaekbbmkcaaGreatDoor
open Go Go.Proofs.YtfehpaekbbmkcaaGreatDoor.Sx
set_option linter.unusedVariables false
set_option linter.unusedSimpArgs false
theorem own_pushA {w : World} {B : Nat} {t e : TypeId} {z : Value} {size bytes : Nat} {g n c m mc : Nat} {a : Addr} {xs news : List Value} (h : Sx.Own w B e size (some ⟨g, 0, none⟩) n c xs)
    (hT : sliceT P t e z size bytes) (hb : B ≤ w.heap.size) (hcells : ∀ j u, news[j]? = some u → w.cell? (a.add j) = some u) (hl : news.length = m * size) (h1 : ∀ u ∈ news, u.oneCell' = true)
    (hbytes : (n + m) * bytes ≤ 140737488355328) (hby : 1 ≤ bytes) :
    ∃ g' c' w', Appends P [t, t] [.slice (some ⟨g, 0, none⟩) n c, .slice (some a) m mc] (.slice (some ⟨g', 0, none⟩) (n + m) c') w w' ∧ Sx.Own w' B e size (some ⟨g', 0, none⟩) (n + m) c' (xs ++ news) ∧ Chg [g] w w' ∧ (g' = g ∨ w.heap.size ≤ g') := by
  rcases Nat.eq_zero_or_pos m with h0 | h0
  · subst h0
    have hn : news = [] := List.eq_nil_of_length_eq_zero (by simpa using hl)
    subst hn
    obtain ⟨hu, hi, hz, hs⟩ := hT
    cases hinf : P.info? e with
    | none => rw [hinf] at hi; cases hi
    | some i =>
      rw [hinf] at hi
      simp only [Option.map_some, Option.some.injEq, Prod.mk.injEq] at hi
      rcases h.2 with ⟨e1, e2⟩ | ⟨g2, cap, cur, e1, hB, hg, h3, h4, h5, h6⟩
      · simp at e1
      · simp only [Value.slice.injEq, Option.some.injEq, Addr.mk.injEq, and_true, true_and] at e1
        obtain ⟨rfl, rfl⟩ := e1
        have hsz : n * i.size + ([] : List Value).length ≤ cur.size := by
          have : n * size ≤ c * size := Nat.mul_le_mul_right _ h3
          simp only [List.length_nil, Nat.add_zero, hi.2.1, h5]
          exact this
        obtain ⟨v', w', hrun, hown, hgr, _⟩ := run_append_own (P := P) w B t 0 e i z size bytes hu hinf hi.1 hi.2.1 hi.2.2 hz hs (.slice (some ⟨g, 0, none⟩) n c) n xs h a 0 mc [] hl hcells h1 (by omega) (by simpa using hbytes) hb
        have hr := run_append_room (P := P) w t 0 e i hu hinf g n c cur hg a 0 mc [] (by simp) hcells h1 (by omega) hsz
        rw [hr] at hrun
        injection hrun with hv hw
        subst hv
        subst hw
        refine ⟨g, c, _, hr, hown, ⟨hgr.os, hgr.tape, hgr.output, hgr.size, fun k hk hn => hgr.block k hk ?_⟩, .inl rfl⟩
        intro e; simp [Value.ownBlock] at e; simp at hn; omega
  · obtain ⟨p', c', w', hA, hO, hC, hP⟩ := Sx.Own.pushN h (mc := mc) hT hb hcells hl h1 hbytes hby h0
    obtain ⟨g', ys, rfl, _⟩ := hO.blk (by omega)
    refine ⟨g', c', w', hA, hO, hC, ?_⟩
    rcases hP with ⟨hp, _⟩ | ⟨hp, _⟩
    · simp at hp; exact .inl hp
    · exact .inr (hp g' rfl)
theorem own_pushS {w : World} {B : Nat} {t e : TypeId} {z : Value} {size bytes : Nat} {g n c m mc : Nat} {q : Option Addr} {xs news : List Value} (h : Sx.Own w B e size (some ⟨g, 0, none⟩) n c xs)
    (hT : sliceT P t e z size bytes) (hb : B ≤ w.heap.size) (hsrc : (m = 0 ∧ q = none) ∨ ∃ a, q = some a ∧ ∀ j u, news[j]? = some u → w.cell? (a.add j) = some u) (hl : news.length = m * size) (h1 : ∀ u ∈ news, u.oneCell' = true)
    (hbytes : (n + m) * bytes ≤ 140737488355328) (hby : 1 ≤ bytes) :
    ∃ g' c' w', Appends P [t, t] [.slice (some ⟨g, 0, none⟩) n c, .slice q m mc] (.slice (some ⟨g', 0, none⟩) (n + m) c') w w' ∧ Sx.Own w' B e size (some ⟨g', 0, none⟩) (n + m) c' (xs ++ news) ∧ Chg [g] w w' ∧ (g' = g ∨ w.heap.size ≤ g') := by
  rcases hsrc with ⟨rfl, rfl⟩ | ⟨a, rfl, hc⟩
  · have hn : news = [] := List.eq_nil_of_length_eq_zero (by simpa using hl)
    subst hn
    obtain ⟨hu, hi, hz, hs⟩ := hT
    cases hinf : P.info? e with
    | none => rw [hinf] at hi; cases hi
    | some i =>
      exact ⟨g, c, w, run_append_none w B t 0 e i size hu hinf _ n mc _ h, by simpa using h, Chg.refl _ _, .inl rfl⟩
  · exact own_pushA h hT hb hc hl h1 hbytes hby
end Go.Proofs.YtfehpaekbbmkcaaGreatDoor

namespace Go.Proofs.YtfehpaekbbmkcaaGreatDoor
open Go Go.Proofs.YtfehpaekbbmkcaaGreatDoor.Sx
set_option linter.unusedVariables false
set_option linter.unusedSimpArgs false
theorem ins3G {wk wa : World} {B n c j r3 : Nat} {p : Option Addr} {l : List (List D0)} {f : List Nat} {t e : TypeId} {z : Value} {k bytes : Nat} (hT : sliceT P t e z k bytes) (hby : 1 ≤ bytes) (hbb : bytes ≤ 1000) (how : OwnRows wk B e k p n c l f) (hB : B ≤ wk.heap.size) (hj : j ≤ n) (hn : n ≤ 4000000) (hna : New wk (.cells ⟨[]⟩ e (0, 0)) r3 wa) :
    ∃ g1 c1 w14, Appends P [t, t] [.slice (some ⟨r3, 0, none⟩) 0 0, .slice p j c] (.slice (some ⟨g1, 0, none⟩) j c1) wa w14 ∧ Ext wk w14 ∧ j ≤ c ∧
      ∀ (w15 : World), Ext w14 w15 → ∀ (x : List D0) (cs : List Value) (fx : List Nat) (r4 : Nat) (w16 : World), New w15 (.cells ⟨cs⟩ e (0, 0)) r4 w16 → cs.length = k → Owns w16 B cs x fx → fx.Nodup → (∀ y ∈ fx, w14.heap.size ≤ y) →
        ∃ g2 c2 w17, Appends P [t, t] [.slice (some ⟨g1, 0, none⟩) j c1, .slice (some ⟨r4, 0, none⟩) 1 1] (.slice (some ⟨g2, 0, none⟩) (j + 1) c2) w16 w17 ∧ Ext wk w17 ∧
          ∃ g3 c3 w18 f', Appends P [t, t] [.slice (some ⟨g2, 0, none⟩) (j + 1) c2, .slice (Sx.sub p j c k) (n - j) (c - j)] (.slice (some ⟨g3, 0, none⟩) (n + 1) c3) w17 w18 ∧ OwnRows w18 B e k (some ⟨g3, 0, none⟩) (n + 1) c3 (l.take j ++ x :: l.drop j) f' ∧ Ext wk w18 ∧ (∀ y ∈ f', y ∈ f ∨ y ∈ fx ∨ wk.heap.size ≤ y) := by
  have hra := hna.r_eq; have hza := hna.size
  have hbq : ∀ q, q ≤ 4000001 → q * bytes ≤ 140737488355328 := fun q hq => Nat.le_trans (Nat.mul_le_mul hq hbb) (by decide)
  obtain ⟨xs, hown, h1, hins⟩ := how.ins (i := j) hj
  have hxl : xs.length = n * k := hown.len
  have hle := hown.le
  have hjk : j * k ≤ n * k := Nat.mul_le_mul_right _ hj
  have src : ∀ W, Ext wk W → (p = none ∧ n = 0) ∨ ∃ b, p = some ⟨b, 0, none⟩ ∧ Seg W b 0 xs ∧ b < wk.heap.size := fun W hW => by
    rcases hown.2 with ⟨e1, e2⟩ | ⟨g, cap, cu, e1, hBg, hg, h3, h4, h5, h6⟩
    · left
      simp only [Value.slice.injEq] at e1
      exact ⟨e1.1, e1.2.1⟩
    · right
      simp only [Value.slice.injEq] at e1
      have hbk : Blk wk g e cu.toList := by cases cu; exact hg
      have := ((hbk.ext hW).seg).take (n * k)
      refine ⟨g, e1.1, ?_, hbk.lt⟩
      rw [show xs = cu.toList.take (n * k) from h6.symm]
      exact this
  obtain ⟨g1, c1, w14, hA1, hO1, ch1, hg1⟩ := own_pushS (m := j) (mc := c) (q := p) (news := xs.take (j * k)) (Sx.Own.of_blk0 (base := B) (size := k) (n := 0) hna.blk (by omega) (by simp) (by decide) : Sx.Own wa B e k (some ⟨r3, 0, none⟩) 0 0 []) hT (by omega) (by
      rcases src wa hna.ext with ⟨rfl, h0⟩ | ⟨b, rfl, hs, _⟩
      · exact .inl ⟨by omega, rfl⟩
      · refine .inr ⟨_, rfl, fun i u hi => ?_⟩
        rw [addr_add]
        exact (hs.take (j * k)) i u hi) (by rw [List.length_take]; omega) (fun u hu => h1 u (List.mem_of_mem_take hu)) (hbq _ (by omega)) hby
  rw [Nat.zero_add, List.nil_append] at hO1
  rw [Nat.zero_add] at hA1
  have X14 : Ext wk w14 := hna.ext.chg ch1 (by simp; omega)
  refine ⟨g1, c1, w14, hA1, X14, by omega, ?_⟩
  intro w15 hx15 x cs fx r4 w16 hn16 hcl hox hfx hfl
  have e16 := hn16.r_eq; have z16 := hn16.size
  have l14 := X14.le; have l15 := hx15.le
  have hg1l : g1 < w14.heap.size := (World.ownsRow.lt hO1 g1 rfl).2
  have hg1B : wk.heap.size ≤ g1 := by rcases hg1 with h | h <;> omega
  have Y16 := hx15.trans hn16.ext
  obtain ⟨g2, c2, w17, hA2, hO2, ch2, hg2⟩ := own_pushA (m := 1) (mc := 1) (a := ⟨r4, 0, none⟩) (news := cs) (hO1.ext Y16) hT (by omega) (fun i u hi => by rw [addr_add, Nat.zero_add, hn16.blk.cell, hi]) (by rw [hcl, Nat.one_mul]) hox.reps.cells1 (hbq _ (by omega)) hby
  have X17 : Ext wk w17 := (X14.trans Y16).chg ch2 (by simp; omega)
  have hg2B : wk.heap.size ≤ g2 := by rcases hg2 with h | h <;> omega
  refine ⟨g2, c2, w17, hA2, X17, ?_⟩
  have l17 := X17.le
  have hfxl : ∀ y ∈ fx, y < w16.heap.size := fun y hy => (hox.lt y hy).2
  have ho17 := hox.chg ch2 (fun y hy hm => by have := hfl y hy; simp at hm; omega)
  obtain ⟨g3, c3, w18, hA3, hO3, ch3, hg3⟩ := own_pushS (m := n - j) (mc := c - j) (q := Sx.sub p j c k) (news := xs.drop (j * k)) hO2 hT (by omega) (by
      rcases src w17 X17 with ⟨rfl, h0⟩ | ⟨b, rfl, hs, _⟩
      · exact .inl ⟨by omega, by unfold Sx.sub; split <;> rfl⟩
      · by_cases hjc : j < c
        · refine .inr ⟨⟨b, j * k, none⟩, subS hjc, fun i u hi => ?_⟩
          rw [addr_add]
          have := (hs.drop (j * k)) i u hi
          rwa [Nat.zero_add] at this
        · have hjn : n = j := by omega
          refine .inr ⟨⟨b, 0, none⟩, by unfold Sx.sub; rw [if_pos (by omega)], fun i u hi => ?_⟩
          have := (List.getElem?_eq_some_iff.1 hi).1
          rw [List.length_drop, hxl, hjn] at this; omega) (by rw [List.length_drop, hxl, Nat.sub_mul]) (fun u hu => h1 u (List.mem_of_mem_drop hu)) (hbq _ (by omega)) hby
  rw [show j + 1 + (n - j) = n + 1 by omega] at hA3 hO3
  have X18 : Ext wk w18 := X17.chg ch3 (by simp; omega)
  have hg3B : wk.heap.size ≤ g3 := by rcases hg3 with h | h <;> omega
  have lc2 := ch2.size
  have hg2n : ∀ y ∈ fx, y ≠ g2 := fun y hy e => by
    have h8 := hfl y hy; have h9 := hfxl y hy
    rcases hg2 with h | h <;> omega
  have ho18 := ho17.chg ch3 (fun y hy hm => hg2n y hy (by simp at hm; exact hm))
  obtain ⟨f', hor, hf'⟩ := hins w18 (some ⟨g3, 0, none⟩) c3 cs x fx hO3 X18.toChg (.inr (fun q hq => by simp at hq; omega)) hcl ho18 hfx (fun y hy hm => by
    have h8 := hfl y hy; have h9 := (how.lt y hm).2; omega) (fun y hy e => by
    have h8 := hfl y hy; have h9 := hfxl y hy
    simp at e
    rcases hg3 with h | h
    · exact hg2n y hy (by omega)
    · omega)
  exact ⟨g3, c3, w18, f', hA3, hor, X18, hf'⟩
end Go.Proofs.YtfehpaekbbmkcaaGreatDoor

namespace Go.Proofs.YtfehpaekbbmkcaaGreatDoor
open Go Go.Proofs.YtfehpaekbbmkcaaGreatDoor.Sx
set_option linter.unusedVariables false
set_option linter.unusedSimpArgs false
theorem taxAdd_has {s : List TE} {m t k : Nat} {u : Int} {e : TE} (hk : posT s (keyT m t) = k) (he : s[k]? = some e) (hh : hasT s (keyT m t) = true) : taxAdd s m t u = s.set k (e.1, e.2.1, e.2.2 + u) := by
  unfold taxAdd
  rw [hh, if_pos rfl, hk, List.getD_eq_getElem?_getD, he, Option.getD_some]
theorem taxAdd_no {s : List TE} {m t k : Nat} {u : Int} (hk : posT s (keyT m t) = k) (hh : hasT s (keyT m t) = false) : taxAdd s m t u = s.take k ++ (lowM m t, lowS m t, u) :: s.drop k := by
  unfold taxAdd
  rw [hk]
  simp [hh]
theorem sliceT_tax : sliceT P T_s_impl_TaxSum T_impl_TaxSum (.agg ⟨[.bool false, .slice none 0 0, .int .i64 0, .string ByteArray.empty, .bool false, .slice none 0 0, .string ByteArray.empty, .bool false, .slice none 0 0]⟩) 9 136 := ⟨by kernel_rfl, by kernel_rfl, rfl, by decide⟩
set_option maxHeartbeats 2000000 in
theorem spec_TaxSums_c {w : World} {p : Option Addr} {n c : Nat} {l : List (List D0)} (h : RowsR w 6 p n c l) (hc : ∀ x ∈ l, x.map D0.code = C6) (hn : n ≤ 1048576) (hb : ∀ x ∈ l, bulks x ≤ 1048576) (mode : Int) :
    Ret P n_spec_TaxSums [.slice p n c, .int .i64 mode] w fun v w' => ∃ p' n' c', v = .tuple #[.slice p' n' c', .bool (taxSumsOk l mode)] ∧ RowsR w' 9 p' n' c' (taxSums l mode) ∧ (∀ x ∈ taxSums l mode, x.map D0.code = C9) ∧ Ext w w' := by
  have hln := h.1; have hcap := h.2.1; have hcm := h.2.2.1
  have kc := taxSums_code l mode
  have no : ∀ W, Ext w W → taxSumsOk l mode = false → ∃ p' n' c', Value.tuple #[.slice none 0 0, .bool false] = .tuple #[.slice p' n' c', .bool (taxSumsOk l mode)] ∧ RowsR W 9 p' n' c' (taxSums l mode) ∧ (∀ x ∈ taxSums l mode, x.map D0.code = C9) ∧ Ext w W := fun W hW hno => by
    refine ⟨none, 0, 0, by rw [hno], ?_, kc, hW⟩
    unfold taxSums
    rw [hno]
    exact RowsR.nil _ _ _ (by omega)
  refine spec_TaxSums_ret ?_
  unfold spec_TaxSums
  intro r w1 hn1
  have e1 := hn1.r_eq; have z1 := hn1.size
  obtain ⟨c0, hc0⟩ : ∃ c0, hdCur l = c0 := ⟨_, rfl⟩
  obtain ⟨Inv, hI⟩ : ∃ I : Option Addr → Nat → Nat → Int → World → Prop, ∀ op on oc i wr, I op on oc i wr ↔ ∃ (j b : Nat) (f : List Nat), i = j ∧ j ≤ n ∧ op = some ⟨b, 0, none⟩ ∧ OwnRows wr w.heap.size T_impl_TaxSum 9 op on oc ((taxS (l.take j)).map (taxRow c0)) f ∧ (∀ x ∈ l.take j, lnOk c0 x = true) ∧ Ext w wr := ⟨_, fun _ _ _ _ _ => Iff.rfl⟩
  obtain ⟨mu, hmu⟩ : ∃ m : Option Addr → Nat → Nat → Int → World → Nat, ∀ op on oc i wr, m op on oc i wr = n - i.toNat := ⟨fun _ _ _ i _ => n - i.toNat, fun _ _ _ _ _ => rfl⟩
  refine ⟨Inv, mu, (hI _ _ _ _ _).2 ⟨0, r, [r], rfl, by omega, rfl, OwnRows.fresh hn1 (Nat.le_refl _), fun x hx => (by simp at hx), hn1.ext⟩, ?_⟩
  intro junk wr op on oc i hinv
  obtain ⟨j, b, f, hi, hj, hop, hor, hall, hx⟩ := (hI _ _ _ _ _).1 hinv
  subst hi; subst hop
  have lx := hx.le
  obtain ⟨hord, hok, hlenS⟩ := taxS_facts hc (show j ≤ l.length by omega) hall
  have hn' : on = (taxS (l.take j)).length := by have := hor.1; rw [List.length_map] at this; omega
  have hle := hor.rows.2.1
  refine ifD (fun hlt => ?_) (fun hge => ?_)
  · have hjl : j < l.length := by omega
    obtain ⟨bl, offl, hpl, hs⟩ := h.2.2.2 (by omega)
    subst hpl
    obtain ⟨cs0, _, hr0, hsg0⟩ := hs 0 _ (List.getElem?_eq_getElem (show 0 < l.length by omega))
    obtain ⟨g0, g1, g2p, g2n, g2c, g2z, g3, g4p, g4n, g4c, g4z, g5, rfl, hd0, _⟩ := open_TaxLine hr0 (hc _ (List.getElem_mem _))
    have hcur : hdCur l = g0 := by rw [hdCur_get (by omega), hd0]; rfl
    have hg0 : g0 = c0 := by rw [← hcur, hc0]
    subst hg0
    have ld0 : ∀ W, Ext w W → Loads P T_string ((((⟨bl, offl, none⟩ : Addr).add (0 * 6)).add 0).add 0) (.string g0) W := fun W hW => (hsg0.ext hW).loadAt 0 (by rw [addr_add, addr_add, addr_add]) (by kernel_rfl) rfl
    obtain ⟨cs, hk, hr, hsg⟩ := hs j _ (List.getElem?_eq_getElem hjl)
    have hcode := hc _ (List.getElem_mem hjl)
    obtain ⟨a0, a1, a2p, a2n, a2c, a2z, a3, a4p, a4n, a4c, a4z, a5, rfl, hd, i2, i4⟩ := open_TaxLine hr hcode
    have hld : Loads P T_impl_TaxLine ((⟨bl, offl, none⟩ : Addr).add (j * 6)) (.agg ⟨[.string a0, .bool a1, .slice a2p a2n a2c, .bool a3, .slice a4p a4n a4c, .int .i64 a5]⟩) wr := (hsg.ext hx).loadAAt 0 _ (by rw [addr_add]; rfl) (by kernel_rfl) rfl
    have hlok : lnOk g0 (l[j]'hjl) = (moneyOk [.str a0, .bool a1, .ints a2z] && (taxOk [.bool a3, .ints a4z, .int a5] && decide (a0 = g0))) := by rw [hd]; rfl
    have bad : lnOk g0 (l[j]'hjl) = false → taxSumsOk l mode = false := fun hh => taxSums_bad hjl (by rw [hc0]; exact hh)
    refine ⟨⟨by omega, by omega⟩, _, _, _, _, _, _, _, _, _, _, by simpa using hld, ?_⟩
    intro r1 w3 hn3
    have e3 := hn3.r_eq; have z3 := hn3.size
    obtain ⟨w4, st4, b4, y4⟩ := hn3.fill (P := P) (t := T_impl_TaxLine) (xs := [.string a0, .bool a1, .slice a2p a2n a2c, .bool a3, .slice a4p a4n a4c, .int .i64 a5]) (by simp [Value.oneCell']) (by kernel_rfl) rfl
    have D4 := Ext.drew w4
    have X4 := (hx.trans y4).trans D4
    refine ⟨w4, st4, _, _, _, _, _, fun W hW => (b4.ext (D4.trans hW)).loadAAt 0 [.string a0, .bool a1, .slice a2p a2n a2c] rfl (by kernel_rfl) rfl, ?_⟩
    refine Ret.at (spec_MoneyOk_c (dx := [.str a0, .bool a1, .ints a2z]) ⟨rfl, rfl, ⟨_, _, _, rfl, i2.ext X4⟩, trivial⟩ rfl) ?_
    rintro v w6 ⟨hv, y6⟩
    subst hv
    have X6 := X4.trans y6
    have b6 := (b4.ext D4).ext y6
    refine ⟨_, rfl, ifN (fun hno => ifT (ifT (no w6 X6 (bad (by rw [hlok, hno]; rfl))))) (fun hmok => ?_)⟩
    refine ⟨_, _, _, _, _, fun W hW => (b6.ext hW).loadAAt 3 [.bool a3, .slice a4p a4n a4c, .int .i64 a5] rfl (by kernel_rfl) rfl, ?_⟩
    refine Ret.at (spec_TaxRateOk_c (dx := [.bool a3, .ints a4z, .int a5]) ⟨rfl, ⟨_, _, _, rfl, i4.ext X6⟩, rfl, trivial⟩ rfl) ?_
    rintro v w7 ⟨hv, y7⟩
    subst hv
    have X7 := X6.trans y7
    have b7 := b6.ext y7
    refine ⟨_, rfl, ifN (fun hno => ifT (no w7 X7 (bad (by rw [hlok, hno]; simp)))) (fun hrok => ?_)⟩
    refine ⟨_, fun W hW => (b7.ext hW).loadAt 0 rfl (by kernel_rfl) rfl, ⟨by omega, by omega⟩, _, fun W hW => ld0 W (X7.trans hW), ifD (fun hne => no w7 X7 (bad (by rw [hlok, decide_eq_false hne]; simp))) (fun heq => ?_)⟩
    have heq : a0 = g0 := by simpa using heq
    have hlt2 : lnOk g0 (l[j]'hjl) = true := by rw [hlok, hmok, hrok, decide_eq_true heq]; rfl
    obtain ⟨u, m, t, hxe, _, eu, em, et, hu, hm, ht30, _, _, _⟩ := ln_parts hcode hlt2
    have hq : [D0.str a0, .bool a1, .ints a2z, .bool a3, .ints a4z, .int a5] = [.str g0, .bool (decide (u < 0)), .ints (digs u.natAbs), .bool false, .ints (digs m), .int (t : Int)] := hd.symm.trans hxe
    simp only [List.cons.injEq, D0.str.injEq, D0.bool.injEq, D0.ints.injEq, D0.int.injEq, and_true] at hq
    obtain ⟨rfl, rfl, rfl, rfl, rfl, rfl⟩ := hq
    have Y7 : Ext wr w7 := ((y4.trans D4).trans y6).trans y7
    have lY7 := Y7.le
    have hufit : (digs u.natAbs).length ≤ 6 := digs_len 6 (by omega)
    have hnn : (digs u.natAbs).length = a2n := i2.1
    have next : ∀ (g3 on2 oc2 : Nat) (f2 : List Nat) (W2 : World), OwnRows W2 w.heap.size T_impl_TaxSum 9 (some ⟨g3, 0, none⟩) on2 oc2 ((taxAdd (taxS (l.take j)) m t u).map (taxRow a0)) f2 → Ext w W2 → ∀ R, spec_TaxSums_j2 wr Inv mu (some ⟨b, 0, none⟩) on oc (j : Int) (some ⟨g3, 0, none⟩) on2 oc2 W2 R := by
      intro g3 on2 oc2 f2 W2 h1 h2 R
      unfold spec_TaxSums_j2
      refine exW ⟨by omega, by omega⟩ ⟨(hI _ _ _ _ _).2 ⟨j + 1, g3, f2, rfl, by omega, rfl, by rw [taxS_snoc hjl, em, et, eu]; exact h1, ?_, h2⟩, ?_⟩
      · intro x hx2
        rw [List.take_succ_eq_append_getElem hjl] at hx2
        rcases List.mem_append.1 hx2 with hx2 | hx2
        · exact hall x hx2
        · simp only [List.mem_singleton] at hx2; rw [hx2]; exact hlt2
      · rw [hmu, hmu]; omega
    obtain ⟨S, hS⟩ : ∃ S, taxS (l.take j) = S := ⟨_, rfl⟩
    rw [hS] at hor hord hok hn' hlenS next
    -- the row at a place
    have rowAt : ∀ (k : Nat) (hk : k < on), ∃ xs cs zs fi, xs.length = k * 9 ∧ cs.length = 9 ∧ Blk wr b T_impl_TaxSum (xs ++ cs ++ zs) ∧ Owns wr w.heap.size cs (taxRow a0 (S[k]'(by omega))) fi ∧ fi.Nodup ∧ b ∉ fi ∧ b ∈ f ∧ w.heap.size ≤ b ∧ (∀ y ∈ fi, y ∈ f) ∧
        ∀ w' cs' x' f', Chg [b] wr w' → cs'.length = 9 → Blk w' b T_impl_TaxSum (xs ++ cs' ++ zs) → Owns w' w.heap.size cs' x' f' → f'.Nodup → (∀ y ∈ f', y ∈ fi ∨ y ∉ f) → ∃ f'', OwnRows w' w.heap.size T_impl_TaxSum 9 (some ⟨b, 0, none⟩) on oc ((S.map (taxRow a0)).set k x') f'' ∧ ∀ q ∈ f'', q ∈ f ∨ q ∈ f' := by
      intro k hk
      obtain ⟨bb, xs, cs, zs, fi, hpb, h1, h2, h3, h4, h5, h6, h7, h8, h9, h10⟩ := hor.swap (i := k) (x := taxRow a0 (S[k]'(by omega))) (by rw [List.getElem?_map, List.getElem?_eq_getElem (by omega)]; rfl)
      simp only [Option.some.injEq, Addr.mk.injEq, and_true] at hpb
      subst hpb
      exact ⟨xs, cs, zs, fi, h3, h4, h5, h6, h7, h8, h2, h1, h9, h10⟩
    have cmpAt : ∀ (k : Nat) (hk : k < on), dcmp (dnn (S[k]'(by omega)).1 (S[k]'(by omega)).2.1) (dnn m t) = sgn ((TE.key (S[k]'(by omega)) : Int) - (keyT m t : Int)) := fun k hk => by
      have := taxRow_cmp (c := a0) (hok _ (List.getElem_mem (show k < S.length by omega))) hm ht30
      rwa [taxRow_take] at this
    -- found
    have found : ∀ (k : Nat) (hk : k < on) (W : World), Ext w7 W → posT S (keyT m t) = k → hasT S (keyT m t) = true → ∀ (R : Option Addr → Nat → Nat → World → Prop), (∀ f2 W2, OwnRows W2 w.heap.size T_impl_TaxSum 9 (some ⟨b, 0, none⟩) on oc ((taxAdd S m t u).map (taxRow a0)) f2 → Ext w W2 → R (some ⟨b, 0, none⟩) on oc W2) →
        (0 ≤ (k : Int) ∧ (k : Int) < (on : Nat)) ∧ ∃ (t830 : Bool) (t831_p : Option Addr) (t831_n : Nat) (t831_c : Nat), (∀ wv_13, Ext W.drew wv_13 → Loads P T_impl_Signed ((((⟨b, 0, none⟩ : Addr).add ((k : Int).toNat * 9)).add 3).add 1) (.agg #[(.bool t830), (.slice t831_p t831_n t831_c)]) wv_13) ∧ ∃ (t860 : Bool) (t861_p : Option Addr) (t861_n : Nat) (t861_c : Nat), (∀ wv_14, Ext W.drew wv_14 → Loads P T_impl_Signed (((⟨r1, 0, none⟩ : Addr).add 0).add 1) (.agg #[(.bool t860), (.slice t861_p t861_n t861_c)]) wv_14) ∧ Calls P n_spec_IntAdd ⟨[(.agg #[(.bool t830), (.slice t831_p t831_n t831_c)]), (.agg #[(.bool t860), (.slice t861_p t861_n t861_c)])]⟩ W.drew fun e_3 wv_15 =>
        ∃ (t870 : Bool) (t871_p : Option Addr) (t871_n : Nat) (t871_c : Nat), e_3 = .returned (.agg #[(.bool t870), (.slice t871_p t871_n t871_c)]) ∧
        (0 ≤ (k : Int) ∧ (k : Int) < (on : Nat)) ∧ ∃ wv_16, Stores P T_impl_Signed ((((⟨b, 0, none⟩ : Addr).add ((k : Int).toNat * 9)).add 3).add 1) (.agg #[(.bool t870), (.slice t871_p t871_n t871_c)]) wv_15 wv_16 ∧ R (some ⟨b, 0, none⟩) on oc wv_16 := by
      intro k hk W hW hpos hhas R hR
      obtain ⟨xs, cs, zs, fi, hxl, hcl, hblk, how, hndi, hbfi, hbf, hbB, hfif, hput⟩ := rowAt k hk
      obtain ⟨e, he⟩ : ∃ e, S[k]'(by omega) = e := ⟨_, rfl⟩
      rw [he] at how
      have heok := hok e (by rw [← he]; exact List.getElem_mem _)
      obtain ⟨k0, k1p, k1n, k1c, k1z, k2, k3, k4, k5p, k5n, k5c, k5z, k6, k7, k8p, k8n, k8c, k8z, rfl, hkd, _⟩ := open_TaxSum how.reps (taxRow_code a0 e)
      obtain ⟨fa, fbc, hfe, hoa, hobc⟩ := Owns.split (vs := [.bool k0, .slice k1p k1n k1c, .int .i64 k2, .string k3]) (ds := [.bool false, .ints (digs e.1), .int (e.2.1 : Int), .str a0]) (us := [.bool k4, .slice k5p k5n k5c, .string k6, .bool k7, .slice k8p k8n k8c]) (es := enc e.2.2 ++ money0) rfl how
      obtain ⟨fb, fc, hfe2, hob, hoc⟩ := Owns.split (vs := [.bool k4, .slice k5p k5n k5c]) (ds := enc e.2.2) (us := [.string k6, .bool k7, .slice k8p k8n k8c]) (es := money0) rfl hobc
      subst hfe2
      subst hfe
      have D := Ext.drew W
      have Y := (Y7.trans hW).trans D
      have lY := Y.le
      rw [Int.toNat_natCast]
      refine ⟨⟨by omega, by omega⟩, _, _, _, _, fun W2 hW2 => ((hblk.ext Y).ext hW2).loadAAt (k * 9 + 4) [.bool k4, .slice k5p k5n k5c] (by rw [addr_add, addr_add, addr_add, Nat.zero_add]) (by kernel_rfl) (by rw [← hxl, List.append_assoc, List.drop_length_add_append]; rfl), _, _, _, _, fun W2 hW2 => (b7.ext ((hW.trans D).trans hW2)).loadAAt 1 [.bool (decide (u < 0)), .slice a2p a2n a2c] rfl (by kernel_rfl) rfl, ?_⟩
      have hfit := tax_fit (show j ≤ 1048576 by omega) heok.2.2
      refine Ret.at (spec_IntAdd_c (dx := enc e.2.2) (dy := enc u) (hob.ext Y).reps ⟨rfl, ⟨_, _, _, rfl, i2.ext (hx.trans Y)⟩, trivial⟩ rfl rfl) ?_
      rintro v w13 ⟨vsu, fu, hv, hou, ndu, y13⟩
      subst hv
      rw [iadd_small hfit (by omega)] at hou
      obtain ⟨m0, mp, mn, mc, mz, rfl, _, _⟩ := open_Signed hou.reps rfl
      have Y13 := Y.trans y13
      obtain ⟨w14, st14, hb14, ch14, sz14⟩ := (hblk.ext Y13).storeA (P := P) (t := T_impl_Signed) (k := k * 9 + 4) (xs := [.bool m0, .slice mp mn mc]) (by kernel_rfl) (by simp [hxl]; omega) (by simp [Value.oneCell'])
      have hnew : (xs ++ [Value.bool k0, .slice k1p k1n k1c, .int .i64 k2, .string k3, .bool k4, .slice k5p k5n k5c, .string k6, .bool k7, .slice k8p k8n k8c] ++ zs).take (k * 9 + 4) ++ [Value.bool m0, .slice mp mn mc] ++ (xs ++ [Value.bool k0, .slice k1p k1n k1c, .int .i64 k2, .string k3, .bool k4, .slice k5p k5n k5c, .string k6, .bool k7, .slice k8p k8n k8c] ++ zs).drop (k * 9 + 4 + [Value.bool m0, Value.slice mp mn mc].length) = xs ++ [Value.bool k0, .slice k1p k1n k1c, .int .i64 k2, .string k3, .bool m0, .slice mp mn mc, .string k6, .bool k7, .slice k8p k8n k8c] ++ zs := by
        rw [← hxl, List.append_assoc xs, List.take_length_add_append, Nat.add_assoc, List.drop_length_add_append]
        simp
      rw [hnew] at hb14
      have hbl := hblk.lt
      have lu := hou.lt
      have nb : ∀ {y}, y ∈ fa ++ (fb ++ fc) → y ∉ [b] := fun {y} hy hm2 => by simp at hm2; subst hm2; exact hbfi hy
      have oa := (hoa.ext Y13).chg ch14 (fun y hy => nb (List.mem_append_left _ hy))
      have oc2 := (hoc.ext Y13).chg ch14 (fun y hy => nb (List.mem_append_right _ (List.mem_append_right _ hy)))
      have on' := (hou.chg ch14 (fun y hy hm2 => by have := (lu y hy).1; simp at hm2; omega)).mono (B' := w.heap.size) (by omega)
      obtain ⟨f3, hor3, hf3⟩ := hput w14 _ (taxRow a0 (e.1, e.2.1, e.2.2 + u)) (fa ++ (fu ++ fc)) (Y13.toChg.trans ch14) rfl hb14 (Owns.append oa (Owns.append on' oc2)) (nodup3 hndi ndu (m := W.drew.heap.size) (fun y hy => by have := (how.lt y hy).2; omega) (fun y hy => (lu y hy).1)) (fun y hy => by
        rcases List.mem_append.1 hy with hy | hy
        · exact .inl (List.mem_append_left _ hy)
        · rcases List.mem_append.1 hy with hy | hy
          · refine .inr fun hm2 => ?_
            have h8 := (lu y hy).1; have h9 := (hor.lt y hm2).2; omega
          · exact .inl (List.mem_append_right _ (List.mem_append_right _ hy)))
      refine ⟨_, _, _, _, rfl, ⟨by omega, by omega⟩, w14, ?_, hR f3 w14 ?_ ((hx.trans Y13).chg ch14 (by simp; omega))⟩
      · rw [addr_add] at st14
        rw [addr_add, addr_add, addr_add]
        rw [Nat.zero_add] at st14 ⊢
        exact st14
      · rw [taxAdd_has hpos (by rw [List.getElem?_eq_getElem (show k < S.length by omega), he]) hhas, List.map_set]
        exact hor3
    -- a new one
    have new : ∀ (k : Nat) (hk : k ≤ on) (W : World), Ext w7 W → posT S (keyT m t) = k → hasT S (keyT m t) = false → ∀ (r2 : Nat) (wa : World), New W (.cells ⟨[]⟩ T_impl_TaxSum (0, 0)) r2 wa → ∀ (R : Option Addr → Nat → Nat → World → Prop), (∀ g3 c3 f2 W2, OwnRows W2 w.heap.size T_impl_TaxSum 9 (some ⟨g3, 0, none⟩) (on + 1) c3 ((taxAdd S m t u).map (taxRow a0)) f2 → Ext w W2 → R (some ⟨g3, 0, none⟩) (on + 1) c3 W2) →
        (0 ≤ (k : Int) ∧ (k : Int) ≤ (oc : Nat)) ∧ ∃ (t95_p : Option Addr) (t95_n : Nat) (t95_c : Nat) (wv_18 : World), Appends P [T_s_impl_TaxSum, T_s_impl_TaxSum] [(.slice (some ⟨r2, 0, none⟩) 0 0), (.slice (Sx.sub (some ⟨b, 0, none⟩) 0 oc 9) ((k : Int).toNat - 0) (oc - 0))] (.slice t95_p t95_n t95_c) wa wv_18 ∧
        ∃ (t980 : Bool) (t981_p : Option Addr) (t981_n : Nat) (t981_c : Nat) (t982 : Int), (∀ wv_19, Ext wv_18.drew wv_19 → Loads P T_impl_Dec ((⟨r1, 0, none⟩ : Addr).add 3) (.agg #[(.bool t980), (.slice t981_p t981_n t981_c), (.int .i64 t982)]) wv_19) ∧ Calls P n_spec_DecLow ⟨[(.agg #[(.bool t980), (.slice t981_p t981_n t981_c), (.int .i64 t982)])]⟩ wv_18.drew fun e_4 wv_20 =>
        ∃ (t990 : Bool) (t991_p : Option Addr) (t991_n : Nat) (t991_c : Nat) (t992 : Int), e_4 = .returned (.agg #[(.bool t990), (.slice t991_p t991_n t991_c), (.int .i64 t992)]) ∧
        Ext wv_18.drew wv_20 ∧ ∃ (t102 : ByteArray), (∀ wv_21, Ext wv_18.drew wv_21 → Loads P T_string (((⟨r1, 0, none⟩ : Addr).add 0).add 0) (.string t102) wv_21) ∧ ∃ (t106 : Bool), (∀ wv_22, Ext wv_18.drew wv_22 → Loads P T_bool ((((⟨r1, 0, none⟩ : Addr).add 0).add 1).add 0) (.bool t106) wv_22) ∧ ∃ (t110_p : Option Addr) (t110_n : Nat) (t110_c : Nat), (∀ wv_23, Ext wv_18.drew wv_23 → Loads P T_s_int ((((⟨r1, 0, none⟩ : Addr).add 0).add 1).add 1) (.slice t110_p t110_n t110_c) wv_23) ∧ Calls P n_spec_l04Make ⟨[(.bool t106), (.slice t110_p t110_n t110_c)]⟩ wv_20 fun e_5 wv_24 =>
        ∃ (t1110 : Bool) (t1111_p : Option Addr) (t1111_n : Nat) (t1111_c : Nat), e_5 = .returned (.agg #[(.bool t1110), (.slice t1111_p t1111_n t1111_c)]) ∧
        Ext wv_20 wv_24 ∧ ∀ (r_3 : Nat) (wv_25 : World), New wv_24 (.cells ⟨[(.bool t990), (.slice t991_p t991_n t991_c), (.int .i64 t992), (.string t102), (.bool t1110), (.slice t1111_p t1111_n t1111_c), (.string ByteArray.empty), (.bool false), (.slice none 0 0)]⟩ T_impl_TaxSum (0, 0)) r_3 wv_25 →
        ∃ (t115_p : Option Addr) (t115_n : Nat) (t115_c : Nat) (wv_26 : World), Appends P [T_s_impl_TaxSum, T_s_impl_TaxSum] [(.slice t95_p t95_n t95_c), (.slice (some ⟨r_3, 0, none⟩) 1 1)] (.slice t115_p t115_n t115_c) wv_25 wv_26 ∧
        (0 ≤ (k : Int) ∧ (k : Int) ≤ (on : Nat)) ∧ ∃ (t120_p : Option Addr) (t120_n : Nat) (t120_c : Nat) (wv_27 : World), Appends P [T_s_impl_TaxSum, T_s_impl_TaxSum] [(.slice t115_p t115_n t115_c), (.slice (Sx.sub (some ⟨b, 0, none⟩) (k : Int).toNat oc 9) (on - (k : Int).toNat) (oc - (k : Int).toNat))] (.slice t120_p t120_n t120_c) wv_26 wv_27 ∧ R t120_p t120_n t120_c wv_27 := by
      intro k hk W hW hpos hhas r2 wa hna R hR
      have YW := Y7.trans hW
      have lYW := YW.le
      obtain ⟨g1', c1, w14, hA1, X14, hjc, hrest⟩ := ins3G sliceT_tax (by decide) (by decide) (hor.ext YW) (by omega) hk (by omega) hna
      rw [Int.toNat_natCast, Nat.sub_zero, Nat.sub_zero, sub0g]
      have D := Ext.drew w14
      have lX14 := X14.le; have lD := D.le
      have Z14 := (X7.trans hW).trans (X14.trans D)
      refine ⟨⟨by omega, by omega⟩, _, _, _, w14, hA1, _, _, _, _, _, fun W2 hW2 => (b7.ext (hW.trans (X14.trans (D.trans hW2)))).loadAAt 3 [.bool false, .slice a4p a4n a4c, .int .i64 (t : Int)] rfl (by kernel_rfl) rfl, ?_⟩
      refine Ret.at (spec_DecLow_o (b := false) (m := m) (s := t) ⟨rfl, ⟨_, _, _, rfl, i4.ext Z14⟩, rfl, trivial⟩ (by simp) (one_len6 hm) ht30) ?_
      rintro v w8 ⟨vsR, fR, hv, hoR, ndR, y8⟩
      subst hv
      obtain ⟨d0, dp, dn, dc, dz, ds, rfl, _, _⟩ := open_Dec hoR.reps rfl
      refine ⟨_, _, _, _, _, rfl, y8, _, fun W2 hW2 => (b7.ext (hW.trans (X14.trans (D.trans hW2)))).loadAt 0 rfl (by kernel_rfl) rfl, _, fun W2 hW2 => (b7.ext (hW.trans (X14.trans (D.trans hW2)))).loadAt 1 rfl (by kernel_rfl) rfl, _, _, _, fun W2 hW2 => (b7.ext (hW.trans (X14.trans (D.trans hW2)))).loadAt 2 rfl (by kernel_rfl) rfl, ?_⟩
      have l8 := y8.le
      refine Ret.at (spec_l04Make_c (i2.ext (Z14.trans y8)) (digs_limbs _)) ?_
      rintro v w9 ⟨b9, p9, n9, c9, hv, hb9, ho9, y9⟩
      subst hv
      have ev : (val (digs u.natAbs)).toNat = u.natAbs := by rw [val_digs, Int.toNat_natCast]
      have ecap : capL (digs u.natAbs) = digs u.natAbs := by unfold capL; rw [if_pos (by omega)]
      rw [ev, ecap] at hb9 ho9
      have hb9' : b9 = decide (u < 0) := by
        rw [hb9]
        exact sgn_digs (fun hh => by have := of_decide_eq_true hh; omega)
      subst hb9'
      have l9 := y9.le
      refine ⟨_, _, _, _, rfl, y9, ?_⟩
      intro r3 w10 hn10
      have z10 := hn10.size
      have oRow : Owns w10 w.heap.size [.bool d0, .slice dp dn dc, .int .i64 ds, .string a0, .bool (decide (u < 0)), .slice p9 n9 c9, .string ByteArray.empty, .bool false, .slice none 0 0] (taxRow a0 (lowM m t, lowS m t, u)) (fR ++ (p9.map (·.block)).toList) := by
        have h1 := Owns.append (((hoR.ext y9).ext hn10.ext).mono (B' := w.heap.size) (by have := hx.le; omega)) (Owns.append (Owns.str w10 w.heap.size a0) (Owns.append (Owns.append (Owns.bool w10 w.heap.size (decide (u < 0))) (Owns.ints ((ho9.ext hn10.ext).mono (base' := w.heap.size) (by have := hx.le; omega)))) (Owns.append (Owns.str w10 w.heap.size ByteArray.empty) (Owns.append (Owns.bool w10 w.heap.size false) (Owns.ints (zs := []) (Own.nil w10 w.heap.size T_int 1))))))
        have e1 : fR ++ (p9.map (·.block)).toList = fR ++ ([] ++ (([] ++ (p9.map (·.block)).toList) ++ ([] ++ ([] ++ [])))) := by show _ = fR ++ ((p9.map (·.block)).toList ++ []); rw [List.append_nil]
        rw [e1]
        exact h1
      have nd9 : ((p9.map (·.block)).toList).Nodup := by
        cases p9 with
        | none => exact List.nodup_nil
        | some q9 => exact List.nodup_cons.2 ⟨fun hh => (by cases hh), List.nodup_nil⟩
      have hlR := hoR.lt
      have hl9 : ∀ y ∈ (p9.map (·.block)).toList, w8.heap.size ≤ y := fun y hy => (World.ownsRow.lt ho9 y (by
        cases p9 with
        | none => cases hy
        | some q9 => exact congrArg some (List.mem_singleton.1 hy).symm)).1
      obtain ⟨g2', c2, w17, hA2, X17, g3', c3, w18, f', hA3, hor3, X18, _⟩ := hrest w9 ((D.trans y8).trans y9) _ _ _ r3 w10 hn10 rfl oRow (List.nodup_append.2 ⟨ndR, nd9, fun x hx2 y hy e2 => by
        have h8 := (hlR x hx2).2; have h9 := hl9 y hy; omega⟩) (fun y hy => by
        rcases List.mem_append.1 hy with hy | hy
        · have := (hlR y hy).1; omega
        · have := hl9 y hy; omega)
      refine ⟨_, _, _, w17, hA2, ⟨by omega, by omega⟩, _, _, _, w18, hA3, hR g3' c3 f' w18 ?_ ((X7.trans hW).trans X18)⟩
      rw [taxAdd_no hpos hhas, List.map_append, List.map_cons, List.map_take, List.map_drop]
      exact hor3
    have decAt : ∀ (k : Nat) (hk : k < on), ∃ (v0 : Bool) (vp : Option Addr) (vn vc : Nat) (v2 : Int), (∀ W, Ext wr W → Loads P T_impl_Dec (((⟨b, 0, none⟩ : Addr).add ((k : Int).toNat * 9)).add 0) (.agg #[.bool v0, .slice vp vn vc, .int .i64 v2]) W) ∧ ∀ W, Ext wr W → Reps W [.bool v0, .slice vp vn vc, .int .i64 v2] (dnn (S[k]'(by omega)).1 (S[k]'(by omega)).2.1) := by
      intro k hk
      obtain ⟨xs, cs, zs, fi, hxl, hcl, hblk, how, _⟩ := rowAt k hk
      obtain ⟨e, he⟩ : ∃ e, S[k]'(by omega) = e := ⟨_, rfl⟩
      rw [he] at how ⊢
      obtain ⟨k0, k1p, k1n, k1c, k1z, k2, k3, k4, k5p, k5n, k5c, k5z, k6, k7, k8p, k8n, k8c, k8z, rfl, hkd, _⟩ := open_TaxSum how.reps (taxRow_code a0 e)
      obtain ⟨fa, fbc, hfe, hoa, hobc⟩ := Owns.split (vs := [.bool k0, .slice k1p k1n k1c, .int .i64 k2]) (ds := dnn e.1 e.2.1) (us := [.string k3, .bool k4, .slice k5p k5n k5c, .string k6, .bool k7, .slice k8p k8n k8c]) (es := (.str a0 :: enc e.2.2) ++ money0) rfl how
      refine ⟨_, _, _, _, _, fun W hW => (hblk.ext hW).loadAAt (k * 9) [.bool k0, .slice k1p k1n k1c, .int .i64 k2] (by rw [Int.toNat_natCast, addr_add, addr_add, Nat.zero_add, Nat.add_zero]) (by kernel_rfl) (by rw [← hxl, List.append_assoc, List.drop_left']; rfl; rfl), fun W hW => (hoa.ext hW).reps⟩
    have katS : ∀ {k : Nat} (hk : k < on), S[k]? = some (S[k]'(by omega)) := fun hk => List.getElem?_eq_getElem _
    unfold spec_TaxSums_j0
    refine ⟨fun k wk => ∃ kk : Nat, k = kk ∧ kk ≤ on ∧ (∀ a x, S[a]? = some x → a < kk → TE.key x < keyT m t) ∧ Ext w7 wk, fun k _ => on - k.toNat, ⟨0, rfl, Nat.zero_le _, fun a x _ ha => absurd ha (by omega), Ext.refl _⟩, ?_⟩
    intro junk2 wk k ⟨kk, hkk, hkn, hless, hxk⟩
    subst hkk
    have hdk := Ext.drew wk
    have Yk := Y7.trans hxk
    refine ifD (fun hlt3 => ?_) (fun hge2 => ifF ⟨fun hh => absurd (of_decide_eq_true hh) hge2, fun _ => ?_⟩)
    · have hkon : kk < on := by omega
      obtain ⟨v0, vp, vn, vc, v2, hl, hrp⟩ := decAt kk hkon
      have hcm2 := cmpAt kk hkon
      refine ⟨⟨by omega, by omega⟩, _, _, _, _, _, fun W hW => hl W (Yk.trans (hdk.trans hW)), _, _, _, _, _, fun W hW => (b7.ext (hxk.trans (hdk.trans hW))).loadAAt 3 [.bool false, .slice a4p a4n a4c, .int .i64 (t : Int)] rfl (by kernel_rfl) rfl, ?_⟩
      refine Ret.at (spec_DecCmp_c (hrp _ (Yk.trans hdk)) (dy := dnn m t) ⟨rfl, ⟨_, _, _, rfl, i4.ext (hx.trans (Yk.trans hdk))⟩, rfl, trivial⟩ rfl rfl) ?_
      rintro v w9 ⟨hv, y9⟩
      subst hv
      rw [hcm2]
      refine ⟨_, rfl, ifD (fun hl2 => exW ⟨by omega, by omega⟩ ⟨⟨kk + 1, rfl, by omega, fun a y hy ha => ?_, hxk.trans (hdk.trans y9)⟩, by show on - ((kk : Int) + 1).toNat < on - (kk : Int).toNat; omega⟩) (fun hnl => ?_)⟩
      · by_cases hak : a < kk
        · exact hless a y hy hak
        · have : a = kk := by omega
          subst this
          rw [katS hkon] at hy
          simp only [Option.some.injEq] at hy
          subst hy
          rw [sgn_neg2] at hl2
          omega
      · have hpos : kk = posT S (keyT m t) := posT_unique (by omega) hless (fun y hy => by
          rw [katS hkon] at hy
          simp only [Option.some.injEq] at hy
          subst hy
          rw [sgn_neg2] at hnl
          omega)
        have hhas : hasT S (keyT m t) = decide (TE.key (S[kk]'(by omega)) = keyT m t) := by
          unfold hasT
          rw [← hpos, katS hkon]
        have hx9 := hxk.trans (hdk.trans y9)
        have hd9 := Ext.drew w9
        have Y9 := (Y7.trans hx9).trans hd9
        refine ⟨fun _ => ⟨⟨by omega, by omega⟩, _, _, _, _, _, fun W hW => hl W (Y9.trans hW), _, _, _, _, _, fun W hW => (b7.ext (hx9.trans (hd9.trans hW))).loadAAt 3 [.bool false, .slice a4p a4n a4c, .int .i64 (t : Int)] rfl (by kernel_rfl) rfl, ?_⟩, fun hh => absurd hkon (by have := of_decide_eq_false hh; omega)⟩
        refine Ret.at (spec_DecCmp_c (hrp _ Y9) (dy := dnn m t) ⟨rfl, ⟨_, _, _, rfl, i4.ext (hx.trans Y9)⟩, rfl, trivial⟩ rfl rfl) ?_
        rintro v w10 ⟨hv, y10⟩
        subst hv
        rw [hcm2]
        have hx10 := hx9.trans (hd9.trans y10)
        refine ⟨_, rfl, ?_⟩
        unfold spec_TaxSums_j1
        refine ifD (fun hz => ?_) (fun hz => ?_)
        · rw [sgn_zero2] at hz
          exact found kk hkon _ hx10 hpos.symm (hhas.trans (decide_eq_true (by omega))) (fun p' n' c' W => spec_TaxSums_j2 wr Inv mu (some ⟨b, 0, none⟩) on oc (j : Int) p' n' c' W _) (fun f2 W2 h1 h2 => next _ _ _ f2 W2 h1 h2 _)
        · rw [sgn_zero2] at hz
          unfold spec_TaxSums_j3
          intro r3 wa hna
          exact new kk hkn _ hx10 hpos.symm (hhas.trans (decide_eq_false (by omega))) r3 wa hna (fun p' n' c' W => spec_TaxSums_j2 wr Inv mu (some ⟨b, 0, none⟩) on oc (j : Int) p' n' c' W _) (fun g3 c3 f2 W2 h1 h2 => next _ _ _ f2 W2 h1 h2 _)
    · have hkon : kk = on := by omega
      have hpos : kk = posT S (keyT m t) := posT_unique (by omega) hless (fun y hy => by
        rw [List.getElem?_eq_none (by omega)] at hy; cases hy)
      have hhas : hasT S (keyT m t) = false := by
        unfold hasT
        rw [← hpos, List.getElem?_eq_none (by omega)]
      unfold spec_TaxSums_j4
      refine ifF ?_
      unfold spec_TaxSums_j5
      intro r3 wa hna
      exact new kk hkn _ (hxk.trans (hdk.trans (Ext.drew _))) hpos.symm hhas r3 wa hna (fun p' n' c' W => spec_TaxSums_j2 wr Inv mu (some ⟨b, 0, none⟩) on oc (j : Int) p' n' c' W _) (fun g3 c3 f2 W2 h1 h2 => next _ _ _ f2 W2 h1 h2 _)
  · have hjn : j = n := by omega
    subst hjn
    rw [List.take_of_length_le (by omega)] at hall hor hok hn' hlenS
    obtain ⟨S, hS⟩ : ∃ S, taxS l = S := ⟨_, rfl⟩
    rw [hS] at hor hok hn' hlenS
    obtain ⟨Inv1, hI1⟩ : ∃ I : Int → World → Prop, ∀ i wr', I i wr' ↔ ∃ (a : Nat) (f : List Nat), i = a ∧ a ≤ on ∧ OwnRows wr' w.heap.size T_impl_TaxSum 9 (some ⟨b, 0, none⟩) on oc ((S.take a).map (taxRowT c0 mode) ++ (S.drop a).map (taxRow c0)) f ∧ (∀ e ∈ S.take a, (taxOf c0 mode e).1 = true) ∧ Ext w wr' := ⟨_, fun _ _ => Iff.rfl⟩
    obtain ⟨mu1, hmu1⟩ : ∃ m : Int → World → Nat, ∀ i wr', m i wr' = on - i.toNat := ⟨fun i _ => on - i.toNat, fun _ _ => rfl⟩
    refine ⟨Inv1, mu1, (hI1 _ _).2 ⟨0, f, rfl, by omega, by simpa using hor, fun e he => (by simp at he), hx⟩, ?_⟩
    clear hor hx hinv lx
    intro junk1 wa i1 hinv1
    obtain ⟨a, f, hi1, ha, hor, htx, hx⟩ := (hI1 _ _).1 hinv1
    subst hi1
    refine ifD (fun hlt1 => ?_) (fun hge1 => ?_)
    · have han : a < S.length := by omega
      have lx := hx.le
      obtain ⟨e, he⟩ : ∃ e, S[a]'han = e := ⟨_, rfl⟩
      have hml : ((S.take a).map (taxRowT c0 mode)).length = a := by rw [List.length_map, List.length_take]; omega
      have hdrop : S.drop a = e :: S.drop (a + 1) := by rw [List.drop_eq_getElem_cons han, he]
      have hrow : ((S.take a).map (taxRowT c0 mode) ++ (S.drop a).map (taxRow c0))[a]? = some (taxRow c0 e) := by
        rw [List.getElem?_append_right (by omega), hml, Nat.sub_self, hdrop]; rfl
      obtain ⟨bb, xs, cs, zs, fi, hpb, hbB, hbf, hxl, hcl, hblk, how, hndi, hbfi, hfif, hput⟩ := hor.swap hrow
      simp only [Option.some.injEq, Addr.mk.injEq, and_true] at hpb
      subst hpb
      obtain ⟨k0, k1p, k1n, k1c, k1z, k2, k3, k4, k5p, k5n, k5c, k5z, k6, k7, k8p, k8n, k8c, k8z, rfl, hkd, _⟩ := open_TaxSum how.reps (taxRow_code c0 e)
      obtain ⟨fa, fbc, hfe, hoa, hobc⟩ := Owns.split (vs := [.bool k0, .slice k1p k1n k1c, .int .i64 k2]) (ds := dnn e.1 e.2.1) (us := [.string k3, .bool k4, .slice k5p k5n k5c, .string k6, .bool k7, .slice k8p k8n k8c]) (es := netOf c0 e ++ money0) rfl how
      obtain ⟨fb, fc, hfe2, hob, hoc⟩ := Owns.split (vs := [.string k3, .bool k4, .slice k5p k5n k5c]) (ds := netOf c0 e) (us := [.string k6, .bool k7, .slice k8p k8n k8c]) (es := money0) rfl hobc
      subst hfe2
      subst hfe
      have hbl := hblk.lt
      refine ⟨⟨by omega, by omega⟩, ?_⟩
      rw [Int.toNat_natCast]
      refine ⟨_, _, _, _, _, _, _, _, _, _, _, _, _, _, _, hblk.loadAAt (a * 9) [.bool k0, .slice k1p k1n k1c, .int .i64 k2, .string k3, .bool k4, .slice k5p k5n k5c, .string k6, .bool k7, .slice k8p k8n k8c] (by rw [addr_add, Nat.zero_add]) (by kernel_rfl) (by rw [← hxl, List.append_assoc, List.drop_left']; rfl; rfl), ?_⟩
      intro r6 w24 hn24
      have e24 := hn24.r_eq; have z24 := hn24.size
      obtain ⟨w25, st25, b25, y25⟩ := hn24.fill (P := P) (t := T_impl_TaxSum) (xs := [.bool k0, .slice k1p k1n k1c, .int .i64 k2, .string k3, .bool k4, .slice k5p k5n k5c, .string k6, .bool k7, .slice k8p k8n k8c]) (by simp [Value.oneCell']) (by kernel_rfl) rfl
      refine ⟨w25, st25, _, _, _, _, _, b25.loadAAt 3 [.string k3, .bool k4, .slice k5p k5n k5c] rfl (by kernel_rfl) rfl, _, _, _, _, _, b25.loadAAt 0 [.bool k0, .slice k1p k1n k1c, .int .i64 k2] rfl (by kernel_rfl) rfl, ?_⟩
      refine Ret.at (spec_TaxOn_o (hob.ext y25).reps (hoa.ext y25).reps rfl rfl mode) ?_
      rintro v w26 ⟨vs0, g0', vs1, g1', hv, ho0, nd0, ho1, nd1, _, y26⟩
      subst hv
      obtain ⟨t0, t1, t2p, t2n, t2c, t2z, rfl, _, _⟩ := open_Money ho0.reps (taxOf_code c0 mode e)
      obtain ⟨u0, u1p, u1n, u1c, u1z, u2p, u2n, u2c, u2z, rfl, _, _, _⟩ := open_Rat ho1.reps (taxOnT_facts _ _ mode).2.2.1
      refine ⟨_, _, _, _, _, _, _, _, _, _, _, _, _, rfl, ?_⟩
      intro r7 w27 hn27 r8 w28 hn28
      have e27 := hn27.r_eq; have z27 := hn27.size
      have e28 := hn28.r_eq; have z28 := hn28.size
      have bk7 := hn27.blk.ext hn28.ext
      have bk8 := hn28.blk
      have Y26 := y25.trans y26
      have Y28 := Y26.trans (hn27.ext.trans hn28.ext)
      have l25 := y25.le; have l26 := y26.le
      obtain ⟨w29, st29, bk29, ch29, sz29⟩ := bk7.storeA0 (P := P) (t := T_impl_Money) (xs := [.string t0, .bool t1, .slice t2p t2n t2c]) (by kernel_rfl) rfl (by simp [Value.oneCell'])
      have bk8' := bk8.chg ch29 (fun hm2 => by simp at hm2; omega)
      obtain ⟨w30, st30, bk30, ch30, sz30⟩ := bk8'.storeA0 (P := P) (t := T_impl_Rat) (xs := [.bool u0, .slice u1p u1n u1c, .slice u2p u2n u2c]) (by kernel_rfl) rfl (by simp [Value.oneCell'])
      have X30 : Ext wa w30 := (Y28.chg ch29 (by simp; omega)).chg ch30 (by simp; omega)
      refine ⟨w29, st29, w30, st30, ifN (fun hno => no w30 (hx.trans X30) (taxSums_bad2 (e := e) (by rw [hS, ← he]; exact List.getElem_mem _) (by rw [hc0]; exact hno))) (fun hyes => ?_)⟩
      refine ⟨_, _, _, _, _, (bk29.chg ch30 (fun hm2 => by simp at hm2; omega)).loadA0 (by kernel_rfl), ⟨by omega, by omega⟩, ?_⟩
      have hb30 := hblk.ext X30
      obtain ⟨w31, st31, hb31, ch31, sz31⟩ := hb30.storeA (P := P) (t := T_impl_Money) (k := a * 9 + 6) (xs := [.string t0, .bool t1, .slice t2p t2n t2c]) (by kernel_rfl) (by simp [hxl]; omega) (by simp [Value.oneCell'])
      have hnew : (xs ++ [Value.bool k0, .slice k1p k1n k1c, .int .i64 k2, .string k3, .bool k4, .slice k5p k5n k5c, .string k6, .bool k7, .slice k8p k8n k8c] ++ zs).take (a * 9 + 6) ++ [Value.string t0, .bool t1, .slice t2p t2n t2c] ++ (xs ++ [Value.bool k0, .slice k1p k1n k1c, .int .i64 k2, .string k3, .bool k4, .slice k5p k5n k5c, .string k6, .bool k7, .slice k8p k8n k8c] ++ zs).drop (a * 9 + 6 + [Value.string t0, Value.bool t1, .slice t2p t2n t2c].length) = xs ++ [Value.bool k0, .slice k1p k1n k1c, .int .i64 k2, .string k3, .bool k4, .slice k5p k5n k5c, .string t0, .bool t1, .slice t2p t2n t2c] ++ zs := by
        rw [← hxl, List.append_assoc xs, List.take_length_add_append, Nat.add_assoc, List.drop_length_add_append]
        simp
      rw [hnew] at hb31
      have l0 := ho0.lt
      have nb : ∀ {y}, y ∈ fa ++ (fb ++ fc) → y ∉ [b] := fun {y} hy hm2 => by simp at hm2; subst hm2; exact hbfi hy
      have oa := (hoa.ext X30).chg ch31 (fun y hy => nb (List.mem_append_left _ hy))
      have ob := (hob.ext X30).chg ch31 (fun y hy => nb (List.mem_append_right _ (List.mem_append_left _ hy)))
      have ot : Owns w31 w25.heap.size [.string t0, .bool t1, .slice t2p t2n t2c] (taxOf c0 mode e).2.1 g0' := ((((ho0.ext (hn27.ext.trans hn28.ext)).chg ch29 (fun y hy hm2 => by have := l0 y hy; simp at hm2; omega)).chg ch30 (fun y hy hm2 => by have := l0 y hy; simp at hm2; omega)).chg ch31 (fun y hy hm2 => by have := l0 y hy; simp at hm2; omega))
      have hnd2 : (fa ++ (fb ++ g0')).Nodup := by
        have h8 : ((fa ++ fb) ++ (fc ++ [])).Nodup := by rw [List.append_nil, List.append_assoc]; exact hndi
        have h9 := nodup3 h8 nd0 (m := w25.heap.size) (fun y hy => by
          have := (how.lt y (by simpa using hy)).2
          omega) (fun y hy => (l0 y hy).1)
        simpa using h9
      obtain ⟨f4, hor4, hf4⟩ := hput w31 _ (taxRowT c0 mode e) (fa ++ (fb ++ g0')) (X30.toChg.trans ch31) rfl hb31 (Owns.append oa (Owns.append ob (ot.mono (by omega)))) hnd2 (fun y hy => by
        rcases List.mem_append.1 hy with hy | hy
        · exact .inl (List.mem_append_left _ hy)
        · rcases List.mem_append.1 hy with hy | hy
          · exact .inl (List.mem_append_right _ (List.mem_append_left _ hy))
          · refine .inr fun hm2 => ?_
            have h8 := (l0 y hy).1; have h9 := (hor.lt y hm2).2; omega)
      refine ⟨w31, ?_, exW ⟨by omega, by omega⟩ ⟨(hI1 _ _).2 ⟨a + 1, f4, rfl, by omega, ?_, ?_, (hx.trans X30).chg ch31 (by simp; omega)⟩, ?_⟩⟩
      · rw [addr_add] at st31
        rw [addr_add, addr_add]
        rw [Nat.zero_add] at st31
        rw [Nat.zero_add]
        exact st31
      · have e2 : ((S.take a).map (taxRowT c0 mode) ++ (S.drop a).map (taxRow c0)).set a (taxRowT c0 mode e) = (S.take (a + 1)).map (taxRowT c0 mode) ++ (S.drop (a + 1)).map (taxRow c0) := by
          rw [List.set_append_right _ _ (by omega), hml, Nat.sub_self, hdrop, List.map_cons, List.set_cons_zero, List.take_succ_eq_append_getElem han, he, List.map_append, List.append_assoc]
          rfl
        rw [← e2]
        exact hor4
      · intro e2 he2
        rw [List.take_succ_eq_append_getElem han, he] at he2
        rcases List.mem_append.1 he2 with he2 | he2
        · exact htx e2 he2
        · simp only [List.mem_singleton] at he2; rw [he2]; exact hyes
      · rw [hmu1, hmu1]; omega
    · have han : a = S.length := by omega
      rw [han, List.take_length, List.drop_length, List.map_nil, List.append_nil] at hor
      rw [han, List.take_length] at htx
      refine ifD (fun hz => no wa hx ?_) (fun hnz => ?_)
      · have : l = [] := by
          cases l with
          | nil => rfl
          | cons _ _ => simp at hln; omega
        subst this
        rfl
      · have hyes : taxSumsOk l mode = true := by
          unfold taxSumsOk
          rw [hc0, hS]
          simp only [Bool.and_eq_true, List.all_eq_true]
          refine ⟨?_, hall, htx⟩
          cases l with
          | nil => simp at hln; omega
          | cons _ _ => rfl
        refine ⟨_, _, _, by rw [hyes], ?_, kc, hx⟩
        unfold taxSums
        rw [hyes, if_pos rfl, hc0, hS]
        exact hor.rows
end Go.Proofs.YtfehpaekbbmkcaaGreatDoor

namespace Go.Proofs.YtfehpaekbbmkcaaGreatDoor
open Go Go.Proofs.YtfehpaekbbmkcaaGreatDoor.Sx
set_option linter.unusedVariables false
set_option linter.unusedSimpArgs false
theorem laws_markTaxLineS_c {w : World} {B : Nat} {e : TypeId} {p : Option Addr} {n c : Nat} {l : List (List D0)} {f : List Nat} {k : Int} (h : OwnRows w B e 6 p n c l f) (hc : ∀ x ∈ l, x.map D0.code = [.str, .bool, .ints, .bool, .ints, .int]) (h0 : 0 ≤ k) (h1 : k + cntL l ≤ 1000000000000000000) :
    Ret P n_laws_markTaxLineS [.slice p n c, .int .i64 k] w fun v w' => v = .int .i64 (k + cntL l) ∧ OwnRows w' B e 6 p n c (markL l k) f ∧ Chg f w w' := by
  have hz := h.1; have hcap := h.rows.2.1; have hcm := h.rows.2.2.1
  refine laws_markTaxLineS_ret ?_
  unfold laws_markTaxLineS
  refine ⟨fun k1 i wr => ∃ j : Nat, i = j ∧ j ≤ n ∧ k1 = k + cntL (l.take j) ∧ OwnRows wr B e 6 p n c (markL (l.take j) k ++ l.drop j) f ∧ Chg f w wr, fun _ i _ => n - i.toNat, ⟨0, rfl, by omega, by simp [cntL], by simpa [markL] using h, Chg.refl _ _⟩, ?_⟩
  intro junk wr k1 i ⟨j, hij, hj, hk1, ho, hch⟩
  subst hij
  refine ifD (fun hlt => ?_) (fun hge => ?_)
  · have hjl : j < l.length := by omega
    obtain ⟨x, hxe⟩ : ∃ x, l[j]? = some x := ⟨_, List.getElem?_eq_getElem hjl⟩
    have hcode := hc x (List.mem_of_getElem? hxe)
    obtain ⟨hct, hcle⟩ := cntL_row hxe
    have hcn := cntL_nonneg (l.take j)
    obtain ⟨b, xs, cs, zs, fi, hp, hB, hA, hk, blk, ow, ndf, hbf, hbm, hfm, back⟩ := ho.focus (markL_at hxe)
    subst hp
    obtain ⟨a0, us, es, rfl, rfl, ow2, hcode2⟩ := ow.consStr hcode
    clear ow hcode; have ow := ow2; have hcode := hcode2; clear ow2 hcode2
    obtain ⟨a1, us, es, rfl, rfl, ow2, hcode2⟩ := ow.consBool hcode
    clear ow hcode; have ow := ow2; have hcode := hcode2; clear ow2 hcode2
    obtain ⟨a2p, a2n, a2c, a2z, us, es, f2, rfl, rfl, rfl, o2, ow2, hcode2⟩ := ow.consInts hcode
    clear ow hcode; have ow := ow2; have hcode := hcode2; clear ow2 hcode2
    obtain ⟨a3, us, es, rfl, rfl, ow2, hcode2⟩ := ow.consBool hcode
    clear ow hcode; have ow := ow2; have hcode := hcode2; clear ow2 hcode2
    obtain ⟨a4p, a4n, a4c, a4z, us, es, f4, rfl, rfl, rfl, o4, ow2, hcode2⟩ := ow.consInts hcode
    clear ow hcode; have ow := ow2; have hcode := hcode2; clear ow2 hcode2
    obtain ⟨a5, us, es, rfl, rfl, ow2, hcode2⟩ := ow.consInt hcode
    clear ow hcode; have ow := ow2; have hcode := hcode2; clear ow2 hcode2
    obtain ⟨rfl, rfl, rfl⟩ := ow.done hcode
    simp only [cnts, D0.cnt] at hct hcle
    have z2 : a2z.length = a2n := by have := o2.len; simpa using this
    have z4 : a4z.length = a4n := by have := o4.len; simpa using this
    have m2 : ∀ q, a2p.map (·.block) = some q → q ∈ ((a2p.map (·.block)).toList ++ ((a4p.map (·.block)).toList ++ ([] : List Nat))) := fun q hq => List.mem_append_left _ (mem_opt hq)
    have u2 : ∀ {W : World} {W2 : World} {zs : List Value}, Own W B T_int 1 a2p a2n a2c zs → Chg [b] W W2 → Own W2 B T_int 1 a2p a2n a2c zs := fun o ch => o.chg ch (fun q hq hm => hbf (List.mem_singleton.1 hm ▸ m2 q hq))
    have m4 : ∀ q, a4p.map (·.block) = some q → q ∈ ((a2p.map (·.block)).toList ++ ((a4p.map (·.block)).toList ++ ([] : List Nat))) := fun q hq => List.mem_append_right _ (List.mem_append_left _ (mem_opt hq))
    have u4 : ∀ {W : World} {W2 : World} {zs : List Value}, Own W B T_int 1 a4p a4n a4c zs → Chg [b] W W2 → Own W2 B T_int 1 a4p a4n a4c zs := fun o ch => o.chg ch (fun q hq hm => hbf (List.mem_singleton.1 hm ▸ m4 q hq))
    have x2 := (List.nodup_append.1 ndf).2.2; have nd2 := (List.nodup_append.1 ndf).2.1
    have d2_4 : ∀ q, a2p.map (·.block) = some q → q ∉ (a4p.map (·.block)).toList := fun q hq hm => x2 q (mem_opt hq) q (List.mem_append_left _ hm) rfl
    have d4_2 : ∀ q, a4p.map (·.block) = some q → q ∉ (a2p.map (·.block)).toList := fun q hq hm => x2 q hm q (List.mem_append_left _ (mem_opt hq)) rfl
    have chT : Chg (b :: ((a2p.map (·.block)).toList ++ ((a4p.map (·.block)).toList ++ ([] : List Nat)))) wr wr := Chg.refl _ _
    have sub1 : ∀ q ∈ [b], q ∈ b :: ((a2p.map (·.block)).toList ++ ((a4p.map (·.block)).toList ++ ([] : List Nat))) := fun q hq => by rw [List.mem_singleton.1 hq]; exact List.mem_cons_self
    refine Ret.at (laws_markText_c (by omega) _) ?_
    rintro v w1 ⟨hv, y⟩
    subst hv
    have blk := blk.ext y; have chT := chT.trans y.toChg
    have o2 := o2.ext y
    have o4 := o4.ext y
    obtain ⟨w2, st, blk2, ch, sz⟩ := blk.storeMid (P := P) (t := T_string) (v := .string (mtext (k1))) hA 0 (by simp) (by kernel_rfl) rfl rfl
    have blk : Blk w2 b e (xs ++ [.string (mtext (k1)), .bool a1, .slice a2p a2n a2c, .bool a3, .slice a4p a4n a4c, .int .i64 a5] ++ zs) := blk2; clear blk2
    have chT := chT.trans (ch.mono sub1)
    have o2 := u2 o2 ch
    have o4 := u4 o4 ch
    refine ⟨_, rfl, ⟨by omega, by omega⟩, w2, (by simp only [addr_add, Int.toNat_natCast, Nat.zero_add, Nat.add_zero]; exact st), exW ⟨by omega, by omega⟩ ?_⟩
    refine ⟨by decide, _, rfl, ⟨by omega, by omega⟩, ?_⟩
    rw [Int.tmod_eq_emod_of_nonneg (show (0 : Int) ≤ k1 + 1 by omega)]
    obtain ⟨w3, st, blk2, ch, sz⟩ := blk.storeMid (P := P) (t := T_bool) (v := .bool (decide ((k1 + 1) % 3 = 0))) hA 1 (by simp) (by kernel_rfl) rfl rfl
    have blk : Blk w3 b e (xs ++ [.string (mtext (k1)), .bool (decide ((k1 + 1) % 3 = 0)), .slice a2p a2n a2c, .bool a3, .slice a4p a4n a4c, .int .i64 a5] ++ zs) := blk2; clear blk2
    have chT := chT.trans (ch.mono sub1)
    have o2 := u2 o2 ch
    have o4 := u4 o4 ch
    refine ⟨w3, (by simp only [addr_add, Int.toNat_natCast, Nat.zero_add, Nat.add_zero]; exact st), exW ⟨by omega, by omega⟩ ?_⟩
    refine ⟨⟨by omega, by omega⟩, _, _, _, (by simp only [addr_add, Int.toNat_natCast, Nat.zero_add, Nat.add_zero]; exact (blk.segMid hA).loadAt 2 rfl (by kernel_rfl) rfl), ?_⟩
    refine Ret.at (laws_markIntS_c o2 (by omega) (by omega)) ?_
    rintro v w4 ⟨hv, on, ch⟩
    subst hv
    have blk := blk.chg ch (fun hm => hbf (m2 _ (opt_mem hm)))
    have chT := chT.trans (ch.mono (fun q hq => List.mem_cons_of_mem _ (m2 q (opt_mem hq))))
    have o4 := o4.chg ch d4_2
    have o2 := on; clear on
    refine ⟨_, rfl, ?_⟩
    refine ⟨by decide, _, rfl, ⟨by omega, by omega⟩, ?_⟩
    rw [Int.tmod_eq_emod_of_nonneg (show (0 : Int) ≤ k1 + 1 + 1 + (a2n : Nat) by omega)]
    obtain ⟨w5, st, blk2, ch, sz⟩ := blk.storeMid (P := P) (t := T_bool) (v := .bool (decide ((k1 + 1 + 1 + (a2n : Nat)) % 3 = 0))) hA 3 (by simp) (by kernel_rfl) rfl rfl
    have blk : Blk w5 b e (xs ++ [.string (mtext (k1)), .bool (decide ((k1 + 1) % 3 = 0)), .slice a2p a2n a2c, .bool (decide ((k1 + 1 + 1 + (a2n : Nat)) % 3 = 0)), .slice a4p a4n a4c, .int .i64 a5] ++ zs) := blk2; clear blk2
    have chT := chT.trans (ch.mono sub1)
    have o2 := u2 o2 ch
    have o4 := u4 o4 ch
    refine ⟨w5, (by simp only [addr_add, Int.toNat_natCast, Nat.zero_add, Nat.add_zero]; exact st), exW ⟨by omega, by omega⟩ ?_⟩
    refine ⟨⟨by omega, by omega⟩, _, _, _, (by simp only [addr_add, Int.toNat_natCast, Nat.zero_add, Nat.add_zero]; exact (blk.segMid hA).loadAt 4 rfl (by kernel_rfl) rfl), ?_⟩
    refine Ret.at (laws_markIntS_c o4 (by omega) (by omega)) ?_
    rintro v w6 ⟨hv, on, ch⟩
    subst hv
    have blk := blk.chg ch (fun hm => hbf (m4 _ (opt_mem hm)))
    have chT := chT.trans (ch.mono (fun q hq => List.mem_cons_of_mem _ (m4 q (opt_mem hq))))
    have o2 := o2.chg ch d2_4
    have o4 := on; clear on
    refine ⟨_, rfl, ?_⟩
    obtain ⟨w7, st, blk2, ch, sz⟩ := blk.storeMid (P := P) (t := T_int) (v := .int .i64 (k1 + 1 + 1 + (a2n : Nat) + 1 + (a4n : Nat))) hA 5 (by simp) (by kernel_rfl) rfl rfl
    have blk : Blk w7 b e (xs ++ [.string (mtext (k1)), .bool (decide ((k1 + 1) % 3 = 0)), .slice a2p a2n a2c, .bool (decide ((k1 + 1 + 1 + (a2n : Nat)) % 3 = 0)), .slice a4p a4n a4c, .int .i64 (k1 + 1 + 1 + (a2n : Nat) + 1 + (a4n : Nat))] ++ zs) := blk2; clear blk2
    have chT := chT.trans (ch.mono sub1)
    have o2 := u2 o2 ch
    have o4 := u4 o4 ch
    refine ⟨⟨by omega, by omega⟩, w7, (by simp only [addr_add, Int.toNat_natCast, Nat.zero_add, Nat.add_zero]; exact st), exW ⟨by omega, by omega⟩ ?_⟩
    refine exW ⟨by omega, by omega⟩ ⟨⟨j + 1, by omega, by omega, by omega, ?_, hch.trans (chT.mono (fun q hq => ?_))⟩, ?_⟩
    · rw [← markL_set hxe, ← hk1]
      have e : marks [.str a0, .bool a1, .ints a2z, .bool a3, .ints a4z, .int a5] k1 = [.str (mtext (k1)), .bool (decide ((k1 + 1) % 3 = 0)), .ints (mkI a2n (k1 + 1 + 1)), .bool (decide ((k1 + 1 + 1 + (a2n : Nat)) % 3 = 0)), .ints (mkI a4n (k1 + 1 + 1 + (a2n : Nat) + 1)), .int (k1 + 1 + 1 + (a2n : Nat) + 1 + (a4n : Nat))] := by simp only [marks, D0.mark, D0.cnt, z2, z4] <;> rfl
      rw [e]
      exact back _ [.string (mtext (k1)), .bool (decide ((k1 + 1) % 3 = 0)), .slice a2p a2n a2c, .bool (decide ((k1 + 1 + 1 + (a2n : Nat)) % 3 = 0)), .slice a4p a4n a4c, .int .i64 (k1 + 1 + 1 + (a2n : Nat) + 1 + (a4n : Nat))] _ chT rfl blk (Owns.append (Owns.str _ _ _) (Owns.append (Owns.bool _ _ _) (Owns.append (Owns.ints o2) (Owns.append (Owns.bool _ _ _) (Owns.append (Owns.ints o4) (Owns.append (Owns.int _ _ _) (Owns.nil _ _)))))))
    · rcases List.mem_cons.1 hq with h | h
      · rw [h]; exact hbm
      · exact hfm q h
    · show n - ((j : Int) + 1).toNat < n - (j : Int).toNat
      omega
  · have hjn : j = n := by omega
    subst hjn
    rw [List.take_of_length_le (by omega), List.drop_of_length_le (by omega), List.append_nil] at ho
    rw [List.take_of_length_le (by omega)] at hk1
    exact ⟨by rw [hk1], ho, hch⟩
theorem laws_markTaxSumS_c {w : World} {B : Nat} {e : TypeId} {p : Option Addr} {n c : Nat} {l : List (List D0)} {f : List Nat} {k : Int} (h : OwnRows w B e 9 p n c l f) (hc : ∀ x ∈ l, x.map D0.code = [.bool, .ints, .int, .str, .bool, .ints, .str, .bool, .ints]) (h0 : 0 ≤ k) (h1 : k + cntL l ≤ 1000000000000000000) :
    Ret P n_laws_markTaxSumS [.slice p n c, .int .i64 k] w fun v w' => v = .int .i64 (k + cntL l) ∧ OwnRows w' B e 9 p n c (markL l k) f ∧ Chg f w w' := by
  have hz := h.1; have hcap := h.rows.2.1; have hcm := h.rows.2.2.1
  refine laws_markTaxSumS_ret ?_
  unfold laws_markTaxSumS
  refine ⟨fun k1 i wr => ∃ j : Nat, i = j ∧ j ≤ n ∧ k1 = k + cntL (l.take j) ∧ OwnRows wr B e 9 p n c (markL (l.take j) k ++ l.drop j) f ∧ Chg f w wr, fun _ i _ => n - i.toNat, ⟨0, rfl, by omega, by simp [cntL], by simpa [markL] using h, Chg.refl _ _⟩, ?_⟩
  intro junk wr k1 i ⟨j, hij, hj, hk1, ho, hch⟩
  subst hij
  refine ifD (fun hlt => ?_) (fun hge => ?_)
  · have hjl : j < l.length := by omega
    obtain ⟨x, hxe⟩ : ∃ x, l[j]? = some x := ⟨_, List.getElem?_eq_getElem hjl⟩
    have hcode := hc x (List.mem_of_getElem? hxe)
    obtain ⟨hct, hcle⟩ := cntL_row hxe
    have hcn := cntL_nonneg (l.take j)
    obtain ⟨b, xs, cs, zs, fi, hp, hB, hA, hk, blk, ow, ndf, hbf, hbm, hfm, back⟩ := ho.focus (markL_at hxe)
    subst hp
    obtain ⟨a0, us, es, rfl, rfl, ow2, hcode2⟩ := ow.consBool hcode
    clear ow hcode; have ow := ow2; have hcode := hcode2; clear ow2 hcode2
    obtain ⟨a1p, a1n, a1c, a1z, us, es, f1, rfl, rfl, rfl, o1, ow2, hcode2⟩ := ow.consInts hcode
    clear ow hcode; have ow := ow2; have hcode := hcode2; clear ow2 hcode2
    obtain ⟨a2, us, es, rfl, rfl, ow2, hcode2⟩ := ow.consInt hcode
    clear ow hcode; have ow := ow2; have hcode := hcode2; clear ow2 hcode2
    obtain ⟨a3, us, es, rfl, rfl, ow2, hcode2⟩ := ow.consStr hcode
    clear ow hcode; have ow := ow2; have hcode := hcode2; clear ow2 hcode2
    obtain ⟨a4, us, es, rfl, rfl, ow2, hcode2⟩ := ow.consBool hcode
    clear ow hcode; have ow := ow2; have hcode := hcode2; clear ow2 hcode2
    obtain ⟨a5p, a5n, a5c, a5z, us, es, f5, rfl, rfl, rfl, o5, ow2, hcode2⟩ := ow.consInts hcode
    clear ow hcode; have ow := ow2; have hcode := hcode2; clear ow2 hcode2
    obtain ⟨a6, us, es, rfl, rfl, ow2, hcode2⟩ := ow.consStr hcode
    clear ow hcode; have ow := ow2; have hcode := hcode2; clear ow2 hcode2
    obtain ⟨a7, us, es, rfl, rfl, ow2, hcode2⟩ := ow.consBool hcode
    clear ow hcode; have ow := ow2; have hcode := hcode2; clear ow2 hcode2
    obtain ⟨a8p, a8n, a8c, a8z, us, es, f8, rfl, rfl, rfl, o8, ow2, hcode2⟩ := ow.consInts hcode
    clear ow hcode; have ow := ow2; have hcode := hcode2; clear ow2 hcode2
    obtain ⟨rfl, rfl, rfl⟩ := ow.done hcode
    simp only [cnts, D0.cnt] at hct hcle
    have z1 : a1z.length = a1n := by have := o1.len; simpa using this
    have z5 : a5z.length = a5n := by have := o5.len; simpa using this
    have z8 : a8z.length = a8n := by have := o8.len; simpa using this
    have m1 : ∀ q, a1p.map (·.block) = some q → q ∈ ((a1p.map (·.block)).toList ++ ((a5p.map (·.block)).toList ++ ((a8p.map (·.block)).toList ++ ([] : List Nat)))) := fun q hq => List.mem_append_left _ (mem_opt hq)
    have u1 : ∀ {W : World} {W2 : World} {zs : List Value}, Own W B T_int 1 a1p a1n a1c zs → Chg [b] W W2 → Own W2 B T_int 1 a1p a1n a1c zs := fun o ch => o.chg ch (fun q hq hm => hbf (List.mem_singleton.1 hm ▸ m1 q hq))
    have m5 : ∀ q, a5p.map (·.block) = some q → q ∈ ((a1p.map (·.block)).toList ++ ((a5p.map (·.block)).toList ++ ((a8p.map (·.block)).toList ++ ([] : List Nat)))) := fun q hq => List.mem_append_right _ (List.mem_append_left _ (mem_opt hq))
    have u5 : ∀ {W : World} {W2 : World} {zs : List Value}, Own W B T_int 1 a5p a5n a5c zs → Chg [b] W W2 → Own W2 B T_int 1 a5p a5n a5c zs := fun o ch => o.chg ch (fun q hq hm => hbf (List.mem_singleton.1 hm ▸ m5 q hq))
    have m8 : ∀ q, a8p.map (·.block) = some q → q ∈ ((a1p.map (·.block)).toList ++ ((a5p.map (·.block)).toList ++ ((a8p.map (·.block)).toList ++ ([] : List Nat)))) := fun q hq => List.mem_append_right _ (List.mem_append_right _ (List.mem_append_left _ (mem_opt hq)))
    have u8 : ∀ {W : World} {W2 : World} {zs : List Value}, Own W B T_int 1 a8p a8n a8c zs → Chg [b] W W2 → Own W2 B T_int 1 a8p a8n a8c zs := fun o ch => o.chg ch (fun q hq hm => hbf (List.mem_singleton.1 hm ▸ m8 q hq))
    have x1 := (List.nodup_append.1 ndf).2.2; have nd1 := (List.nodup_append.1 ndf).2.1
    have x5 := (List.nodup_append.1 nd1).2.2; have nd5 := (List.nodup_append.1 nd1).2.1
    have d1_5 : ∀ q, a1p.map (·.block) = some q → q ∉ (a5p.map (·.block)).toList := fun q hq hm => x1 q (mem_opt hq) q (List.mem_append_left _ hm) rfl
    have d5_1 : ∀ q, a5p.map (·.block) = some q → q ∉ (a1p.map (·.block)).toList := fun q hq hm => x1 q hm q (List.mem_append_left _ (mem_opt hq)) rfl
    have d1_8 : ∀ q, a1p.map (·.block) = some q → q ∉ (a8p.map (·.block)).toList := fun q hq hm => x1 q (mem_opt hq) q (List.mem_append_right _ (List.mem_append_left _ hm)) rfl
    have d8_1 : ∀ q, a8p.map (·.block) = some q → q ∉ (a1p.map (·.block)).toList := fun q hq hm => x1 q hm q (List.mem_append_right _ (List.mem_append_left _ (mem_opt hq))) rfl
    have d5_8 : ∀ q, a5p.map (·.block) = some q → q ∉ (a8p.map (·.block)).toList := fun q hq hm => x5 q (mem_opt hq) q (List.mem_append_left _ hm) rfl
    have d8_5 : ∀ q, a8p.map (·.block) = some q → q ∉ (a5p.map (·.block)).toList := fun q hq hm => x5 q hm q (List.mem_append_left _ (mem_opt hq)) rfl
    have chT : Chg (b :: ((a1p.map (·.block)).toList ++ ((a5p.map (·.block)).toList ++ ((a8p.map (·.block)).toList ++ ([] : List Nat))))) wr wr := Chg.refl _ _
    have sub1 : ∀ q ∈ [b], q ∈ b :: ((a1p.map (·.block)).toList ++ ((a5p.map (·.block)).toList ++ ((a8p.map (·.block)).toList ++ ([] : List Nat)))) := fun q hq => by rw [List.mem_singleton.1 hq]; exact List.mem_cons_self
    refine ⟨by decide, _, rfl, ⟨by omega, by omega⟩, ?_⟩
    rw [Int.tmod_eq_emod_of_nonneg (show (0 : Int) ≤ k1 by omega)]
    obtain ⟨w1, st, blk2, ch, sz⟩ := blk.storeMid (P := P) (t := T_bool) (v := .bool (decide ((k1) % 3 = 0))) hA 0 (by simp) (by kernel_rfl) rfl rfl
    have blk : Blk w1 b e (xs ++ [.bool (decide ((k1) % 3 = 0)), .slice a1p a1n a1c, .int .i64 a2, .string a3, .bool a4, .slice a5p a5n a5c, .string a6, .bool a7, .slice a8p a8n a8c] ++ zs) := blk2; clear blk2
    have chT := chT.trans (ch.mono sub1)
    have o1 := u1 o1 ch
    have o5 := u5 o5 ch
    have o8 := u8 o8 ch
    refine ⟨w1, (by simp only [addr_add, Int.toNat_natCast, Nat.zero_add, Nat.add_zero]; exact st), exW ⟨by omega, by omega⟩ ?_⟩
    refine ⟨⟨by omega, by omega⟩, _, _, _, (by simp only [addr_add, Int.toNat_natCast, Nat.zero_add, Nat.add_zero]; exact (blk.segMid hA).loadAt 1 rfl (by kernel_rfl) rfl), ?_⟩
    refine Ret.at (laws_markIntS_c o1 (by omega) (by omega)) ?_
    rintro v w2 ⟨hv, on, ch⟩
    subst hv
    have blk := blk.chg ch (fun hm => hbf (m1 _ (opt_mem hm)))
    have chT := chT.trans (ch.mono (fun q hq => List.mem_cons_of_mem _ (m1 q (opt_mem hq))))
    have o5 := o5.chg ch d5_1
    have o8 := o8.chg ch d8_1
    have o1 := on; clear on
    refine ⟨_, rfl, ?_⟩
    obtain ⟨w3, st, blk2, ch, sz⟩ := blk.storeMid (P := P) (t := T_int) (v := .int .i64 (k1 + 1 + (a1n : Nat))) hA 2 (by simp) (by kernel_rfl) rfl rfl
    have blk : Blk w3 b e (xs ++ [.bool (decide ((k1) % 3 = 0)), .slice a1p a1n a1c, .int .i64 (k1 + 1 + (a1n : Nat)), .string a3, .bool a4, .slice a5p a5n a5c, .string a6, .bool a7, .slice a8p a8n a8c] ++ zs) := blk2; clear blk2
    have chT := chT.trans (ch.mono sub1)
    have o1 := u1 o1 ch
    have o5 := u5 o5 ch
    have o8 := u8 o8 ch
    refine ⟨⟨by omega, by omega⟩, w3, (by simp only [addr_add, Int.toNat_natCast, Nat.zero_add, Nat.add_zero]; exact st), exW ⟨by omega, by omega⟩ ?_⟩
    refine Ret.at (laws_markText_c (by omega) _) ?_
    rintro v w4 ⟨hv, y⟩
    subst hv
    have blk := blk.ext y; have chT := chT.trans y.toChg
    have o1 := o1.ext y
    have o5 := o5.ext y
    have o8 := o8.ext y
    obtain ⟨w5, st, blk2, ch, sz⟩ := blk.storeMid (P := P) (t := T_string) (v := .string (mtext (k1 + 1 + (a1n : Nat) + 1))) hA 3 (by simp) (by kernel_rfl) rfl rfl
    have blk : Blk w5 b e (xs ++ [.bool (decide ((k1) % 3 = 0)), .slice a1p a1n a1c, .int .i64 (k1 + 1 + (a1n : Nat)), .string (mtext (k1 + 1 + (a1n : Nat) + 1)), .bool a4, .slice a5p a5n a5c, .string a6, .bool a7, .slice a8p a8n a8c] ++ zs) := blk2; clear blk2
    have chT := chT.trans (ch.mono sub1)
    have o1 := u1 o1 ch
    have o5 := u5 o5 ch
    have o8 := u8 o8 ch
    refine ⟨_, rfl, ⟨by omega, by omega⟩, w5, (by simp only [addr_add, Int.toNat_natCast, Nat.zero_add, Nat.add_zero]; exact st), exW ⟨by omega, by omega⟩ ?_⟩
    refine ⟨by decide, _, rfl, ⟨by omega, by omega⟩, ?_⟩
    rw [Int.tmod_eq_emod_of_nonneg (show (0 : Int) ≤ k1 + 1 + (a1n : Nat) + 1 + 1 by omega)]
    obtain ⟨w6, st, blk2, ch, sz⟩ := blk.storeMid (P := P) (t := T_bool) (v := .bool (decide ((k1 + 1 + (a1n : Nat) + 1 + 1) % 3 = 0))) hA 4 (by simp) (by kernel_rfl) rfl rfl
    have blk : Blk w6 b e (xs ++ [.bool (decide ((k1) % 3 = 0)), .slice a1p a1n a1c, .int .i64 (k1 + 1 + (a1n : Nat)), .string (mtext (k1 + 1 + (a1n : Nat) + 1)), .bool (decide ((k1 + 1 + (a1n : Nat) + 1 + 1) % 3 = 0)), .slice a5p a5n a5c, .string a6, .bool a7, .slice a8p a8n a8c] ++ zs) := blk2; clear blk2
    have chT := chT.trans (ch.mono sub1)
    have o1 := u1 o1 ch
    have o5 := u5 o5 ch
    have o8 := u8 o8 ch
    refine ⟨w6, (by simp only [addr_add, Int.toNat_natCast, Nat.zero_add, Nat.add_zero]; exact st), exW ⟨by omega, by omega⟩ ?_⟩
    refine ⟨⟨by omega, by omega⟩, _, _, _, (by simp only [addr_add, Int.toNat_natCast, Nat.zero_add, Nat.add_zero]; exact (blk.segMid hA).loadAt 5 rfl (by kernel_rfl) rfl), ?_⟩
    refine Ret.at (laws_markIntS_c o5 (by omega) (by omega)) ?_
    rintro v w7 ⟨hv, on, ch⟩
    subst hv
    have blk := blk.chg ch (fun hm => hbf (m5 _ (opt_mem hm)))
    have chT := chT.trans (ch.mono (fun q hq => List.mem_cons_of_mem _ (m5 q (opt_mem hq))))
    have o1 := o1.chg ch d1_5
    have o8 := o8.chg ch d8_5
    have o5 := on; clear on
    refine ⟨_, rfl, ?_⟩
    refine Ret.at (laws_markText_c (by omega) _) ?_
    rintro v w8 ⟨hv, y⟩
    subst hv
    have blk := blk.ext y; have chT := chT.trans y.toChg
    have o1 := o1.ext y
    have o5 := o5.ext y
    have o8 := o8.ext y
    obtain ⟨w9, st, blk2, ch, sz⟩ := blk.storeMid (P := P) (t := T_string) (v := .string (mtext (k1 + 1 + (a1n : Nat) + 1 + 1 + 1 + (a5n : Nat)))) hA 6 (by simp) (by kernel_rfl) rfl rfl
    have blk : Blk w9 b e (xs ++ [.bool (decide ((k1) % 3 = 0)), .slice a1p a1n a1c, .int .i64 (k1 + 1 + (a1n : Nat)), .string (mtext (k1 + 1 + (a1n : Nat) + 1)), .bool (decide ((k1 + 1 + (a1n : Nat) + 1 + 1) % 3 = 0)), .slice a5p a5n a5c, .string (mtext (k1 + 1 + (a1n : Nat) + 1 + 1 + 1 + (a5n : Nat))), .bool a7, .slice a8p a8n a8c] ++ zs) := blk2; clear blk2
    have chT := chT.trans (ch.mono sub1)
    have o1 := u1 o1 ch
    have o5 := u5 o5 ch
    have o8 := u8 o8 ch
    refine ⟨_, rfl, ⟨by omega, by omega⟩, w9, (by simp only [addr_add, Int.toNat_natCast, Nat.zero_add, Nat.add_zero]; exact st), exW ⟨by omega, by omega⟩ ?_⟩
    refine ⟨by decide, _, rfl, ⟨by omega, by omega⟩, ?_⟩
    rw [Int.tmod_eq_emod_of_nonneg (show (0 : Int) ≤ k1 + 1 + (a1n : Nat) + 1 + 1 + 1 + (a5n : Nat) + 1 by omega)]
    obtain ⟨w10, st, blk2, ch, sz⟩ := blk.storeMid (P := P) (t := T_bool) (v := .bool (decide ((k1 + 1 + (a1n : Nat) + 1 + 1 + 1 + (a5n : Nat) + 1) % 3 = 0))) hA 7 (by simp) (by kernel_rfl) rfl rfl
    have blk : Blk w10 b e (xs ++ [.bool (decide ((k1) % 3 = 0)), .slice a1p a1n a1c, .int .i64 (k1 + 1 + (a1n : Nat)), .string (mtext (k1 + 1 + (a1n : Nat) + 1)), .bool (decide ((k1 + 1 + (a1n : Nat) + 1 + 1) % 3 = 0)), .slice a5p a5n a5c, .string (mtext (k1 + 1 + (a1n : Nat) + 1 + 1 + 1 + (a5n : Nat))), .bool (decide ((k1 + 1 + (a1n : Nat) + 1 + 1 + 1 + (a5n : Nat) + 1) % 3 = 0)), .slice a8p a8n a8c] ++ zs) := blk2; clear blk2
    have chT := chT.trans (ch.mono sub1)
    have o1 := u1 o1 ch
    have o5 := u5 o5 ch
    have o8 := u8 o8 ch
    refine ⟨w10, (by simp only [addr_add, Int.toNat_natCast, Nat.zero_add, Nat.add_zero]; exact st), exW ⟨by omega, by omega⟩ ?_⟩
    refine ⟨⟨by omega, by omega⟩, _, _, _, (by simp only [addr_add, Int.toNat_natCast, Nat.zero_add, Nat.add_zero]; exact (blk.segMid hA).loadAt 8 rfl (by kernel_rfl) rfl), ?_⟩
    refine Ret.at (laws_markIntS_c o8 (by omega) (by omega)) ?_
    rintro v w11 ⟨hv, on, ch⟩
    subst hv
    have blk := blk.chg ch (fun hm => hbf (m8 _ (opt_mem hm)))
    have chT := chT.trans (ch.mono (fun q hq => List.mem_cons_of_mem _ (m8 q (opt_mem hq))))
    have o1 := o1.chg ch d1_8
    have o5 := o5.chg ch d5_8
    have o8 := on; clear on
    refine ⟨_, rfl, ?_⟩
    refine exW ⟨by omega, by omega⟩ ⟨⟨j + 1, by omega, by omega, by omega, ?_, hch.trans (chT.mono (fun q hq => ?_))⟩, ?_⟩
    · rw [← markL_set hxe, ← hk1]
      have e : marks [.bool a0, .ints a1z, .int a2, .str a3, .bool a4, .ints a5z, .str a6, .bool a7, .ints a8z] k1 = [.bool (decide ((k1) % 3 = 0)), .ints (mkI a1n (k1 + 1)), .int (k1 + 1 + (a1n : Nat)), .str (mtext (k1 + 1 + (a1n : Nat) + 1)), .bool (decide ((k1 + 1 + (a1n : Nat) + 1 + 1) % 3 = 0)), .ints (mkI a5n (k1 + 1 + (a1n : Nat) + 1 + 1 + 1)), .str (mtext (k1 + 1 + (a1n : Nat) + 1 + 1 + 1 + (a5n : Nat))), .bool (decide ((k1 + 1 + (a1n : Nat) + 1 + 1 + 1 + (a5n : Nat) + 1) % 3 = 0)), .ints (mkI a8n (k1 + 1 + (a1n : Nat) + 1 + 1 + 1 + (a5n : Nat) + 1 + 1))] := by simp only [marks, D0.mark, D0.cnt, z1, z5, z8] <;> rfl
      rw [e]
      exact back _ [.bool (decide ((k1) % 3 = 0)), .slice a1p a1n a1c, .int .i64 (k1 + 1 + (a1n : Nat)), .string (mtext (k1 + 1 + (a1n : Nat) + 1)), .bool (decide ((k1 + 1 + (a1n : Nat) + 1 + 1) % 3 = 0)), .slice a5p a5n a5c, .string (mtext (k1 + 1 + (a1n : Nat) + 1 + 1 + 1 + (a5n : Nat))), .bool (decide ((k1 + 1 + (a1n : Nat) + 1 + 1 + 1 + (a5n : Nat) + 1) % 3 = 0)), .slice a8p a8n a8c] _ chT rfl blk (Owns.append (Owns.bool _ _ _) (Owns.append (Owns.ints o1) (Owns.append (Owns.int _ _ _) (Owns.append (Owns.str _ _ _) (Owns.append (Owns.bool _ _ _) (Owns.append (Owns.ints o5) (Owns.append (Owns.str _ _ _) (Owns.append (Owns.bool _ _ _) (Owns.append (Owns.ints o8) (Owns.nil _ _))))))))))
    · rcases List.mem_cons.1 hq with h | h
      · rw [h]; exact hbm
      · exact hfm q h
    · show n - ((j : Int) + 1).toNat < n - (j : Int).toNat
      omega
  · have hjn : j = n := by omega
    subst hjn
    rw [List.take_of_length_le (by omega), List.drop_of_length_le (by omega), List.append_nil] at ho
    rw [List.take_of_length_le (by omega)] at hk1
    exact ⟨by rw [hk1], ho, hch⟩
theorem laws_heldTaxSumS_c {w : World} {p : Option Addr} {n c : Nat} {l : List (List D0)} {k : Int} (h : RowsR w 9 p n c (markL l k)) (hc : ∀ x ∈ l, x.map D0.code = [.bool, .ints, .int, .str, .bool, .ints, .str, .bool, .ints]) (h0 : 0 ≤ k) (h1 : k + cntL l ≤ 1000000000000000000) :
    Ret P n_laws_heldTaxSumS [.slice p n c, .int .i64 k] w fun v w' => v = .int .i64 (k + cntL l) ∧ Ext w w' := by
  have hz : l.length = n := by have := h.1; rwa [markL_len] at this
  have hcap := h.2.1; have hcm := h.2.2.1
  refine laws_heldTaxSumS_ret ?_
  unfold laws_heldTaxSumS
  refine ⟨fun k1 i wr => ∃ j : Nat, i = j ∧ j ≤ n ∧ k1 = k + cntL (l.take j) ∧ Ext w wr, fun _ i _ => n - i.toNat, ⟨0, rfl, by omega, by simp [cntL], Ext.refl _⟩, ?_⟩
  intro junk wr k1 i ⟨j, hij, hj, hk1, hx⟩
  subst hij
  refine ifD (fun hlt => ?_) (fun hge => ?_)
  · have hjl : j < l.length := by omega
    obtain ⟨x, hxe⟩ : ∃ x, l[j]? = some x := ⟨_, List.getElem?_eq_getElem hjl⟩
    have hcode := hc x (List.mem_of_getElem? hxe)
    obtain ⟨hct, hcle⟩ := cntL_row hxe
    have hcn := cntL_nonneg (l.take j)
    obtain ⟨b, off, hp, hs⟩ := (h.ext hx).2.2.2 (by omega)
    subst hp
    obtain ⟨cs, hk, hr, hsg⟩ := hs j _ (markL_get l k j x hxe)
    rw [← hk1] at hr
    obtain ⟨s0, es, rfl, hcode2⟩ := code_bool hcode
    clear hcode; have hcode := hcode2; clear hcode2
    obtain ⟨z1, es, rfl, hcode2⟩ := code_ints hcode
    clear hcode; have hcode := hcode2; clear hcode2
    obtain ⟨s2, es, rfl, hcode2⟩ := code_int hcode
    clear hcode; have hcode := hcode2; clear hcode2
    obtain ⟨s3, es, rfl, hcode2⟩ := code_str hcode
    clear hcode; have hcode := hcode2; clear hcode2
    obtain ⟨s4, es, rfl, hcode2⟩ := code_bool hcode
    clear hcode; have hcode := hcode2; clear hcode2
    obtain ⟨z5, es, rfl, hcode2⟩ := code_ints hcode
    clear hcode; have hcode := hcode2; clear hcode2
    obtain ⟨s6, es, rfl, hcode2⟩ := code_str hcode
    clear hcode; have hcode := hcode2; clear hcode2
    obtain ⟨s7, es, rfl, hcode2⟩ := code_bool hcode
    clear hcode; have hcode := hcode2; clear hcode2
    obtain ⟨z8, es, rfl, hcode2⟩ := code_ints hcode
    clear hcode; have hcode := hcode2; clear hcode2
    have hn := code_nil hcode; subst hn
    simp only [marks, D0.mark, D0.cnt] at hr
    simp only [cnts, D0.cnt] at hct hcle
    obtain ⟨a0, us, es, rfl, hd, hr2, hc2⟩ := hr.bool rfl
    cases hd
    clear hr hc2; have hr := hr2; clear hr2
    obtain ⟨a1p, a1n, a1c, a1z, us, es, rfl, hd, g1, hr2, hc2⟩ := hr.ints rfl
    cases hd
    clear hr hc2; have hr := hr2; clear hr2
    obtain ⟨a2, us, es, rfl, hd, hr2, hc2⟩ := hr.int rfl
    cases hd
    clear hr hc2; have hr := hr2; clear hr2
    obtain ⟨a3, us, es, rfl, hd, hr2, hc2⟩ := hr.str rfl
    cases hd
    clear hr hc2; have hr := hr2; clear hr2
    obtain ⟨a4, us, es, rfl, hd, hr2, hc2⟩ := hr.bool rfl
    cases hd
    clear hr hc2; have hr := hr2; clear hr2
    obtain ⟨a5p, a5n, a5c, a5z, us, es, rfl, hd, g5, hr2, hc2⟩ := hr.ints rfl
    cases hd
    clear hr hc2; have hr := hr2; clear hr2
    obtain ⟨a6, us, es, rfl, hd, hr2, hc2⟩ := hr.str rfl
    cases hd
    clear hr hc2; have hr := hr2; clear hr2
    obtain ⟨a7, us, es, rfl, hd, hr2, hc2⟩ := hr.bool rfl
    cases hd
    clear hr hc2; have hr := hr2; clear hr2
    obtain ⟨a8p, a8n, a8c, a8z, us, es, rfl, hd, g8, hr2, hc2⟩ := hr.ints rfl
    cases hd
    clear hr hc2; have hr := hr2; clear hr2
    obtain ⟨hv, _⟩ := hr.done rfl
    subst hv
    have y1 : z1.length = a1n := by have := g1.1; rwa [mkI_len] at this
    rw [y1] at g1
    have y5 : z5.length = a5n := by have := g5.1; rwa [mkI_len] at this
    rw [y5] at g5
    have y8 : z8.length = a8n := by have := g8.1; rwa [mkI_len] at this
    rw [y8] at g8
    try simp only [y1, y5, y8] at hsg
    have X : Ext wr wr := Ext.refl _
    refine ⟨⟨by omega, by omega⟩, _, (by simp only [addr_add, Int.toNat_natCast, Nat.zero_add, Nat.add_zero]; exact (hsg.ext X).loadAt 0 rfl (by kernel_rfl) rfl), by decide, _, rfl, ?_⟩
    rw [Int.tmod_eq_emod_of_nonneg (show (0 : Int) ≤ k1 by omega)]
    refine ⟨fun h => absurd h (bne_no rfl), fun _ => exW ⟨by omega, by omega⟩ ?_⟩
    refine ⟨⟨by omega, by omega⟩, _, _, _, (by simp only [addr_add, Int.toNat_natCast, Nat.zero_add, Nat.add_zero]; exact (hsg.ext X).loadAt 1 rfl (by kernel_rfl) rfl), ?_⟩
    refine Ret.at (laws_heldIntS_c (n := a1n) (k := k1 + 1) (by have := g1.ext X;  exact this) (by omega) (by omega)) ?_
    rintro v w1 ⟨hv, y⟩
    subst hv
    have X := X.trans y
    refine ⟨_, rfl, ifD (fun h => absurd h (by omega)) (fun _ => ?_)⟩
    refine ⟨⟨by omega, by omega⟩, _, (by simp only [addr_add, Int.toNat_natCast, Nat.zero_add, Nat.add_zero]; exact (hsg.ext X).loadAt 2 rfl (by kernel_rfl) rfl), ifD (fun hne => absurd rfl hne) (fun _ => exW ⟨by omega, by omega⟩ ?_)⟩
    have D := Ext.drew w1; have X := X.trans D
    refine ⟨⟨by omega, by omega⟩, _, fun W' hW => (by simp only [addr_add, Int.toNat_natCast, Nat.zero_add, Nat.add_zero]; exact (hsg.ext (X.trans hW)).loadAt 3 rfl (by kernel_rfl) rfl), ?_⟩
    refine Ret.at (laws_markText_c (by omega) _) ?_
    rintro v w2 ⟨hv, y⟩
    subst hv
    have X := X.trans y
    refine ⟨_, rfl, y, ifD (fun hne => absurd rfl hne) (fun _ => exW ⟨by omega, by omega⟩ ?_)⟩
    refine ⟨⟨by omega, by omega⟩, _, (by simp only [addr_add, Int.toNat_natCast, Nat.zero_add, Nat.add_zero]; exact (hsg.ext X).loadAt 4 rfl (by kernel_rfl) rfl), by decide, _, rfl, ?_⟩
    rw [Int.tmod_eq_emod_of_nonneg (show (0 : Int) ≤ k1 + 1 + (a1n : Nat) + 1 + 1 by omega)]
    refine ⟨fun h => absurd h (bne_no rfl), fun _ => exW ⟨by omega, by omega⟩ ?_⟩
    refine ⟨⟨by omega, by omega⟩, _, _, _, (by simp only [addr_add, Int.toNat_natCast, Nat.zero_add, Nat.add_zero]; exact (hsg.ext X).loadAt 5 rfl (by kernel_rfl) rfl), ?_⟩
    refine Ret.at (laws_heldIntS_c (n := a5n) (k := k1 + 1 + (a1n : Nat) + 1 + 1 + 1) (by have := g5.ext X; simp only [y1] at this; exact this) (by omega) (by omega)) ?_
    rintro v w3 ⟨hv, y⟩
    subst hv
    have X := X.trans y
    refine ⟨_, rfl, ifD (fun h => absurd h (by omega)) (fun _ => ?_)⟩
    have D := Ext.drew w3; have X := X.trans D
    refine ⟨⟨by omega, by omega⟩, _, fun W' hW => (by simp only [addr_add, Int.toNat_natCast, Nat.zero_add, Nat.add_zero]; exact (hsg.ext (X.trans hW)).loadAt 6 rfl (by kernel_rfl) rfl), ?_⟩
    refine Ret.at (laws_markText_c (by omega) _) ?_
    rintro v w4 ⟨hv, y⟩
    subst hv
    have X := X.trans y
    refine ⟨_, rfl, y, ifD (fun hne => absurd rfl hne) (fun _ => exW ⟨by omega, by omega⟩ ?_)⟩
    refine ⟨⟨by omega, by omega⟩, _, (by simp only [addr_add, Int.toNat_natCast, Nat.zero_add, Nat.add_zero]; exact (hsg.ext X).loadAt 7 rfl (by kernel_rfl) rfl), by decide, _, rfl, ?_⟩
    rw [Int.tmod_eq_emod_of_nonneg (show (0 : Int) ≤ k1 + 1 + (a1n : Nat) + 1 + 1 + 1 + (a5n : Nat) + 1 by omega)]
    refine ⟨fun h => absurd h (bne_no rfl), fun _ => exW ⟨by omega, by omega⟩ ?_⟩
    refine ⟨⟨by omega, by omega⟩, _, _, _, (by simp only [addr_add, Int.toNat_natCast, Nat.zero_add, Nat.add_zero]; exact (hsg.ext X).loadAt 8 rfl (by kernel_rfl) rfl), ?_⟩
    refine Ret.at (laws_heldIntS_c (n := a8n) (k := k1 + 1 + (a1n : Nat) + 1 + 1 + 1 + (a5n : Nat) + 1 + 1) (by have := g8.ext X; simp only [y1] at this;simp only [y5] at this; exact this) (by omega) (by omega)) ?_
    rintro v w5 ⟨hv, y⟩
    subst hv
    have X := X.trans y
    refine ⟨_, rfl, ifD (fun h => absurd h (by omega)) (fun _ => ?_)⟩
    refine exW ⟨by omega, by omega⟩ ⟨⟨j + 1, by omega, by omega, by omega, hx.trans X⟩, ?_⟩
    show n - ((j : Int) + 1).toNat < n - (j : Int).toNat
    omega
  · have hjn : j = n := by omega
    subst hjn
    rw [List.take_of_length_le (by omega)] at hk1
    exact ⟨by rw [hk1], hx⟩
end Go.Proofs.YtfehpaekbbmkcaaGreatDoor

namespace Go.Proofs.YtfehpaekbbmkcaaGreatDoor
open Go Go.Proofs.YtfehpaekbbmkcaaGreatDoor.Sx
set_option linter.unusedVariables false
set_option linter.unusedSimpArgs false
set_option maxHeartbeats 4000000
theorem laws_FnExactTaxSums_c {w : World} {p0 : Option Addr} {n0 c0 : Nat} {l0 : List (List D0)} (h0 : RowsR w 6 p0 n0 c0 l0) (hc0 : ∀ x ∈ l0, x.map D0.code = [.str, .bool, .ints, .bool, .ints, .int]) (hk0 : ∀ x ∈ l0, ∀ d ∈ x, d.ok) (a1 : Int) (ht : Tab w) :
    Ret P n_laws_FnExactTaxSums [.slice p0 n0 c0, .int .i64 a1] w fun v w' => v = .bool true ∧ Ext w w' := by
  refine laws_FnExactTaxSums_ret ?_
  unfold laws_FnExactTaxSums
  have x : Ext w w := Ext.refl w
  refine Ret.at (laws_szTaxLineS_c (h0.ext x) hc0 hk0 (by omega) (by omega)) ?_
  rintro v W1 ⟨k0, hv, hs0, hm0, y⟩
  subst hv
  replace x := x.trans y
  have ll1 := y.le
  refine ⟨_, rfl, ifD (fun _ => ⟨rfl, x⟩) (fun hp0 => ?_)⟩
  have hs0 := hs0 (by omega)
  have hb0 : ∀ y ∈ l0, bulks y ≤ 1048576 := fun y hy => by have := bulks_le hy; omega
  have hz0 : n0 ≤ 1048576 := by omega
  have hsum0 : (l0.map bulks).sum ≤ 1048576 := by omega
  refine Ret.at (laws_toTaxLineS_c (h0.ext x) hc0 hz0 hb0) ?_
  rintro v W2 ⟨p_s0, c_s0, f_s0, hv, o_s0, y⟩
  subst hv
  have lt_o_s0 : ∀ k ∈ f_s0, W1.heap.size ≤ k ∧ k < W2.heap.size := o_s0.lt
  have yy := y
  replace x := x.trans y
  have ll2 := y.le
  refine ⟨_, _, _, rfl, ?_⟩
  refine Ret.at (spec_TaxSums_c o_s0.rows hc0 hz0 hb0 a1) ?_
  rintro v W3 ⟨p_w0, m_w0, c_w0, hv, o_w0, co_w0, y⟩
  subst hv
  replace x := x.trans y
  have ll3 := y.le
  have xS := Ext.refl W3
  refine ⟨_, _, _, _, rfl, ?_⟩
  refine Ret.at (laws_toTaxLineS_c (h0.ext x) hc0 hz0 hb0) ?_
  rintro v W4 ⟨p_x0, c_x0, f_x0, hv, o_x0, y⟩
  subst hv
  have lt_o_x0 : ∀ k ∈ f_x0, W3.heap.size ≤ k ∧ k < W4.heap.size := o_x0.lt
  replace x := x.trans y
  replace xS := xS.trans y
  have ll4 := y.le
  refine ⟨_, _, _, rfl, ?_⟩
  refine Ret.at (impl_TaxSums_c o_x0.rows hc0 hz0 hb0 a1 (ht.ext x)) ?_
  rintro v W5 ⟨p_g0, m_g0, c_g0, f_g0, hv, o_g0, co_g0, ct_g0, y⟩
  subst hv
  have tn_g0 := cntL_nn ct_g0
  have lt_o_g0 : ∀ k ∈ f_g0, W4.heap.size ≤ k ∧ k < W5.heap.size := o_g0.lt
  replace x := x.trans y
  replace xS := xS.trans y
  replace o_x0 := o_x0.ext y
  have ll5 := y.le
  refine ⟨_, _, _, _, rfl, ?_⟩
  refine Ret.at (laws_eqTaxSumS_c o_g0.rows (o_w0.ext xS) co_g0 co_w0) ?_
  rintro v W6 ⟨hv, y⟩
  subst hv
  replace x := x.trans y
  replace xS := xS.trans y
  replace o_x0 := o_x0.ext y
  replace o_g0 := o_g0.ext y
  have ll6 := y.le
  refine ⟨_, rfl, ifN (fun h => absurd h (by simp)) (fun _ => ?_)⟩
  refine ⟨fun h => absurd h (bne_no rfl), fun _ => ?_⟩
  unfold laws_FnExactTaxSums_j0
  refine Ret.at (laws_toTaxLineS_c (h0.ext x) hc0 hz0 hb0) ?_
  rintro v W7 ⟨p_y0, c_y0, f_y0, hv, o_y0, y⟩
  subst hv
  have lt_o_y0 : ∀ k ∈ f_y0, W6.heap.size ≤ k ∧ k < W7.heap.size := o_y0.lt
  have y2 := y
  replace x := x.trans y
  replace xS := xS.trans y
  replace o_x0 := o_x0.ext y
  replace o_g0 := o_g0.ext y
  have ll7 := y.le
  refine ⟨_, _, _, rfl, ?_⟩
  refine Ret.at (laws_eqTaxLineS_c o_x0.rows o_y0.rows hc0 hc0) ?_
  rintro v W8 ⟨hv, y⟩
  subst hv
  replace x := x.trans y
  replace xS := xS.trans y
  replace o_x0 := o_x0.ext y
  replace o_g0 := o_g0.ext y
  have ll8 := y.le
  refine ⟨_, rfl, ifN (fun h => absurd h (by simp)) (fun _ => ?_)⟩
  have cn0 := cntL_nonneg l0; have cb0 := cntL_le l0 (m := 6) (fun y hy => by rw [code_len (hc0 y hy)]; decide)
  have cl0 : cntL l0 ≤ 100000000 := by have := h0.1; omega
  refine Ret.at (laws_markTaxLineS_c o_x0 hc0 (by omega) (by omega)) ?_
  rintro v W9 ⟨hv, on, ch⟩
  subst hv
  replace x := x.chg ch (fun k hk => by have := lt_o_x0 k hk; omega)
  replace xS := xS.chg ch (fun k hk => by have := lt_o_x0 k hk; omega)
  replace o_g0 := o_g0.chg ch (fun k hk hm => by have h1 := lt_o_g0 k hk; have h2 := lt_o_x0 k hm; omega)
  have ll9 := ch.size
  replace o_x0 := on; clear on
  refine ⟨_, rfl, ?_⟩
  refine ifD (fun h => absurd h (by omega)) (fun _ => ?_)
  refine Ret.at (laws_eqTaxSumS_c o_g0.rows (o_w0.ext xS) co_g0 co_w0) ?_
  rintro v W10 ⟨hv, y⟩
  subst hv
  replace x := x.trans y
  replace xS := xS.trans y
  replace o_x0 := o_x0.ext y
  replace o_g0 := o_g0.ext y
  have ll10 := y.le
  refine ⟨_, rfl, ifN (fun h => absurd h (by simp)) (fun _ => ?_)⟩
  refine ⟨fun h => absurd h (bne_no rfl), fun _ => ?_⟩
  unfold laws_FnExactTaxSums_j1
  refine Ret.at (laws_markTaxSumS_c o_g0 co_g0 (by omega) (by omega)) ?_
  rintro v W11 ⟨hv, on, ch⟩
  subst hv
  replace x := x.chg ch (fun k hk => by have := lt_o_g0 k hk; omega)
  replace xS := xS.chg ch (fun k hk => by have := lt_o_g0 k hk; omega)
  replace o_x0 := o_x0.chg ch (fun k hk hm => by have h1 := lt_o_x0 k hk; have h2 := lt_o_g0 k hm; omega)
  have ll11 := ch.size
  replace o_g0 := on; clear on
  refine ⟨_, rfl, ?_⟩
  refine Ret.at (laws_heldTaxSumS_c o_g0.rows co_g0 (by omega) (by omega)) ?_
  rintro v W12 ⟨hv, y⟩
  subst hv
  replace x := x.trans y
  replace xS := xS.trans y
  replace o_x0 := o_x0.ext y
  replace o_g0 := o_g0.ext y
  have ll12 := y.le
  refine ⟨_, rfl, ifD (fun h => absurd h (by omega)) (fun _ => ?_)⟩
  refine ifD (fun h => absurd rfl h) (fun _ => ?_)
  refine Ret.at (laws_toTaxLineS_c (h0.ext x) hc0 hz0 hb0) ?_
  rintro v W13 ⟨p_h0, c_h0, f_h0, hv, o_h0, y⟩
  subst hv
  have lt_o_h0 : ∀ k ∈ f_h0, W12.heap.size ≤ k ∧ k < W13.heap.size := o_h0.lt
  have yy := y
  replace x := x.trans y
  replace xS := xS.trans y
  replace o_x0 := o_x0.ext y
  replace o_g0 := o_g0.ext y
  have ll13 := y.le
  refine ⟨_, _, _, rfl, ?_⟩
  refine Ret.at (impl_TaxSums_c o_h0.rows hc0 hz0 hb0 a1 (ht.ext x)) ?_
  rintro v W14 ⟨p_h0, m_h0, c_h0, f_h0, hv, o_h0, co_h0, ct_h0, y⟩
  subst hv
  have tn_h0 := cntL_nn ct_h0
  have lt_o_h0 : ∀ k ∈ f_h0, W13.heap.size ≤ k ∧ k < W14.heap.size := o_h0.lt
  replace x := x.trans y
  replace xS := xS.trans y
  replace o_x0 := o_x0.ext y
  replace o_g0 := o_g0.ext y
  have ll14 := y.le
  refine ⟨_, _, _, _, rfl, ?_⟩
  refine Ret.at (laws_eqTaxSumS_c o_h0.rows (o_w0.ext xS) co_h0 co_w0) ?_
  rintro v W15 ⟨hv, y⟩
  subst hv
  replace x := x.trans y
  replace xS := xS.trans y
  replace o_x0 := o_x0.ext y
  replace o_g0 := o_g0.ext y
  replace o_h0 := o_h0.ext y
  have ll15 := y.le
  refine ⟨_, rfl, ifN (fun h => absurd h (by simp)) (fun _ => ?_)⟩
  refine ⟨fun h => absurd h (bne_no rfl), fun _ => ?_⟩
  unfold laws_FnExactTaxSums_j2
  refine Ret.at (laws_heldTaxSumS_c o_g0.rows co_g0 (by omega) (by omega)) ?_
  rintro v W16 ⟨hv, y⟩
  subst hv
  replace x := x.trans y
  replace xS := xS.trans y
  replace o_x0 := o_x0.ext y
  replace o_g0 := o_g0.ext y
  replace o_h0 := o_h0.ext y
  have ll16 := y.le
  refine ⟨_, rfl, ifD (fun h => absurd h (by omega)) (fun _ => ?_)⟩
  refine ifD (fun h => absurd rfl h) (fun _ => ?_)
  exact ⟨rfl, x⟩
end Go.Proofs.YtfehpaekbbmkcaaGreatDoor

namespace Go.Proofs.YtfehpaekbbmkcaaGreatDoor.Sx
open Go Go.RowKit Go.ChangeShapes Go.WideShapes
set_option linter.unusedVariables false
set_option linter.unusedSimpArgs false
def rowedV (P : Program) (ns : List String) : Bool := ns.all fun n => ((P.globalNamed n).bind (P.globals[·]?)).all fun gl => P.readableRec gl.type && decide (gl.type < P.types.size)
section
variable {H : Type} {enc : TypeId × Value → H} {P : Program}
theorem trodAll_ext (hl : laidOutB P = true) {W W' : World} (hb : Ext W W') (sp' : Nat → Bool) : ∀ {ts : List TypeId} {vs : List Value} {ds : List (DataW H)} {ps : List MemPlace},
    (∀ t ∈ ts, P.readableRec t = true ∧ t < P.types.size) → (∀ p ∈ ps, p.block < W.heap.size) → (∀ p ∈ ps, sp' p.block = true) →
    DataW.TrodAll enc P W 0 (fun _ => true) true ts vs ds ps → DataW.TrodAll enc P W' 0 sp' true ts vs ds ps
  | [], _, _, _, _, _, _, h => by
    obtain ⟨rfl, rfl, rfl⟩ := trodAll_nil h
    exact rfl
  | t :: ts, _, _, _, hr, hlt, hsp, h => by
    obtain ⟨v, vs1, d, ds1, a, b, rfl, rfl, rfl, h1, h2⟩ := trodAll_cons h
    have hrt := hr t (by simp)
    exact ⟨a, b, WideElems.Trod_stays hl hrt.1 hrt.2 h1 (fun x hx => Below.same hb (hlt x (by simp [hx]))) (fun x hx => hsp x (by simp [hx])),
      trodAll_ext hl hb sp' (fun u hu => hr u (by simp [hu])) (fun x hx => hlt x (by simp [hx])) (fun x hx => hsp x (by simp [hx])) h2, rfl⟩
theorem trodVars_sp (hl : laidOutB P = true) {W W' : World} (hb : Ext W W') (sp' : Nat → Bool) :
    ∀ {ns : List String} {gs : List (DataW H)} {ps : List MemPlace}, rowedV P ns = true → (∀ p ∈ ps, sp' p.block = true) → DataW.TrodVars enc P W (fun _ => true) ns gs ps → DataW.TrodVars enc P W' sp' ns gs ps
  | [], [], _, _, _, h => h
  | [], _ :: _, _, _, _, h => h.elim
  | _ :: _, [], _, _, _, h => h.elim
  | n :: ns, d :: ds, ps, hv, hsp, h => by
    have hlt := h.lt
    obtain ⟨g, t, cs, fuel, p, q, h1, h2, h3, h4, hs, e⟩ := h
    simp only [rowedV, List.all_cons, Bool.and_eq_true] at hv
    have ht : P.readableRec t = true ∧ t < P.types.size := by
      have := hv.1
      rw [h1] at this
      cases hg : P.globals[g]? with
      | none => rw [hg] at h2; cases h2
      | some gl =>
        rw [hg] at h2
        obtain rfl : gl.type = t := Option.some.inj h2
        simpa [hg] using this
    have hp : ∀ x ∈ p, x.block < W.heap.size := fun x hx => hlt x (by rw [e]; simp [hx])
    have h3' : W'.var? P n = some cs := by
      unfold World.var? at h3 ⊢
      rw [h1] at h3 ⊢
      simp only [Option.bind_some] at h3 ⊢
      have hg : g < W.heap.size := by
        cases hh : W.heap[g]? with
        | none => rw [hh] at h3; cases h3
        | some o => exact (Array.getElem?_eq_some_iff.1 hh).1
      rw [hb.block g hg]; exact h3
    exact ⟨g, t, cs, fuel, p, q, h1, h2, h3', DataW.trod_stays (kids_book hl ht.1) (book_sized ht.1) (fun h => by cases h) ⟨ht.2, book_self t⟩ h4 (fun x hx => Below.same hb (hp x hx)) (fun x hx => hsp x (by rw [e]; simp [hx])),
      trodVars_sp hl hb sp' (by simpa [rowedV] using hv.2) (fun x hx => hsp x (by rw [e]; simp [hx])) hs, e⟩
theorem post_of_ext {f : Func} {s : ChangeSpec} {apart fresh handsOn again : Bool} {W W' : World} {args : Array Value} {ds gs : List (DataW H)} {before : List MemPlace} {tb : TypeId}
    (hl : laidOutB P = true) (hpar : ∀ t ∈ f.params.toList, P.readableRec t = true ∧ t < P.types.size) (hvr : rowedV P s.vars = true)
    (hrt : f.resultTypes = #[tb]) (htb : P.underlying tb = some .bool)
    (hW : DataW.Whole enc P f.params.toList s.vars apart W args.toList ds gs before) (hx : Ext W W')
    (hfn : s.fn H (ds ++ gs) = { results := [.lit (.bool true)], args := ds, vars := gs }) :
    s.post enc P f apart fresh handsOn again W args (.bool true) W' := by
  have hW0 := hW
  have hlt : ∀ p ∈ before, p.block < W.heap.size := hW.lt
  obtain ⟨pa, pv, hA, hV, rfl, hz, hn⟩ := hW
  have hlta : ∀ p ∈ pa, p.block < W.heap.size := fun p hp => hlt p (by simp [hp])
  have hltv : ∀ p ∈ pv, p.block < W.heap.size := fun p hp => hlt p (by simp [hp])
  have hr : (Value.bool true).resultList f.resultTypes.size = [Value.bool true] := by rw [hrt]; rfl
  refine ⟨ds, gs, pa ++ pv, [], pa, pv, hW0, ?_, ?_, ?_, Below.frame hx _, fun _ => ?_⟩
  · rw [hfn, hr, hrt]
    exact trodAll_mk1 (shut_bool htb _)
  · rw [hfn]
    exact trodAll_ext hl hx _ hpar hlta (fun p hp => by simpa using hlta p hp) hA
  · rw [hfn]
    exact trodVars_sp hl hx _ hvr (fun p hp => by simpa using hltv p hp) hV
  · refine ⟨?_, (.lit (.bool true)) :: ds, gs, pa ++ pv, ⟨[] ++ pa, pv, ?_, ?_, by simp, ?_, ?_⟩, fun p hp _ => hp⟩
    · rw [hr, hrt]
      exact ok_one (f := { f with resultTypes := #[tb] }) rfl rfl (okWide_bool_mk htb _)
    · rw [hr, hrt]
      exact trodAll_append (trodAll_ext hl hx _ hpar hlta (fun _ _ => rfl) hA) (trodAll_mk1 (shut_bool htb _))
    · exact trodVars_sp hl hx _ hvr (fun _ _ => rfl) hV
    · intro b off hp
      have := hlt _ hp
      rw [Below.frozen hx (p := ⟨b, off, none⟩) this]
      exact hz b off hp
    · exact hn
end
end Go.Proofs.YtfehpaekbbmkcaaGreatDoor.Sx

namespace Go.Proofs.YtfehpaekbbmkcaaGreatDoor.Sx
open Go Go.RowKit Go.ChangeShapes Go.WideShapes
set_option linter.unusedVariables false
set_option linter.unusedSimpArgs false
def flatF (P : Program) (g : TypeId → Option (List C0)) : Nat → List Field → Option (List C0)
  | _, [] => some []
  | o, f :: r => match Nat.beq f.offset o, g f.type with
    | true, some a => match Nat.beq (P.cellsOf f.type) a.length, flatF P g (o + a.length) r with
      | true, some b => some (a ++ b)
      | _, _ => none
    | _, _ => none
def flatC (P : Program) : Nat → TypeId → Option (List C0)
  | 0, _ => none
  | n + 1, t => match P.underlying t with
    | some .bool => some [.bool]
    | some (.int .i64) => some [.int]
    | some .string => some [.str]
    | some (.slice e) => match P.underlying e, P.cellsOf e with
      | some (.int .i64), 1 => some [.ints]
      | _, _ => none
    | some (.struct fs) => match flatF P (flatC P n) 0 fs.toList with
      | some a => if Nat.beq (P.cellsOf t) a.length then some a else none
      | none => none
    | _ => none
section
variable {H : Type} {enc : TypeId × Value → H} {P : Program} {w : World}
theorem seg_of_cells {b off n : Nat} {sp : Option Nat} {cs : List Value} (h : w.cells? 0 ⟨b, off, none⟩ n = some cs) : cs.length = n ∧ Seg w b off cs := by
  obtain ⟨_, hl, hc⟩ := World.cells?_some h
  refine ⟨hl, fun j v hj => ?_⟩
  have hjl : j < n := by rw [← hl]; exact (List.getElem?_eq_some_iff.1 hj).1
  rw [← addr_add, hc j hjl, hj]
theorem spot_none {a : Addr} {v : Value} (h : w.cell? a = some v) : a = ⟨a.block, a.off, none⟩ := by
  obtain ⟨b, o, spot⟩ := a
  have : spot = none := by simpa using World.cell?_spot h
  subst this; rfl
theorem ints_of_trod {t e : TypeId} {fuel : Nat} {sp : Nat → Bool} {hd : Bool} {cs : List Value} {x : DataW H × List MemPlace} (ht : P.underlying t = some (.slice e)) (he : P.underlying e = some (.int .i64)) (hc : P.cellsOf e = 1)
    (h : DataW.trod enc P w 0 sp hd fuel t cs = some x) : ∃ p n c zs, cs = [.slice p n c] ∧ IntsR w p n c zs ∧ zs.length ≤ 9223372036854775807 := by
  rcases Go.ChangeShapes.open_ints ht he hc h with ⟨rfl, _⟩ | ⟨a, len, cap, zs, rfl, _, hl, hm, hz, _, hcell, _⟩
  · exact ⟨none, 0, 0, [], rfl, ⟨rfl, Nat.le_refl _, by omega, fun h => absurd h (by omega)⟩, by simp⟩
  · have hlz : len ≤ zs.length := by rw [hz]; split <;> omega
    refine ⟨some a, len, cap, zs.take len, rfl, ⟨by simp; omega, hl, by simpa [maxLen] using hm, fun hpos => ?_⟩, by simp only [maxLen] at hm; simp; omega⟩
    have h0 := hcell 0 (by omega)
    have hs := spot_none h0
    have ha : a = ⟨a.block, a.off, none⟩ := by
      obtain ⟨b, o, s⟩ := a
      simp [Addr.add] at hs
      simp [hs]
    refine ⟨a.block, a.off, by rw [← ha], fun j v hj => ?_⟩
    simp only [List.getElem?_map, List.getElem?_take] at hj
    split at hj
    · rename_i hjl
      have hjz : j < zs.length := by omega
      have := hcell j hjz
      rw [ha, addr_add] at this
      rw [this]
      rw [List.getElem?_eq_getElem hjz] at hj
      simp at hj
      rw [← hj]
      simp [hjz]
    · simp at hj
theorem flatF_open {g : TypeId → Option (List C0)} {n : Nat} {sp : Nat → Bool} {hd : Bool}
    (ih : ∀ {t : TypeId} {ks : List C0} {cs : List Value} {x : DataW H × List MemPlace}, g t = some ks → DataW.trod enc P w 0 sp hd n t cs = some x → ∃ ds, Reps w cs ds ∧ ds.map D0.code = ks ∧ ∀ d ∈ ds, d.ok) :
    ∀ (fs : List Field) (o : Nat) (ks : List C0) (cs : List Value), flatF P g o fs = some ks → cs.length = o + ks.length →
      (∀ f ∈ fs, ∃ x, DataW.trod enc P w 0 sp hd n f.type ((cs.drop f.offset).take (P.cellsOf f.type)) = some x) → ∃ ds, Reps w (cs.drop o) ds ∧ ds.map D0.code = ks ∧ ∀ d ∈ ds, d.ok
  | [], o, ks, cs, hf, hl, _ => by
    simp only [flatF, Option.some.injEq] at hf
    subst hf
    rw [List.drop_of_length_le (by simp at hl; omega)]
    exact ⟨[], trivial, rfl, by simp⟩
  | f :: r, o, ks, cs, hf, hl, hx => by
    simp only [flatF] at hf
    split at hf
    · rename_i a h1 h2
      split at hf
      · rename_i b h3 h4
        have h1' := Nat.eq_of_beq_eq_true h1
        have h3' := Nat.eq_of_beq_eq_true h3
        cases hf
        rw [List.length_append] at hl
        obtain ⟨x, hx0⟩ := hx f (by simp)
        obtain ⟨ds, r1, c1, k1⟩ := ih h2 hx0
        obtain ⟨es, r2, c2, k2⟩ := flatF_open ih r (o + a.length) b cs h4 (by omega) (fun f' hf' => hx f' (by simp [hf']))
        refine ⟨ds ++ es, ?_, by simp [c1, c2], fun d hd => ?_⟩
        · rw [h1', h3'] at r1
          have : cs.drop o = (cs.drop o).take a.length ++ cs.drop (o + a.length) := by
            rw [← List.drop_drop, List.take_append_drop]
          rw [this]
          exact r1.append r2
        · rcases List.mem_append.1 hd with h | h
          · exact k1 d h
          · exact k2 d h
      · cases hf
    · cases hf
theorem flat_open {sp : Nat → Bool} {hd : Bool} : ∀ (m : Nat) {fuel : Nat} {t : TypeId} {ks : List C0} {cs : List Value} {x : DataW H × List MemPlace}, flatC P m t = some ks → DataW.trod enc P w 0 sp hd fuel t cs = some x →
    ∃ ds, Reps w cs ds ∧ ds.map D0.code = ks ∧ ∀ d ∈ ds, d.ok
  | 0, _, _, _, _, _, h, _ => by cases h
  | m + 1, fuel, t, ks, cs, x, h, ht => by
    simp only [flatC] at h
    split at h
    · rename_i hu
      obtain ⟨b, rfl, _⟩ := DataW.trod_bool hu ht
      cases h
      exact ⟨[.bool b], ⟨rfl, trivial⟩, rfl, by simp [D0.ok]⟩
    · rename_i hu
      obtain ⟨b, rfl, _, hw⟩ := DataW.trod_int hu ht
      cases h
      refine ⟨[.int b], ⟨rfl, trivial⟩, rfl, ?_⟩
      simp only [List.mem_singleton, forall_eq, D0.ok]
      simp [Lit.wf, IntKind.min, IntKind.max, IntKind.bits, IntKind.signed] at hw
      omega
    · rename_i hu
      obtain ⟨s, rfl, _, hw⟩ := DataW.trod_string hu ht
      cases h
      exact ⟨[.str s], ⟨rfl, trivial⟩, rfl, by simpa [D0.ok, maxLen] using hw⟩
    · rename_i e hu
      split at h
      · rename_i he hc
        cases h
        obtain ⟨p, n, c, zs, rfl, hr, hz⟩ := ints_of_trod hu he hc ht
        exact ⟨[.ints zs], ⟨⟨p, n, c, rfl, hr⟩, trivial⟩, rfl, by simpa [D0.ok] using hz⟩
      · cases h
    · rename_i fs hu
      split at h
      · rename_i a hf
        split at h
        · rename_i hsz
          cases h
          obtain ⟨xs, n, rfl, _, hlen, hxl, hfs⟩ := DataW.trod_struct hu ht
          have hsz' := Nat.eq_of_beq_eq_true hsz
          have := flatF_open (fun h1 h2 => flat_open m h1 h2) fs.toList 0 ks cs hf (by omega) (fun f hf => by
            obtain ⟨i, hi⟩ := List.getElem?_of_mem hf
            have hil : i < fs.size := by simpa using (List.getElem?_eq_some_iff.1 hi).1
            have := hfs i f (by simpa using hi)
            rw [List.getElem?_eq_getElem (by omega)] at this
            exact ⟨_, this⟩)
          simpa using this
        · cases h
      · cases h
    · cases h
theorem rows_open {sp : Nat → Bool} {hd : Bool} {m fuel : Nat} {t e : TypeId} {ks : List C0} {cs : List Value} {x : DataW H × List MemPlace} (hu : P.underlying t = some (.slice e)) (hk : flatC P m e = some ks) (hc : P.cellsOf e = ks.length) (hpos : 0 < ks.length)
    (ht : DataW.trod enc P w 0 sp hd fuel t cs = some x) : ∃ p n c l, cs = [.slice p n c] ∧ RowsR w ks.length p n c l ∧ (∀ y ∈ l, y.map D0.code = ks) ∧ ∀ y ∈ l, ∀ d ∈ y, d.ok := by
  rcases Go.Deep.open_slice hu ht with ⟨rfl, _⟩ | ⟨a, len, cap, mm, n, D, Pl, rfl, _, hl, hm, hmm, _, hx⟩
  · exact ⟨none, 0, 0, [], rfl, RowsR.nil _ _ _ (by omega), by simp, by simp⟩
  · have hlm : len ≤ mm := by rw [hmm]; split <;> omega
    have hex : ∀ i, i < len → ∃ ds : List D0, (∃ cs', cs'.length = ks.length ∧ Reps w cs' ds ∧ w.cells? 0 (a.add (i * ks.length)) ks.length = some cs') ∧ ds.map D0.code = ks ∧ ∀ d ∈ ds, d.ok := fun i hi => by
      obtain ⟨cs', h1, h2⟩ := hx i (by omega)
      obtain ⟨ds, r, c, k⟩ := flat_open m hk h2
      rw [hc] at h1
      exact ⟨ds, ⟨cs', (World.cells?_some h1).2.1, r, h1⟩, c, k⟩
    obtain ⟨F, hF⟩ := Go.Deep.choose_lt hex
    refine ⟨some a, len, cap, (List.range len).map F, rfl, ⟨by simp, hl, by simpa [maxLen] using hm, fun hn => ?_⟩, ?_, ?_⟩
    · obtain ⟨⟨cs', _, _, h1⟩, _⟩ := hF 0 hn
      have h0 := (World.cells?_some h1).2.2 0 hpos
      have hlen := (World.cells?_some h1).2.1
      rw [List.getElem?_eq_getElem (by omega)] at h0
      have hs := spot_none h0
      have ha : a = ⟨a.block, a.off, none⟩ := by
        obtain ⟨b, o, s⟩ := a
        simp [Addr.add] at hs
        simp [hs]
      refine ⟨a.block, a.off, by rw [← ha], fun i y hy => ?_⟩
      have hil : i < len := by
        have := (List.getElem?_eq_some_iff.1 hy).1
        simpa using this
      obtain ⟨⟨cs', q1, q2, q3⟩, _⟩ := hF i hil
      have : y = F i := by simpa [hil] using hy.symm
      subst this
      rw [ha, addr_add] at q3
      exact ⟨cs', q1, q2, (seg_of_cells (sp := none) q3).2⟩
    · intro y hy
      obtain ⟨i, hi, rfl⟩ := List.mem_map.1 hy
      exact (hF i (by simpa using hi)).2.1
    · intro y hy
      obtain ⟨i, hi, rfl⟩ := List.mem_map.1 hy
      exact (hF i (by simpa using hi)).2.2
end
end Go.Proofs.YtfehpaekbbmkcaaGreatDoor.Sx

namespace Go.Proofs.YtfehpaekbbmkcaaGreatDoor
open Go Go.Proofs.YtfehpaekbbmkcaaGreatDoor.Sx
set_option linter.unusedVariables false
set_option linter.unusedSimpArgs false
def curData {H : Type} (r : CurRow) : DataW H := .agg [.lit (.string r.1.data.toList), .lit (.string r.2.1.data.toList), .lit (.int .i64 r.2.2.1), .lit (.int .i64 r.2.2.2)]
theorem bytes_eq {a b : ByteArray} (h : a.data.toList = b.data.toList) : a = b := by
  obtain ⟨⟨x⟩⟩ := a; obtain ⟨⟨y⟩⟩ := b
  simp at h; subst h; rfl
set_option maxRecDepth 100000 in
theorem cur_cells {H : Type} {enc : TypeId × Value → H} {w : World} {sp : Nat → Bool} {hd : Bool} {fuel : Nat} {cs : List Value} {r : CurRow} {p : List MemPlace}
    (h : DataW.trod enc P w 0 sp hd fuel T_impl_currency cs = some (curData r, p)) : cs = curCells r := by
  obtain ⟨fs, hu, hsz, ⟨f0, e0, t0, o0⟩, ⟨f1, e1, t1, o1⟩, ⟨f2, e2, t2, o2⟩, ⟨f3, e3, t3, o3⟩⟩ := cur_fields
  have hu : P.underlying T_impl_currency = some (.struct fs) := hu
  have hs : P.underlying T_string = some .string := by kernel_rfl
  have hi : P.underlying T_int = some (.int .i64) := by kernel_rfl
  have cS : P.cellsOf T_string = 1 := by kernel_rfl
  have cI : P.cellsOf T_int = 1 := by kernel_rfl
  have cC : P.cellsOf T_impl_currency = 4 := by kernel_rfl
  obtain ⟨xs, n, rfl, hx, hlen, hxl, hf⟩ := DataW.trod_struct hu h
  rw [cC] at hlen
  rw [hsz] at hxl
  have h0 := hf 0 f0 e0; have h1 := hf 1 f1 e1; have h2 := hf 2 f2 e2; have h3 := hf 3 f3 e3
  rw [t0, o0, cS] at h0; rw [t1, o1, cS] at h1; rw [t2, o2, cI] at h2; rw [t3, o3, cI] at h3
  match cs, hlen, xs, hxl, hx, h0, h1, h2, h3 with
  | [c0, c1, c2, c3], _, [x0, x1, x2, x3], _, hx, h0, h1, h2, h3 =>
    simp only [List.drop_succ_cons, List.drop_zero, List.take_succ_cons, List.take_zero, List.getElem?_cons_zero, List.getElem?_cons_succ] at h0 h1 h2 h3
    obtain ⟨s0, a0, b0, _⟩ := DataW.trod_string hs h0
    obtain ⟨s1, a1, b1, _⟩ := DataW.trod_string hs h1
    obtain ⟨z2, a2, b2, _⟩ := DataW.trod_int hi h2
    obtain ⟨z3, a3, b3, _⟩ := DataW.trod_int hi h3
    simp only [Prod.mk.injEq, curData, DataW.agg.injEq, List.map_cons, List.map_nil, List.cons.injEq, b0, b1, b2, b3, DataW.lit.injEq, Lit.string.injEq, Lit.int.injEq, true_and, and_true] at hx
    simp only [List.cons.injEq, and_true] at a0 a1 a2 a3
    obtain ⟨⟨q0, q1, q2, q3⟩, _⟩ := hx
    rw [a0, a1, a2, a3, ← bytes_eq q0, ← bytes_eq q1, ← q2, ← q3]
    rfl
theorem flat_of_rows : ∀ (l : List CurRow) (cs : List Value), cs.length = l.length * 4 → (∀ i (hi : i < l.length), (cs.drop (i * 4)).take 4 = curCells (l[i]'hi)) → cs = l.flatMap curCells
  | [], cs, h, _ => by simpa using h
  | r :: l, cs, h, hr => by
    have h0 := hr 0 (by simp)
    simp only [Nat.zero_mul, List.drop_zero, List.getElem_cons_zero] at h0
    rw [List.flatMap_cons, ← h0, ← flat_of_rows l (cs.drop 4) (by simp at h ⊢; omega) (fun i hi => by
      have := hr (i + 1) (by simpa using hi)
      rw [List.drop_drop, show 4 + i * 4 = (i + 1) * 4 by omega]
      simpa using this), List.take_append_drop]
def curVar : String := "loop.example/g00793/impl.currencies"
set_option maxRecDepth 100000 in
theorem tab_of_head {W : World} {rest : List (String × DataW Unit)} (h : laidMet P ((curVar, Rows.laid_loop_example_g00793_impl_currencies) :: rest) W) : Tab W := by
  obtain ⟨ps, ⟨g, t, cs, fuel, p, q, hg, ht, hvar, hd, _, _⟩, _⟩ := h
  have hg0 : P.globalNamed curVar = some 0 := by kernel_rfl
  have ht0 : (P.globals[0]?).map (·.type) = some T_20_impl_currency := by kernel_rfl
  obtain rfl := Option.some.inj (hg0.symm.trans hg)
  obtain rfl := Option.some.inj (ht0.symm.trans ht)
  have hu : P.underlying T_20_impl_currency = some (.array 20 T_impl_currency) := und_T_20_impl_currency
  have cC : P.cellsOf T_impl_currency = 4 := by kernel_rfl
  have cA : P.cellsOf T_20_impl_currency = 80 := by kernel_rfl
  obtain ⟨xs, m, rfl, hx, hlen, hxl, hf⟩ := DataW.trod_array hu hd
  rw [cA] at hlen
  have hdat : (Rows.laid_loop_example_g00793_impl_currencies : DataW Unit) = .agg (implTab.map curData) := by rfl
  rw [hdat] at hx
  simp only [Prod.mk.injEq, DataW.agg.injEq] at hx
  have hl := impl_length
  have hcs : cs.toList = implTab.flatMap curCells := by
    refine flat_of_rows implTab _ (by omega) fun i hi => ?_
    have h1 := hf i (by omega)
    rw [cC] at h1
    have h2 : (xs.map (·.1))[i]? = some (curData (implTab[i]'hi)) := by rw [← hx.1]; simp [hi]
    rw [List.getElem?_map] at h2
    cases h3 : xs[i]? with
    | none => rw [h3] at h2; cases h2
    | some x =>
      rw [h3] at h1 h2
      simp only [Option.map_some, Option.some.injEq] at h2
      obtain ⟨d, pp⟩ := x
      simp only at h2
      subst h2
      exact cur_cells h1
  intro i v hv
  have := World.var?_cell hg0 hvar i
  rw [Nat.zero_add, this, ← hv, ← hcs]
  simp
theorem tab_of_laid {W : World} (h : laidMetH P [(curVar, Rows.laid_loop_example_g00793_impl_currencies)] W) : Tab W := tab_of_head (rest := []) h
noncomputable def laidWorld (os : Os) (args : Array Value) : World :=
  { World.holding P os ⟨#[], args, []⟩ with heap := (World.holding P os ⟨#[], args, []⟩).heap.modify 0 fun
      | .cells _ t frozen => .cells ⟨implTab.flatMap curCells⟩ t frozen
      | o => o }
theorem trodVars_one {H : Type} {enc : TypeId × Value → H} {w : World} {sp : Nat → Bool} {n : String} {gs : List (DataW H)} {ps : List MemPlace} (h : DataW.TrodVars enc P w sp [n] gs ps) : ∃ g, gs = [g] := by
  match gs, h with
  | [g], _ => exact ⟨g, rfl⟩
  | g :: g2 :: r, h =>
    obtain ⟨_, _, _, _, _, _, _, _, _, _, h2, _⟩ := h
    exact h2.elim
end Go.Proofs.YtfehpaekbbmkcaaGreatDoor
