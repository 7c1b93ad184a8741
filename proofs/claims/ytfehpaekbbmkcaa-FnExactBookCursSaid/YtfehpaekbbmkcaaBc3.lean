/-
  Parts of the proof of bookCurs_holds: DM, DBook, DMarkB, WBookCurs, SxRow, SxOpen.
  Conditions: none.
-/
import Derived.ProofKit
import Derived.Deep.Slices
import Derived.Test.YtfehpaekbbmkcaaBc2

namespace Go.Proofs.Ytfehpaekbbmkcaa
open Go Go.Proofs.Ytfehpaekbbmkcaa.Sx
set_option linter.unusedVariables false
set_option linter.unusedSimpArgs false
theorem laws_markAcctS_c {w : World} {B : Nat} {e : TypeId} {p : Option Addr} {n c : Nat} {l : List (List D0)} {f : List Nat} {k : Int} (h : OwnRows w B e 4 p n c l f) (hc : ∀ x ∈ l, x.map D0.code = [.str, .str, .bool, .ints]) (h0 : 0 ≤ k) (h1 : k + cntL l ≤ 1000000000000000000) :
    Ret P n_laws_markAcctS [.slice p n c, .int .i64 k] w fun v w' => v = .int .i64 (k + cntL l) ∧ OwnRows w' B e 4 p n c (markL l k) f ∧ Chg f w w' := by
  have hz := h.1; have hcap := h.rows.2.1; have hcm := h.rows.2.2.1
  refine laws_markAcctS_ret ?_
  unfold laws_markAcctS
  refine ⟨fun k1 i wr => ∃ j : Nat, i = j ∧ j ≤ n ∧ k1 = k + cntL (l.take j) ∧ OwnRows wr B e 4 p n c (markL (l.take j) k ++ l.drop j) f ∧ Chg f w wr, fun _ i _ => n - i.toNat, ⟨0, rfl, by omega, by simp [cntL], by simpa [markL] using h, Chg.refl _ _⟩, ?_⟩
  intro junk wr k1 i ⟨j, hij, hj, hk1, ho, hch⟩
  subst hij
  refine ifD (fun hlt => ?_) (fun hge => ?_)
  · have hjl : j < l.length := by omega
    obtain ⟨x, hxe⟩ : ∃ x, l[j]? = some x := ⟨_, List.getElem?_eq_getElem hjl⟩
    have hcode := hc x (List.mem_of_getElem? hxe)
    obtain ⟨hct, hcle⟩ := cntL_row hxe
    have hcn := cntL_nonneg (l.take j)
    obtain ⟨b, xs, cs, zs, fi, hp, hB, hA, hk, blk, ow, ndf, hbf, hbm, hfm, back⟩ := ho.focus (markL_at hxe)
    subst hp
    obtain ⟨a0, us, es, rfl, rfl, ow2, hcode2⟩ := ow.consStr hcode
    clear ow hcode; have ow := ow2; have hcode := hcode2; clear ow2 hcode2
    obtain ⟨a1, us, es, rfl, rfl, ow2, hcode2⟩ := ow.consStr hcode
    clear ow hcode; have ow := ow2; have hcode := hcode2; clear ow2 hcode2
    obtain ⟨a2, us, es, rfl, rfl, ow2, hcode2⟩ := ow.consBool hcode
    clear ow hcode; have ow := ow2; have hcode := hcode2; clear ow2 hcode2
    obtain ⟨a3p, a3n, a3c, a3z, us, es, f3, rfl, rfl, rfl, o3, ow2, hcode2⟩ := ow.consInts hcode
    clear ow hcode; have ow := ow2; have hcode := hcode2; clear ow2 hcode2
    obtain ⟨rfl, rfl, rfl⟩ := ow.done hcode
    simp only [cnts, D0.cnt] at hct hcle
    have z3 : a3z.length = a3n := by have := o3.len; simpa using this
    have m3 : ∀ q, a3p.map (·.block) = some q → q ∈ ((a3p.map (·.block)).toList ++ ([] : List Nat)) := fun q hq => List.mem_append_left _ (mem_opt hq)
    have u3 : ∀ {W : World} {W2 : World} {zs : List Value}, Own W B T_int 1 a3p a3n a3c zs → Chg [b] W W2 → Own W2 B T_int 1 a3p a3n a3c zs := fun o ch => o.chg ch (fun q hq hm => hbf (List.mem_singleton.1 hm ▸ m3 q hq))
    have chT : Chg (b :: ((a3p.map (·.block)).toList ++ ([] : List Nat))) wr wr := Chg.refl _ _
    have sub1 : ∀ q ∈ [b], q ∈ b :: ((a3p.map (·.block)).toList ++ ([] : List Nat)) := fun q hq => by rw [List.mem_singleton.1 hq]; exact List.mem_cons_self
    refine Ret.at (laws_markText_c (by omega) _) ?_
    rintro v w1 ⟨hv, y⟩
    subst hv
    have blk := blk.ext y; have chT := chT.trans y.toChg
    have o3 := o3.ext y
    obtain ⟨w2, st, blk2, ch, sz⟩ := blk.storeMid (P := P) (t := T_string) (v := .string (mtext (k1))) hA 0 (by simp) (by kernel_rfl) rfl rfl
    have blk : Blk w2 b e (xs ++ [.string (mtext (k1)), .string a1, .bool a2, .slice a3p a3n a3c] ++ zs) := blk2; clear blk2
    have chT := chT.trans (ch.mono sub1)
    have o3 := u3 o3 ch
    refine ⟨_, rfl, ⟨by omega, by omega⟩, w2, (by simp only [addr_add, Int.toNat_natCast, Nat.zero_add, Nat.add_zero]; exact st), exW ⟨by omega, by omega⟩ ?_⟩
    refine Ret.at (laws_markText_c (by omega) _) ?_
    rintro v w3 ⟨hv, y⟩
    subst hv
    have blk := blk.ext y; have chT := chT.trans y.toChg
    have o3 := o3.ext y
    obtain ⟨w4, st, blk2, ch, sz⟩ := blk.storeMid (P := P) (t := T_string) (v := .string (mtext (k1 + 1))) hA 1 (by simp) (by kernel_rfl) rfl rfl
    have blk : Blk w4 b e (xs ++ [.string (mtext (k1)), .string (mtext (k1 + 1)), .bool a2, .slice a3p a3n a3c] ++ zs) := blk2; clear blk2
    have chT := chT.trans (ch.mono sub1)
    have o3 := u3 o3 ch
    refine ⟨_, rfl, ⟨by omega, by omega⟩, w4, (by simp only [addr_add, Int.toNat_natCast, Nat.zero_add, Nat.add_zero]; exact st), exW ⟨by omega, by omega⟩ ?_⟩
    refine ⟨by decide, _, rfl, ⟨by omega, by omega⟩, ?_⟩
    rw [Int.tmod_eq_emod_of_nonneg (show (0 : Int) ≤ k1 + 1 + 1 by omega)]
    obtain ⟨w5, st, blk2, ch, sz⟩ := blk.storeMid (P := P) (t := T_bool) (v := .bool (decide ((k1 + 1 + 1) % 3 = 0))) hA 2 (by simp) (by kernel_rfl) rfl rfl
    have blk : Blk w5 b e (xs ++ [.string (mtext (k1)), .string (mtext (k1 + 1)), .bool (decide ((k1 + 1 + 1) % 3 = 0)), .slice a3p a3n a3c] ++ zs) := blk2; clear blk2
    have chT := chT.trans (ch.mono sub1)
    have o3 := u3 o3 ch
    refine ⟨w5, (by simp only [addr_add, Int.toNat_natCast, Nat.zero_add, Nat.add_zero]; exact st), exW ⟨by omega, by omega⟩ ?_⟩
    refine ⟨⟨by omega, by omega⟩, _, _, _, (by simp only [addr_add, Int.toNat_natCast, Nat.zero_add, Nat.add_zero]; exact (blk.segMid hA).loadAt 3 rfl (by kernel_rfl) rfl), ?_⟩
    refine Ret.at (laws_markIntS_c o3 (by omega) (by omega)) ?_
    rintro v w6 ⟨hv, on, ch⟩
    subst hv
    have blk := blk.chg ch (fun hm => hbf (m3 _ (opt_mem hm)))
    have chT := chT.trans (ch.mono (fun q hq => List.mem_cons_of_mem _ (m3 q (opt_mem hq))))
    have o3 := on; clear on
    refine ⟨_, rfl, ?_⟩
    refine exW ⟨by omega, by omega⟩ ⟨⟨j + 1, by omega, by omega, by omega, ?_, hch.trans (chT.mono (fun q hq => ?_))⟩, ?_⟩
    · rw [← markL_set hxe, ← hk1]
      have e : marks [.str a0, .str a1, .bool a2, .ints a3z] k1 = [.str (mtext (k1)), .str (mtext (k1 + 1)), .bool (decide ((k1 + 1 + 1) % 3 = 0)), .ints (mkI a3n (k1 + 1 + 1 + 1))] := by simp only [marks, D0.mark, D0.cnt, z3] <;> rfl
      rw [e]
      exact back _ [.string (mtext (k1)), .string (mtext (k1 + 1)), .bool (decide ((k1 + 1 + 1) % 3 = 0)), .slice a3p a3n a3c] _ chT rfl blk (Owns.append (Owns.str _ _ _) (Owns.append (Owns.str _ _ _) (Owns.append (Owns.bool _ _ _) (Owns.append (Owns.ints o3) (Owns.nil _ _)))))
    · rcases List.mem_cons.1 hq with h | h
      · rw [h]; exact hbm
      · exact hfm q h
    · show n - ((j : Int) + 1).toNat < n - (j : Int).toNat
      omega
  · have hjn : j = n := by omega
    subst hjn
    rw [List.take_of_length_le (by omega), List.drop_of_length_le (by omega), List.append_nil] at ho
    rw [List.take_of_length_le (by omega)] at hk1
    exact ⟨by rw [hk1], ho, hch⟩
theorem laws_markStringS_c {w : World} {B : Nat} {e : TypeId} {p : Option Addr} {n c : Nat} {l : List (List D0)} {f : List Nat} {k : Int} (h : OwnRows w B e 1 p n c l f) (hc : ∀ x ∈ l, x.map D0.code = [.str]) (h0 : 0 ≤ k) (h1 : k + cntL l ≤ 1000000000000000000) :
    Ret P n_laws_markStringS [.slice p n c, .int .i64 k] w fun v w' => v = .int .i64 (k + cntL l) ∧ OwnRows w' B e 1 p n c (markL l k) f ∧ Chg f w w' := by
  have hz := h.1; have hcap := h.rows.2.1; have hcm := h.rows.2.2.1
  refine laws_markStringS_ret ?_
  unfold laws_markStringS
  refine ⟨fun k1 i wr => ∃ j : Nat, i = j ∧ j ≤ n ∧ k1 = k + cntL (l.take j) ∧ OwnRows wr B e 1 p n c (markL (l.take j) k ++ l.drop j) f ∧ Chg f w wr, fun _ i _ => n - i.toNat, ⟨0, rfl, by omega, by simp [cntL], by simpa [markL] using h, Chg.refl _ _⟩, ?_⟩
  intro junk wr k1 i ⟨j, hij, hj, hk1, ho, hch⟩
  subst hij
  refine ifD (fun hlt => ?_) (fun hge => ?_)
  · have hjl : j < l.length := by omega
    obtain ⟨x, hxe⟩ : ∃ x, l[j]? = some x := ⟨_, List.getElem?_eq_getElem hjl⟩
    have hcode := hc x (List.mem_of_getElem? hxe)
    obtain ⟨hct, hcle⟩ := cntL_row hxe
    have hcn := cntL_nonneg (l.take j)
    obtain ⟨b, xs, cs, zs, fi, hp, hB, hA, hk, blk, ow, ndf, hbf, hbm, hfm, back⟩ := ho.focus (markL_at hxe)
    subst hp
    obtain ⟨a0, us, es, rfl, rfl, ow2, hcode2⟩ := ow.consStr hcode
    clear ow hcode; have ow := ow2; have hcode := hcode2; clear ow2 hcode2
    obtain ⟨rfl, rfl, rfl⟩ := ow.done hcode
    simp only [cnts, D0.cnt] at hct hcle
    have chT : Chg (b :: ([] : List Nat)) wr wr := Chg.refl _ _
    have sub1 : ∀ q ∈ [b], q ∈ b :: ([] : List Nat) := fun q hq => by rw [List.mem_singleton.1 hq]; exact List.mem_cons_self
    refine Ret.at (laws_markText_c (by omega) _) ?_
    rintro v w1 ⟨hv, y⟩
    subst hv
    have blk := blk.ext y; have chT := chT.trans y.toChg
    obtain ⟨w2, st, blk2, ch, sz⟩ := blk.storeMid (P := P) (t := T_string) (v := .string (mtext (k1))) hA 0 (by simp) (by kernel_rfl) rfl rfl
    have blk : Blk w2 b e (xs ++ [.string (mtext (k1))] ++ zs) := blk2; clear blk2
    have chT := chT.trans (ch.mono sub1)
    refine ⟨_, rfl, ⟨by omega, by omega⟩, w2, (by simp only [addr_add, Int.toNat_natCast, Nat.zero_add, Nat.add_zero]; exact st), exW ⟨by omega, by omega⟩ ?_⟩
    refine exW ⟨by omega, by omega⟩ ⟨⟨j + 1, by omega, by omega, by omega, ?_, hch.trans (chT.mono (fun q hq => ?_))⟩, ?_⟩
    · rw [← markL_set hxe, ← hk1]
      have e : marks [.str a0] k1 = [.str (mtext (k1))] := by simp only [marks, D0.mark, D0.cnt] <;> rfl
      rw [e]
      exact back _ [.string (mtext (k1))] _ chT rfl blk (Owns.append (Owns.str _ _ _) (Owns.nil _ _))
    · rcases List.mem_cons.1 hq with h | h
      · rw [h]; exact hbm
      · exact hfm q h
    · show n - ((j : Int) + 1).toNat < n - (j : Int).toNat
      omega
  · have hjn : j = n := by omega
    subst hjn
    rw [List.take_of_length_le (by omega), List.drop_of_length_le (by omega), List.append_nil] at ho
    rw [List.take_of_length_le (by omega)] at hk1
    exact ⟨by rw [hk1], ho, hch⟩
theorem laws_heldStringS_c {w : World} {p : Option Addr} {n c : Nat} {l : List (List D0)} {k : Int} (h : RowsR w 1 p n c (markL l k)) (hc : ∀ x ∈ l, x.map D0.code = [.str]) (h0 : 0 ≤ k) (h1 : k + cntL l ≤ 1000000000000000000) :
    Ret P n_laws_heldStringS [.slice p n c, .int .i64 k] w fun v w' => v = .int .i64 (k + cntL l) ∧ Ext w w' := by
  have hz : l.length = n := by have := h.1; rwa [markL_len] at this
  have hcap := h.2.1; have hcm := h.2.2.1
  refine laws_heldStringS_ret ?_
  unfold laws_heldStringS
  refine ⟨fun k1 i wr => ∃ j : Nat, i = j ∧ j ≤ n ∧ k1 = k + cntL (l.take j) ∧ Ext w wr, fun _ i _ => n - i.toNat, ⟨0, rfl, by omega, by simp [cntL], Ext.refl _⟩, ?_⟩
  intro junk wr k1 i ⟨j, hij, hj, hk1, hx⟩
  subst hij
  refine ifD (fun hlt => ?_) (fun hge => ?_)
  · have hjl : j < l.length := by omega
    obtain ⟨x, hxe⟩ : ∃ x, l[j]? = some x := ⟨_, List.getElem?_eq_getElem hjl⟩
    have hcode := hc x (List.mem_of_getElem? hxe)
    obtain ⟨hct, hcle⟩ := cntL_row hxe
    have hcn := cntL_nonneg (l.take j)
    obtain ⟨b, off, hp, hs⟩ := (h.ext hx).2.2.2 (by omega)
    subst hp
    obtain ⟨cs, hk, hr, hsg⟩ := hs j _ (markL_get l k j x hxe)
    rw [← hk1] at hr
    obtain ⟨s0, es, rfl, hcode2⟩ := code_str hcode
    clear hcode; have hcode := hcode2; clear hcode2
    have hn := code_nil hcode; subst hn
    simp only [marks, D0.mark, D0.cnt] at hr
    simp only [cnts, D0.cnt] at hct hcle
    obtain ⟨a0, us, es, rfl, hd, hr2, hc2⟩ := hr.str rfl
    cases hd
    clear hr hc2; have hr := hr2; clear hr2
    obtain ⟨hv, _⟩ := hr.done rfl
    subst hv
    have X : Ext wr wr := Ext.refl _
    have D := Ext.drew wr; have X := X.trans D
    refine ⟨⟨by omega, by omega⟩, _, fun W' hW => (by simp only [addr_add, Int.toNat_natCast, Nat.zero_add, Nat.add_zero]; exact (hsg.ext (X.trans hW)).loadAt 0 rfl (by kernel_rfl) rfl), ?_⟩
    refine Ret.at (laws_markText_c (by omega) _) ?_
    rintro v w1 ⟨hv, y⟩
    subst hv
    have X := X.trans y
    refine ⟨_, rfl, y, ifD (fun hne => absurd rfl hne) (fun _ => exW ⟨by omega, by omega⟩ ?_)⟩
    refine exW ⟨by omega, by omega⟩ ⟨⟨j + 1, by omega, by omega, by omega, hx.trans X⟩, ?_⟩
    show n - ((j : Int) + 1).toNat < n - (j : Int).toNat
    omega
  · have hjn : j = n := by omega
    subst hjn
    rw [List.take_of_length_le (by omega)] at hk1
    exact ⟨by rw [hk1], hx⟩
end Go.Proofs.Ytfehpaekbbmkcaa

namespace Go.Proofs.Ytfehpaekbbmkcaa
open Go Go.Proofs.Ytfehpaekbbmkcaa.Sx
set_option linter.unusedVariables false
set_option linter.unusedSimpArgs false
theorem laws_szBook_c {w : World} {p : Option Addr} {n c : Nat} {l : List (List D0)} (h : RowsR w 4 p n c l) (hc : ∀ x ∈ l, x.map D0.code = [.str, .str, .bool, .ints]) (hok : ∀ x ∈ l, ∀ d ∈ x, d.ok) {left : Int} (h0 : 0 ≤ left) (h1 : left ≤ 1048576) :
    Ret P n_laws_szBook [.agg ⟨[.slice p n c]⟩, .int .i64 left] w fun v w' => ∃ r : Int, v = .int .i64 r ∧ (0 ≤ r → r + n + ((l.map bulks).sum : Nat) ≤ left) ∧ r ≤ 1048576 ∧ Ext w w' := by
  refine laws_szBook_ret ?_
  unfold laws_szBook
  intro r w1 hn
  refine ⟨_, _, _, hn.blk.load (by kernel_rfl) rfl, ?_⟩
  refine Ret.at (laws_szAcctS_c (h.ext hn.ext) hc hok h0 h1) ?_
  rintro v w2 ⟨k, hv, hk, hm, y⟩
  subst hv
  have x := hn.ext.trans y
  exact ⟨_, rfl, ifD (fun hl => ⟨_, rfl, by omega, by omega, x⟩) (fun hl => ⟨_, rfl, hk, hm, x⟩)⟩
theorem laws_toBook_c {w : World} {p : Option Addr} {n c : Nat} {l : List (List D0)} (h : RowsR w 4 p n c l) (hc : ∀ x ∈ l, x.map D0.code = [.str, .str, .bool, .ints]) (hn : n ≤ 1048576) (hb : ∀ x ∈ l, bulks x ≤ 1048576) :
    Ret P n_laws_toBook [.agg ⟨[.slice p n c]⟩] w fun v w' => ∃ p' c' f, v = .agg ⟨[.slice p' n c']⟩ ∧ OwnRows w' w.heap.size T_impl_Acct 4 p' n c' l f ∧ Ext w w' := by
  refine laws_toBook_ret ?_
  unfold laws_toBook
  intro r w1 hn1 r1 w2 hn2 r2 w3 hn3
  have x := (hn1.ext.trans hn2.ext).trans hn3.ext
  have b0 := (hn1.blk.ext hn2.ext).ext hn3.ext
  have b1 := hn2.blk.ext hn3.ext
  have b2 := hn3.blk
  have e1 := hn1.r_eq; have e2 := hn2.r_eq; have e3 := hn3.r_eq; have s1 := hn1.size; have s2 := hn2.size; have s3 := hn3.size
  refine ⟨_, _, _, b0.load (by kernel_rfl) rfl, ?_⟩
  refine Ret.at (laws_toAcctS_c (h.ext x) hc hn hb) ?_
  rintro v w4 ⟨p', c', f, hv, ho, y⟩
  subst hv
  have x := x.trans y; have b1 := b1.ext y; have b2 := b2.ext y
  obtain ⟨w5, st, b2', ch, sz⟩ := b2.store (P := P) (t := T_s_impl_Acct) (k := 0) (v := .slice p' n c') (by kernel_rfl) (by simp) rfl
  have b2' : Blk w5 r2 _ [.slice p' n c'] := b2'
  refine ⟨_, _, _, rfl, _, st, _, _, _, b2'.loadA0 (by kernel_rfl), ?_⟩
  have b1 := b1.chg ch (by simp; omega); have x := x.chg ch (by simp; omega)
  have ho := ho.chg ch (fun k hk hm => by have := (ho.lt k hk).1; simp at hm; omega)
  obtain ⟨w6, st, b1', ch, sz⟩ := b1.storeA0 (P := P) (t := T_impl_Book) (xs := [.slice p' n c']) (by kernel_rfl) rfl (by simp [Value.oneCell'])
  refine ⟨_, st, _, _, _, b1'.loadA0 (by kernel_rfl), p', c', f, rfl, ?_, x.chg ch (by simp; omega)⟩
  exact (ho.chg ch (fun k hk hm => by have := (ho.lt k hk).1; simp at hm; omega)).mono (by omega)
theorem laws_eqBook_c {w : World} {p q : Option Addr} {n c m d : Nat} {l s : List (List D0)} (h : RowsR w 4 p n c l) (k : RowsR w 4 q m d s) (hc : ∀ x ∈ l, x.map D0.code = [.str, .str, .bool, .ints]) (kc : ∀ x ∈ s, x.map D0.code = [.str, .str, .bool, .ints]) :
    Ret P n_laws_eqBook [.agg ⟨[.slice p n c]⟩, .agg ⟨[.slice q m d]⟩] w fun v w' => v = .bool (decide (l = s)) ∧ Ext w w' := by
  refine laws_eqBook_ret ?_
  unfold laws_eqBook
  intro r w1 hn1 r1 w2 hn2
  have x := hn1.ext.trans hn2.ext
  refine ⟨_, _, _, (hn1.blk.ext hn2.ext).load (by kernel_rfl) rfl, _, _, _, hn2.blk.load (by kernel_rfl) rfl, ?_⟩
  refine Ret.at (laws_eqAcctS_c (h.ext x) (k.ext x) hc kc) ?_
  rintro v w3 ⟨hv, y⟩
  subst hv
  have x := x.trans y
  exact ⟨_, rfl, ifN (fun hne => ⟨by rw [hne], x⟩) (fun heq => ⟨by rw [heq], x⟩)⟩
end Go.Proofs.Ytfehpaekbbmkcaa

namespace Go.Proofs.Ytfehpaekbbmkcaa
open Go Go.Proofs.Ytfehpaekbbmkcaa.Sx
set_option linter.unusedVariables false
set_option linter.unusedSimpArgs false
theorem laws_markBook_c {w : World} {B : Nat} {e : TypeId} {p : Option Addr} {n c : Nat} {l : List (List D0)} {f : List Nat} {k : Int} (h : OwnRows w B e 4 p n c l f) (hc : ∀ x ∈ l, x.map D0.code = [.str, .str, .bool, .ints]) (h0 : 0 ≤ k) (h1 : k + cntL l ≤ 1000000000000000000) :
    Ret P n_laws_markBook [.agg ⟨[.slice p n c]⟩, .int .i64 k] w fun v w' => v = .int .i64 (k + cntL l) ∧ OwnRows w' B e 4 p n c (markL l k) f ∧ Chg f w w' := by
  refine laws_markBook_ret ?_
  unfold laws_markBook
  intro r w1 hn
  refine ⟨_, _, _, hn.blk.loadAt 0 rfl (by kernel_rfl) rfl, ?_⟩
  refine Ret.at (laws_markAcctS_c (h.ext hn.ext) hc h0 h1) ?_
  rintro v w2 ⟨hv, ho, ch⟩
  subst hv
  exact ⟨_, rfl, rfl, ho, hn.ext.toChg.trans ch⟩
end Go.Proofs.Ytfehpaekbbmkcaa

namespace Go.Proofs.Ytfehpaekbbmkcaa
open Go Go.Proofs.Ytfehpaekbbmkcaa.Sx
set_option linter.unusedVariables false
set_option linter.unusedSimpArgs false
set_option maxHeartbeats 4000000
theorem laws_FnExactBookCurs_c {w : World} {p0 : Option Addr} {n0 c0 : Nat} {l0 : List (List D0)} (h0 : RowsR w 4 p0 n0 c0 l0) (hc0 : ∀ x ∈ l0, x.map D0.code = [.str, .str, .bool, .ints]) (hk0 : ∀ x ∈ l0, ∀ d ∈ x, d.ok) :
    Ret P n_laws_FnExactBookCurs [.agg ⟨[.slice p0 n0 c0]⟩] w fun v w' => v = .bool true ∧ Ext w w' := by
  refine laws_FnExactBookCurs_ret ?_
  unfold laws_FnExactBookCurs
  have x : Ext w w := Ext.refl w
  intro r_a0 W1 hn
  have er_a0 := hn.r_eq; have sr_a0 := hn.size
  have y := hn.ext
  replace x := x.trans y
  have ll1 := y.le
  have bk_a0 := hn.blk; clear hn
  refine ⟨_, _, _, bk_a0.loadA0 (by kernel_rfl), ?_⟩
  refine Ret.at (laws_szBook_c (h0.ext x) hc0 hk0 (by omega) (by omega)) ?_
  rintro v W2 ⟨k0, hv, hs0, hm0, y⟩
  subst hv
  replace x := x.trans y
  replace bk_a0 := bk_a0.ext y
  have ll2 := y.le
  refine ⟨_, rfl, ifD (fun _ => ⟨rfl, x⟩) (fun hp0 => ?_)⟩
  have hs0 := hs0 (by omega)
  have hb0 : ∀ y ∈ l0, bulks y ≤ 1048576 := fun y hy => by have := bulks_le hy; omega
  have hz0 : n0 ≤ 1048576 := by omega
  have hsum0 : (l0.map bulks).sum ≤ 1048576 := by omega
  refine ⟨_, _, _, bk_a0.loadA0 (by kernel_rfl), ?_⟩
  refine Ret.at (laws_toBook_c (h0.ext x) hc0 hz0 hb0) ?_
  rintro v W3 ⟨p_s0, c_s0, f_s0, hv, o_s0, y⟩
  subst hv
  have lt_o_s0 : ∀ k ∈ f_s0, W2.heap.size ≤ k ∧ k < W3.heap.size := o_s0.lt
  have yy := y
  replace x := x.trans y
  replace bk_a0 := bk_a0.ext y
  have ll3 := y.le
  refine ⟨_, _, _, rfl, ?_⟩
  refine Ret.at (spec_BookCurs_c o_s0.rows hc0 hz0 hb0) ?_
  rintro v W4 ⟨p_w0, m_w0, c_w0, hv, o_w0, co_w0, y⟩
  subst hv
  replace x := x.trans y
  replace bk_a0 := bk_a0.ext y
  have ll4 := y.le
  have xS := Ext.refl W4
  refine ⟨_, _, _, rfl, ?_⟩
  refine ⟨_, _, _, bk_a0.loadA0 (by kernel_rfl), ?_⟩
  refine Ret.at (laws_toBook_c (h0.ext x) hc0 hz0 hb0) ?_
  rintro v W5 ⟨p_x0, c_x0, f_x0, hv, o_x0, y⟩
  subst hv
  have lt_o_x0 : ∀ k ∈ f_x0, W4.heap.size ≤ k ∧ k < W5.heap.size := o_x0.lt
  replace x := x.trans y
  replace xS := xS.trans y
  replace bk_a0 := bk_a0.ext y
  have ll5 := y.le
  refine ⟨_, _, _, rfl, ?_⟩
  intro r_x0 W6 hn
  have er_x0 := hn.r_eq; have sr_x0 := hn.size
  have y := hn.ext
  replace x := x.trans y
  replace xS := xS.trans y
  replace bk_a0 := bk_a0.ext y
  replace o_x0 := o_x0.ext y
  have ll6 := y.le
  have bk_x0 := hn.blk; clear hn
  obtain ⟨W7, st, bq, ch, sz⟩ := bk_x0.storeA0 (P := P) (t := T_impl_Book) (xs := [.slice p_x0 n0 c_x0]) (by kernel_rfl) rfl (by simp [Value.oneCell'])
  replace x := x.chg ch (by simp; omega)
  replace xS := xS.chg ch (by simp; omega)
  replace bk_a0 := bk_a0.chg ch (by simp; omega)
  replace o_x0 := o_x0.chg ch (fun k hk hm => by have h1 := lt_o_x0 k hk; simp at hm; omega)
  have bk_x0 := bq; clear bq
  have ll7 := ch.size
  refine ⟨_, st, ?_⟩
  refine ⟨_, _, _, bk_x0.loadA0 (by kernel_rfl), ?_⟩
  refine Ret.at (impl_BookCurs_c o_x0.rows hc0 hz0 hb0) ?_
  rintro v W8 ⟨p_g0, m_g0, c_g0, f_g0, hv, o_g0, co_g0, ct_g0, y⟩
  subst hv
  have tn_g0 := cntL_nn ct_g0
  have lt_o_g0 : ∀ k ∈ f_g0, W7.heap.size ≤ k ∧ k < W8.heap.size := o_g0.lt
  replace x := x.trans y
  replace xS := xS.trans y
  replace bk_a0 := bk_a0.ext y
  replace bk_x0 := bk_x0.ext y
  replace o_x0 := o_x0.ext y
  have ll8 := y.le
  refine ⟨_, _, _, rfl, ?_⟩
  refine Ret.at (laws_eqStringS_c o_g0.rows (o_w0.ext xS) co_g0 co_w0) ?_
  rintro v W9 ⟨hv, y⟩
  subst hv
  replace x := x.trans y
  replace xS := xS.trans y
  replace bk_a0 := bk_a0.ext y
  replace bk_x0 := bk_x0.ext y
  replace o_x0 := o_x0.ext y
  replace o_g0 := o_g0.ext y
  have ll9 := y.le
  refine ⟨_, rfl, ifN (fun h => absurd h (by simp)) (fun _ => ?_)⟩
  refine ⟨_, _, _, fun W' hW => (bk_x0.ext ((Ext.drew _).trans hW)).loadA0 (by kernel_rfl), _, _, _, fun W' hW => (bk_a0.ext ((Ext.drew _).trans hW)).loadA0 (by kernel_rfl), ?_⟩
  have y := Ext.drew W9
  replace x := x.trans y
  replace xS := xS.trans y
  replace bk_a0 := bk_a0.ext y
  replace bk_x0 := bk_x0.ext y
  replace o_x0 := o_x0.ext y
  replace o_g0 := o_g0.ext y
  have ll10 := y.le
  refine Ret.at (laws_toBook_c (h0.ext x) hc0 hz0 hb0) ?_
  rintro v W10 ⟨p_y0, c_y0, f_y0, hv, o_y0, y⟩
  subst hv
  have lt_o_y0 : ∀ k ∈ f_y0, W9.heap.size ≤ k ∧ k < W10.heap.size := o_y0.lt
  have y2 := y
  replace x := x.trans y
  replace xS := xS.trans y
  replace bk_a0 := bk_a0.ext y
  replace bk_x0 := bk_x0.ext y
  replace o_x0 := o_x0.ext y
  replace o_g0 := o_g0.ext y
  have ll11 := y.le
  refine ⟨_, _, _, rfl, y, ?_⟩
  refine Ret.at (laws_eqBook_c o_x0.rows o_y0.rows hc0 hc0) ?_
  rintro v W11 ⟨hv, y⟩
  subst hv
  replace x := x.trans y
  replace xS := xS.trans y
  replace bk_a0 := bk_a0.ext y
  replace bk_x0 := bk_x0.ext y
  replace o_x0 := o_x0.ext y
  replace o_g0 := o_g0.ext y
  have ll12 := y.le
  refine ⟨_, rfl, ifN (fun h => absurd h (by simp)) (fun _ => ?_)⟩
  have cn0 := cntL_nonneg l0; have cb0 := cntL_le l0 (m := 4) (fun y hy => by rw [code_len (hc0 y hy)]; decide)
  have cl0 : cntL l0 ≤ 100000000 := by have := h0.1; omega
  refine ⟨_, _, _, bk_x0.loadA0 (by kernel_rfl), ?_⟩
  refine Ret.at (laws_markBook_c o_x0 hc0 (by omega) (by omega)) ?_
  rintro v W12 ⟨hv, on, ch⟩
  subst hv
  replace x := x.chg ch (fun k hk => by have := lt_o_x0 k hk; omega)
  replace xS := xS.chg ch (fun k hk => by have := lt_o_x0 k hk; omega)
  replace bk_a0 := bk_a0.chg ch (fun hm => by have := lt_o_x0 _ hm; omega)
  replace bk_x0 := bk_x0.chg ch (fun hm => by have := lt_o_x0 _ hm; omega)
  replace o_g0 := o_g0.chg ch (fun k hk hm => by have h1 := lt_o_g0 k hk; have h2 := lt_o_x0 k hm; omega)
  have ll13 := ch.size
  replace o_x0 := on; clear on
  refine ⟨_, rfl, ?_⟩
  refine ifD (fun h => absurd h (by omega)) (fun _ => ?_)
  refine Ret.at (laws_eqStringS_c o_g0.rows (o_w0.ext xS) co_g0 co_w0) ?_
  rintro v W13 ⟨hv, y⟩
  subst hv
  replace x := x.trans y
  replace xS := xS.trans y
  replace bk_a0 := bk_a0.ext y
  replace bk_x0 := bk_x0.ext y
  replace o_x0 := o_x0.ext y
  replace o_g0 := o_g0.ext y
  have ll14 := y.le
  refine ⟨_, rfl, ifN (fun h => absurd h (by simp)) (fun _ => ?_)⟩
  unfold laws_FnExactBookCurs_j0
  refine Ret.at (laws_markStringS_c o_g0 co_g0 (by omega) (by omega)) ?_
  rintro v W14 ⟨hv, on, ch⟩
  subst hv
  replace x := x.chg ch (fun k hk => by have := lt_o_g0 k hk; omega)
  replace xS := xS.chg ch (fun k hk => by have := lt_o_g0 k hk; omega)
  replace bk_a0 := bk_a0.chg ch (fun hm => by have := lt_o_g0 _ hm; omega)
  replace bk_x0 := bk_x0.chg ch (fun hm => by have := lt_o_g0 _ hm; omega)
  replace o_x0 := o_x0.chg ch (fun k hk hm => by have h1 := lt_o_x0 k hk; have h2 := lt_o_g0 k hm; omega)
  have ll15 := ch.size
  replace o_g0 := on; clear on
  refine ⟨_, rfl, ?_⟩
  refine Ret.at (laws_heldStringS_c o_g0.rows co_g0 (by omega) (by omega)) ?_
  rintro v W15 ⟨hv, y⟩
  subst hv
  replace x := x.trans y
  replace xS := xS.trans y
  replace bk_a0 := bk_a0.ext y
  replace bk_x0 := bk_x0.ext y
  replace o_x0 := o_x0.ext y
  replace o_g0 := o_g0.ext y
  have ll16 := y.le
  refine ⟨_, rfl, ifD (fun h => absurd h (by omega)) (fun _ => ?_)⟩
  refine ifD (fun h => absurd rfl h) (fun _ => ?_)
  refine ⟨_, _, _, bk_a0.loadA0 (by kernel_rfl), ?_⟩
  refine Ret.at (laws_toBook_c (h0.ext x) hc0 hz0 hb0) ?_
  rintro v W16 ⟨p_h0, c_h0, f_h0, hv, o_h0, y⟩
  subst hv
  have lt_o_h0 : ∀ k ∈ f_h0, W15.heap.size ≤ k ∧ k < W16.heap.size := o_h0.lt
  have yy := y
  replace x := x.trans y
  replace xS := xS.trans y
  replace bk_a0 := bk_a0.ext y
  replace bk_x0 := bk_x0.ext y
  replace o_x0 := o_x0.ext y
  replace o_g0 := o_g0.ext y
  have ll17 := y.le
  refine ⟨_, _, _, rfl, ?_⟩
  refine Ret.at (impl_BookCurs_c o_h0.rows hc0 hz0 hb0) ?_
  rintro v W17 ⟨p_h0, m_h0, c_h0, f_h0, hv, o_h0, co_h0, ct_h0, y⟩
  subst hv
  have tn_h0 := cntL_nn ct_h0
  have lt_o_h0 : ∀ k ∈ f_h0, W16.heap.size ≤ k ∧ k < W17.heap.size := o_h0.lt
  replace x := x.trans y
  replace xS := xS.trans y
  replace bk_a0 := bk_a0.ext y
  replace bk_x0 := bk_x0.ext y
  replace o_x0 := o_x0.ext y
  replace o_g0 := o_g0.ext y
  have ll18 := y.le
  refine ⟨_, _, _, rfl, ?_⟩
  refine Ret.at (laws_eqStringS_c o_h0.rows (o_w0.ext xS) co_h0 co_w0) ?_
  rintro v W18 ⟨hv, y⟩
  subst hv
  replace x := x.trans y
  replace xS := xS.trans y
  replace bk_a0 := bk_a0.ext y
  replace bk_x0 := bk_x0.ext y
  replace o_x0 := o_x0.ext y
  replace o_g0 := o_g0.ext y
  replace o_h0 := o_h0.ext y
  have ll19 := y.le
  refine ⟨_, rfl, ifN (fun h => absurd h (by simp)) (fun _ => ?_)⟩
  refine Ret.at (laws_heldStringS_c o_g0.rows co_g0 (by omega) (by omega)) ?_
  rintro v W19 ⟨hv, y⟩
  subst hv
  replace x := x.trans y
  replace xS := xS.trans y
  replace bk_a0 := bk_a0.ext y
  replace bk_x0 := bk_x0.ext y
  replace o_x0 := o_x0.ext y
  replace o_g0 := o_g0.ext y
  replace o_h0 := o_h0.ext y
  have ll20 := y.le
  refine ⟨_, rfl, ifD (fun h => absurd h (by omega)) (fun _ => ?_)⟩
  refine ifD (fun h => absurd rfl h) (fun _ => ?_)
  exact ⟨rfl, x⟩
end Go.Proofs.Ytfehpaekbbmkcaa

namespace Go.Proofs.Ytfehpaekbbmkcaa.Sx
open Go Go.RowKit Go.ChangeShapes Go.WideShapes
set_option linter.unusedVariables false
set_option linter.unusedSimpArgs false
/-- each named variable's type can be read and is a row of the table -/
def rowedV (P : Program) (ns : List String) : Bool := ns.all fun n => ((P.globalNamed n).bind (P.globals[·]?)).all fun gl => P.readableRec gl.type && decide (gl.type < P.types.size)
section
variable {H : Type} {enc : TypeId × Value → H} {P : Program}
theorem trodAll_ext (hl : laidOutB P = true) {W W' : World} (hb : Ext W W') (sp' : Nat → Bool) : ∀ {ts : List TypeId} {vs : List Value} {ds : List (DataW H)} {ps : List MemPlace},
    (∀ t ∈ ts, P.readableRec t = true ∧ t < P.types.size) → (∀ p ∈ ps, p.block < W.heap.size) → (∀ p ∈ ps, sp' p.block = true) →
    DataW.TrodAll enc P W 0 (fun _ => true) true ts vs ds ps → DataW.TrodAll enc P W' 0 sp' true ts vs ds ps
  | [], _, _, _, _, _, _, h => by
    obtain ⟨rfl, rfl, rfl⟩ := trodAll_nil h
    exact rfl
  | t :: ts, _, _, _, hr, hlt, hsp, h => by
    obtain ⟨v, vs1, d, ds1, a, b, rfl, rfl, rfl, h1, h2⟩ := trodAll_cons h
    have hrt := hr t (by simp)
    exact ⟨a, b, WideElems.Trod_stays hl hrt.1 hrt.2 h1 (fun x hx => Below.same hb (hlt x (by simp [hx]))) (fun x hx => hsp x (by simp [hx])),
      trodAll_ext hl hb sp' (fun u hu => hr u (by simp [hu])) (fun x hx => hlt x (by simp [hx])) (fun x hx => hsp x (by simp [hx])) h2, rfl⟩
theorem trodVars_sp (hl : laidOutB P = true) {W W' : World} (hb : Ext W W') (sp' : Nat → Bool) :
    ∀ {ns : List String} {gs : List (DataW H)} {ps : List MemPlace}, rowedV P ns = true → (∀ p ∈ ps, sp' p.block = true) → DataW.TrodVars enc P W (fun _ => true) ns gs ps → DataW.TrodVars enc P W' sp' ns gs ps
  | [], [], _, _, _, h => h
  | [], _ :: _, _, _, _, h => h.elim
  | _ :: _, [], _, _, _, h => h.elim
  | n :: ns, d :: ds, ps, hv, hsp, h => by
    have hlt := h.lt
    obtain ⟨g, t, cs, fuel, p, q, h1, h2, h3, h4, hs, e⟩ := h
    simp only [rowedV, List.all_cons, Bool.and_eq_true] at hv
    have ht : P.readableRec t = true ∧ t < P.types.size := by
      have := hv.1
      rw [h1] at this
      cases hg : P.globals[g]? with
      | none => rw [hg] at h2; cases h2
      | some gl =>
        rw [hg] at h2
        obtain rfl : gl.type = t := Option.some.inj h2
        simpa [hg] using this
    have hp : ∀ x ∈ p, x.block < W.heap.size := fun x hx => hlt x (by rw [e]; simp [hx])
    have h3' : W'.var? P n = some cs := by
      unfold World.var? at h3 ⊢
      rw [h1] at h3 ⊢
      simp only [Option.bind_some] at h3 ⊢
      have hg : g < W.heap.size := by
        cases hh : W.heap[g]? with
        | none => rw [hh] at h3; cases h3
        | some o => exact (Array.getElem?_eq_some_iff.1 hh).1
      rw [hb.block g hg]; exact h3
    exact ⟨g, t, cs, fuel, p, q, h1, h2, h3', DataW.trod_stays (kids_book hl ht.1) (book_sized ht.1) (fun h => by cases h) ⟨ht.2, book_self t⟩ h4 (fun x hx => Below.same hb (hp x hx)) (fun x hx => hsp x (by rw [e]; simp [hx])),
      trodVars_sp hl hb sp' (by simpa [rowedV] using hv.2) (fun x hx => hsp x (by rw [e]; simp [hx])) hs, e⟩
/-- what the row asks of a law that answered true in a world with more behind it -/
theorem post_of_ext {f : Func} {s : ChangeSpec} {apart fresh handsOn again : Bool} {W W' : World} {args : Array Value} {ds gs : List (DataW H)} {before : List MemPlace} {tb : TypeId}
    (hl : laidOutB P = true) (hpar : ∀ t ∈ f.params.toList, P.readableRec t = true ∧ t < P.types.size) (hvr : rowedV P s.vars = true)
    (hrt : f.resultTypes = #[tb]) (htb : P.underlying tb = some .bool)
    (hW : DataW.Whole enc P f.params.toList s.vars apart W args.toList ds gs before) (hx : Ext W W')
    (hfn : s.fn H (ds ++ gs) = { results := [.lit (.bool true)], args := ds, vars := gs }) :
    s.post enc P f apart fresh handsOn again W args (.bool true) W' := by
  have hW0 := hW
  have hlt : ∀ p ∈ before, p.block < W.heap.size := hW.lt
  obtain ⟨pa, pv, hA, hV, rfl, hz, hn⟩ := hW
  have hlta : ∀ p ∈ pa, p.block < W.heap.size := fun p hp => hlt p (by simp [hp])
  have hltv : ∀ p ∈ pv, p.block < W.heap.size := fun p hp => hlt p (by simp [hp])
  have hr : (Value.bool true).resultList f.resultTypes.size = [Value.bool true] := by rw [hrt]; rfl
  refine ⟨ds, gs, pa ++ pv, [], pa, pv, hW0, ?_, ?_, ?_, Below.frame hx _, fun _ => ?_⟩
  · rw [hfn, hr, hrt]
    exact trodAll_mk1 (shut_bool htb _)
  · rw [hfn]
    exact trodAll_ext hl hx _ hpar hlta (fun p hp => by simpa using hlta p hp) hA
  · rw [hfn]
    exact trodVars_sp hl hx _ hvr (fun p hp => by simpa using hltv p hp) hV
  · refine ⟨?_, (.lit (.bool true)) :: ds, gs, pa ++ pv, ⟨[] ++ pa, pv, ?_, ?_, by simp, ?_, ?_⟩, fun p hp _ => hp⟩
    · rw [hr, hrt]
      exact ok_one (f := { f with resultTypes := #[tb] }) rfl rfl (okWide_bool_mk htb _)
    · rw [hr, hrt]
      exact trodAll_append (trodAll_ext hl hx _ hpar hlta (fun _ _ => rfl) hA) (trodAll_mk1 (shut_bool htb _))
    · exact trodVars_sp hl hx _ hvr (fun _ _ => rfl) hV
    · intro b off hp
      have := hlt _ hp
      rw [Below.frozen hx (p := ⟨b, off, none⟩) this]
      exact hz b off hp
    · exact hn
end
end Go.Proofs.Ytfehpaekbbmkcaa.Sx

namespace Go.Proofs.Ytfehpaekbbmkcaa.Sx
open Go Go.RowKit Go.ChangeShapes Go.WideShapes
set_option linter.unusedVariables false
set_option linter.unusedSimpArgs false
/-- the cells of a struct's fields, one behind the other -/
def flatF (P : Program) (g : TypeId → Option (List C0)) : Nat → List Field → Option (List C0)
  | _, [] => some []
  | o, f :: r => match Nat.beq f.offset o, g f.type with
    | true, some a => match Nat.beq (P.cellsOf f.type) a.length, flatF P g (o + a.length) r with
      | true, some b => some (a ++ b)
      | _, _ => none
    | _, _ => none
/-- the cells of a type -/
def flatC (P : Program) : Nat → TypeId → Option (List C0)
  | 0, _ => none
  | n + 1, t => match P.underlying t with
    | some .bool => some [.bool]
    | some (.int .i64) => some [.int]
    | some .string => some [.str]
    | some (.slice e) => match P.underlying e, P.cellsOf e with
      | some (.int .i64), 1 => some [.ints]
      | _, _ => none
    | some (.struct fs) => match flatF P (flatC P n) 0 fs.toList with
      | some a => if Nat.beq (P.cellsOf t) a.length then some a else none
      | none => none
    | _ => none
section
variable {H : Type} {enc : TypeId × Value → H} {P : Program} {w : World}
theorem seg_of_cells {b off n : Nat} {sp : Option Nat} {cs : List Value} (h : w.cells? 0 ⟨b, off, none⟩ n = some cs) : cs.length = n ∧ Seg w b off cs := by
  obtain ⟨_, hl, hc⟩ := World.cells?_some h
  refine ⟨hl, fun j v hj => ?_⟩
  have hjl : j < n := by rw [← hl]; exact (List.getElem?_eq_some_iff.1 hj).1
  rw [← addr_add, hc j hjl, hj]
theorem spot_none {a : Addr} {v : Value} (h : w.cell? a = some v) : a = ⟨a.block, a.off, none⟩ := by
  obtain ⟨b, o, spot⟩ := a
  have : spot = none := by simpa using World.cell?_spot h
  subst this; rfl
theorem ints_of_trod {t e : TypeId} {fuel : Nat} {sp : Nat → Bool} {hd : Bool} {cs : List Value} {x : DataW H × List MemPlace} (ht : P.underlying t = some (.slice e)) (he : P.underlying e = some (.int .i64)) (hc : P.cellsOf e = 1)
    (h : DataW.trod enc P w 0 sp hd fuel t cs = some x) : ∃ p n c zs, cs = [.slice p n c] ∧ IntsR w p n c zs ∧ zs.length ≤ 9223372036854775807 := by
  rcases Go.ChangeShapes.open_ints ht he hc h with ⟨rfl, _⟩ | ⟨a, len, cap, zs, rfl, _, hl, hm, hz, _, hcell, _⟩
  · exact ⟨none, 0, 0, [], rfl, ⟨rfl, Nat.le_refl _, by omega, fun h => absurd h (by omega)⟩, by simp⟩
  · have hlz : len ≤ zs.length := by rw [hz]; split <;> omega
    refine ⟨some a, len, cap, zs.take len, rfl, ⟨by simp; omega, hl, by simpa [maxLen] using hm, fun hpos => ?_⟩, by simp only [maxLen] at hm; simp; omega⟩
    have h0 := hcell 0 (by omega)
    have hs := spot_none h0
    have ha : a = ⟨a.block, a.off, none⟩ := by
      obtain ⟨b, o, s⟩ := a
      simp [Addr.add] at hs
      simp [hs]
    refine ⟨a.block, a.off, by rw [← ha], fun j v hj => ?_⟩
    simp only [List.getElem?_map, List.getElem?_take] at hj
    split at hj
    · rename_i hjl
      have hjz : j < zs.length := by omega
      have := hcell j hjz
      rw [ha, addr_add] at this
      rw [this]
      rw [List.getElem?_eq_getElem hjz] at hj
      simp at hj
      rw [← hj]
      simp [hjz]
    · simp at hj
theorem flatF_open {g : TypeId → Option (List C0)} {n : Nat} {sp : Nat → Bool} {hd : Bool}
    (ih : ∀ {t : TypeId} {ks : List C0} {cs : List Value} {x : DataW H × List MemPlace}, g t = some ks → DataW.trod enc P w 0 sp hd n t cs = some x → ∃ ds, Reps w cs ds ∧ ds.map D0.code = ks ∧ ∀ d ∈ ds, d.ok) :
    ∀ (fs : List Field) (o : Nat) (ks : List C0) (cs : List Value), flatF P g o fs = some ks → cs.length = o + ks.length →
      (∀ f ∈ fs, ∃ x, DataW.trod enc P w 0 sp hd n f.type ((cs.drop f.offset).take (P.cellsOf f.type)) = some x) → ∃ ds, Reps w (cs.drop o) ds ∧ ds.map D0.code = ks ∧ ∀ d ∈ ds, d.ok
  | [], o, ks, cs, hf, hl, _ => by
    simp only [flatF, Option.some.injEq] at hf
    subst hf
    rw [List.drop_of_length_le (by simp at hl; omega)]
    exact ⟨[], trivial, rfl, by simp⟩
  | f :: r, o, ks, cs, hf, hl, hx => by
    simp only [flatF] at hf
    split at hf
    · rename_i a h1 h2
      split at hf
      · rename_i b h3 h4
        have h1' := Nat.eq_of_beq_eq_true h1
        have h3' := Nat.eq_of_beq_eq_true h3
        cases hf
        rw [List.length_append] at hl
        obtain ⟨x, hx0⟩ := hx f (by simp)
        obtain ⟨ds, r1, c1, k1⟩ := ih h2 hx0
        obtain ⟨es, r2, c2, k2⟩ := flatF_open ih r (o + a.length) b cs h4 (by omega) (fun f' hf' => hx f' (by simp [hf']))
        refine ⟨ds ++ es, ?_, by simp [c1, c2], fun d hd => ?_⟩
        · rw [h1', h3'] at r1
          have : cs.drop o = (cs.drop o).take a.length ++ cs.drop (o + a.length) := by
            rw [← List.drop_drop, List.take_append_drop]
          rw [this]
          exact r1.append r2
        · rcases List.mem_append.1 hd with h | h
          · exact k1 d h
          · exact k2 d h
      · cases hf
    · cases hf
theorem flat_open {sp : Nat → Bool} {hd : Bool} : ∀ (m : Nat) {fuel : Nat} {t : TypeId} {ks : List C0} {cs : List Value} {x : DataW H × List MemPlace}, flatC P m t = some ks → DataW.trod enc P w 0 sp hd fuel t cs = some x →
    ∃ ds, Reps w cs ds ∧ ds.map D0.code = ks ∧ ∀ d ∈ ds, d.ok
  | 0, _, _, _, _, _, h, _ => by cases h
  | m + 1, fuel, t, ks, cs, x, h, ht => by
    simp only [flatC] at h
    split at h
    · rename_i hu
      obtain ⟨b, rfl, _⟩ := DataW.trod_bool hu ht
      cases h
      exact ⟨[.bool b], ⟨rfl, trivial⟩, rfl, by simp [D0.ok]⟩
    · rename_i hu
      obtain ⟨b, rfl, _, hw⟩ := DataW.trod_int hu ht
      cases h
      refine ⟨[.int b], ⟨rfl, trivial⟩, rfl, ?_⟩
      simp only [List.mem_singleton, forall_eq, D0.ok]
      simp [Lit.wf, IntKind.min, IntKind.max, IntKind.bits, IntKind.signed] at hw
      omega
    · rename_i hu
      obtain ⟨s, rfl, _, hw⟩ := DataW.trod_string hu ht
      cases h
      exact ⟨[.str s], ⟨rfl, trivial⟩, rfl, by simpa [D0.ok, maxLen] using hw⟩
    · rename_i e hu
      split at h
      · rename_i he hc
        cases h
        obtain ⟨p, n, c, zs, rfl, hr, hz⟩ := ints_of_trod hu he hc ht
        exact ⟨[.ints zs], ⟨⟨p, n, c, rfl, hr⟩, trivial⟩, rfl, by simpa [D0.ok] using hz⟩
      · cases h
    · rename_i fs hu
      split at h
      · rename_i a hf
        split at h
        · rename_i hsz
          cases h
          obtain ⟨xs, n, rfl, _, hlen, hxl, hfs⟩ := DataW.trod_struct hu ht
          have hsz' := Nat.eq_of_beq_eq_true hsz
          have := flatF_open (fun h1 h2 => flat_open m h1 h2) fs.toList 0 ks cs hf (by omega) (fun f hf => by
            obtain ⟨i, hi⟩ := List.getElem?_of_mem hf
            have hil : i < fs.size := by simpa using (List.getElem?_eq_some_iff.1 hi).1
            have := hfs i f (by simpa using hi)
            rw [List.getElem?_eq_getElem (by omega)] at this
            exact ⟨_, this⟩)
          simpa using this
        · cases h
      · cases h
    · cases h
theorem rows_open {sp : Nat → Bool} {hd : Bool} {m fuel : Nat} {t e : TypeId} {ks : List C0} {cs : List Value} {x : DataW H × List MemPlace} (hu : P.underlying t = some (.slice e)) (hk : flatC P m e = some ks) (hc : P.cellsOf e = ks.length) (hpos : 0 < ks.length)
    (ht : DataW.trod enc P w 0 sp hd fuel t cs = some x) : ∃ p n c l, cs = [.slice p n c] ∧ RowsR w ks.length p n c l ∧ (∀ y ∈ l, y.map D0.code = ks) ∧ ∀ y ∈ l, ∀ d ∈ y, d.ok := by
  rcases Go.Deep.open_slice hu ht with ⟨rfl, _⟩ | ⟨a, len, cap, mm, n, D, Pl, rfl, _, hl, hm, hmm, _, hx⟩
  · exact ⟨none, 0, 0, [], rfl, RowsR.nil _ _ _ (by omega), by simp, by simp⟩
  · have hlm : len ≤ mm := by rw [hmm]; split <;> omega
    have hex : ∀ i, i < len → ∃ ds : List D0, (∃ cs', cs'.length = ks.length ∧ Reps w cs' ds ∧ w.cells? 0 (a.add (i * ks.length)) ks.length = some cs') ∧ ds.map D0.code = ks ∧ ∀ d ∈ ds, d.ok := fun i hi => by
      obtain ⟨cs', h1, h2⟩ := hx i (by omega)
      obtain ⟨ds, r, c, k⟩ := flat_open m hk h2
      rw [hc] at h1
      exact ⟨ds, ⟨cs', (World.cells?_some h1).2.1, r, h1⟩, c, k⟩
    obtain ⟨F, hF⟩ := Go.Deep.choose_lt hex
    refine ⟨some a, len, cap, (List.range len).map F, rfl, ⟨by simp, hl, by simpa [maxLen] using hm, fun hn => ?_⟩, ?_, ?_⟩
    · obtain ⟨⟨cs', _, _, h1⟩, _⟩ := hF 0 hn
      have h0 := (World.cells?_some h1).2.2 0 hpos
      have hlen := (World.cells?_some h1).2.1
      rw [List.getElem?_eq_getElem (by omega)] at h0
      have hs := spot_none h0
      have ha : a = ⟨a.block, a.off, none⟩ := by
        obtain ⟨b, o, s⟩ := a
        simp [Addr.add] at hs
        simp [hs]
      refine ⟨a.block, a.off, by rw [← ha], fun i y hy => ?_⟩
      have hil : i < len := by
        have := (List.getElem?_eq_some_iff.1 hy).1
        simpa using this
      obtain ⟨⟨cs', q1, q2, q3⟩, _⟩ := hF i hil
      have : y = F i := by simpa [hil] using hy.symm
      subst this
      rw [ha, addr_add] at q3
      exact ⟨cs', q1, q2, (seg_of_cells (sp := none) q3).2⟩
    · intro y hy
      obtain ⟨i, hi, rfl⟩ := List.mem_map.1 hy
      exact (hF i (by simpa using hi)).2.1
    · intro y hy
      obtain ⟨i, hi, rfl⟩ := List.mem_map.1 hy
      exact (hF i (by simpa using hi)).2.2
theorem book_open {sp : Nat → Bool} {hd : Bool} {m fuel : Nat} {t ft e : TypeId} {fs : Array Field} {ks : List C0} {cs : List Value} {x : DataW H × List MemPlace} (ht : P.underlying t = some (.struct fs)) (hu : P.underlying ft = some (.slice e))
    (hk : flatC P m e = some ks) (hc : P.cellsOf e = ks.length) (hpos : 0 < ks.length) (hf : (fs.toList.map fun f => (f.type, f.offset), P.cellsOf t, P.cellsOf ft) = ([(ft, 0)], 1, 1))
    (h : DataW.trod enc P w 0 sp hd fuel t cs = some x) : ∃ p n c l, cs = [.slice p n c] ∧ RowsR w ks.length p n c l ∧ (∀ y ∈ l, y.map D0.code = ks) ∧ ∀ y ∈ l, ∀ d ∈ y, d.ok := by
  obtain ⟨xs, n, rfl, _, hlen, hxl, hfs⟩ := DataW.trod_struct ht h
  simp only [Prod.mk.injEq] at hf
  obtain ⟨h1, h2, h3⟩ := hf
  cases hl : fs.toList with
  | nil => rw [hl] at h1; cases h1
  | cons f r =>
    rw [hl] at h1
    simp only [List.map_cons, List.cons.injEq, Prod.mk.injEq, List.map_eq_nil_iff] at h1
    obtain ⟨h1, hr⟩ := h1
    subst hr
    have hs : fs.size = 1 := by rw [← Array.length_toList, hl]; rfl
    have hf0 : fs[0]? = some f := by
      have : fs.toList[0]? = some f := by rw [hl]; rfl
      simpa using this
    have := hfs 0 f hf0
    rw [List.getElem?_eq_getElem (by omega), h1.1, h1.2, h3, List.drop_zero, List.take_of_length_le (by omega)] at this
    exact rows_open hu hk hc hpos this
end
end Go.Proofs.Ytfehpaekbbmkcaa.Sx
