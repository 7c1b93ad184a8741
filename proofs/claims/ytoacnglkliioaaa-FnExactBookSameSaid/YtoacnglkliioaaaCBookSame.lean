/-
  Contracts: BookSame, in the program and in the reference.
-/
import Derived.Test.YtoacnglkliioaaaCSame
import Derived.Test.YtoacnglkliioaaaDBook
namespace Go.Proofs.Ytoacnglkliioaaa
open Go Go.Proofs.Ytoacnglkliioaaa.Sx
set_option linter.unusedVariables false
set_option linter.unusedSimpArgs false

theorem impl_BookSame_1_c {w : World} {xs ys : List Value} {dx dy : List D0} (h : Reps w xs dx) (k : Reps w ys dy) (hc : dx.map D0.code = [.str, .str, .bool, .ints]) (kc : dy.map D0.code = [.str, .str, .bool, .ints]) :
    Ret P n_impl_BookSame_1 [.agg ⟨xs⟩, .agg ⟨ys⟩] w fun v w' => v = .bool (decide (dx = dy)) ∧ Ext w w' := by
  obtain ⟨a0, a1, a2, a3p, a3n, a3c, a3z, rfl, rfl, ha⟩ := open_Acct h hc
  obtain ⟨b0, b1, b2, b3p, b3n, b3c, b3z, rfl, rfl, hb⟩ := open_Acct k kc
  refine impl_BookSame_1_ret ?_
  unfold impl_BookSame_1
  intro r w1 hn1 r1 w2 hn2
  have x := hn1.ext.trans hn2.ext
  have k0 := hn1.blk.ext hn2.ext; have k1 := hn2.blk
  refine ⟨_, k0.load (by kernel_rfl) rfl, _, k1.load (by kernel_rfl) rfl, ifD (fun e => ?_) (fun e => ⟨dec_no (fun h => e (by simp at h; exact h.1)), x⟩)⟩
  subst e
  refine ⟨_, _, _, _, _, k0.loadAAt 1 [.string a1, .bool a2, .slice a3p a3n a3c] rfl (by kernel_rfl) rfl, _, _, _, _, _, k1.loadAAt 1 [.string b1, .bool b2, .slice b3p b3n b3c] rfl (by kernel_rfl) rfl, ?_⟩
  refine Ret.at (impl_MoneySame_c (dx := [.str a1, .bool a2, .ints a3z]) (dy := [.str b1, .bool b2, .ints b3z]) ⟨rfl, rfl, ⟨_, _, _, rfl, ha.ext x⟩, trivial⟩ ⟨rfl, rfl, ⟨_, _, _, rfl, hb.ext x⟩, trivial⟩ rfl rfl) ?_
  rintro v w3 ⟨hv, y⟩
  subst hv
  exact ⟨_, rfl, by simp, x.trans y⟩

theorem slices_EqualFunc_Acct_c {w : World} {p q : Option Addr} {n c m d : Nat} {l s : List (List D0)} (h : RowsR w 4 p n c l) (k : RowsR w 4 q m d s) (hc : ∀ x ∈ l, x.map D0.code = [.str, .str, .bool, .ints]) (kc : ∀ x ∈ s, x.map D0.code = [.str, .str, .bool, .ints]) (f : Value)
    (hf : ∀ xs ys dx dy w', Ext w w' → Reps w' xs dx → Reps w' ys dy → dx.map D0.code = [.str, .str, .bool, .ints] → dy.map D0.code = [.str, .str, .bool, .ints] → CallW P f [.agg ⟨xs⟩, .agg ⟨ys⟩] w' fun e w'' => e = .returned (.bool (decide (dx = dy))) ∧ Ext w' w'') :
    Ret P n_slices_EqualFunc_impl_Acct_impl_Acct_impl_Acct_impl_Acct [.slice p n c, .slice q m d, f] w fun v w' => v = .bool (decide (l = s)) ∧ Ext w w' := by
  refine slices_EqualFunc_impl_Acct_impl_Acct_impl_Acct_impl_Acct_ret ?_
  unfold slices_EqualFunc_impl_Acct_impl_Acct_impl_Acct_impl_Acct
  have hz := h.1; have hy := k.1; have hcap := h.2.1; have hcm := h.2.2.1
  refine ifD (fun hne => ⟨dec_no (fun e => hne (by rw [← hz, ← hy, e])), Ext.refl _⟩) (fun heq => ?_)
  have hnm : n = m := by omega
  refine ⟨fun i wr => ∃ j : Nat, i = j ∧ j ≤ n ∧ Ext w wr ∧ l.take j = s.take j, fun i _ => n - i.toNat, ⟨0, rfl, by omega, Ext.refl _, by simp⟩, ?_⟩
  intro junk wr i ⟨j, hij, hj, hx, he⟩
  subst hij
  refine ifD (fun hlt => ?_) (fun hge => ⟨dec_yes ?_, hx⟩)
  · have hjn : j < n := by omega
    have hjl : j < l.length := by omega
    have hjs : j < s.length := by omega
    obtain ⟨a, cs, hp, hk, hr, hl⟩ := (h.ext hx).at (P := P) (t := T_impl_Acct) (by kernel_rfl) hjn
    subst hp
    have hrr := hr; have hcode := hc _ (List.getElem_mem hjl)
    obtain ⟨a0, a1, a2, a3p, a3n, a3c, a3z, rfl, hd, ha3⟩ := open_Acct hr hcode
    refine ⟨⟨by omega, by omega⟩, _, _, _, _, _, _, by simpa using hl, ?_⟩
    intro r1 w2 hn2
    obtain ⟨w3, st, hb3, y3⟩ := hn2.fill (P := P) (t := T_impl_Acct) hrr.cells1 (by kernel_rfl) rfl
    have x3 := hx.trans y3
    obtain ⟨b, ds, hq, hk2, hr2, hl2⟩ := (k.ext x3).at (P := P) (t := T_impl_Acct) (by kernel_rfl) (show j < m by omega)
    subst hq
    have hrr2 := hr2; have hcode2 := kc _ (List.getElem_mem hjs)
    obtain ⟨b0, b1, b2, b3p, b3n, b3c, b3z, rfl, hd2, hbb3⟩ := open_Acct hr2 hcode2
    refine ⟨w3, st, ⟨by omega, by omega⟩, _, _, _, _, _, _, by simpa using hl2, ?_⟩
    intro r2 w4 hn4
    obtain ⟨w5, st2, hb5, y5⟩ := hn4.fill (P := P) (t := T_impl_Acct) hrr2.cells1 (by kernel_rfl) rfl
    have x5 := x3.trans y5
    refine ⟨w5, st2, _, _, _, _, _, _, (hb3.ext y5).loadA0 (by kernel_rfl), _, _, _, _, _, _, hb5.loadA0 (by kernel_rfl), ?_⟩
    obtain ⟨g, first, captured, h1, h2, h3⟩ := hf _ _ _ _ w5 x5 (hrr.ext (y3.trans y5)) (hrr2.ext y5) (hc _ (List.getElem_mem hjl)) (kc _ (List.getElem_mem hjs))
    refine ⟨g, first, captured, h1, h2, Calls.mono h3 fun e w6 ⟨he2, hy6⟩ => ?_⟩
    refine ⟨_, he2, ifN (fun hne => ⟨dec_no (fun e => of_decide_eq_false hne (by subst e; rfl)), x5.trans hy6⟩) (fun hee => ?_)⟩
    have e2 := of_decide_eq_true hee
    refine exW ⟨by omega, by omega⟩ ⟨⟨j + 1, by omega, by omega, x5.trans hy6, ?_⟩, by simp; omega⟩
    rw [List.take_add_one, List.take_add_one, he, List.getElem?_eq_getElem hjl, List.getElem?_eq_getElem hjs, e2]
  · have hjn : j = n := by omega
    subst hjn
    rwa [List.take_of_length_le (by omega), List.take_of_length_le (by omega)] at he

theorem impl_BookSame_c {w : World} {p q : Option Addr} {n c m d : Nat} {l s : List (List D0)} (h : RowsR w 4 p n c l) (hc : ∀ x ∈ l, x.map D0.code = [.str, .str, .bool, .ints]) (k : RowsR w 4 q m d s) (kc : ∀ x ∈ s, x.map D0.code = [.str, .str, .bool, .ints]) :
    Ret P n_impl_BookSame [.agg ⟨[.slice p n c]⟩, .agg ⟨[.slice q m d]⟩] w fun v w' => v = .bool (decide (l = s)) ∧ Ext w w' := by
  refine impl_BookSame_ret ?_
  unfold impl_BookSame
  intro r w1 hn1 r1 w2 hn2
  have x := hn1.ext.trans hn2.ext
  refine ⟨_, _, _, (hn1.blk.ext hn2.ext).load (by kernel_rfl) rfl, _, _, _, hn2.blk.load (by kernel_rfl) rfl, ?_⟩
  refine Ret.at (slices_EqualFunc_Acct_c (h.ext x) (k.ext x) hc kc _ (fun xs ys dx dy w' hx h1 h2 c1 c2 => ?_)) ?_
  · refine ⟨_, _, _, rfl, by kernel_rfl, ?_⟩
    refine Calls.mono (impl_BookSame_1_c h1 h2 c1 c2) ?_
    rintro e w'' ⟨v, he, hv, y⟩
    subst hv
    exact ⟨he, y⟩
  · rintro v w3 ⟨hv, y⟩
    subst hv
    exact ⟨_, rfl, rfl, x.trans y⟩

theorem spec_BookSame_c {w : World} {p q : Option Addr} {n c m d : Nat} {l s : List (List D0)} (h : RowsR w 4 p n c l) (hc : ∀ x ∈ l, x.map D0.code = [.str, .str, .bool, .ints]) (k : RowsR w 4 q m d s) (kc : ∀ x ∈ s, x.map D0.code = [.str, .str, .bool, .ints]) :
    Ret P n_spec_BookSame [.agg ⟨[.slice p n c]⟩, .agg ⟨[.slice q m d]⟩] w fun v w' => v = .bool (decide (l = s)) ∧ Ext w w' := by
  refine spec_BookSame_ret ?_
  unfold spec_BookSame
  intro r w1 hn1 r1 w2 hn2
  have x := hn1.ext.trans hn2.ext
  have k0 := hn1.blk.ext hn2.ext; have k1 := hn2.blk
  have hz := h.1; have hy := k.1; have hcap := h.2.1; have hcm := h.2.2.1
  refine ⟨_, _, _, k0.load (by kernel_rfl) rfl, _, _, _, k1.load (by kernel_rfl) rfl, ifD (fun hne => ⟨dec_no (fun e => hne (by rw [← hz, ← hy, e])), x⟩) (fun heq => ?_)⟩
  have hnm : n = m := by omega
  refine ⟨_, _, _, k0.load (by kernel_rfl) rfl, fun i wr => ∃ j : Nat, i = j ∧ j ≤ n ∧ Ext w2 wr ∧ l.take j = s.take j, fun i _ => n - i.toNat, ⟨0, rfl, by omega, Ext.refl _, by simp⟩, ?_⟩
  intro junk wr i ⟨j, hij, hj, hx2, he⟩
  have hx := x.trans hx2
  subst hij
  refine ifD (fun hlt => ?_) (fun hge => ⟨dec_yes ?_, hx⟩)
  · have hjn : j < n := by omega
    have hjl : j < l.length := by omega
    have hjs : j < s.length := by omega
    obtain ⟨a, cs, hp, hk, hr, hl⟩ := (h.ext hx).at (P := P) (t := T_impl_Acct) (by kernel_rfl) hjn
    subst hp
    have hrr := hr; have hcode := hc _ (List.getElem_mem hjl)
    obtain ⟨a0, a1, a2, a3p, a3n, a3c, a3z, rfl, hd, ha3⟩ := open_Acct hr hcode
    refine ⟨⟨by omega, by omega⟩, _, _, _, _, _, _, by simpa using hl, ?_⟩
    intro r3 w3 hn3
    obtain ⟨w4, st, hb4, y4⟩ := hn3.fill (P := P) (t := T_impl_Acct) hrr.cells1 (by kernel_rfl) rfl
    have x4 := hx.trans y4
    have y5 := y4.trans (Ext.drew w4)
    have x5 := hx.trans y5
    obtain ⟨b, o, hq, hs⟩ := k.2.2.2 (by omega)
    subst hq
    obtain ⟨cs2, hk2, hr2, hseg⟩ := hs j s[j] (List.getElem?_eq_getElem hjs)
    have hcode2 := kc _ (List.getElem_mem hjs)
    obtain ⟨b0, b1, b2, b3p, b3n, b3c, b3z, rfl, hd2, hb3⟩ := open_Acct hr2 hcode2
    have ea : ∀ z, ((⟨b, o, none⟩ : Addr).add ((j : Int).toNat * 4)).add z = ⟨b, o + j * 4 + z, none⟩ := fun z => by rw [addr_add, addr_add, show (j : Int).toNat = j by omega]
    have dd : (l = s) → l[j] = s[j] := fun e => by subst e; rfl
    rw [hd, hd2] at dd
    have up : ∀ {w'}, Ext w4.drew w' → Ext w2 w' := fun h => (hx2.trans y5).trans h
    refine ⟨w4, st, _, fun w' hw => (hb4.ext ((Ext.drew _).trans hw)).load (by kernel_rfl) rfl, _, _, _, fun w' hw => (k1.ext (up hw)).load (by kernel_rfl) rfl, ⟨by omega, by omega⟩, _, fun w' hw => (hseg.ext (x.trans (up hw))).loadAt 0 (ea 0) (by kernel_rfl) rfl,
      ifD (fun hne => ifT ⟨dec_no (fun e => hne (by have := dd e; simp at this; exact this.1)), x5⟩) (fun h0 => ?_)⟩
    have h0 : a0 = b0 := by simpa using h0
    refine ⟨_, _, _, _, _, fun w' hw => (hb4.ext ((Ext.drew _).trans hw)).loadAAt 1 [.string a1, .bool a2, .slice a3p a3n a3c] rfl (by kernel_rfl) rfl, _, _, _, fun w' hw => (k1.ext (up hw)).load (by kernel_rfl) rfl, ⟨by omega, by omega⟩, _, _, _, _, _, fun w' hw => (hseg.ext (x.trans (up hw))).loadAAt 1 [.string b1, .bool b2, .slice b3p b3n b3c] (ea 1) (by kernel_rfl) rfl, ?_⟩
    refine Ret.at (spec_MoneySame_c (dx := [.str a1, .bool a2, .ints a3z]) (dy := [.str b1, .bool b2, .ints b3z]) ⟨rfl, rfl, ⟨_, _, _, rfl, ha3.ext y5⟩, trivial⟩ ⟨rfl, rfl, ⟨_, _, _, rfl, hb3.ext x5⟩, trivial⟩ rfl rfl) ?_
    rintro v w6 ⟨hv, y6⟩
    subst hv
    have x6 := x5.trans y6
    refine ⟨_, rfl, ifN (fun hne => ⟨dec_no (fun e => of_decide_eq_false hne (by have := dd e; simp at this; simp [this])), x6⟩) (fun hee => ?_)⟩
    have h1 := of_decide_eq_true hee
    simp at h1
    refine exW ⟨by omega, by omega⟩ ⟨⟨j + 1, by omega, by omega, (hx2.trans y5).trans y6, ?_⟩, by simp; omega⟩
    rw [List.take_add_one, List.take_add_one, he, List.getElem?_eq_getElem hjl, List.getElem?_eq_getElem hjs, hd, hd2, h0, h1.1, h1.2.1, h1.2.2]
  · have hjn : j = n := by omega
    subst hjn
    rwa [List.take_of_length_le (by omega), List.take_of_length_le (by omega)] at he

end Go.Proofs.Ytoacnglkliioaaa
