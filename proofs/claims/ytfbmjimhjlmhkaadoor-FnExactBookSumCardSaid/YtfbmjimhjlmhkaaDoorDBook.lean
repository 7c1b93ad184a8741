/-
  Contracts: the laws' own helpers at a book (a struct of one slice of structs).
-/
import Derived.Test.YtfbmjimhjlmhkaaDoorDS
namespace Go.Proofs.YtfbmjimhjlmhkaaDoor
open Go Go.Proofs.YtfbmjimhjlmhkaaDoor.Sx
set_option linter.unusedVariables false
set_option linter.unusedSimpArgs false

theorem laws_szBook_c {w : World} {p : Option Addr} {n c : Nat} {l : List (List D0)} (h : RowsR w 4 p n c l) (hc : ∀ x ∈ l, x.map D0.code = [.str, .str, .bool, .ints]) (hok : ∀ x ∈ l, ∀ d ∈ x, d.ok) {left : Int} (h0 : 0 ≤ left) (h1 : left ≤ 1048576) :
    Ret P n_laws_szBook [.agg ⟨[.slice p n c]⟩, .int .i64 left] w fun v w' => ∃ r : Int, v = .int .i64 r ∧ (0 ≤ r → r + n + ((l.map bulks).sum : Nat) ≤ left) ∧ r ≤ 1048576 ∧ Ext w w' := by
  refine laws_szBook_ret ?_
  unfold laws_szBook
  intro r w1 hn
  refine ⟨_, _, _, hn.blk.load (by kernel_rfl) rfl, ?_⟩
  refine Ret.at (laws_szAcctS_c (h.ext hn.ext) hc hok h0 h1) ?_
  rintro v w2 ⟨k, hv, hk, hm, y⟩
  subst hv
  have x := hn.ext.trans y
  exact ⟨_, rfl, ifD (fun hl => ⟨_, rfl, by omega, by omega, x⟩) (fun hl => ⟨_, rfl, hk, hm, x⟩)⟩

theorem laws_toBook_c {w : World} {p : Option Addr} {n c : Nat} {l : List (List D0)} (h : RowsR w 4 p n c l) (hc : ∀ x ∈ l, x.map D0.code = [.str, .str, .bool, .ints]) (hn : n ≤ 1048576) (hb : ∀ x ∈ l, bulks x ≤ 1048576) :
    Ret P n_laws_toBook [.agg ⟨[.slice p n c]⟩] w fun v w' => ∃ p' c' f, v = .agg ⟨[.slice p' n c']⟩ ∧ OwnRows w' w.heap.size T_impl_Acct 4 p' n c' l f ∧ Ext w w' := by
  refine laws_toBook_ret ?_
  unfold laws_toBook
  intro r w1 hn1 r1 w2 hn2 r2 w3 hn3
  have x := (hn1.ext.trans hn2.ext).trans hn3.ext
  have b0 := (hn1.blk.ext hn2.ext).ext hn3.ext
  have b1 := hn2.blk.ext hn3.ext
  have b2 := hn3.blk
  have e1 := hn1.r_eq; have e2 := hn2.r_eq; have e3 := hn3.r_eq; have s1 := hn1.size; have s2 := hn2.size; have s3 := hn3.size
  refine ⟨_, _, _, b0.load (by kernel_rfl) rfl, ?_⟩
  refine Ret.at (laws_toAcctS_c (h.ext x) hc hn hb) ?_
  rintro v w4 ⟨p', c', f, hv, ho, y⟩
  subst hv
  have x := x.trans y; have b1 := b1.ext y; have b2 := b2.ext y
  obtain ⟨w5, st, b2', ch, sz⟩ := b2.store (P := P) (t := T_s_impl_Acct) (k := 0) (v := .slice p' n c') (by kernel_rfl) (by simp) rfl
  have b2' : Blk w5 r2 _ [.slice p' n c'] := b2'
  refine ⟨_, _, _, rfl, _, st, _, _, _, b2'.loadA0 (by kernel_rfl), ?_⟩
  have b1 := b1.chg ch (by simp; omega); have x := x.chg ch (by simp; omega)
  have ho := ho.chg ch (fun k hk hm => by have := (ho.lt k hk).1; simp at hm; omega)
  obtain ⟨w6, st, b1', ch, sz⟩ := b1.storeA0 (P := P) (t := T_impl_Book) (xs := [.slice p' n c']) (by kernel_rfl) rfl (by simp [Value.oneCell'])
  refine ⟨_, st, _, _, _, b1'.loadA0 (by kernel_rfl), p', c', f, rfl, ?_, x.chg ch (by simp; omega)⟩
  exact (ho.chg ch (fun k hk hm => by have := (ho.lt k hk).1; simp at hm; omega)).mono (by omega)

theorem laws_eqBook_c {w : World} {p q : Option Addr} {n c m d : Nat} {l s : List (List D0)} (h : RowsR w 4 p n c l) (k : RowsR w 4 q m d s) (hc : ∀ x ∈ l, x.map D0.code = [.str, .str, .bool, .ints]) (kc : ∀ x ∈ s, x.map D0.code = [.str, .str, .bool, .ints]) :
    Ret P n_laws_eqBook [.agg ⟨[.slice p n c]⟩, .agg ⟨[.slice q m d]⟩] w fun v w' => v = .bool (decide (l = s)) ∧ Ext w w' := by
  refine laws_eqBook_ret ?_
  unfold laws_eqBook
  intro r w1 hn1 r1 w2 hn2
  have x := hn1.ext.trans hn2.ext
  refine ⟨_, _, _, (hn1.blk.ext hn2.ext).load (by kernel_rfl) rfl, _, _, _, hn2.blk.load (by kernel_rfl) rfl, ?_⟩
  refine Ret.at (laws_eqAcctS_c (h.ext x) (k.ext x) hc kc) ?_
  rintro v w3 ⟨hv, y⟩
  subst hv
  have x := x.trans y
  exact ⟨_, rfl, ifN (fun hne => ⟨by rw [hne], x⟩) (fun heq => ⟨by rw [heq], x⟩)⟩

end Go.Proofs.YtfbmjimhjlmhkaaDoor
