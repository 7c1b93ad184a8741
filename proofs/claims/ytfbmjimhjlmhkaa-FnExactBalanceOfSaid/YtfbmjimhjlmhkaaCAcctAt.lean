/-
  Contracts: AcctAt, in the program and in the reference.
-/
import Derived.Test.YtfbmjimhjlmhkaaCBase
import Derived.Test.YtfbmjimhjlmhkaaDBook
namespace Go.Proofs.Ytfbmjimhjlmhkaa
open Go Go.Proofs.Ytfbmjimhjlmhkaa.Sx
set_option linter.unusedVariables false
set_option linter.unusedSimpArgs false

/-- a text that leads -/
def strOf : List D0 → ByteArray
  | .str s :: _ => s
  | _ => S []
def acctAt (l : List (List D0)) (name : ByteArray) : Int := firstI (fun x => decide (strOf x = name)) l

theorem spec_AcctAt_c {w : World} {p : Option Addr} {n c : Nat} {l : List (List D0)} (h : RowsR w 4 p n c l) (hc : ∀ x ∈ l, x.map D0.code = [.str, .str, .bool, .ints]) (name : ByteArray) :
    Ret P n_spec_AcctAt [.agg ⟨[.slice p n c]⟩, .string name] w fun v w' => v = .int .i64 (acctAt l name) ∧ Ext w w' := by
  refine spec_AcctAt_ret ?_
  unfold spec_AcctAt
  intro r w1 hn
  have hlen := h.1; have hcap := h.2.1; have hcm := h.2.2.1
  refine ⟨_, _, _, hn.blk.load (by kernel_rfl) rfl, fun i wr => ∃ j : Nat, i = j ∧ j ≤ n ∧ Ext w wr ∧ ∀ i (hi : i < l.length), i < j → decide (strOf l[i] = name) = false, fun i _ => n - i.toNat, ⟨0, rfl, by omega, hn.ext, fun i hi h => by omega⟩, ?_⟩
  intro junk wr i ⟨j, hij, hj, hx, hall⟩
  subst hij
  refine ifD (fun hlt => ?_) (fun hge => ?_)
  · have hjn : j < n := by omega
    obtain ⟨a, cs, hp, hk, hr, hl⟩ := (h.ext hx).at (P := P) (t := T_impl_Acct) (by kernel_rfl) hjn
    subst hp
    have hjl : j < l.length := by omega
    have hcode := hc _ (List.getElem_mem hjl)
    have hrr := hr
    obtain ⟨a0, a1, a2, p3, n3, c3, z3, rfl, hd, hi⟩ := open_Acct hr hcode
    refine ⟨⟨by omega, by omega⟩, _, _, _, _, _, _, by simpa using hl, ?_⟩
    intro r1 w2 hn2
    obtain ⟨w3, st, hb3, ch, sz⟩ := hn2.blk.storeA0 (P := P) (t := T_impl_Acct) (xs := [.string a0, .string a1, .bool a2, .slice p3 n3 c3]) (by kernel_rfl) rfl (by simp [Value.oneCell'])
    have x3 : Ext w w3 := (hx.trans hn2.ext).chg ch (by have := hn2.r_eq; have := hx.le; simp; omega)
    have hs : strOf l[j] = a0 := by rw [hd]; rfl
    refine ⟨w3, st, _, hb3.load (by kernel_rfl) rfl, ifD (fun e => ⟨?_, x3⟩) (fun e => ?_)⟩
    · rw [acctAt, firstI_some hjl (by simpa [hs] using e) hall]
    · refine exW ⟨by omega, by omega⟩ ⟨⟨j + 1, by omega, by omega, x3, fun i hi hij => ?_⟩, by simp; omega⟩
      by_cases hij' : i < j
      · exact hall i hi hij'
      · obtain rfl : i = j := by omega
        simpa [hs] using e
  · exact ⟨by rw [acctAt, firstI_none fun i hi => hall i hi (by omega)], hx⟩

theorem slices_IndexFunc_impl_Acct_impl_Acct_c {w : World} {p : Option Addr} {n c : Nat} {l : List (List D0)} (h : RowsR w 4 p n c l) (hc : ∀ x ∈ l, x.map D0.code = [.str, .str, .bool, .ints]) (f : Value) (q : List D0 → Bool)
    (hf : ∀ cs x w', Ext w w' → x ∈ l → Reps w' cs x → CallW P f [.agg ⟨cs⟩] w' fun e w'' => e = .returned (.bool (q x)) ∧ Ext w' w'') :
    Ret P n_slices_IndexFunc_impl_Acct_impl_Acct [.slice p n c, f] w fun v w' => v = .int .i64 (firstI q l) ∧ Ext w w' := by
  refine slices_IndexFunc_impl_Acct_impl_Acct_ret ?_
  unfold slices_IndexFunc_impl_Acct_impl_Acct
  have hlen := h.1; have hcap := h.2.1; have hcm := h.2.2.1
  refine ⟨fun i wr => ∃ j : Nat, i = j ∧ j ≤ n ∧ Ext w wr ∧ ∀ i (hi : i < l.length), i < j → q l[i] = false, fun i _ => n - i.toNat, ⟨0, rfl, by omega, Ext.refl _, fun i hi h => by omega⟩, ?_⟩
  intro junk wr i ⟨j, hij, hj, hx, hall⟩
  subst hij
  refine ifD (fun hlt => ?_) (fun hge => ?_)
  · have hjn : j < n := by omega
    obtain ⟨a, cs, hp, hk, hr, hl⟩ := (h.ext hx).at (P := P) (t := T_impl_Acct) (by kernel_rfl) hjn
    subst hp
    have hjl : j < l.length := by omega
    have hcode := hc _ (List.getElem_mem hjl)
    have hcall := hf _ _ _ hx (List.getElem_mem hjl) hr
    obtain ⟨a0, a1, a2, p3, n3, c3, z3, rfl, hd, hi⟩ := open_Acct hr hcode
    refine ⟨⟨by omega, by omega⟩, _, _, _, _, _, _, by simpa using hl, ?_⟩
    obtain ⟨g, first, captured, h1, h2, h3⟩ := hcall
    refine ⟨g, first, captured, h1, h2, Calls.mono h3 fun e w2 ⟨he, hy⟩ => ?_⟩
    refine ⟨_, he, fun e => ⟨by rw [firstI_some hjl e hall], hx.trans hy⟩, fun e => ?_⟩
    refine exW ⟨by omega, by omega⟩ ⟨⟨j + 1, by omega, by omega, hx.trans hy, fun i hi hij => ?_⟩, by simp; omega⟩
    by_cases hij' : i < j
    · exact hall i hi hij'
    · obtain rfl : i = j := by omega
      exact e
  · exact ⟨by rw [firstI_none fun i hi => hall i hi (by omega)], hx⟩

theorem impl_AcctAt_1_c {w : World} {cs : List Value} {x : List D0} (h : Reps w cs x) (hc : x.map D0.code = [.str, .str, .bool, .ints]) {b : Nat} {e : TypeId} {name : ByteArray} (hb : Blk w b e [.string name]) :
    Ret P n_impl_AcctAt_1 [.agg ⟨cs⟩, .pointer (some ⟨b, 0, none⟩)] w fun v w' => v = .bool (decide (strOf x = name)) ∧ Ext w w' := by
  obtain ⟨a0, a1, a2, p3, n3, c3, z3, rfl, hd, hi⟩ := open_Acct h hc
  refine impl_AcctAt_1_ret ?_
  unfold impl_AcctAt_1
  intro r w1 hn
  refine ⟨_, hn.blk.load (by kernel_rfl) rfl, _, (hb.ext hn.ext).load0 (by kernel_rfl) rfl, ?_, hn.ext⟩
  rw [hd]; rfl

theorem impl_AcctAt_c {w : World} {p : Option Addr} {n c : Nat} {l : List (List D0)} (h : RowsR w 4 p n c l) (hc : ∀ x ∈ l, x.map D0.code = [.str, .str, .bool, .ints]) (name : ByteArray) :
    Ret P n_impl_AcctAt [.agg ⟨[.slice p n c]⟩, .string name] w fun v w' => v = .int .i64 (acctAt l name) ∧ Ext w w' := by
  refine impl_AcctAt_ret ?_
  unfold impl_AcctAt
  intro r w1 hn1 r1 w2 hn2
  have x := hn1.ext.trans hn2.ext
  refine ⟨_, _, _, (hn1.blk.ext hn2.ext).load (by kernel_rfl) rfl, ?_⟩
  refine Ret.at (slices_IndexFunc_impl_Acct_impl_Acct_c (h.ext x) hc _ (fun x => decide (strOf x = name)) (fun cs x w' hx hm hr => ?_)) ?_
  · refine ⟨_, _, _, rfl, by kernel_rfl, ?_⟩
    refine Calls.mono (impl_AcctAt_1_c hr (hc _ hm) (hn2.blk.ext hx)) ?_
    rintro e w'' ⟨v, he, hv, y⟩
    subst hv
    exact ⟨he, y⟩
  · rintro v w3 ⟨hv, y⟩
    subst hv
    exact ⟨_, rfl, rfl, x.trans y⟩

end Go.Proofs.Ytfbmjimhjlmhkaa
