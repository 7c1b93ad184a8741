/-
  Contracts: legs: valid.
-/
import Derived.Test.YtfbmjimhjlmhkaaDoorCWord
namespace Go.Proofs.YtfbmjimhjlmhkaaDoor
open Go Go.Proofs.YtfbmjimhjlmhkaaDoor.Sx
set_option linter.unusedVariables false
set_option linter.unusedSimpArgs false

def legOk : List D0 → Bool
  | .str s :: m => isWord s && moneyOk m
  | _ => false
def legsOk (l : List (List D0)) : Bool := decide (1 ≤ l.length ∧ l.length ≤ 8) && l.all legOk
theorem all_no {f : List D0 → Bool} {l : List (List D0)} {i : Nat} (hi : i < l.length) (h : f (l[i]'hi) = false) : l.all f = false := by
  rw [Bool.eq_false_iff]
  intro ha
  rw [List.all_eq_true] at ha
  rw [ha _ (List.getElem_mem hi)] at h; cases h
theorem all_yes {f : List D0 → Bool} {l : List (List D0)} (h : ∀ i (hi : i < l.length), f (l[i]'hi) = true) : l.all f = true := by
  rw [List.all_eq_true]
  intro x hx
  obtain ⟨i, hi, rfl⟩ := List.getElem_of_mem hx
  exact h i hi

theorem spec_LegsOk_c {w : World} {p : Option Addr} {n c : Nat} {l : List (List D0)} (h : RowsR w 4 p n c l) (hc : ∀ x ∈ l, x.map D0.code = [.str, .str, .bool, .ints]) (hn : n ≤ 1048576) (hb : ∀ x ∈ l, bulks x ≤ 1048576) :
    Ret P n_spec_LegsOk [.slice p n c] w fun v w' => v = .bool (legsOk l) ∧ Ext w w' := by
  have hz := h.1; have hcap := h.2.1; have hcm := h.2.2.1
  refine spec_LegsOk_ret ?_
  unfold spec_LegsOk
  refine ⟨fun i wr => ∃ j : Nat, i = j ∧ j ≤ n ∧ Ext w wr ∧ ∀ i (hi : i < l.length), i < j → legOk (l[i]'hi) = true, fun i _ => n - i.toNat, ⟨0, rfl, by omega, Ext.refl _, fun i _ h => absurd h (by omega)⟩, ?_⟩
  intro junk wr i ⟨j, hij, hj, hx, hall⟩
  subst hij
  refine ifD (fun hlt => ?_) (fun hge => ?_)
  · have hjn : j < n := by omega
    have hjl : j < l.length := by omega
    obtain ⟨a, cs, hp, hk, hr, hl⟩ := (h.ext hx).at (P := P) (t := T_impl_Leg) (by kernel_rfl) hjn
    subst hp
    have hrr := hr; have hcode := hc _ (List.getElem_mem hjl); have hbj := hb _ (List.getElem_mem hjl)
    obtain ⟨a0, a1, a2, a3p, a3n, a3c, a3z, rfl, hd, ha⟩ := open_Leg hr hcode
    rw [hd] at hbj
    simp only [bulks, D0.bulk, List.map_cons, List.map_nil, List.sum_cons, List.sum_nil] at hbj
    have bad : legOk [.str a0, .str a1, .bool a2, .ints a3z] = false → legsOk l = false := fun h => by
      unfold legsOk
      rw [all_no hjl (by rw [hd]; exact h), Bool.and_false]
    refine ⟨⟨by omega, by omega⟩, _, _, _, _, _, _, by simpa using hl, ?_⟩
    intro r w2 hn2
    obtain ⟨w3, st, hb3, y3⟩ := hn2.fill (P := P) (t := T_impl_Leg) hrr.cells1 (by kernel_rfl) rfl
    refine ⟨w3, st, _, hb3.loadAt 0 rfl (by kernel_rfl) rfl, ?_⟩
    refine Ret.at (spec_IsWord_c a0 (by omega) _) ?_
    rintro v w4 ⟨hv, hw⟩
    subst hv; subst hw
    refine ⟨_, rfl, ifN (fun hno => ifT ⟨by rw [bad (by simp only [legOk, hno, Bool.false_and])], hx.trans y3⟩) (fun h1 => ?_)⟩
    refine ⟨_, _, _, _, _, hb3.loadAAt 1 [.string a1, .bool a2, .slice a3p a3n a3c] rfl (by kernel_rfl) rfl, ?_⟩
    have hm : Reps w4 [.string a1, .bool a2, .slice a3p a3n a3c] [.str a1, .bool a2, .ints a3z] := ⟨rfl, rfl, ⟨_, _, _, rfl, ha.ext y3⟩, trivial⟩
    refine Ret.at (spec_MoneyOk_c hm rfl) ?_
    rintro v w5 ⟨hv, y5⟩
    subst hv
    refine ⟨_, rfl, ifN (fun hno => ⟨by rw [bad (by simp only [legOk, hno, Bool.and_false])], (hx.trans y3).trans y5⟩) (fun h2 => ?_)⟩
    refine exW ⟨by omega, by omega⟩ ⟨⟨j + 1, by omega, by omega, (hx.trans y3).trans y5, fun i hi hij => ?_⟩, ?_⟩
    · rcases Nat.lt_or_ge i j with h3 | h3
      · exact hall i hi h3
      · have : i = j := by omega
        subst this
        rw [hd]
        simp only [legOk, h1, h2, Bool.and_self]
    · show n - ((j : Int) + 1).toNat < n - (j : Int).toNat
      omega
  · refine Ret.at (spec_l01In_c _ _ _ wr) ?_
    rintro v w4 ⟨hv, hw⟩
    subst hv; subst hw
    refine ⟨_, rfl, ?_, hx⟩
    unfold legsOk
    rw [all_yes fun i hi => hall i hi (by omega), Bool.and_true]
    exact congrArg Value.bool (decide_eq_decide.2 (by omega))

theorem impl_LegsOk_c {w : World} {p : Option Addr} {n c : Nat} {l : List (List D0)} (h : RowsR w 4 p n c l) (hc : ∀ x ∈ l, x.map D0.code = [.str, .str, .bool, .ints]) (hn : n ≤ 1048576) (hb : ∀ x ∈ l, bulks x ≤ 1048576) (ht : Tab w) :
    Ret P n_impl_LegsOk [.slice p n c] w fun v w' => v = .bool (legsOk l) ∧ Ext w w' := by
  have hz := h.1; have hcap := h.2.1; have hcm := h.2.2.1
  refine impl_LegsOk_ret ?_
  unfold impl_LegsOk
  have short : ¬ (1 ≤ l.length ∧ l.length ≤ 8) → legsOk l = false := fun h => by
    unfold legsOk
    rw [decide_eq_false h, Bool.false_and]
  refine ifD (fun h1 => ifT ⟨by rw [short (by omega)], Ext.refl _⟩) (fun h1 => ifD (fun h2 => ⟨by rw [short (by omega)], Ext.refl _⟩) (fun h2 => ?_))
  unfold impl_LegsOk_j0
  refine ⟨fun i wr => ∃ j : Nat, i = j ∧ j ≤ n ∧ Ext w wr ∧ ∀ i (hi : i < l.length), i < j → legOk (l[i]'hi) = true, fun i _ => n - i.toNat, ⟨0, rfl, by omega, Ext.refl _, fun i _ h => absurd h (by omega)⟩, ?_⟩
  intro junk wr i ⟨j, hij, hj, hx, hall⟩
  subst hij
  refine ifD (fun hlt => ?_) (fun hge => ?_)
  · have hjn : j < n := by omega
    have hjl : j < l.length := by omega
    obtain ⟨a, cs, hp, hk, hr, hl⟩ := (h.ext hx).at (P := P) (t := T_impl_Leg) (by kernel_rfl) hjn
    subst hp
    have hrr := hr; have hcode := hc _ (List.getElem_mem hjl); have hbj := hb _ (List.getElem_mem hjl)
    obtain ⟨a0, a1, a2, a3p, a3n, a3c, a3z, rfl, hd, ha⟩ := open_Leg hr hcode
    rw [hd] at hbj
    simp only [bulks, D0.bulk, List.map_cons, List.map_nil, List.sum_cons, List.sum_nil] at hbj
    have bad : legOk [.str a0, .str a1, .bool a2, .ints a3z] = false → legsOk l = false := fun h => by
      unfold legsOk
      rw [all_no hjl (by rw [hd]; exact h), Bool.and_false]
    refine ⟨⟨by omega, by omega⟩, _, _, _, _, _, _, by simpa using hl, ?_⟩
    intro r w2 hn2
    obtain ⟨w3, st, hb3, y3⟩ := hn2.fill (P := P) (t := T_impl_Leg) hrr.cells1 (by kernel_rfl) rfl
    refine ⟨w3, st, _, hb3.loadAt 0 rfl (by kernel_rfl) rfl, ?_⟩
    refine Ret.at (impl_IsWord_c a0 (by omega) _) ?_
    rintro v w4 ⟨hv, hw⟩
    subst hv; subst hw
    refine ⟨_, rfl, ifN (fun hno => ifT ⟨by rw [bad (by simp only [legOk, hno, Bool.false_and])], hx.trans y3⟩) (fun h1 => ?_)⟩
    refine ⟨_, _, _, _, _, hb3.loadAAt 1 [.string a1, .bool a2, .slice a3p a3n a3c] rfl (by kernel_rfl) rfl, ?_⟩
    have hm : Reps w4 [.string a1, .bool a2, .slice a3p a3n a3c] [.str a1, .bool a2, .ints a3z] := ⟨rfl, rfl, ⟨_, _, _, rfl, ha.ext y3⟩, trivial⟩
    refine Ret.at (impl_MoneyOk_c (ht.ext (hx.trans y3)) hm rfl) ?_
    rintro v w5 ⟨hv, y5⟩
    subst hv
    refine ⟨_, rfl, ifN (fun hno => ⟨by rw [bad (by simp only [legOk, hno, Bool.and_false])], (hx.trans y3).trans y5⟩) (fun h2 => ?_)⟩
    refine exW ⟨by omega, by omega⟩ ⟨⟨j + 1, by omega, by omega, (hx.trans y3).trans y5, fun i hi hij => ?_⟩, ?_⟩
    · rcases Nat.lt_or_ge i j with h3 | h3
      · exact hall i hi h3
      · have : i = j := by omega
        subst this
        rw [hd]
        simp only [legOk, h1, h2, Bool.and_self]
    · show n - ((j : Int) + 1).toNat < n - (j : Int).toNat
      omega
  · refine ⟨?_, hx⟩
    unfold legsOk
    rw [all_yes fun i hi => hall i hi (by omega), decide_eq_true (show 1 ≤ l.length ∧ l.length ≤ 8 by omega)]
    rfl

end Go.Proofs.YtfbmjimhjlmhkaaDoor
