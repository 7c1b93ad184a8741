/-
  Contracts: PlanDone, in the program and in the reference.
-/
import Derived.Test.YtoacnglkliioaaaCInt
namespace Go.Proofs.Ytoacnglkliioaaa
open Go Go.Proofs.Ytoacnglkliioaaa.Sx
set_option linter.unusedVariables false
set_option linter.unusedSimpArgs false

/-- the last row's rest -/
def planDone (l : List (List D0)) : Bool := match l.getLast? with
  | some x => intOk (x.drop 7) && decide (isign (x.drop 7) = 0)
  | none => false

theorem rowLast {w : World} {p : Option Addr} {n c : Nat} {l : List (List D0)} (h : RowsR w 9 p n c l) (hc : ∀ x ∈ l, x.map D0.code = [.str, .bool, .ints, .str, .bool, .ints, .str, .bool, .ints]) (hn : 0 < n) :
    ∃ b o s0 b0 p2 n2 c2 z2, p = some ⟨b, o, none⟩ ∧ IntsR w p2 n2 c2 z2 ∧ (l.getLast?.map fun x => x.drop 6) = some [.str s0, .bool b0, .ints z2] ∧ Seg w b (o + (n - 1) * 9 + 6) [.string s0, .bool b0, .slice p2 n2 c2] := by
  have hz := h.1
  obtain ⟨b, o, hp, hs⟩ := h.2.2.2 hn
  have hi : n - 1 < l.length := by omega
  obtain ⟨cs, hk, hr, hseg⟩ := hs (n - 1) l[n - 1] (List.getElem?_eq_getElem hi)
  obtain ⟨a0, a1, a2p, a2n, a2c, a2z, a3, a4, a5p, a5n, a5c, a5z, a6, a7, a8p, a8n, a8c, a8z, rfl, hd, h2, h5, h8⟩ := open_Row hr (hc _ (List.getElem_mem hi))
  refine ⟨b, o, a6, a7, a8p, a8n, a8c, a8z, hp, h8, ?_, hseg.drop 6⟩
  rw [List.getLast?_eq_getElem?, show l.length - 1 = n - 1 by omega, List.getElem?_eq_getElem hi, hd]
  rfl

theorem planDone_eq {l : List (List D0)} {s : ByteArray} {b : Bool} {z : List Int} (h : (l.getLast?.map fun x => x.drop 6) = some [.str s, .bool b, .ints z]) : planDone l = (intOk [.bool b, .ints z] && decide (isign [.bool b, .ints z] = 0)) := by
  unfold planDone
  cases hl : l.getLast? with
  | none => rw [hl] at h; cases h
  | some x =>
    rw [hl] at h
    simp only [Option.map_some, Option.some.injEq] at h
    have : x.drop 7 = [.bool b, .ints z] := by
      have := congrArg (List.drop 1) h
      simpa using this
    simp only [this]

theorem spec_PlanDone_c {w : World} {p : Option Addr} {n c : Nat} {l : List (List D0)} (h : RowsR w 9 p n c l) (hc : ∀ x ∈ l, x.map D0.code = [.str, .bool, .ints, .str, .bool, .ints, .str, .bool, .ints]) :
    Ret P n_spec_PlanDone [.slice p n c] w fun v w' => v = .bool (planDone l) ∧ Ext w w' := by
  refine spec_PlanDone_ret ?_
  unfold spec_PlanDone
  have hz := h.1; have hcap := h.2.1; have hcm := h.2.2.1
  refine ifD (fun hpos => ?_) (fun h0 => ifF ⟨?_, Ext.refl _⟩)
  · obtain ⟨b, o, s0, b0, p2, n2, c2, z2, rfl, hi, hlast, hseg⟩ := rowLast h hc (by omega)
    have e : ((n : Int) - 1).toNat = n - 1 := by omega
    have ea : ((((⟨b, o, none⟩ : Addr).add (((n : Int) - 1).toNat * 9)).add 6).add 1) = ⟨b, (o + (n - 1) * 9 + 6) + 1, none⟩ := by rw [addr_add, addr_add, addr_add, e]
    refine exW ⟨by omega, by omega⟩ ⟨⟨by omega, by omega⟩, _, _, _, _, hseg.loadAAt 1 [.bool b0, .slice p2 n2 c2] ea (by kernel_rfl) rfl, ?_⟩
    refine Ret.at (spec_IntOk_c (dx := [.bool b0, .ints z2]) ⟨rfl, ⟨_, _, _, rfl, hi⟩, trivial⟩ rfl) ?_
    rintro v w1 ⟨hv, y⟩
    subst hv
    refine ⟨_, rfl, fun hok => ?_, fun hno => ⟨by rw [planDone_eq hlast, hno]; rfl, y⟩⟩
    refine exW ⟨by omega, by omega⟩ ⟨⟨by omega, by omega⟩, _, _, _, _, (hseg.ext y).loadAAt 1 [.bool b0, .slice p2 n2 c2] ea (by kernel_rfl) rfl, ?_⟩
    refine Ret.at (spec_IntSign_c (dx := [.bool b0, .ints z2]) ⟨rfl, ⟨_, _, _, rfl, hi.ext y⟩, trivial⟩ rfl) ?_
    rintro v w2 ⟨hv, y2⟩
    subst hv
    exact ⟨_, rfl, by rw [planDone_eq hlast, hok]; rfl, y.trans y2⟩
  · have : l = [] := List.eq_nil_of_length_eq_zero (by omega)
    subst this; rfl

theorem impl_isZero_c {w : World} {xs : List Value} {s : ByteArray} {b : Bool} {z : List Int} (h : Reps w xs [.str s, .bool b, .ints z]) :
    Ret P n_impl_isZero [.agg ⟨xs⟩] w fun v w' => v = .bool (intOk [.bool b, .ints z] && decide (isign [.bool b, .ints z] = 0)) ∧ Ext w w' := by
  obtain ⟨a0, a1, a2p, a2n, a2c, a2z, rfl, hd, ha⟩ := open_Money h rfl
  cases hd
  refine impl_isZero_ret ?_
  unfold impl_isZero
  intro r w1 hn
  refine ⟨_, _, _, _, hn.blk.loadAAt 1 [.bool b, .slice a2p a2n a2c] rfl (by kernel_rfl) rfl, ?_⟩
  refine Ret.at (impl_IntOk_c (dx := [.bool b, .ints z]) ⟨rfl, ⟨_, _, _, rfl, ha.ext hn.ext⟩, trivial⟩ rfl) ?_
  rintro v w2 ⟨hv, y⟩
  subst hv
  have x := hn.ext.trans y
  refine ⟨_, rfl, fun e => ⟨_, _, _, (hn.blk.ext y).loadAt 2 rfl (by kernel_rfl) rfl, ?_, x⟩, fun e => ⟨by rw [e]; rfl, x⟩⟩
  rw [e]
  congr 1
  have hl := ha.1
  simp only [Bool.true_and, isign, e]
  cases z with
  | nil => simp at hl; simp [← hl]
  | cons q qs =>
    simp at hl
    cases b <;> simp [← hl] <;> omega

theorem impl_PlanDone_c {w : World} {p : Option Addr} {n c : Nat} {l : List (List D0)} (h : RowsR w 9 p n c l) (hc : ∀ x ∈ l, x.map D0.code = [.str, .bool, .ints, .str, .bool, .ints, .str, .bool, .ints]) :
    Ret P n_impl_PlanDone [.slice p n c] w fun v w' => v = .bool (planDone l) ∧ Ext w w' := by
  refine impl_PlanDone_ret ?_
  unfold impl_PlanDone
  have hz := h.1; have hcap := h.2.1; have hcm := h.2.2.1
  refine ifD (fun hpos => ?_) (fun h0 => ⟨?_, Ext.refl _⟩)
  · obtain ⟨b, o, s0, b0, p2, n2, c2, z2, rfl, hi, hlast, hseg⟩ := rowLast h hc (by omega)
    have e : ((n : Int) - 1).toNat = n - 1 := by omega
    have ea : (((⟨b, o, none⟩ : Addr).add (((n : Int) - 1).toNat * 9)).add 6) = ⟨b, (o + (n - 1) * 9 + 6) + 0, none⟩ := by rw [addr_add, addr_add, e]
    refine exW ⟨by omega, by omega⟩ ⟨⟨by omega, by omega⟩, _, _, _, _, _, hseg.loadAAt 0 [.string s0, .bool b0, .slice p2 n2 c2] ea (by kernel_rfl) rfl, ?_⟩
    refine Ret.at (impl_isZero_c (s := s0) (b := b0) (z := z2) ⟨rfl, rfl, ⟨_, _, _, rfl, hi⟩, trivial⟩) ?_
    rintro v w1 ⟨hv, y⟩
    subst hv
    exact ⟨_, rfl, by rw [planDone_eq hlast], y⟩
  · have : l = [] := List.eq_nil_of_length_eq_zero (by omega)
    subst this; rfl

end Go.Proofs.Ytoacnglkliioaaa
