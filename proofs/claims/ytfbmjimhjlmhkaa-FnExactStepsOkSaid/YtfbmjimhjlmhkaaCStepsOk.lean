/-
  Contracts: steps of a fee: valid.
-/
import Derived.Test.YtfbmjimhjlmhkaaCTaxRateOk
namespace Go.Proofs.Ytfbmjimhjlmhkaa
open Go Go.Proofs.Ytfbmjimhjlmhkaa.Sx
set_option linter.unusedVariables false
set_option linter.unusedSimpArgs false

def stepFrom : List D0 → Int
  | .int n :: _ => n
  | _ => 0
def stepOk (l : List (List D0)) (i : Nat) : Bool := decide (0 ≤ stepFrom (l.getD i []) ∧ stepFrom (l.getD i []) ≤ 1000000000) && taxOk ((l.getD i []).drop 1) && !(decide (0 < i) && decide (stepFrom (l.getD i []) ≤ stepFrom (l.getD (i - 1) [])))
def stepsOk (l : List (List D0)) : Bool := decide (1 ≤ l.length ∧ l.length ≤ 8) && decide (stepFrom (l.getD 0 []) = 0) && (List.range l.length).all (stepOk l)

theorem steps_no {l : List (List D0)} {i : Nat} (hi : i < l.length) (h : stepOk l i = false) : stepsOk l = false := by
  unfold stepsOk
  have : (List.range l.length).all (stepOk l) = false := by
    rw [Bool.eq_false_iff]
    intro ha
    rw [List.all_eq_true] at ha
    have := ha i (List.mem_range.2 hi)
    rw [h] at this; cases this
  rw [this, Bool.and_false]
theorem steps_yes {l : List (List D0)} (h1 : 1 ≤ l.length ∧ l.length ≤ 8) (h2 : stepFrom (l.getD 0 []) = 0) (h : ∀ i < l.length, stepOk l i = true) : stepsOk l = true := by
  unfold stepsOk
  have : (List.range l.length).all (stepOk l) = true := by
    rw [List.all_eq_true]
    exact fun i hi => h i (List.mem_range.1 hi)
  rw [this, decide_eq_true h1, decide_eq_true h2]; rfl
theorem getD_lt {α : Type} {l : List α} {i : Nat} {d : α} (h : i < l.length) : l.getD i d = l[i] := by
  rw [List.getD_eq_getElem?_getD, List.getElem?_eq_getElem h]; rfl

theorem spec_StepsOk_c {w : World} {p : Option Addr} {n c : Nat} {l : List (List D0)} (h : RowsR w 4 p n c l) (hc : ∀ x ∈ l, x.map D0.code = [.int, .bool, .ints, .int]) :
    Ret P n_spec_StepsOk [.slice p n c] w fun v w' => v = .bool (stepsOk l) ∧ Ext w w' := by
  have hz := h.1; have hcap := h.2.1; have hcm := h.2.2.1
  refine spec_StepsOk_ret ?_
  unfold spec_StepsOk
  refine Ret.at (spec_l01In_c _ _ _ w) ?_
  rintro v w1 ⟨hv, hw⟩
  subst hv; subst hw
  refine ⟨_, rfl, ifN (fun hno => ifT ⟨?_, Ext.refl _⟩) (fun hok => ?_)⟩
  · have hno := of_decide_eq_false hno
    unfold stepsOk
    rw [show decide (1 ≤ l.length ∧ l.length ≤ 8) = false by simp; omega]
    rfl
  have hok := of_decide_eq_true hok
  have hlen : 1 ≤ l.length ∧ l.length ≤ 8 := by omega
  obtain ⟨a, cs, hp, hk, hr, hl⟩ := h.at (P := P) (t := T_impl_Step) (by kernel_rfl) (i := 0) (by omega)
  obtain ⟨b, off, hpp, hs⟩ := h.2.2.2 (by omega)
  have first : ∀ i (hi : i < l.length), ∀ W, Ext w1 W → Loads P T_int (((⟨b, off, none⟩ : Addr).add (i * 4)).add 0) (.int .i64 (stepFrom (l.getD i []))) W := by
    intro i hi W hW
    obtain ⟨cs, hk, hr, hsg⟩ := hs i _ (List.getElem?_eq_getElem hi)
    obtain ⟨a0, a1, a2p, a2n, a2c, a2z, a3, rfl, hd, _⟩ := open_Step hr (hc _ (List.getElem_mem hi))
    rw [getD_lt hi, hd]
    exact (hsg.ext hW).loadAt 0 (by simp [Addr.add]) (by kernel_rfl) rfl
  subst hpp
  refine ⟨⟨by omega, by omega⟩, _, by simpa using first 0 (by omega) w1 (Ext.refl _), ifD (fun hne => ⟨?_, Ext.refl _⟩) (fun he => ?_)⟩
  · unfold stepsOk
    rw [show decide (stepFrom (l.getD 0 []) = 0) = false by simpa using hne, Bool.and_false]
    rfl
  have he : stepFrom (l.getD 0 []) = 0 := by simpa using he
  unfold spec_StepsOk_j0
  refine ⟨fun i wr => ∃ j : Nat, i = j ∧ j ≤ n ∧ Ext w1 wr ∧ ∀ i < j, stepOk l i = true, fun i _ => n - i.toNat, ⟨0, rfl, by omega, Ext.refl _, by simp⟩, ?_⟩
  intro junk wr i ⟨j, hij, hj, hx, hall⟩
  subst hij
  refine ifD (fun hlt => ?_) (fun hge => ⟨?_, hx⟩)
  · have hjn : j < n := by omega
    have hjl : j < l.length := by omega
    obtain ⟨a, cs, hp, hk, hr, hl⟩ := (h.ext hx).at (P := P) (t := T_impl_Step) (by kernel_rfl) hjn
    cases hp
    have hrr := hr; have hcode := hc _ (List.getElem_mem hjl)
    obtain ⟨a0, a1, a2p, a2n, a2c, a2z, a3, rfl, hd, ha⟩ := open_Step hr hcode
    have hgd : l.getD j [] = [.int a0, .bool a1, .ints a2z, .int a3] := by rw [getD_lt hjl, hd]
    refine ⟨⟨by omega, by omega⟩, _, _, _, _, _, _, by simpa using hl, ?_⟩
    intro r w2 hn2
    obtain ⟨w3, st, hb3, y3⟩ := hn2.fill (P := P) (t := T_impl_Step) hrr.cells1 (by kernel_rfl) rfl
    have D := Ext.drew w3
    have x3 := (hx.trans y3).trans D
    have hb4 := hb3.ext D
    refine ⟨w3, st, _, fun W hW => (hb4.ext hW).loadAt 0 rfl (by kernel_rfl) rfl, ?_⟩
    refine Ret.at (spec_l01In_c _ _ _ _) ?_
    rintro v w4 ⟨hv, hw⟩
    subst hv; subst hw
    refine ⟨_, rfl, ifN (fun hno => ifT (ifT ⟨?_, x3⟩)) (fun hin => ?_)⟩
    · rw [steps_no hjl]
      simp only [stepOk, hgd, stepFrom, hno, Bool.false_and]
    refine ⟨_, _, _, _, _, fun W hW => (hb4.ext hW).loadAAt 1 [.bool a1, .slice a2p a2n a2c, .int .i64 a3] rfl (by kernel_rfl) rfl, ?_⟩
    have hdec : Reps w3.drew [.bool a1, .slice a2p a2n a2c, .int .i64 a3] [.bool a1, .ints a2z, .int a3] := ⟨rfl, ⟨_, _, _, rfl, ha.ext (y3.trans D)⟩, rfl, trivial⟩
    refine Ret.at (spec_TaxRateOk_c hdec rfl) ?_
    rintro v w5 ⟨hv, y5⟩
    subst hv
    have x5 := x3.trans y5
    have next : ∀ W, Ext w1 W → stepOk l j = true → ∃ t48 : Int, t48 = IntKind.wrap .i64 ((j : Int) + 1) ∧ (fun (i : Int) (wr : World) => ∃ j : Nat, i = j ∧ j ≤ n ∧ Ext w1 wr ∧ ∀ i < j, stepOk l i = true) t48 W ∧ (fun (i : Int) (_ : World) => n - i.toNat) t48 W < (fun (i : Int) (_ : World) => n - i.toNat) (j : Int) wr := by
      intro W hW hs
      refine exW ⟨by omega, by omega⟩ ⟨⟨j + 1, by omega, by omega, hW, fun i hi => ?_⟩, ?_⟩
      · rcases Nat.lt_or_ge i j with h | h
        · exact hall i h
        · have : i = j := by omega
          subst this; exact hs
      · show n - ((j : Int) + 1).toNat < n - (j : Int).toNat
        omega
    refine ⟨_, rfl, ifN (fun hno => ifT ⟨?_, x5⟩) (fun htax => ?_)⟩
    · rw [steps_no hjl]
      simp only [stepOk, hgd, stepFrom, List.drop_succ_cons, List.drop_zero, hno, Bool.and_false, Bool.false_and]
    refine ifD (fun hpos => ?_) (fun hzero => ifF (next _ x5 ?_))
    · refine exW ⟨by omega, by omega⟩ ⟨⟨by omega, by omega⟩, stepFrom (l.getD (j - 1) []), fun W hW => ?_, _, fun W hW => ((hb4.ext y5).ext hW).loadAt 0 rfl (by kernel_rfl) rfl, ifD (fun hle => ⟨?_, x5⟩) (fun hgt => next _ x5 ?_)⟩
      · have := first (j - 1) (by omega) W (x5.trans hW)
        rw [show ((j : Int) - 1).toNat = j - 1 by omega]
        exact this
      · rw [steps_no hjl]
        simp only [stepOk, hgd]
        rw [decide_eq_true (show stepFrom [.int a0, .bool a1, .ints a2z, .int a3] ≤ stepFrom (l.getD (j - 1) []) from hle), decide_eq_true (show 0 < j by omega)]
        simp
      · simp only [stepOk, hgd]
        rw [decide_eq_false (show ¬ stepFrom [.int a0, .bool a1, .ints a2z, .int a3] ≤ stepFrom (l.getD (j - 1) []) from hgt)]
        simp only [stepFrom, List.drop_succ_cons, List.drop_zero, htax, Bool.and_false, Bool.not_false, Bool.and_true]
        exact hin
    · have h0 : j = 0 := by omega
      subst h0
      simp only [stepOk, hgd, stepFrom, List.drop_succ_cons, List.drop_zero, htax, Nat.lt_irrefl, decide_false, Bool.false_and, Bool.not_false, Bool.and_true]
      exact hin
  · rw [steps_yes hlen he (fun i hi => hall i (by omega))]

theorem impl_StepsOk_c {w : World} {p : Option Addr} {n c : Nat} {l : List (List D0)} (h : RowsR w 4 p n c l) (hc : ∀ x ∈ l, x.map D0.code = [.int, .bool, .ints, .int]) :
    Ret P n_impl_StepsOk [.slice p n c] w fun v w' => v = .bool (stepsOk l) ∧ Ext w w' := by
  have hz := h.1; have hcap := h.2.1; have hcm := h.2.2.1
  refine impl_StepsOk_ret ?_
  unfold impl_StepsOk
  have bad : ¬ (1 ≤ l.length ∧ l.length ≤ 8) → stepsOk l = false := fun hno => by
    unfold stepsOk
    rw [show decide (1 ≤ l.length ∧ l.length ≤ 8) = false by simpa using hno]
    rfl
  refine ifD (fun hlt => ifT (ifT ⟨by rw [bad (by omega)], Ext.refl _⟩)) (fun hge1 => ifD (fun hgt => ifT ⟨by rw [bad (by omega)], Ext.refl _⟩) (fun hle8 => ?_))
  have hlen : 1 ≤ l.length ∧ l.length ≤ 8 := by omega
  obtain ⟨b, off, hpp, hs⟩ := h.2.2.2 (by omega)
  have first : ∀ i (hi : i < l.length), ∀ W, Ext w W → Loads P T_int (((⟨b, off, none⟩ : Addr).add (i * 4)).add 0) (.int .i64 (stepFrom (l.getD i []))) W := by
    intro i hi W hW
    obtain ⟨cs, hk, hr, hsg⟩ := hs i _ (List.getElem?_eq_getElem hi)
    obtain ⟨a0, a1, a2p, a2n, a2c, a2z, a3, rfl, hd, _⟩ := open_Step hr (hc _ (List.getElem_mem hi))
    rw [getD_lt hi, hd]
    exact (hsg.ext hW).loadAt 0 (by simp [Addr.add]) (by kernel_rfl) rfl
  subst hpp
  refine ⟨⟨by omega, by omega⟩, _, by simpa using first 0 (by omega) w (Ext.refl _), ifD (fun hne => ⟨?_, Ext.refl _⟩) (fun he => ?_)⟩
  · unfold stepsOk
    rw [show decide (stepFrom (l.getD 0 []) = 0) = false by simpa using hne, Bool.and_false]
    rfl
  have he : stepFrom (l.getD 0 []) = 0 := by simpa using he
  unfold impl_StepsOk_j0
  refine ⟨fun i wr => ∃ j : Nat, i = j ∧ j ≤ n ∧ Ext w wr ∧ ∀ i < j, stepOk l i = true, fun i _ => n - i.toNat, ⟨0, rfl, by omega, Ext.refl _, by simp⟩, ?_⟩
  intro junk wr i ⟨j, hij, hj, hx, hall⟩
  subst hij
  refine ifD (fun hlt => ?_) (fun hge => ⟨?_, hx⟩)
  · have hjn : j < n := by omega
    have hjl : j < l.length := by omega
    obtain ⟨a, cs, hp, hk, hr, hl⟩ := (h.ext hx).at (P := P) (t := T_impl_Step) (by kernel_rfl) hjn
    cases hp
    have hrr := hr; have hcode := hc _ (List.getElem_mem hjl)
    obtain ⟨a0, a1, a2p, a2n, a2c, a2z, a3, rfl, hd, ha⟩ := open_Step hr hcode
    have hgd : l.getD j [] = [.int a0, .bool a1, .ints a2z, .int a3] := by rw [getD_lt hjl, hd]
    have hprev : 0 < j → 0 ≤ stepFrom (l.getD (j - 1) []) := fun h0 => by
      have := hall (j - 1) (by omega)
      simp only [stepOk, Bool.and_eq_true, decide_eq_true_eq] at this
      exact this.1.1.1
    have h00 : j = 0 → a0 = 0 := fun h0 => by
      subst h0
      rw [hgd] at he; exact he
    refine ⟨⟨by omega, by omega⟩, _, _, _, _, _, _, by simpa using hl, ?_⟩
    intro r w2 hn2
    obtain ⟨w3, st, hb3, y3⟩ := hn2.fill (P := P) (t := T_impl_Step) hrr.cells1 (by kernel_rfl) rfl
    have D := Ext.drew w3
    have x3 := (hx.trans y3).trans D
    have hb4 := hb3.ext D
    have next : ∀ W, Ext w W → stepOk l j = true → ∃ t48 : Int, t48 = IntKind.wrap .i64 ((j : Int) + 1) ∧ (fun (i : Int) (wr : World) => ∃ j : Nat, i = j ∧ j ≤ n ∧ Ext w wr ∧ ∀ i < j, stepOk l i = true) t48 W ∧ (fun (i : Int) (_ : World) => n - i.toNat) t48 W < (fun (i : Int) (_ : World) => n - i.toNat) (j : Int) wr := by
      intro W hW hs
      refine exW ⟨by omega, by omega⟩ ⟨⟨j + 1, by omega, by omega, hW, fun i hi => ?_⟩, ?_⟩
      · rcases Nat.lt_or_ge i j with h | h
        · exact hall i h
        · have : i = j := by omega
          subst this; exact hs
      · show n - ((j : Int) + 1).toNat < n - (j : Int).toNat
        omega
    have hdec : Reps w3.drew [.bool a1, .slice a2p a2n a2c, .int .i64 a3] [.bool a1, .ints a2z, .int a3] := ⟨rfl, ⟨_, _, _, rfl, ha.ext (y3.trans D)⟩, rfl, trivial⟩
    -- the rate, when the rest is well
    have rate : (0 ≤ a0 ∧ a0 ≤ 1000000000) → (0 < j → stepFrom (l.getD (j - 1) []) < a0) → ∃ (t470 : Bool) (t471_p : Option Addr) (t471_n : Nat) (t471_c : Nat) (t472 : Int), (∀ wv_8, Ext w3.drew wv_8 → Loads P T_impl_Dec ((⟨r, 0, none⟩ : Addr).add 1) (.agg #[(.bool t470), (.slice t471_p t471_n t471_c), (.int .i64 t472)]) wv_8) ∧ Calls P n_impl_TaxRateOk ⟨[(.agg #[(.bool t470), (.slice t471_p t471_n t471_c), (.int .i64 t472)])]⟩ w3.drew fun e_1 wv_9 =>
        ∃ (t48 : Bool), e_1 = .returned (.bool t48) ∧
        ((!t48) = true → (fun (v : Value) (w' : World) => v = .bool (stepsOk l) ∧ Ext w w') (.bool false) wv_9) ∧
        ((!t48) = false → ∃ t51 : Int, t51 = IntKind.wrap .i64 ((j : Int) + 1) ∧ (fun (i : Int) (wr : World) => ∃ j : Nat, i = j ∧ j ≤ n ∧ Ext w wr ∧ ∀ i < j, stepOk l i = true) t51 wv_9 ∧ (fun (i : Int) (_ : World) => n - i.toNat) t51 wv_9 < (fun (i : Int) (_ : World) => n - i.toNat) (j : Int) wr) := by
      intro hin hgt
      refine ⟨_, _, _, _, _, fun W hW => (hb4.ext hW).loadAAt 1 [.bool a1, .slice a2p a2n a2c, .int .i64 a3] rfl (by kernel_rfl) rfl, ?_⟩
      refine Ret.at (impl_TaxRateOk_c hdec rfl) ?_
      rintro v w5 ⟨hv, y5⟩
      subst hv
      have x5 := x3.trans y5
      refine ⟨_, rfl, ifN (fun hno => ⟨?_, x5⟩) (fun htax => next _ x5 ?_)⟩
      · rw [steps_no hjl]
        simp only [stepOk, hgd, stepFrom, List.drop_succ_cons, List.drop_zero, hno, Bool.and_false, Bool.false_and]
      · have hg : (decide (0 < j) && decide (a0 ≤ stepFrom (l.getD (j - 1) []))) = false := by
          simp only [Bool.and_eq_false_iff, decide_eq_false_iff_not]
          rcases Nat.eq_zero_or_pos j with h | h
          · exact .inl (by omega)
          · have := hgt h; exact .inr (by omega)
        unfold stepOk
        rw [hgd, show (decide (0 < j) && decide (stepFrom [D0.int a0, .bool a1, .ints a2z, .int a3] ≤ stepFrom (l.getD (j - 1) []))) = false from hg]
        simp only [stepFrom, List.drop_succ_cons, List.drop_zero, htax, Bool.not_false, Bool.and_true]
        exact decide_eq_true hin
    refine ⟨w3, st, _, fun W hW => (hb4.ext hW).loadAt 0 rfl (by kernel_rfl) rfl, ifD (fun hbig => ifT (ifT ⟨?_, x3⟩)) (fun hsmall => ?_)⟩
    · rw [steps_no hjl]
      simp only [stepOk, hgd, stepFrom, show decide (0 ≤ a0 ∧ a0 ≤ 1000000000) = false by simp; omega, Bool.false_and]
    refine ifD (fun hpos => ?_) (fun hzero => ifF (rate ?_ ?_))
    · refine exW ⟨by omega, by omega⟩ ⟨⟨by omega, by omega⟩, stepFrom (l.getD (j - 1) []), fun W hW => ?_, _, fun W hW => (hb4.ext hW).loadAt 0 rfl (by kernel_rfl) rfl, ifD (fun hle => ifT ⟨?_, x3⟩) (fun hgt => rate ?_ ?_)⟩
      · have := first (j - 1) (by omega) W (x3.trans hW)
        rw [show ((j : Int) - 1).toNat = j - 1 by omega]
        exact this
      · rw [steps_no hjl]
        simp only [stepOk, hgd]
        rw [decide_eq_true (show stepFrom [.int a0, .bool a1, .ints a2z, .int a3] ≤ stepFrom (l.getD (j - 1) []) from hle), decide_eq_true (show 0 < j by omega)]
        simp
      · have := hprev (by omega)
        omega
      · intro _; omega
    · have := h00 (by omega)
      omega
    · intro h0; omega
  · rw [steps_yes hlen he (fun i hi => hall i (by omega))]

end Go.Proofs.Ytfbmjimhjlmhkaa
