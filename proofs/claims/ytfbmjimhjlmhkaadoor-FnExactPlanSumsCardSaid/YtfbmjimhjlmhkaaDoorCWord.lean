/-
  Contracts: words; amounts: valid.
-/
import Derived.Test.YtfbmjimhjlmhkaaDoorCCurr
import Derived.Test.YtfbmjimhjlmhkaaDoorCInt
namespace Go.Proofs.YtfbmjimhjlmhkaaDoor
open Go Go.Proofs.YtfbmjimhjlmhkaaDoor.Sx
set_option linter.unusedVariables false
set_option linter.unusedSimpArgs false

def bAt (s : ByteArray) (i : Nat) : Int := (((s[i]?).getD 0).toNat : Nat)
def okB (lo hi low high b : Int) : Bool := !((decide (b < lo) || decide (hi < b)) && (decide (b < low) || decide (high < b)))
def isAll (s : ByteArray) (lo hi low high : Int) : Bool := decide (0 < s.size) && (List.range s.size).all fun i => okB lo hi low high (bAt s i)
def isWord (s : ByteArray) : Bool := isAll s 97 122 48 57 && decide (s.size ≤ 12) && decide (97 ≤ bAt s 0)

theorem byte_at {s : ByteArray} {i : Nat} (h : i < s.size) : ∃ b : UInt8, s[((i : Nat) : Int).toNat]? = some b ∧ bAt s i = (b.toNat : Nat) := by
  have e : s[i]? = some (s[i]'h) := getElem?_pos s i h
  exact ⟨s[i]'h, by rw [Int.toNat_natCast]; exact e, by unfold bAt; rw [e]; rfl⟩
theorem isAll_no {s : ByteArray} {lo hi low high : Int} {i : Nat} (hi' : i < s.size) (h : okB lo hi low high (bAt s i) = false) : isAll s lo hi low high = false := by
  unfold isAll
  have : ((List.range s.size).all fun i => okB lo hi low high (bAt s i)) = false := by
    rw [Bool.eq_false_iff]
    intro ha
    rw [List.all_eq_true] at ha
    have := ha i (List.mem_range.2 hi')
    rw [h] at this; cases this
  rw [this, Bool.and_false]
theorem isAll_yes {s : ByteArray} {lo hi low high : Int} (h : ∀ i < s.size, okB lo hi low high (bAt s i) = true) : isAll s lo hi low high = decide (0 < s.size) := by
  unfold isAll
  have : ((List.range s.size).all fun i => okB lo hi low high (bAt s i)) = true := by
    rw [List.all_eq_true]
    exact fun i hi => h i (List.mem_range.1 hi)
  rw [this, Bool.and_true]

theorem spec_l01All_c (s : ByteArray) (lo hi low high : Int) (hs : s.size ≤ 9000000000000000000) (w : World) :
    Ret P n_spec_l01All [.string s, .int .u8 lo, .int .u8 hi, .int .u8 low, .int .u8 high] w fun v w' => v = .bool (isAll s lo hi low high) ∧ w' = w := by
  refine spec_l01All_ret ?_
  unfold spec_l01All
  refine ⟨fun i wr => ∃ j : Nat, i = j ∧ j ≤ s.size ∧ wr = w ∧ ∀ k < j, okB lo hi low high (bAt s k) = true, fun i _ => s.size - i.toNat, ⟨0, rfl, by omega, rfl, by simp⟩, ?_⟩
  intro junk wr i ⟨j, hij, hj, hw, hall⟩
  subst hij; subst hw
  refine ifD (fun hlt => ?_) (fun hge => ⟨?_, rfl⟩)
  · have hjs : j < s.size := by omega
    obtain ⟨b, hb, e⟩ := byte_at hjs
    have bad : okB lo hi low high (b.toNat : Nat) = false → (fun (v : Value) (w' : World) => v = .bool (isAll s lo hi low high) ∧ w' = wr) (.bool false) wr := fun h => ⟨by rw [isAll_no hjs (by rw [e]; exact h)], rfl⟩
    have next : okB lo hi low high (b.toNat : Nat) = true → ∃ t17 : Int, t17 = IntKind.wrap .i64 ((j : Int) + 1) ∧ (fun (i : Int) (wr' : World) => ∃ j : Nat, i = j ∧ j ≤ s.size ∧ wr' = wr ∧ ∀ k < j, okB lo hi low high (bAt s k) = true) t17 wr ∧ (fun (i : Int) (_ : World) => s.size - i.toNat) t17 wr < (fun (i : Int) (_ : World) => s.size - i.toNat) (j : Int) wr := by
      intro h
      refine exW ⟨by omega, by omega⟩ ⟨⟨j + 1, by omega, by omega, rfl, fun k hk => ?_⟩, ?_⟩
      · rcases Nat.lt_or_ge k j with h1 | h1
        · exact hall k h1
        · have : k = j := by omega
          subst this; rw [e]; exact h
      · show s.size - ((j : Int) + 1).toNat < s.size - (j : Int).toNat
        omega
    refine ⟨by omega, b, hb, ifD (fun h1 => ifT ⟨by omega, b, hb, ifD (fun h2 => ifT (bad ?_)) (fun h2 => ⟨by omega, b, hb, ifD (fun h3 => bad ?_) (fun h3 => next ?_)⟩)⟩) (fun h1 => ⟨by omega, b, hb, ifD (fun h2 => ⟨by omega, b, hb, ifD (fun h3 => ifT (bad ?_)) (fun h3 => ⟨by omega, b, hb, ifD (fun h4 => bad ?_) (fun h4 => next ?_)⟩)⟩) (fun h2 => ifF (next ?_))⟩)⟩
    all_goals (simp [okB]; omega)
  · rw [isAll_yes (fun i hi => hall i (by omega))]
    congr 1
    simp

theorem spec_IsWord_c (s : ByteArray) (hs : s.size ≤ 9000000000000000000) (w : World) : Ret P n_spec_IsWord [.string s] w fun v w' => v = .bool (isWord s) ∧ w' = w := by
  refine spec_IsWord_ret ?_
  unfold spec_IsWord
  refine Ret.at (spec_l01All_c s 97 122 48 57 hs w) ?_
  rintro v w1 ⟨hv, hw⟩
  subst hv; subst hw
  refine ⟨_, rfl, fun h1 => ifD (fun h2 => ?_) (fun h2 => ⟨?_, rfl⟩), fun h1 => ifF ⟨?_, rfl⟩⟩
  · have h0 : 0 < s.size := by
      unfold isAll at h1
      simp only [Bool.and_eq_true, decide_eq_true_eq] at h1
      exact h1.1
    obtain ⟨b, hb, e⟩ := byte_at h0
    refine ⟨by omega, b, hb, ?_, rfl⟩
    unfold isWord
    rw [h1, e, decide_eq_true (show s.size ≤ 12 by omega)]
    simp
  · unfold isWord
    rw [decide_eq_false (show ¬ s.size ≤ 12 by omega)]
    simp
  · unfold isWord
    rw [h1]
    simp

theorem impl_isLower_c (c : Int) (w : World) : Ret P n_impl_isLower [.int .u8 c] w fun v w' => v = .bool (decide (97 ≤ c ∧ c ≤ 122)) ∧ w' = w := by
  refine impl_isLower_ret ?_
  unfold impl_isLower
  refine ifD (fun h => ⟨?_, rfl⟩) (fun h => ⟨?_, rfl⟩) <;> simp [h]

theorem impl_isDigit_c (c : Int) (w : World) : Ret P n_impl_isDigit [.int .u8 c] w fun v w' => v = .bool (decide (48 ≤ c ∧ c ≤ 57)) ∧ w' = w := by
  refine impl_isDigit_ret ?_
  unfold impl_isDigit
  refine ifD (fun h => ⟨?_, rfl⟩) (fun h => ⟨?_, rfl⟩) <;> simp [h]

theorem impl_IsWord_c (s : ByteArray) (hs : s.size ≤ 9000000000000000000) (w : World) : Ret P n_impl_IsWord [.string s] w fun v w' => v = .bool (isWord s) ∧ w' = w := by
  refine impl_IsWord_ret ?_
  unfold impl_IsWord
  refine ifD (fun h => ifT (ifT ⟨?_, rfl⟩)) (fun h0 => ifD (fun h => ifT ⟨?_, rfl⟩) (fun h1 => ?_))
  · unfold isWord isAll
    rw [decide_eq_false (show ¬ 0 < s.size by omega)]
    simp
  · unfold isWord
    rw [decide_eq_false (show ¬ s.size ≤ 12 by omega)]
    simp
  have hp : 0 < s.size := by omega
  obtain ⟨b, hb, e⟩ := byte_at hp
  refine ⟨by omega, b, hb, ?_⟩
  refine Ret.at (impl_isLower_c _ w) ?_
  rintro v w1 ⟨hv, hw⟩
  subst hv; subst hw
  refine ⟨_, rfl, ifN (fun hno => ⟨?_, rfl⟩) (fun hlow => ?_)⟩
  · have hno := of_decide_eq_false hno
    by_cases h97 : 97 ≤ bAt s 0
    · unfold isWord
      rw [isAll_no hp (by rw [e] at h97 ⊢; simp [okB]; omega)]
      simp
    · unfold isWord
      rw [decide_eq_false h97]
      simp
  have hlow := of_decide_eq_true hlow
  unfold impl_IsWord_j0
  refine ⟨fun i wr => ∃ j : Nat, i = j ∧ 1 ≤ j ∧ j ≤ s.size ∧ wr = w1 ∧ ∀ k < j, okB 97 122 48 57 (bAt s k) = true, fun i _ => s.size - i.toNat, ⟨1, rfl, by omega, by omega, rfl, fun k hk => ?_⟩, ?_⟩
  · have : k = 0 := by omega
    subst this
    rw [e]; simp [okB]; omega
  intro junk wr i ⟨j, hij, hj1, hj, hw, hall⟩
  subst hij; subst hw
  refine ifD (fun hlt => ?_) (fun hge => ⟨?_, rfl⟩)
  · have hjs : j < s.size := by omega
    obtain ⟨b, hb, e⟩ := byte_at hjs
    have next : okB 97 122 48 57 (b.toNat : Nat) = true → ∃ t17 : Int, t17 = IntKind.wrap .i64 ((j : Int) + 1) ∧ (fun (i : Int) (wr' : World) => ∃ j : Nat, i = j ∧ 1 ≤ j ∧ j ≤ s.size ∧ wr' = wr ∧ ∀ k < j, okB 97 122 48 57 (bAt s k) = true) t17 wr ∧ (fun (i : Int) (_ : World) => s.size - i.toNat) t17 wr < (fun (i : Int) (_ : World) => s.size - i.toNat) (j : Int) wr := by
      intro h
      refine exW ⟨by omega, by omega⟩ ⟨⟨j + 1, by omega, by omega, by omega, rfl, fun k hk => ?_⟩, ?_⟩
      · rcases Nat.lt_or_ge k j with h1 | h1
        · exact hall k h1
        · have : k = j := by omega
          subst this; rw [e]; exact h
      · show s.size - ((j : Int) + 1).toNat < s.size - (j : Int).toNat
        omega
    refine ⟨by omega, b, hb, ?_⟩
    refine Ret.at (impl_isLower_c _ wr) ?_
    rintro v w1 ⟨hv, hw⟩
    subst hv; subst hw
    refine ⟨_, rfl, ifN (fun hno => ⟨by omega, b, hb, ?_⟩) (fun hyes => ifF (next ?_))⟩
    · have hno := of_decide_eq_false hno
      refine Ret.at (impl_isDigit_c _ _) ?_
      rintro v w2 ⟨hv, hw⟩
      subst hv; subst hw
      refine ⟨_, rfl, ifN (fun hno2 => ⟨?_, rfl⟩) (fun hyes2 => next ?_)⟩
      · have hno2 := of_decide_eq_false hno2
        unfold isWord
        rw [isAll_no hjs (by rw [e]; simp [okB]; omega)]
        simp
      · have hyes2 := of_decide_eq_true hyes2
        simp [okB]; omega
    · have hyes := of_decide_eq_true hyes
      simp [okB]; omega
  · unfold isWord
    rw [isAll_yes (fun i hi => hall i (by omega)), decide_eq_true (show s.size ≤ 12 by omega), decide_eq_true hp, e, decide_eq_true (show (97 : Int) ≤ (b.toNat : Nat) by omega)]
    rfl

def moneyOk : List D0 → Bool
  | [.str c, .bool b, .ints z] => curKnown c && intOk [.bool b, .ints z] && decide (z.length ≤ 4)
  | _ => false

theorem spec_MoneyOk_c {w : World} {xs : List Value} {dx : List D0} (h : Reps w xs dx) (hc : dx.map D0.code = [.str, .bool, .ints]) :
    Ret P n_spec_MoneyOk [.agg ⟨xs⟩] w fun v w' => v = .bool (moneyOk dx) ∧ Ext w w' := by
  obtain ⟨t0, a0, a1p, a1n, a1c, a1z, rfl, rfl, ha⟩ := open_Money h hc
  have hl := ha.1
  refine spec_MoneyOk_ret ?_
  unfold spec_MoneyOk
  intro r w1 hn1
  refine ⟨_, hn1.blk.loadAt 0 rfl (by kernel_rfl) rfl, ?_⟩
  refine Ret.at (spec_CurKnown_c t0) ?_
  rintro v w2 ⟨hv, y2⟩
  subst hv
  have X := hn1.ext.trans y2
  have b := hn1.blk.ext y2
  refine ⟨_, rfl, fun e1 => ?_, fun e1 => ifF ⟨by simp only [moneyOk, e1, Bool.false_and], X⟩⟩
  refine ⟨_, _, _, _, b.loadAAt 1 [.bool a0, .slice a1p a1n a1c] rfl (by kernel_rfl) rfl, ?_⟩
  have hs : Reps w2 [.bool a0, .slice a1p a1n a1c] [.bool a0, .ints a1z] := ⟨rfl, ⟨_, _, _, rfl, ha.ext X⟩, trivial⟩
  refine Ret.at (spec_IntOk_c hs rfl) ?_
  rintro v w3 ⟨hv, y3⟩
  subst hv
  refine ⟨_, rfl, fun e2 => ⟨_, _, _, (b.ext y3).loadAt 2 rfl (by kernel_rfl) rfl, ?_, X.trans y3⟩, fun e2 => ⟨by simp only [moneyOk, e2, Bool.and_false, Bool.false_and], X.trans y3⟩⟩
  simp only [moneyOk, e1, e2, Bool.true_and]
  congr 1
  simp; omega

theorem impl_MoneyOk_c {w : World} (ht : Tab w) {xs : List Value} {dx : List D0} (h : Reps w xs dx) (hc : dx.map D0.code = [.str, .bool, .ints]) :
    Ret P n_impl_MoneyOk [.agg ⟨xs⟩] w fun v w' => v = .bool (moneyOk dx) ∧ Ext w w' := by
  obtain ⟨t0, a0, a1p, a1n, a1c, a1z, rfl, rfl, ha⟩ := open_Money h hc
  have hl := ha.1
  refine impl_MoneyOk_ret ?_
  unfold impl_MoneyOk
  intro r w1 hn1
  refine ⟨_, hn1.blk.loadAt 0 rfl (by kernel_rfl) rfl, ?_⟩
  refine Ret.at (impl_CurKnown_c (ht.ext hn1.ext) t0) ?_
  rintro v w2 ⟨hv, y2⟩
  subst hv
  have X := hn1.ext.trans y2
  have b := hn1.blk.ext y2
  refine ⟨_, rfl, fun e1 => ?_, fun e1 => ifF ⟨by simp only [moneyOk, e1, Bool.false_and], X⟩⟩
  refine ⟨_, _, _, _, b.loadAAt 1 [.bool a0, .slice a1p a1n a1c] rfl (by kernel_rfl) rfl, ?_⟩
  have hs : Reps w2 [.bool a0, .slice a1p a1n a1c] [.bool a0, .ints a1z] := ⟨rfl, ⟨_, _, _, rfl, ha.ext X⟩, trivial⟩
  refine Ret.at (impl_IntOk_c hs rfl) ?_
  rintro v w3 ⟨hv, y3⟩
  subst hv
  refine ⟨_, rfl, fun e2 => ⟨_, _, _, (b.ext y3).loadAt 2 rfl (by kernel_rfl) rfl, ?_, X.trans y3⟩, fun e2 => ⟨by simp only [moneyOk, e2, Bool.and_false, Bool.false_and], X.trans y3⟩⟩
  simp only [moneyOk, e1, e2, Bool.true_and]
  congr 1
  simp; omega

end Go.Proofs.YtfbmjimhjlmhkaaDoor
