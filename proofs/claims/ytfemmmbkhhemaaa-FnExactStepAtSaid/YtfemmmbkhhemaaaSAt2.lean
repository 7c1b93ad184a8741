/-
  Parts of the proof of stepAt_holds: G1, G2, GData, SxMem, Nm, SxData, SxOwn, DInts.
  Conditions: none.
-/
import Derived.Laws.AppendOwn
import Derived.Laws.CopyRow
import Derived.Test.YtfemmmbkhhemaaaSAt1

namespace Go.Proofs.Ytfemmmbkhhemaaa
open Go Go.Proofs.Ytfemmmbkhhemaaa.Sx
set_option linter.unusedVariables false
set_option maxRecDepth 100000
def laws_FnExactStepAt (aL_p : Option Addr) (aL_n : Nat) (aL_c : Nat) (aUnits0 : Bool) (aUnits1_p : Option Addr) (aUnits1_n : Nat) (aUnits1_c : Nat) (w : World) (R : Value → World → Prop) : Prop :=
  ∀ (r : Nat) (wv : World), New w (.cells ⟨[(.bool aUnits0), (.slice aUnits1_p aUnits1_n aUnits1_c)]⟩ 25 (0, 0)) r wv →
  Calls P 4 ⟨[(.slice aL_p aL_n aL_c), (.int .i64 1048576)]⟩ wv fun e wv_1 =>
  ∃ (t12 : Int), e = .returned (.int .i64 t12) ∧
  ((decide ((t12 : Int) < 0)) = true →
    R (.bool true) wv_1) ∧
  ((decide ((t12 : Int) < 0)) = false →
    ∃ (t150 : Bool) (t151_p : Option Addr) (t151_n : Nat) (t151_c : Nat), Loads P 25 ⟨r, 0, none⟩ (.agg #[(.bool t150), (.slice t151_p t151_n t151_c)]) wv_1 ∧ Calls P 5 ⟨[(.agg #[(.bool t150), (.slice t151_p t151_n t151_c)]), (.int .i64 t12)]⟩ wv_1 fun e_1 wv_2 =>
    ∃ (t17 : Int), e_1 = .returned (.int .i64 t17) ∧
    ((decide ((t17 : Int) < 0)) = true →
      R (.bool true) wv_2) ∧
    ((decide ((t17 : Int) < 0)) = false →
      Calls P 7 ⟨[(.slice aL_p aL_n aL_c)]⟩ wv_2.drew fun e_2 wv_3 =>
      ∃ (t21_p : Option Addr) (t21_n : Nat) (t21_c : Nat), e_2 = .returned (.slice t21_p t21_n t21_c) ∧
      Ext wv_2.drew wv_3 ∧ ∃ (t220 : Bool) (t221_p : Option Addr) (t221_n : Nat) (t221_c : Nat), (∀ wv_4, Ext wv_2.drew wv_4 → Loads P 25 ⟨r, 0, none⟩ (.agg #[(.bool t220), (.slice t221_p t221_n t221_c)]) wv_4) ∧ Calls P 8 ⟨[(.agg #[(.bool t220), (.slice t221_p t221_n t221_c)])]⟩ wv_3 fun e_3 wv_5 =>
      ∃ (t230 : Bool) (t231_p : Option Addr) (t231_n : Nat) (t231_c : Nat), e_3 = .returned (.agg #[(.bool t230), (.slice t231_p t231_n t231_c)]) ∧
      Calls P 6 ⟨[(.slice t21_p t21_n t21_c), (.agg #[(.bool t230), (.slice t231_p t231_n t231_c)])]⟩ wv_5 fun e_4 wv_6 =>
      ∃ (t24 : Int), e_4 = .returned (.int .i64 t24) ∧
      Calls P 7 ⟨[(.slice aL_p aL_n aL_c)]⟩ wv_6 fun e_5 wv_7 =>
      ∃ (t26_p : Option Addr) (t26_n : Nat) (t26_c : Nat), e_5 = .returned (.slice t26_p t26_n t26_c) ∧
      ∃ (t270 : Bool) (t271_p : Option Addr) (t271_n : Nat) (t271_c : Nat), Loads P 25 ⟨r, 0, none⟩ (.agg #[(.bool t270), (.slice t271_p t271_n t271_c)]) wv_7 ∧ Calls P 8 ⟨[(.agg #[(.bool t270), (.slice t271_p t271_n t271_c)])]⟩ wv_7 fun e_6 wv_8 =>
      ∃ (t280 : Bool) (t281_p : Option Addr) (t281_n : Nat) (t281_c : Nat), e_6 = .returned (.agg #[(.bool t280), (.slice t281_p t281_n t281_c)]) ∧
      ∀ (r_1 : Nat) (wv_9 : World), New wv_8 (.cells ⟨[(.bool false), (.slice none 0 0)]⟩ 31 (0, 0)) r_1 wv_9 →
      ∃ wv_10, Stores P 31 ⟨r_1, 0, none⟩ (.agg #[(.bool t280), (.slice t281_p t281_n t281_c)]) wv_9 wv_10 ∧
      ∃ (t300 : Bool) (t301_p : Option Addr) (t301_n : Nat) (t301_c : Nat), Loads P 31 ⟨r_1, 0, none⟩ (.agg #[(.bool t300), (.slice t301_p t301_n t301_c)]) wv_10 ∧ Calls P 9 ⟨[(.slice t26_p t26_n t26_c), (.agg #[(.bool t300), (.slice t301_p t301_n t301_c)])]⟩ wv_10 fun e_7 wv_11 =>
      ∃ (t31 : Int), e_7 = .returned (.int .i64 t31) ∧
      ((decide ((t31 : Int) ≠ t24)) = true →
        R (.bool false) wv_11) ∧
      ((decide ((t31 : Int) ≠ t24)) = false →
        Calls P 7 ⟨[(.slice aL_p aL_n aL_c)]⟩ wv_11 fun e_8 wv_12 =>
        ∃ (t37_p : Option Addr) (t37_n : Nat) (t37_c : Nat), e_8 = .returned (.slice t37_p t37_n t37_c) ∧
        Calls P 10 ⟨[(.slice t26_p t26_n t26_c), (.slice t37_p t37_n t37_c)]⟩ wv_12 fun e_9 wv_13 =>
        ∃ (t38 : Bool), e_9 = .returned (.bool t38) ∧
        ((!t38) = true →
          R (.bool false) wv_13) ∧
        ((!t38) = false →
          ∃ (t400 : Bool) (t401_p : Option Addr) (t401_n : Nat) (t401_c : Nat), (∀ wv_14, Ext wv_13.drew wv_14 → Loads P 31 ⟨r_1, 0, none⟩ (.agg #[(.bool t400), (.slice t401_p t401_n t401_c)]) wv_14) ∧ ∃ (t410 : Bool) (t411_p : Option Addr) (t411_n : Nat) (t411_c : Nat), (∀ wv_15, Ext wv_13.drew wv_15 → Loads P 25 ⟨r, 0, none⟩ (.agg #[(.bool t410), (.slice t411_p t411_n t411_c)]) wv_15) ∧ Calls P 8 ⟨[(.agg #[(.bool t410), (.slice t411_p t411_n t411_c)])]⟩ wv_13.drew fun e_10 wv_16 =>
          ∃ (t420 : Bool) (t421_p : Option Addr) (t421_n : Nat) (t421_c : Nat), e_10 = .returned (.agg #[(.bool t420), (.slice t421_p t421_n t421_c)]) ∧
          Ext wv_13.drew wv_16 ∧ Calls P 11 ⟨[(.agg #[(.bool t400), (.slice t401_p t401_n t401_c)]), (.agg #[(.bool t420), (.slice t421_p t421_n t421_c)])]⟩ wv_16 fun e_11 wv_17 =>
          ∃ (t43 : Bool), e_11 = .returned (.bool t43) ∧
          ((!t43) = true →
            R (.bool false) wv_17) ∧
          ((!t43) = false →
            R (.bool true) wv_17)))))
theorem laws_FnExactStepAt_eq (aL_p : Option Addr) (aL_n : Nat) (aL_c : Nat) (aUnits0 : Bool) (aUnits1_p : Option Addr) (aUnits1_n : Nat) (aUnits1_c : Nat) (w : World) (R : Value → World → Prop) : laws_FnExactStepAt aL_p aL_n aL_c aUnits0 aUnits1_p aUnits1_n aUnits1_c w R = fsem P Try.f3 (fun k => []) [(.slice aL_p aL_n aL_c), (.agg #[(.bool aUnits0), (.slice aUnits1_p aUnits1_n aUnits1_c)])] R w := by kernel_rfl
theorem laws_FnExactStepAt_ret {aL_p : Option Addr} {aL_n : Nat} {aL_c : Nat} {aUnits0 : Bool} {aUnits1_p : Option Addr} {aUnits1_n : Nat} {aUnits1_c : Nat} {w : World} {R : Value → World → Prop} (h : laws_FnExactStepAt aL_p aL_n aL_c aUnits0 aUnits1_p aUnits1_n aUnits1_c w R) : Ret P 3 [(.slice aL_p aL_n aL_c), (.agg #[(.bool aUnits0), (.slice aUnits1_p aUnits1_n aUnits1_c)])] w R :=
  Ret.of_fsem Try.func3 rfl (Eq.mp (laws_FnExactStepAt_eq aL_p aL_n aL_c aUnits0 aUnits1_p aUnits1_n aUnits1_c w R) h)
def spec_StepAt_j0 (l_p : Option Addr) (l_n : Nat) (r : Nat) (W : World) (R : Value → World → Prop) : Prop :=
  ∃ t16 : Int, t16 = IntKind.wrap .i64 (((l_n : Nat) : Int) - 1) ∧ ∃ (Inv : Int → World → Prop) (mu : Int → World → Nat), Inv t16 W ∧
  ∀ (junk : Fr) (wv_2 : World) (k : Int), Inv k wv_2 →
    (0 ≤ (k : Int) ∧ (k : Int) < (l_n : Nat)) ∧ ptrS l_p fun ad => ∃ (t21 : Int), (∀ wv_3, Ext wv_2.drew wv_3 → Loads P 3 ((ad.add (k.toNat * 4)).add 0) (.int .i64 t21) wv_3) ∧ Calls P 17 ⟨[(.int .i64 t21)]⟩ wv_2.drew fun e_1 wv_4 =>
    ∃ (t220 : Bool) (t221_p : Option Addr) (t221_n : Nat) (t221_c : Nat), e_1 = .returned (.agg #[(.bool t220), (.slice t221_p t221_n t221_c)]) ∧
    Ext wv_2.drew wv_4 ∧ ∃ (t230 : Bool) (t231_p : Option Addr) (t231_n : Nat) (t231_c : Nat), (∀ wv_5, Ext wv_2.drew wv_5 → Loads P 31 ⟨r, 0, none⟩ (.agg #[(.bool t230), (.slice t231_p t231_n t231_c)]) wv_5) ∧ Calls P 18 ⟨[(.agg #[(.bool t230), (.slice t231_p t231_n t231_c)])]⟩ wv_4 fun e_2 wv_6 =>
    ∃ (t240 : Bool) (t241_p : Option Addr) (t241_n : Nat) (t241_c : Nat), e_2 = .returned (.agg #[(.bool t240), (.slice t241_p t241_n t241_c)]) ∧
    Calls P 16 ⟨[(.agg #[(.bool t220), (.slice t221_p t221_n t221_c)]), (.agg #[(.bool t240), (.slice t241_p t241_n t241_c)])]⟩ wv_6 fun e_3 wv_7 =>
    ∃ (t25 : Int), e_3 = .returned (.int .i64 t25) ∧
    ((decide ((0 : Int) < t25)) = true →
      ∃ t28 : Int, t28 = IntKind.wrap .i64 (k - 1) ∧ Inv t28 wv_7 ∧ mu t28 wv_7 < mu k wv_2) ∧
    ((decide ((0 : Int) < t25)) = false →
      R (.int .i64 k) wv_7)
def spec_StepAt (l_p : Option Addr) (l_n : Nat) (l_c : Nat) (units0 : Bool) (units1_p : Option Addr) (units1_n : Nat) (units1_c : Nat) (w : World) (R : Value → World → Prop) : Prop :=
  ∀ (r : Nat) (wv : World), New w (.cells ⟨[(.bool units0), (.slice units1_p units1_n units1_c)]⟩ 31 (0, 0)) r wv →
  Calls P 14 ⟨[(.slice l_p l_n l_c)]⟩ wv fun e wv_1 =>
  ∃ (t7 : Bool), e = .returned (.bool t7) ∧
  ((!t7) = true →
    (true = true →
      R (.int .i64 (-1)) wv_1) ∧
    (true = false →
      spec_StepAt_j0 l_p l_n r wv_1 R)) ∧
  ((!t7) = false →
    ∃ (t100 : Bool) (t101_p : Option Addr) (t101_n : Nat) (t101_c : Nat), Loads P 31 ⟨r, 0, none⟩ (.agg #[(.bool t100), (.slice t101_p t101_n t101_c)]) wv_1 ∧ Calls P 15 ⟨[(.agg #[(.bool t100), (.slice t101_p t101_n t101_c)])]⟩ wv_1 fun e_4 wv_8 =>
    ∃ (t11 : Bool), e_4 = .returned (.bool t11) ∧
    ((!t11) = true →
      R (.int .i64 (-1)) wv_8) ∧
    ((!t11) = false →
      spec_StepAt_j0 l_p l_n r wv_8 R))
theorem spec_StepAt_eq (l_p : Option Addr) (l_n : Nat) (l_c : Nat) (units0 : Bool) (units1_p : Option Addr) (units1_n : Nat) (units1_c : Nat) (w : World) (R : Value → World → Prop) : spec_StepAt l_p l_n l_c units0 units1_p units1_n units1_c w R = fsem P Try.f6 (fun k => cond (Nat.beq k 5) [(5, .one (.int .i64))] ([])) [(.slice l_p l_n l_c), (.agg #[(.bool units0), (.slice units1_p units1_n units1_c)])] R w := by kernel_rfl
theorem spec_StepAt_ret {l_p : Option Addr} {l_n : Nat} {l_c : Nat} {units0 : Bool} {units1_p : Option Addr} {units1_n : Nat} {units1_c : Nat} {w : World} {R : Value → World → Prop} (h : spec_StepAt l_p l_n l_c units0 units1_p units1_n units1_c w R) : Ret P 6 [(.slice l_p l_n l_c), (.agg #[(.bool units0), (.slice units1_p units1_n units1_c)])] w R :=
  Ret.of_fsem Try.func6 rfl (Eq.mp (spec_StepAt_eq l_p l_n l_c units0 units1_p units1_n units1_c w R) h)
def spec_StepsOk_j0 (l_p : Option Addr) (l_n : Nat) (W : World) (R : Value → World → Prop) : Prop :=
  ∃ (Inv : Int → World → Prop) (mu : Int → World → Nat), Inv 0 W ∧
  ∀ (junk : Fr) (wv_1 : World) (t18 : Int), Inv t18 wv_1 →
    ((decide ((t18 : Int) < ((l_n : Nat) : Int))) = true →
      (0 ≤ (t18 : Int) ∧ (t18 : Int) < (l_n : Nat)) ∧ ptrS l_p fun ad => ∃ (t220 : Int) (t221 : Bool) (t222_p : Option Addr) (t222_n : Nat) (t222_c : Nat) (t223 : Int), Loads P 49 (ad.add (t18.toNat * 4)) (.agg #[(.int .i64 t220), (.bool t221), (.slice t222_p t222_n t222_c), (.int .i64 t223)]) wv_1 ∧ ∀ (r : Nat) (wv_2 : World), New wv_1 (.cells ⟨[(.int .i64 0), (.bool false), (.slice none 0 0), (.int .i64 0)]⟩ 49 (0, 0)) r wv_2 →
      ∃ wv_3, Stores P 49 ⟨r, 0, none⟩ (.agg #[(.int .i64 t220), (.bool t221), (.slice t222_p t222_n t222_c), (.int .i64 t223)]) wv_2 wv_3 ∧
      ∃ (t24 : Int), (∀ wv_4, Ext wv_3.drew wv_4 → Loads P 3 ((⟨r, 0, none⟩ : Addr).add 0) (.int .i64 t24) wv_4) ∧ Calls P 27 ⟨[(.int .i64 t24), (.int .i64 0), (.int .i64 1000000000)]⟩ wv_3.drew fun e_1 wv_5 =>
      ∃ (t25 : Bool), e_1 = .returned (.bool t25) ∧
      ((!t25) = true →
        (true = true →
          (true = true →
            R (.bool false) wv_5) ∧
          (true = false →
            ∃ t48 : Int, t48 = IntKind.wrap .i64 (t18 + 1) ∧ Inv t48 wv_5 ∧ mu t48 wv_5 < mu t18 wv_1)) ∧
        (true = false →
          ((decide ((0 : Int) < t18)) = true →
            ∃ t39 : Int, t39 = IntKind.wrap .i64 (t18 - 1) ∧ (0 ≤ (t39 : Int) ∧ (t39 : Int) < (l_n : Nat)) ∧ ptrS l_p fun ad_1 => ∃ (t42 : Int), (∀ wv_6, Ext wv_5 wv_6 → Loads P 3 ((ad_1.add (t39.toNat * 4)).add 0) (.int .i64 t42) wv_6) ∧ ∃ (t44 : Int), (∀ wv_7, Ext wv_5 wv_7 → Loads P 3 ((⟨r, 0, none⟩ : Addr).add 0) (.int .i64 t44) wv_7) ∧ ((decide ((t44 : Int) ≤ t42)) = true →
              R (.bool false) wv_5) ∧
            ((decide ((t44 : Int) ≤ t42)) = false →
              ∃ t48_1 : Int, t48_1 = IntKind.wrap .i64 (t18 + 1) ∧ Inv t48_1 wv_5 ∧ mu t48_1 wv_5 < mu t18 wv_1)) ∧
          ((decide ((0 : Int) < t18)) = false →
            (false = true →
              R (.bool false) wv_5) ∧
            (false = false →
              ∃ t48_2 : Int, t48_2 = IntKind.wrap .i64 (t18 + 1) ∧ Inv t48_2 wv_5 ∧ mu t48_2 wv_5 < mu t18 wv_1)))) ∧
      ((!t25) = false →
        ∃ (t290 : Bool) (t291_p : Option Addr) (t291_n : Nat) (t291_c : Nat) (t292 : Int), (∀ wv_8, Ext wv_5 wv_8 → Loads P 47 ((⟨r, 0, none⟩ : Addr).add 1) (.agg #[(.bool t290), (.slice t291_p t291_n t291_c), (.int .i64 t292)]) wv_8) ∧ Calls P 28 ⟨[(.agg #[(.bool t290), (.slice t291_p t291_n t291_c), (.int .i64 t292)])]⟩ wv_5 fun e_2 wv_9 =>
        ∃ (t30 : Bool), e_2 = .returned (.bool t30) ∧
        ((!t30) = true →
          (true = true →
            R (.bool false) wv_9) ∧
          (true = false →
            ∃ t48_3 : Int, t48_3 = IntKind.wrap .i64 (t18 + 1) ∧ Inv t48_3 wv_9 ∧ mu t48_3 wv_9 < mu t18 wv_1)) ∧
        ((!t30) = false →
          ((decide ((0 : Int) < t18)) = true →
            ∃ t39_1 : Int, t39_1 = IntKind.wrap .i64 (t18 - 1) ∧ (0 ≤ (t39_1 : Int) ∧ (t39_1 : Int) < (l_n : Nat)) ∧ ptrS l_p fun ad_2 => ∃ (t42_1 : Int), (∀ wv_10, Ext wv_9 wv_10 → Loads P 3 ((ad_2.add (t39_1.toNat * 4)).add 0) (.int .i64 t42_1) wv_10) ∧ ∃ (t44_1 : Int), (∀ wv_11, Ext wv_9 wv_11 → Loads P 3 ((⟨r, 0, none⟩ : Addr).add 0) (.int .i64 t44_1) wv_11) ∧ ((decide ((t44_1 : Int) ≤ t42_1)) = true →
              R (.bool false) wv_9) ∧
            ((decide ((t44_1 : Int) ≤ t42_1)) = false →
              ∃ t48_4 : Int, t48_4 = IntKind.wrap .i64 (t18 + 1) ∧ Inv t48_4 wv_9 ∧ mu t48_4 wv_9 < mu t18 wv_1)) ∧
          ((decide ((0 : Int) < t18)) = false →
            (false = true →
              R (.bool false) wv_9) ∧
            (false = false →
              ∃ t48_5 : Int, t48_5 = IntKind.wrap .i64 (t18 + 1) ∧ Inv t48_5 wv_9 ∧ mu t48_5 wv_9 < mu t18 wv_1))))) ∧
    ((decide ((t18 : Int) < ((l_n : Nat) : Int))) = false →
      R (.bool true) wv_1)
def spec_StepsOk (l_p : Option Addr) (l_n : Nat) (l_c : Nat) (w : World) (R : Value → World → Prop) : Prop :=
  Calls P 27 ⟨[(.int .i64 ((l_n : Nat) : Int)), (.int .i64 1), (.int .i64 8)]⟩ w fun e wv =>
  ∃ (t7 : Bool), e = .returned (.bool t7) ∧
  ((!t7) = true →
    (true = true →
      R (.bool false) wv) ∧
    (true = false →
      spec_StepsOk_j0 l_p l_n wv R)) ∧
  ((!t7) = false →
    (0 ≤ (0 : Int) ∧ (0 : Int) < (l_n : Nat)) ∧ ptrS l_p fun ad_3 => ∃ (t13 : Int), Loads P 3 ((ad_3.add (0 * 4)).add 0) (.int .i64 t13) wv ∧ ((decide ((t13 : Int) ≠ 0)) = true →
      R (.bool false) wv) ∧
    ((decide ((t13 : Int) ≠ 0)) = false →
      spec_StepsOk_j0 l_p l_n wv R))
theorem spec_StepsOk_eq (l_p : Option Addr) (l_n : Nat) (l_c : Nat) (w : World) (R : Value → World → Prop) : spec_StepsOk l_p l_n l_c w R = fsem P Try.f14 (fun k => cond (Nat.beq k 5) [(18, .one (.int .i64))] ([])) [(.slice l_p l_n l_c)] R w := by kernel_rfl
theorem spec_StepsOk_ret {l_p : Option Addr} {l_n : Nat} {l_c : Nat} {w : World} {R : Value → World → Prop} (h : spec_StepsOk l_p l_n l_c w R) : Ret P 14 [(.slice l_p l_n l_c)] w R :=
  Ret.of_fsem Try.func14 rfl (Eq.mp (spec_StepsOk_eq l_p l_n l_c w R) h)
def spec_IntOk (x0 : Bool) (x1_p : Option Addr) (x1_n : Nat) (x1_c : Nat) (w : World) (R : Value → World → Prop) : Prop :=
  ∀ (r : Nat) (wv : World), New w (.cells ⟨[(.bool x0), (.slice x1_p x1_n x1_c)]⟩ 31 (0, 0)) r wv →
  ∃ (t4_p : Option Addr) (t4_n : Nat) (t4_c : Nat), Loads P 23 ((⟨r, 0, none⟩ : Addr).add 1) (.slice t4_p t4_n t4_c) wv ∧ Calls P 29 ⟨[(.slice t4_p t4_n t4_c)]⟩ wv fun e wv_1 =>
  ∃ (t5 : Bool), e = .returned (.bool t5) ∧
  (t5 = true →
    ∃ (t8 : Bool), Loads P 4 ((⟨r, 0, none⟩ : Addr).add 0) (.bool t8) wv_1 ∧ ((!t8) = true →
      R (.bool true) wv_1) ∧
    ((!t8) = false →
      ∃ (t12_p : Option Addr) (t12_n : Nat) (t12_c : Nat), Loads P 23 ((⟨r, 0, none⟩ : Addr).add 1) (.slice t12_p t12_n t12_c) wv_1 ∧ R (.bool (decide ((0 : Int) < ((t12_n : Nat) : Int)))) wv_1)) ∧
  (t5 = false →
    R (.bool false) wv_1)
theorem spec_IntOk_eq (x0 : Bool) (x1_p : Option Addr) (x1_n : Nat) (x1_c : Nat) (w : World) (R : Value → World → Prop) : spec_IntOk x0 x1_p x1_n x1_c w R = fsem P Try.f15 (fun k => []) [(.agg #[(.bool x0), (.slice x1_p x1_n x1_c)])] R w := by kernel_rfl
theorem spec_IntOk_ret {x0 : Bool} {x1_p : Option Addr} {x1_n : Nat} {x1_c : Nat} {w : World} {R : Value → World → Prop} (h : spec_IntOk x0 x1_p x1_n x1_c w R) : Ret P 15 [(.agg #[(.bool x0), (.slice x1_p x1_n x1_c)])] w R :=
  Ret.of_fsem Try.func15 rfl (Eq.mp (spec_IntOk_eq x0 x1_p x1_n x1_c w R) h)
def spec_IntCmp_j1 (r : Nat) (r_1 : Nat) (t14 : Bool) (W_1 : World) (R : Value → World → Prop) : Prop :=
  (t14 = true →
    R (.int .i64 (-1)) W_1) ∧
  (t14 = false →
    ∃ (t24 : Bool), Loads P 4 ((⟨r, 0, none⟩ : Addr).add 0) (.bool t24) W_1 ∧ ((!t24) = true →
      ∃ (t28 : Bool), Loads P 4 ((⟨r_1, 0, none⟩ : Addr).add 0) (.bool t28) W_1 ∧ (t28 = true →
        R (.int .i64 1) W_1) ∧
      (t28 = false →
        ∃ (t32 : Bool), Loads P 4 ((⟨r, 0, none⟩ : Addr).add 0) (.bool t32) W_1 ∧ (t32 = true →
          ∃ (t34_p : Option Addr) (t34_n : Nat) (t34_c : Nat), Loads P 23 ((⟨r_1, 0, none⟩ : Addr).add 1) (.slice t34_p t34_n t34_c) W_1 ∧ ∃ (t36_p : Option Addr) (t36_n : Nat) (t36_c : Nat), Loads P 23 ((⟨r, 0, none⟩ : Addr).add 1) (.slice t36_p t36_n t36_c) W_1 ∧ Calls P 30 ⟨[(.slice t34_p t34_n t34_c), (.slice t36_p t36_n t36_c)]⟩ W_1 fun e_1 wv_3 =>
          ∃ (t37 : Int), e_1 = .returned (.int .i64 t37) ∧
          R (.int .i64 t37) wv_3) ∧
        (t32 = false →
          ∃ (t39_p : Option Addr) (t39_n : Nat) (t39_c : Nat), Loads P 23 ((⟨r, 0, none⟩ : Addr).add 1) (.slice t39_p t39_n t39_c) W_1 ∧ ∃ (t41_p : Option Addr) (t41_n : Nat) (t41_c : Nat), Loads P 23 ((⟨r_1, 0, none⟩ : Addr).add 1) (.slice t41_p t41_n t41_c) W_1 ∧ Calls P 30 ⟨[(.slice t39_p t39_n t39_c), (.slice t41_p t41_n t41_c)]⟩ W_1 fun e_2 wv_4 =>
          ∃ (t42 : Int), e_2 = .returned (.int .i64 t42) ∧
          R (.int .i64 t42) wv_4))) ∧
    ((!t24) = false →
      (false = true →
        R (.int .i64 1) W_1) ∧
      (false = false →
        ∃ (t32_1 : Bool), Loads P 4 ((⟨r, 0, none⟩ : Addr).add 0) (.bool t32_1) W_1 ∧ (t32_1 = true →
          ∃ (t34_p_1 : Option Addr) (t34_n_1 : Nat) (t34_c_1 : Nat), Loads P 23 ((⟨r_1, 0, none⟩ : Addr).add 1) (.slice t34_p_1 t34_n_1 t34_c_1) W_1 ∧ ∃ (t36_p_1 : Option Addr) (t36_n_1 : Nat) (t36_c_1 : Nat), Loads P 23 ((⟨r, 0, none⟩ : Addr).add 1) (.slice t36_p_1 t36_n_1 t36_c_1) W_1 ∧ Calls P 30 ⟨[(.slice t34_p_1 t34_n_1 t34_c_1), (.slice t36_p_1 t36_n_1 t36_c_1)]⟩ W_1 fun e_3 wv_5 =>
          ∃ (t37_1 : Int), e_3 = .returned (.int .i64 t37_1) ∧
          R (.int .i64 t37_1) wv_5) ∧
        (t32_1 = false →
          ∃ (t39_p_1 : Option Addr) (t39_n_1 : Nat) (t39_c_1 : Nat), Loads P 23 ((⟨r, 0, none⟩ : Addr).add 1) (.slice t39_p_1 t39_n_1 t39_c_1) W_1 ∧ ∃ (t41_p_1 : Option Addr) (t41_n_1 : Nat) (t41_c_1 : Nat), Loads P 23 ((⟨r_1, 0, none⟩ : Addr).add 1) (.slice t41_p_1 t41_n_1 t41_c_1) W_1 ∧ Calls P 30 ⟨[(.slice t39_p_1 t39_n_1 t39_c_1), (.slice t41_p_1 t41_n_1 t41_c_1)]⟩ W_1 fun e_4 wv_6 =>
          ∃ (t42_1 : Int), e_4 = .returned (.int .i64 t42_1) ∧
          R (.int .i64 t42_1) wv_6))))
def spec_IntCmp_j0 (r : Nat) (r_1 : Nat) (t5 : Bool) (W : World) (R : Value → World → Prop) : Prop :=
  (t5 = true →
    R (.int .i64 0) W) ∧
  (t5 = false →
    ∃ (t16 : Bool), Loads P 4 ((⟨r, 0, none⟩ : Addr).add 0) (.bool t16) W ∧ (t16 = true →
      ∃ (t19 : Bool), Loads P 4 ((⟨r_1, 0, none⟩ : Addr).add 0) (.bool t19) W ∧ spec_IntCmp_j1 r r_1 (!t19) W R) ∧
    (t16 = false →
      spec_IntCmp_j1 r r_1 false W R))
def spec_IntCmp (x0 : Bool) (x1_p : Option Addr) (x1_n : Nat) (x1_c : Nat) (y0 : Bool) (y1_p : Option Addr) (y1_n : Nat) (y1_c : Nat) (w : World) (R : Value → World → Prop) : Prop :=
  ∀ (r : Nat) (wv : World), New w (.cells ⟨[(.bool x0), (.slice x1_p x1_n x1_c)]⟩ 31 (0, 0)) r wv →
  ∀ (r_1 : Nat) (wv_1 : World), New wv (.cells ⟨[(.bool y0), (.slice y1_p y1_n y1_c)]⟩ 31 (0, 0)) r_1 wv_1 →
  ∃ (t60 : Bool) (t61_p : Option Addr) (t61_n : Nat) (t61_c : Nat), Loads P 31 ⟨r, 0, none⟩ (.agg #[(.bool t60), (.slice t61_p t61_n t61_c)]) wv_1 ∧ Calls P 15 ⟨[(.agg #[(.bool t60), (.slice t61_p t61_n t61_c)])]⟩ wv_1 fun e wv_2 =>
  ∃ (t7 : Bool), e = .returned (.bool t7) ∧
  ((!t7) = true →
    spec_IntCmp_j0 r r_1 true wv_2 R) ∧
  ((!t7) = false →
    ∃ (t100 : Bool) (t101_p : Option Addr) (t101_n : Nat) (t101_c : Nat), Loads P 31 ⟨r_1, 0, none⟩ (.agg #[(.bool t100), (.slice t101_p t101_n t101_c)]) wv_2 ∧ Calls P 15 ⟨[(.agg #[(.bool t100), (.slice t101_p t101_n t101_c)])]⟩ wv_2 fun e_5 wv_7 =>
    ∃ (t11 : Bool), e_5 = .returned (.bool t11) ∧
    spec_IntCmp_j0 r r_1 (!t11) wv_7 R)
theorem spec_IntCmp_eq (x0 : Bool) (x1_p : Option Addr) (x1_n : Nat) (x1_c : Nat) (y0 : Bool) (y1_p : Option Addr) (y1_n : Nat) (y1_c : Nat) (w : World) (R : Value → World → Prop) : spec_IntCmp x0 x1_p x1_n x1_c y0 y1_p y1_n y1_c w R = fsem P Try.f16 (fun k => []) [(.agg #[(.bool x0), (.slice x1_p x1_n x1_c)]), (.agg #[(.bool y0), (.slice y1_p y1_n y1_c)])] R w := by kernel_rfl
theorem spec_IntCmp_ret {x0 : Bool} {x1_p : Option Addr} {x1_n : Nat} {x1_c : Nat} {y0 : Bool} {y1_p : Option Addr} {y1_n : Nat} {y1_c : Nat} {w : World} {R : Value → World → Prop} (h : spec_IntCmp x0 x1_p x1_n x1_c y0 y1_p y1_n y1_c w R) : Ret P 16 [(.agg #[(.bool x0), (.slice x1_p x1_n x1_c)]), (.agg #[(.bool y0), (.slice y1_p y1_n y1_c)])] w R :=
  Ret.of_fsem Try.func16 rfl (Eq.mp (spec_IntCmp_eq x0 x1_p x1_n x1_c y0 y1_p y1_n y1_c w R) h)
def spec_IntOf (n : Int) (w : World) (R : Value → World → Prop) : Prop :=
  ∀ (r : Nat) (wv : World), New w (.cells ⟨[(.bool false), (.slice none 0 0)]⟩ 31 (0, 0)) r wv →
  ((decide ((n : Int) = (-9223372036854775808))) = true →
    ∀ (r_1 : Nat) (wv_1 : World), New wv (.cells ⟨[(.int .i64 854775808), (.int .i64 223372036), (.int .i64 9)]⟩ 3 (0, 0)) r_1 wv_1 →
    Calls P 31 ⟨[(.bool true), (.slice (some ⟨r_1, 0, none⟩) 3 3)]⟩ wv_1 fun e wv_2 =>
    ∃ (t60 : Bool) (t61_p : Option Addr) (t61_n : Nat) (t61_c : Nat), e = .returned (.agg #[(.bool t60), (.slice t61_p t61_n t61_c)]) ∧
    ∃ wv_3, Stores P 31 ⟨r, 0, none⟩ (.agg #[(.bool t60), (.slice t61_p t61_n t61_c)]) wv_2 wv_3 ∧
    ∃ (r0 : Bool) (r1_p : Option Addr) (r1_n : Nat) (r1_c : Nat), Loads P 31 ⟨r, 0, none⟩ (.agg #[(.bool r0), (.slice r1_p r1_n r1_c)]) wv_3 ∧ R (.agg #[(.bool r0), (.slice r1_p r1_n r1_c)]) wv_3) ∧
  ((decide ((n : Int) = (-9223372036854775808))) = false →
    ((decide ((n : Int) < 0)) = true →
      ∃ t10 : Int, t10 = IntKind.wrap .i64 (0 - n) ∧ Calls P 32 ⟨[(.int .i64 t10)]⟩ wv fun e_1 wv_4 =>
      ∃ (t11_p : Option Addr) (t11_n : Nat) (t11_c : Nat), e_1 = .returned (.slice t11_p t11_n t11_c) ∧
      Calls P 31 ⟨[(.bool true), (.slice t11_p t11_n t11_c)]⟩ wv_4 fun e_2 wv_5 =>
      ∃ (t120 : Bool) (t121_p : Option Addr) (t121_n : Nat) (t121_c : Nat), e_2 = .returned (.agg #[(.bool t120), (.slice t121_p t121_n t121_c)]) ∧
      ∃ wv_6, Stores P 31 ⟨r, 0, none⟩ (.agg #[(.bool t120), (.slice t121_p t121_n t121_c)]) wv_5 wv_6 ∧
      ∃ (r0_1 : Bool) (r1_p_1 : Option Addr) (r1_n_1 : Nat) (r1_c_1 : Nat), Loads P 31 ⟨r, 0, none⟩ (.agg #[(.bool r0_1), (.slice r1_p_1 r1_n_1 r1_c_1)]) wv_6 ∧ R (.agg #[(.bool r0_1), (.slice r1_p_1 r1_n_1 r1_c_1)]) wv_6) ∧
    ((decide ((n : Int) < 0)) = false →
      Calls P 32 ⟨[(.int .i64 n)]⟩ wv fun e_3 wv_7 =>
      ∃ (t14_p : Option Addr) (t14_n : Nat) (t14_c : Nat), e_3 = .returned (.slice t14_p t14_n t14_c) ∧
      Calls P 31 ⟨[(.bool false), (.slice t14_p t14_n t14_c)]⟩ wv_7 fun e_4 wv_8 =>
      ∃ (t150 : Bool) (t151_p : Option Addr) (t151_n : Nat) (t151_c : Nat), e_4 = .returned (.agg #[(.bool t150), (.slice t151_p t151_n t151_c)]) ∧
      ∃ wv_9, Stores P 31 ⟨r, 0, none⟩ (.agg #[(.bool t150), (.slice t151_p t151_n t151_c)]) wv_8 wv_9 ∧
      ∃ (r0_2 : Bool) (r1_p_2 : Option Addr) (r1_n_2 : Nat) (r1_c_2 : Nat), Loads P 31 ⟨r, 0, none⟩ (.agg #[(.bool r0_2), (.slice r1_p_2 r1_n_2 r1_c_2)]) wv_9 ∧ R (.agg #[(.bool r0_2), (.slice r1_p_2 r1_n_2 r1_c_2)]) wv_9))
theorem spec_IntOf_eq (n : Int) (w : World) (R : Value → World → Prop) : spec_IntOf n w R = fsem P Try.f17 (fun k => []) [(.int .i64 n)] R w := by kernel_rfl
theorem spec_IntOf_ret {n : Int} {w : World} {R : Value → World → Prop} (h : spec_IntOf n w R) : Ret P 17 [(.int .i64 n)] w R :=
  Ret.of_fsem Try.func17 rfl (Eq.mp (spec_IntOf_eq n w R) h)
def spec_IntAbs (x0 : Bool) (x1_p : Option Addr) (x1_n : Nat) (x1_c : Nat) (w : World) (R : Value → World → Prop) : Prop :=
  ∀ (r : Nat) (wv : World), New w (.cells ⟨[(.bool x0), (.slice x1_p x1_n x1_c)]⟩ 31 (0, 0)) r wv →
  ∀ (r_1 : Nat) (wv_1 : World), New wv (.cells ⟨[(.bool false), (.slice none 0 0)]⟩ 31 (0, 0)) r_1 wv_1 →
  ∃ (t30 : Bool) (t31_p : Option Addr) (t31_n : Nat) (t31_c : Nat), Loads P 31 ⟨r, 0, none⟩ (.agg #[(.bool t30), (.slice t31_p t31_n t31_c)]) wv_1 ∧ Calls P 15 ⟨[(.agg #[(.bool t30), (.slice t31_p t31_n t31_c)])]⟩ wv_1 fun e wv_2 =>
  ∃ (t4 : Bool), e = .returned (.bool t4) ∧
  ((!t4) = true →
    ∃ wv_3, Stores P 31 ⟨r_1, 0, none⟩ (.agg #[(.bool false), (.slice none 0 0)]) wv_2 wv_3 ∧
    ∃ (r0 : Bool) (r1_p : Option Addr) (r1_n : Nat) (r1_c : Nat), Loads P 31 ⟨r_1, 0, none⟩ (.agg #[(.bool r0), (.slice r1_p r1_n r1_c)]) wv_3 ∧ R (.agg #[(.bool r0), (.slice r1_p r1_n r1_c)]) wv_3) ∧
  ((!t4) = false →
    ∃ (t8_p : Option Addr) (t8_n : Nat) (t8_c : Nat), Loads P 23 ((⟨r, 0, none⟩ : Addr).add 1) (.slice t8_p t8_n t8_c) wv_2 ∧ Calls P 31 ⟨[(.bool false), (.slice t8_p t8_n t8_c)]⟩ wv_2 fun e_1 wv_4 =>
    ∃ (t90 : Bool) (t91_p : Option Addr) (t91_n : Nat) (t91_c : Nat), e_1 = .returned (.agg #[(.bool t90), (.slice t91_p t91_n t91_c)]) ∧
    ∃ wv_5, Stores P 31 ⟨r_1, 0, none⟩ (.agg #[(.bool t90), (.slice t91_p t91_n t91_c)]) wv_4 wv_5 ∧
    ∃ (r0_1 : Bool) (r1_p_1 : Option Addr) (r1_n_1 : Nat) (r1_c_1 : Nat), Loads P 31 ⟨r_1, 0, none⟩ (.agg #[(.bool r0_1), (.slice r1_p_1 r1_n_1 r1_c_1)]) wv_5 ∧ R (.agg #[(.bool r0_1), (.slice r1_p_1 r1_n_1 r1_c_1)]) wv_5)
theorem spec_IntAbs_eq (x0 : Bool) (x1_p : Option Addr) (x1_n : Nat) (x1_c : Nat) (w : World) (R : Value → World → Prop) : spec_IntAbs x0 x1_p x1_n x1_c w R = fsem P Try.f18 (fun k => []) [(.agg #[(.bool x0), (.slice x1_p x1_n x1_c)])] R w := by kernel_rfl
theorem spec_IntAbs_ret {x0 : Bool} {x1_p : Option Addr} {x1_n : Nat} {x1_c : Nat} {w : World} {R : Value → World → Prop} (h : spec_IntAbs x0 x1_p x1_n x1_c w R) : Ret P 18 [(.agg #[(.bool x0), (.slice x1_p x1_n x1_c)])] w R :=
  Ret.of_fsem Try.func18 rfl (Eq.mp (spec_IntAbs_eq x0 x1_p x1_n x1_c w R) h)
def impl_StepsOk_j0 (l_p : Option Addr) (l_n : Nat) (W : World) (R : Value → World → Prop) : Prop :=
  ∃ (Inv : Int → World → Prop) (mu : Int → World → Nat), Inv 0 W ∧
  ∀ (junk : Fr) (wv : World) (t22 : Int), Inv t22 wv →
    ((decide ((t22 : Int) < ((l_n : Nat) : Int))) = true →
      (0 ≤ (t22 : Int) ∧ (t22 : Int) < (l_n : Nat)) ∧ ptrS l_p fun ad => ∃ (t260 : Int) (t261 : Bool) (t262_p : Option Addr) (t262_n : Nat) (t262_c : Nat) (t263 : Int), Loads P 49 (ad.add (t22.toNat * 4)) (.agg #[(.int .i64 t260), (.bool t261), (.slice t262_p t262_n t262_c), (.int .i64 t263)]) wv ∧ ∀ (r : Nat) (wv_1 : World), New wv (.cells ⟨[(.int .i64 0), (.bool false), (.slice none 0 0), (.int .i64 0)]⟩ 49 (0, 0)) r wv_1 →
      ∃ wv_2, Stores P 49 ⟨r, 0, none⟩ (.agg #[(.int .i64 t260), (.bool t261), (.slice t262_p t262_n t262_c), (.int .i64 t263)]) wv_1 wv_2 ∧
      ∃ (t28 : Int), (∀ wv_3, Ext wv_2.drew wv_3 → Loads P 3 ((⟨r, 0, none⟩ : Addr).add 0) (.int .i64 t28) wv_3) ∧ ((decide ((1000000000 : Int) < t28)) = true →
        (true = true →
          (true = true →
            R (.bool false) wv_2.drew) ∧
          (true = false →
            ∃ t51 : Int, t51 = IntKind.wrap .i64 (t22 + 1) ∧ Inv t51 wv_2.drew ∧ mu t51 wv_2.drew < mu t22 wv)) ∧
        (true = false →
          ∃ (t470 : Bool) (t471_p : Option Addr) (t471_n : Nat) (t471_c : Nat) (t472 : Int), (∀ wv_4, Ext wv_2.drew wv_4 → Loads P 47 ((⟨r, 0, none⟩ : Addr).add 1) (.agg #[(.bool t470), (.slice t471_p t471_n t471_c), (.int .i64 t472)]) wv_4) ∧ Calls P 34 ⟨[(.agg #[(.bool t470), (.slice t471_p t471_n t471_c), (.int .i64 t472)])]⟩ wv_2.drew fun e wv_5 =>
          ∃ (t48 : Bool), e = .returned (.bool t48) ∧
          ((!t48) = true →
            R (.bool false) wv_5) ∧
          ((!t48) = false →
            ∃ t51_1 : Int, t51_1 = IntKind.wrap .i64 (t22 + 1) ∧ Inv t51_1 wv_5 ∧ mu t51_1 wv_5 < mu t22 wv))) ∧
      ((decide ((1000000000 : Int) < t28)) = false →
        ((decide ((0 : Int) < t22)) = true →
          ∃ t36 : Int, t36 = IntKind.wrap .i64 (t22 - 1) ∧ (0 ≤ (t36 : Int) ∧ (t36 : Int) < (l_n : Nat)) ∧ ptrS l_p fun ad_1 => ∃ (t39 : Int), (∀ wv_6, Ext wv_2.drew wv_6 → Loads P 3 ((ad_1.add (t36.toNat * 4)).add 0) (.int .i64 t39) wv_6) ∧ ∃ (t41 : Int), (∀ wv_7, Ext wv_2.drew wv_7 → Loads P 3 ((⟨r, 0, none⟩ : Addr).add 0) (.int .i64 t41) wv_7) ∧ ((decide ((t41 : Int) ≤ t39)) = true →
            (true = true →
              R (.bool false) wv_2.drew) ∧
            (true = false →
              ∃ t51_2 : Int, t51_2 = IntKind.wrap .i64 (t22 + 1) ∧ Inv t51_2 wv_2.drew ∧ mu t51_2 wv_2.drew < mu t22 wv)) ∧
          ((decide ((t41 : Int) ≤ t39)) = false →
            ∃ (t470_1 : Bool) (t471_p_1 : Option Addr) (t471_n_1 : Nat) (t471_c_1 : Nat) (t472_1 : Int), (∀ wv_8, Ext wv_2.drew wv_8 → Loads P 47 ((⟨r, 0, none⟩ : Addr).add 1) (.agg #[(.bool t470_1), (.slice t471_p_1 t471_n_1 t471_c_1), (.int .i64 t472_1)]) wv_8) ∧ Calls P 34 ⟨[(.agg #[(.bool t470_1), (.slice t471_p_1 t471_n_1 t471_c_1), (.int .i64 t472_1)])]⟩ wv_2.drew fun e_1 wv_9 =>
            ∃ (t48_1 : Bool), e_1 = .returned (.bool t48_1) ∧
            ((!t48_1) = true →
              R (.bool false) wv_9) ∧
            ((!t48_1) = false →
              ∃ t51_3 : Int, t51_3 = IntKind.wrap .i64 (t22 + 1) ∧ Inv t51_3 wv_9 ∧ mu t51_3 wv_9 < mu t22 wv))) ∧
        ((decide ((0 : Int) < t22)) = false →
          (false = true →
            (true = true →
              R (.bool false) wv_2.drew) ∧
            (true = false →
              ∃ t51_4 : Int, t51_4 = IntKind.wrap .i64 (t22 + 1) ∧ Inv t51_4 wv_2.drew ∧ mu t51_4 wv_2.drew < mu t22 wv)) ∧
          (false = false →
            ∃ (t470_2 : Bool) (t471_p_2 : Option Addr) (t471_n_2 : Nat) (t471_c_2 : Nat) (t472_2 : Int), (∀ wv_10, Ext wv_2.drew wv_10 → Loads P 47 ((⟨r, 0, none⟩ : Addr).add 1) (.agg #[(.bool t470_2), (.slice t471_p_2 t471_n_2 t471_c_2), (.int .i64 t472_2)]) wv_10) ∧ Calls P 34 ⟨[(.agg #[(.bool t470_2), (.slice t471_p_2 t471_n_2 t471_c_2), (.int .i64 t472_2)])]⟩ wv_2.drew fun e_2 wv_11 =>
            ∃ (t48_2 : Bool), e_2 = .returned (.bool t48_2) ∧
            ((!t48_2) = true →
              R (.bool false) wv_11) ∧
            ((!t48_2) = false →
              ∃ t51_5 : Int, t51_5 = IntKind.wrap .i64 (t22 + 1) ∧ Inv t51_5 wv_11 ∧ mu t51_5 wv_11 < mu t22 wv))))) ∧
    ((decide ((t22 : Int) < ((l_n : Nat) : Int))) = false →
      R (.bool true) wv)
def impl_StepsOk (l_p : Option Addr) (l_n : Nat) (l_c : Nat) (w : World) (R : Value → World → Prop) : Prop :=
  ((decide ((((l_n : Nat) : Int) : Int) < 1)) = true →
    (true = true →
      (true = true →
        R (.bool false) w) ∧
      (true = false →
        impl_StepsOk_j0 l_p l_n w R)) ∧
    (true = false →
      (0 ≤ (0 : Int) ∧ (0 : Int) < (l_n : Nat)) ∧ ptrS l_p fun ad_2 => ∃ (t17 : Int), Loads P 3 ((ad_2.add (0 * 4)).add 0) (.int .i64 t17) w ∧ ((decide ((t17 : Int) ≠ 0)) = true →
        R (.bool false) w) ∧
      ((decide ((t17 : Int) ≠ 0)) = false →
        impl_StepsOk_j0 l_p l_n w R))) ∧
  ((decide ((((l_n : Nat) : Int) : Int) < 1)) = false →
    ((decide ((8 : Int) < ((l_n : Nat) : Int))) = true →
      (true = true →
        R (.bool false) w) ∧
      (true = false →
        impl_StepsOk_j0 l_p l_n w R)) ∧
    ((decide ((8 : Int) < ((l_n : Nat) : Int))) = false →
      (0 ≤ (0 : Int) ∧ (0 : Int) < (l_n : Nat)) ∧ ptrS l_p fun ad_3 => ∃ (t17_1 : Int), Loads P 3 ((ad_3.add (0 * 4)).add 0) (.int .i64 t17_1) w ∧ ((decide ((t17_1 : Int) ≠ 0)) = true →
        R (.bool false) w) ∧
      ((decide ((t17_1 : Int) ≠ 0)) = false →
        impl_StepsOk_j0 l_p l_n w R)))
theorem impl_StepsOk_eq (l_p : Option Addr) (l_n : Nat) (l_c : Nat) (w : World) (R : Value → World → Prop) : impl_StepsOk l_p l_n l_c w R = fsem P Try.f21 (fun k => cond (Nat.beq k 5) [(22, .one (.int .i64))] ([])) [(.slice l_p l_n l_c)] R w := by kernel_rfl
theorem impl_StepsOk_ret {l_p : Option Addr} {l_n : Nat} {l_c : Nat} {w : World} {R : Value → World → Prop} (h : impl_StepsOk l_p l_n l_c w R) : Ret P 21 [(.slice l_p l_n l_c)] w R :=
  Ret.of_fsem Try.func21 rfl (Eq.mp (impl_StepsOk_eq l_p l_n l_c w R) h)
def impl_IntOk (x0 : Bool) (x1_p : Option Addr) (x1_n : Nat) (x1_c : Nat) (w : World) (R : Value → World → Prop) : Prop :=
  ∀ (r : Nat) (wv : World), New w (.cells ⟨[(.bool x0), (.slice x1_p x1_n x1_c)]⟩ 31 (0, 0)) r wv →
  ∃ (t4_p : Option Addr) (t4_n : Nat) (t4_c : Nat), Loads P 23 ((⟨r, 0, none⟩ : Addr).add 1) (.slice t4_p t4_n t4_c) wv ∧ Calls P 35 ⟨[(.slice t4_p t4_n t4_c)]⟩ wv fun e wv_1 =>
  ∃ (t5 : Bool), e = .returned (.bool t5) ∧
  (t5 = true →
    ∃ (t8 : Bool), Loads P 4 ((⟨r, 0, none⟩ : Addr).add 0) (.bool t8) wv_1 ∧ ((!t8) = true →
      R (.bool true) wv_1) ∧
    ((!t8) = false →
      ∃ (t12_p : Option Addr) (t12_n : Nat) (t12_c : Nat), Loads P 23 ((⟨r, 0, none⟩ : Addr).add 1) (.slice t12_p t12_n t12_c) wv_1 ∧ R (.bool (decide ((0 : Int) < ((t12_n : Nat) : Int)))) wv_1)) ∧
  (t5 = false →
    R (.bool false) wv_1)
theorem impl_IntOk_eq (x0 : Bool) (x1_p : Option Addr) (x1_n : Nat) (x1_c : Nat) (w : World) (R : Value → World → Prop) : impl_IntOk x0 x1_p x1_n x1_c w R = fsem P Try.f22 (fun k => []) [(.agg #[(.bool x0), (.slice x1_p x1_n x1_c)])] R w := by kernel_rfl
theorem impl_IntOk_ret {x0 : Bool} {x1_p : Option Addr} {x1_n : Nat} {x1_c : Nat} {w : World} {R : Value → World → Prop} (h : impl_IntOk x0 x1_p x1_n x1_c w R) : Ret P 22 [(.agg #[(.bool x0), (.slice x1_p x1_n x1_c)])] w R :=
  Ret.of_fsem Try.func22 rfl (Eq.mp (impl_IntOk_eq x0 x1_p x1_n x1_c w R) h)
def spec_l01In (n : Int) (lo : Int) (hi : Int) (w : World) (R : Value → World → Prop) : Prop :=
  ((decide ((lo : Int) ≤ n)) = true →
    R (.bool (decide ((n : Int) ≤ hi))) w) ∧
  ((decide ((lo : Int) ≤ n)) = false →
    R (.bool false) w)
theorem spec_l01In_eq (n : Int) (lo : Int) (hi : Int) (w : World) (R : Value → World → Prop) : spec_l01In n lo hi w R = fsem P Try.f27 (fun k => []) [(.int .i64 n), (.int .i64 lo), (.int .i64 hi)] R w := by kernel_rfl
theorem spec_l01In_ret {n : Int} {lo : Int} {hi : Int} {w : World} {R : Value → World → Prop} (h : spec_l01In n lo hi w R) : Ret P 27 [(.int .i64 n), (.int .i64 lo), (.int .i64 hi)] w R :=
  Ret.of_fsem Try.func27 rfl (Eq.mp (spec_l01In_eq n lo hi w R) h)
def spec_TaxRateOk (r0 : Bool) (r1_p : Option Addr) (r1_n : Nat) (r1_c : Nat) (r2 : Int) (w : World) (R : Value → World → Prop) : Prop :=
  ∀ (r : Nat) (wv : World), New w (.cells ⟨[(.bool r0), (.slice r1_p r1_n r1_c), (.int .i64 r2)]⟩ 47 (0, 0)) r wv →
  ∃ (t30 : Bool) (t31_p : Option Addr) (t31_n : Nat) (t31_c : Nat) (t32 : Int), (∀ wv_1, Ext wv.drew wv_1 → Loads P 47 ⟨r, 0, none⟩ (.agg #[(.bool t30), (.slice t31_p t31_n t31_c), (.int .i64 t32)]) wv_1) ∧ Calls P 40 ⟨[(.agg #[(.bool t30), (.slice t31_p t31_n t31_c), (.int .i64 t32)])]⟩ wv.drew fun e wv_2 =>
  ∃ (t4 : Bool), e = .returned (.bool t4) ∧
  (t4 = true →
    ∃ (t8 : Bool), (∀ wv_3, Ext wv_2 wv_3 → Loads P 4 (((⟨r, 0, none⟩ : Addr).add 0).add 0) (.bool t8) wv_3) ∧ ((!t8) = true →
      ∃ (t14_p : Option Addr) (t14_n : Nat) (t14_c : Nat), (∀ wv_4, Ext wv_2 wv_4 → Loads P 23 (((⟨r, 0, none⟩ : Addr).add 0).add 1) (.slice t14_p t14_n t14_c) wv_4) ∧ ((decide ((((t14_n : Nat) : Int) : Int) ≤ 1)) = true →
        ∃ (t190 : Bool) (t191_p : Option Addr) (t191_n : Nat) (t191_c : Nat) (t192 : Int), (∀ wv_5, Ext wv_2 wv_5 → Loads P 47 ⟨r, 0, none⟩ (.agg #[(.bool t190), (.slice t191_p t191_n t191_c), (.int .i64 t192)]) wv_5) ∧ Calls P 17 ⟨[(.int .i64 1)]⟩ wv_2 fun e_1 wv_6 =>
        ∃ (t200 : Bool) (t201_p : Option Addr) (t201_n : Nat) (t201_c : Nat), e_1 = .returned (.agg #[(.bool t200), (.slice t201_p t201_n t201_c)]) ∧
        Ext wv_2 wv_6 ∧ Calls P 41 ⟨[(.agg #[(.bool t190), (.slice t191_p t191_n t191_c), (.int .i64 t192)]), (.agg #[(.bool t200), (.slice t201_p t201_n t201_c), (.int .i64 0)])]⟩ wv_6 fun e_2 wv_7 =>
        ∃ (t22 : Int), e_2 = .returned (.int .i64 t22) ∧
        R (.bool (decide ((t22 : Int) ≤ 0))) wv_7) ∧
      ((decide ((((t14_n : Nat) : Int) : Int) ≤ 1)) = false →
        R (.bool false) wv_2)) ∧
    ((!t8) = false →
      (false = true →
        ∃ (t190_1 : Bool) (t191_p_1 : Option Addr) (t191_n_1 : Nat) (t191_c_1 : Nat) (t192_1 : Int), (∀ wv_8, Ext wv_2 wv_8 → Loads P 47 ⟨r, 0, none⟩ (.agg #[(.bool t190_1), (.slice t191_p_1 t191_n_1 t191_c_1), (.int .i64 t192_1)]) wv_8) ∧ Calls P 17 ⟨[(.int .i64 1)]⟩ wv_2 fun e_3 wv_9 =>
        ∃ (t200_1 : Bool) (t201_p_1 : Option Addr) (t201_n_1 : Nat) (t201_c_1 : Nat), e_3 = .returned (.agg #[(.bool t200_1), (.slice t201_p_1 t201_n_1 t201_c_1)]) ∧
        Ext wv_2 wv_9 ∧ Calls P 41 ⟨[(.agg #[(.bool t190_1), (.slice t191_p_1 t191_n_1 t191_c_1), (.int .i64 t192_1)]), (.agg #[(.bool t200_1), (.slice t201_p_1 t201_n_1 t201_c_1), (.int .i64 0)])]⟩ wv_9 fun e_4 wv_10 =>
        ∃ (t22_1 : Int), e_4 = .returned (.int .i64 t22_1) ∧
        R (.bool (decide ((t22_1 : Int) ≤ 0))) wv_10) ∧
      (false = false →
        R (.bool false) wv_2))) ∧
  (t4 = false →
    (false = true →
      ∃ (t14_p_1 : Option Addr) (t14_n_1 : Nat) (t14_c_1 : Nat), (∀ wv_11, Ext wv_2 wv_11 → Loads P 23 (((⟨r, 0, none⟩ : Addr).add 0).add 1) (.slice t14_p_1 t14_n_1 t14_c_1) wv_11) ∧ ((decide ((((t14_n_1 : Nat) : Int) : Int) ≤ 1)) = true →
        ∃ (t190_2 : Bool) (t191_p_2 : Option Addr) (t191_n_2 : Nat) (t191_c_2 : Nat) (t192_2 : Int), (∀ wv_12, Ext wv_2 wv_12 → Loads P 47 ⟨r, 0, none⟩ (.agg #[(.bool t190_2), (.slice t191_p_2 t191_n_2 t191_c_2), (.int .i64 t192_2)]) wv_12) ∧ Calls P 17 ⟨[(.int .i64 1)]⟩ wv_2 fun e_5 wv_13 =>
        ∃ (t200_2 : Bool) (t201_p_2 : Option Addr) (t201_n_2 : Nat) (t201_c_2 : Nat), e_5 = .returned (.agg #[(.bool t200_2), (.slice t201_p_2 t201_n_2 t201_c_2)]) ∧
        Ext wv_2 wv_13 ∧ Calls P 41 ⟨[(.agg #[(.bool t190_2), (.slice t191_p_2 t191_n_2 t191_c_2), (.int .i64 t192_2)]), (.agg #[(.bool t200_2), (.slice t201_p_2 t201_n_2 t201_c_2), (.int .i64 0)])]⟩ wv_13 fun e_6 wv_14 =>
        ∃ (t22_2 : Int), e_6 = .returned (.int .i64 t22_2) ∧
        R (.bool (decide ((t22_2 : Int) ≤ 0))) wv_14) ∧
      ((decide ((((t14_n_1 : Nat) : Int) : Int) ≤ 1)) = false →
        R (.bool false) wv_2)) ∧
    (false = false →
      (false = true →
        ∃ (t190_3 : Bool) (t191_p_3 : Option Addr) (t191_n_3 : Nat) (t191_c_3 : Nat) (t192_3 : Int), (∀ wv_15, Ext wv_2 wv_15 → Loads P 47 ⟨r, 0, none⟩ (.agg #[(.bool t190_3), (.slice t191_p_3 t191_n_3 t191_c_3), (.int .i64 t192_3)]) wv_15) ∧ Calls P 17 ⟨[(.int .i64 1)]⟩ wv_2 fun e_7 wv_16 =>
        ∃ (t200_3 : Bool) (t201_p_3 : Option Addr) (t201_n_3 : Nat) (t201_c_3 : Nat), e_7 = .returned (.agg #[(.bool t200_3), (.slice t201_p_3 t201_n_3 t201_c_3)]) ∧
        Ext wv_2 wv_16 ∧ Calls P 41 ⟨[(.agg #[(.bool t190_3), (.slice t191_p_3 t191_n_3 t191_c_3), (.int .i64 t192_3)]), (.agg #[(.bool t200_3), (.slice t201_p_3 t201_n_3 t201_c_3), (.int .i64 0)])]⟩ wv_16 fun e_8 wv_17 =>
        ∃ (t22_3 : Int), e_8 = .returned (.int .i64 t22_3) ∧
        R (.bool (decide ((t22_3 : Int) ≤ 0))) wv_17) ∧
      (false = false →
        R (.bool false) wv_2)))
theorem spec_TaxRateOk_eq (r0 : Bool) (r1_p : Option Addr) (r1_n : Nat) (r1_c : Nat) (r2 : Int) (w : World) (R : Value → World → Prop) : spec_TaxRateOk r0 r1_p r1_n r1_c r2 w R = fsem P Try.f28 (fun k => []) [(.agg #[(.bool r0), (.slice r1_p r1_n r1_c), (.int .i64 r2)])] R w := by kernel_rfl
theorem spec_TaxRateOk_ret {r0 : Bool} {r1_p : Option Addr} {r1_n : Nat} {r1_c : Nat} {r2 : Int} {w : World} {R : Value → World → Prop} (h : spec_TaxRateOk r0 r1_p r1_n r1_c r2 w R) : Ret P 28 [(.agg #[(.bool r0), (.slice r1_p r1_n r1_c), (.int .i64 r2)])] w R :=
  Ret.of_fsem Try.func28 rfl (Eq.mp (spec_TaxRateOk_eq r0 r1_p r1_n r1_c r2 w R) h)
def spec_NatOk (a_p : Option Addr) (a_n : Nat) (a_c : Nat) (w : World) (R : Value → World → Prop) : Prop :=
  ∃ (Inv : Int → World → Prop) (mu : Int → World → Nat), Inv 0 w ∧
  ∀ (junk : Fr) (wv : World) (t7 : Int), Inv t7 wv →
    ((decide ((t7 : Int) < ((a_n : Nat) : Int))) = true →
      (0 ≤ (t7 : Int) ∧ (t7 : Int) < (a_n : Nat)) ∧ ptrS a_p fun ad => ∃ (t10 : Int), Loads P 3 (ad.add (t7.toNat * 1)) (.int .i64 t10) wv ∧ Calls P 27 ⟨[(.int .i64 t10), (.int .i64 0), (.int .i64 999999999)]⟩ wv fun e wv_1 =>
      ∃ (t12 : Bool), e = .returned (.bool t12) ∧
      ((!t12) = true →
        R (.bool false) wv_1) ∧
      ((!t12) = false →
        ∃ t14 : Int, t14 = IntKind.wrap .i64 (t7 + 1) ∧ Inv t14 wv_1 ∧ mu t14 wv_1 < mu t7 wv)) ∧
    ((decide ((t7 : Int) < ((a_n : Nat) : Int))) = false →
      ((decide ((((a_n : Nat) : Int) : Int) ≤ 50)) = true →
        ((decide ((((a_n : Nat) : Int) : Int) = 0)) = true →
          R (.bool true) wv) ∧
        ((decide ((((a_n : Nat) : Int) : Int) = 0)) = false →
          ∃ t26 : Int, t26 = IntKind.wrap .i64 (((a_n : Nat) : Int) - 1) ∧ (0 ≤ (t26 : Int) ∧ (t26 : Int) < (a_n : Nat)) ∧ ptrS a_p fun ad_1 => ∃ (t28 : Int), Loads P 3 (ad_1.add (t26.toNat * 1)) (.int .i64 t28) wv ∧ R (.bool (decide ((t28 : Int) ≠ 0))) wv)) ∧
      ((decide ((((a_n : Nat) : Int) : Int) ≤ 50)) = false →
        R (.bool false) wv))
theorem spec_NatOk_eq (a_p : Option Addr) (a_n : Nat) (a_c : Nat) (w : World) (R : Value → World → Prop) : spec_NatOk a_p a_n a_c w R = fsem P Try.f29 (fun k => cond (Nat.beq k 3) [(7, .one (.int .i64))] ([])) [(.slice a_p a_n a_c)] R w := by kernel_rfl
theorem spec_NatOk_ret {a_p : Option Addr} {a_n : Nat} {a_c : Nat} {w : World} {R : Value → World → Prop} (h : spec_NatOk a_p a_n a_c w R) : Ret P 29 [(.slice a_p a_n a_c)] w R :=
  Ret.of_fsem Try.func29 rfl (Eq.mp (spec_NatOk_eq a_p a_n a_c w R) h)
def spec_l02Cmp (a_p : Option Addr) (a_n : Nat) (a_c : Nat) (b_p : Option Addr) (b_n : Nat) (b_c : Nat) (w : World) (R : Value → World → Prop) : Prop :=
  ((decide ((((a_n : Nat) : Int) : Int) ≠ ((b_n : Nat) : Int))) = true →
    ((decide ((((a_n : Nat) : Int) : Int) < ((b_n : Nat) : Int))) = true →
      R (.int .i64 (-1)) w) ∧
    ((decide ((((a_n : Nat) : Int) : Int) < ((b_n : Nat) : Int))) = false →
      R (.int .i64 1) w)) ∧
  ((decide ((((a_n : Nat) : Int) : Int) ≠ ((b_n : Nat) : Int))) = false →
    ∃ t18 : Int, t18 = IntKind.wrap .i64 (((a_n : Nat) : Int) - 1) ∧ ∃ (Inv : Int → World → Prop) (mu : Int → World → Nat), Inv t18 w ∧
    ∀ (junk : Fr) (wv : World) (i : Int), Inv i wv →
      ((decide ((0 : Int) ≤ i)) = true →
        (0 ≤ (i : Int) ∧ (i : Int) < (a_n : Nat)) ∧ ptrS a_p fun ad => ∃ (t26 : Int), (∀ wv_1, Ext wv.drew wv_1 → Loads P 3 (ad.add (i.toNat * 1)) (.int .i64 t26) wv_1) ∧ (0 ≤ (i : Int) ∧ (i : Int) < (b_n : Nat)) ∧ ptrS b_p fun ad_1 => ∃ (t30 : Int), (∀ wv_2, Ext wv.drew wv_2 → Loads P 3 (ad_1.add (i.toNat * 1)) (.int .i64 t30) wv_2) ∧ ((decide ((t26 : Int) < t30)) = true →
          R (.int .i64 (-1)) wv.drew) ∧
        ((decide ((t26 : Int) < t30)) = false →
          (0 ≤ (i : Int) ∧ (i : Int) < (a_n : Nat)) ∧ ptrS a_p fun ad_2 => ∃ (t35 : Int), (∀ wv_3, Ext wv.drew.drew wv_3 → Loads P 3 (ad_2.add (i.toNat * 1)) (.int .i64 t35) wv_3) ∧ (0 ≤ (i : Int) ∧ (i : Int) < (b_n : Nat)) ∧ ptrS b_p fun ad_3 => ∃ (t39 : Int), (∀ wv_4, Ext wv.drew.drew wv_4 → Loads P 3 (ad_3.add (i.toNat * 1)) (.int .i64 t39) wv_4) ∧ ((decide ((t39 : Int) < t35)) = true →
            R (.int .i64 1) wv.drew.drew) ∧
          ((decide ((t39 : Int) < t35)) = false →
            ∃ t22 : Int, t22 = IntKind.wrap .i64 (i - 1) ∧ Inv t22 wv.drew.drew ∧ mu t22 wv.drew.drew < mu i wv))) ∧
      ((decide ((0 : Int) ≤ i)) = false →
        R (.int .i64 0) wv))
theorem spec_l02Cmp_eq (a_p : Option Addr) (a_n : Nat) (a_c : Nat) (b_p : Option Addr) (b_n : Nat) (b_c : Nat) (w : World) (R : Value → World → Prop) : spec_l02Cmp a_p a_n a_c b_p b_n b_c w R = fsem P Try.f30 (fun k => cond (Nat.beq k 7) [(5, .one (.int .i64))] ([])) [(.slice a_p a_n a_c), (.slice b_p b_n b_c)] R w := by kernel_rfl
theorem spec_l02Cmp_ret {a_p : Option Addr} {a_n : Nat} {a_c : Nat} {b_p : Option Addr} {b_n : Nat} {b_c : Nat} {w : World} {R : Value → World → Prop} (h : spec_l02Cmp a_p a_n a_c b_p b_n b_c w R) : Ret P 30 [(.slice a_p a_n a_c), (.slice b_p b_n b_c)] w R :=
  Ret.of_fsem Try.func30 rfl (Eq.mp (spec_l02Cmp_eq a_p a_n a_c b_p b_n b_c w R) h)
def spec_l04Make (neg : Bool) (a_p : Option Addr) (a_n : Nat) (a_c : Nat) (w : World) (R : Value → World → Prop) : Prop :=
  ∀ (r : Nat) (wv : World), New w (.cells ⟨[(.bool false), (.slice none 0 0)]⟩ 31 (0, 0)) r wv →
  Calls P 42 ⟨[(.slice a_p a_n a_c)]⟩ wv fun e wv_1 =>
  ∃ (t7_p : Option Addr) (t7_n : Nat) (t7_c : Nat), e = .returned (.slice t7_p t7_n t7_c) ∧
  (neg = true →
    ∀ (r_1 : Nat) (wv_2 : World), New wv_1 (.cells ⟨[]⟩ 3 (0, 0)) r_1 wv_2 →
    ∃ (t16_p : Option Addr) (t16_n : Nat) (t16_c : Nat) (wv_3 : World), Appends P [23, 23] [(.slice (some ⟨r_1, 0, none⟩) 0 0), (.slice t7_p t7_n t7_c)] (.slice t16_p t16_n t16_c) wv_2 wv_3 ∧
    ∃ wv_4, Stores P 31 ⟨r, 0, none⟩ (.agg #[(.bool (decide ((0 : Int) < ((t7_n : Nat) : Int)))), (.slice t16_p t16_n t16_c)]) wv_3 wv_4 ∧
    ∃ (r0 : Bool) (r1_p : Option Addr) (r1_n : Nat) (r1_c : Nat), Loads P 31 ⟨r, 0, none⟩ (.agg #[(.bool r0), (.slice r1_p r1_n r1_c)]) wv_4 ∧ R (.agg #[(.bool r0), (.slice r1_p r1_n r1_c)]) wv_4) ∧
  (neg = false →
    ∀ (r_2 : Nat) (wv_5 : World), New wv_1 (.cells ⟨[]⟩ 3 (0, 0)) r_2 wv_5 →
    ∃ (t16_p_1 : Option Addr) (t16_n_1 : Nat) (t16_c_1 : Nat) (wv_6 : World), Appends P [23, 23] [(.slice (some ⟨r_2, 0, none⟩) 0 0), (.slice t7_p t7_n t7_c)] (.slice t16_p_1 t16_n_1 t16_c_1) wv_5 wv_6 ∧
    ∃ wv_7, Stores P 31 ⟨r, 0, none⟩ (.agg #[(.bool false), (.slice t16_p_1 t16_n_1 t16_c_1)]) wv_6 wv_7 ∧
    ∃ (r0_1 : Bool) (r1_p_1 : Option Addr) (r1_n_1 : Nat) (r1_c_1 : Nat), Loads P 31 ⟨r, 0, none⟩ (.agg #[(.bool r0_1), (.slice r1_p_1 r1_n_1 r1_c_1)]) wv_7 ∧ R (.agg #[(.bool r0_1), (.slice r1_p_1 r1_n_1 r1_c_1)]) wv_7)
theorem spec_l04Make_eq (neg : Bool) (a_p : Option Addr) (a_n : Nat) (a_c : Nat) (w : World) (R : Value → World → Prop) : spec_l04Make neg a_p a_n a_c w R = fsem P Try.f31 (fun k => []) [(.bool neg), (.slice a_p a_n a_c)] R w := by kernel_rfl
theorem spec_l04Make_ret {neg : Bool} {a_p : Option Addr} {a_n : Nat} {a_c : Nat} {w : World} {R : Value → World → Prop} (h : spec_l04Make neg a_p a_n a_c w R) : Ret P 31 [(.bool neg), (.slice a_p a_n a_c)] w R :=
  Ret.of_fsem Try.func31 rfl (Eq.mp (spec_l04Make_eq neg a_p a_n a_c w R) h)
def spec_NatOf (n : Int) (w : World) (R : Value → World → Prop) : Prop :=
  ∀ (r : Nat) (wv : World), New w (.cells ⟨[]⟩ 3 (0, 0)) r wv →
  ∃ (Inv : Int → Option Addr → Nat → Nat → World → Prop) (mu : Int → Option Addr → Nat → Nat → World → Nat), Inv n (some ⟨r, 0, none⟩) 0 0 wv ∧
  ∀ (junk : Fr) (wv_1 : World) (n_1 : Int) (out_p : Option Addr) (out_n : Nat) (out_c : Nat), Inv n_1 out_p out_n out_c wv_1 →
    ((decide ((0 : Int) < n_1)) = true →
      (1000000000 : Int) ≠ 0 ∧ ∃ t9 : Int, t9 = Int.tmod n_1 1000000000 ∧ ∀ (r_1 : Nat) (wv_2 : World), New wv_1 (.cells ⟨[(.int .i64 t9)]⟩ 3 (0, 0)) r_1 wv_2 →
      ∃ (t11_p : Option Addr) (t11_n : Nat) (t11_c : Nat) (wv_3 : World), Appends P [23, 23] [(.slice out_p out_n out_c), (.slice (some ⟨r_1, 0, none⟩) 1 1)] (.slice t11_p t11_n t11_c) wv_2 wv_3 ∧
      (1000000000 : Int) ≠ 0 ∧ ∃ t13 : Int, t13 = IntKind.wrap .i64 (Int.tdiv n_1 1000000000) ∧ Inv t13 t11_p t11_n t11_c wv_3 ∧ mu t13 t11_p t11_n t11_c wv_3 < mu n_1 out_p out_n out_c wv_1) ∧
    ((decide ((0 : Int) < n_1)) = false →
      R (.slice out_p out_n out_c) wv_1)
theorem spec_NatOf_eq (n : Int) (w : World) (R : Value → World → Prop) : spec_NatOf n w R = fsem P Try.f32 (fun k => cond (Nat.beq k 3) [(0, .one (.int .i64)), (3, .one .slice)] ([])) [(.int .i64 n)] R w := by kernel_rfl
theorem spec_NatOf_ret {n : Int} {w : World} {R : Value → World → Prop} (h : spec_NatOf n w R) : Ret P 32 [(.int .i64 n)] w R :=
  Ret.of_fsem Try.func32 rfl (Eq.mp (spec_NatOf_eq n w R) h)
def impl_TaxRateOk (r0 : Bool) (r1_p : Option Addr) (r1_n : Nat) (r1_c : Nat) (r2 : Int) (w : World) (R : Value → World → Prop) : Prop :=
  ∀ (r : Nat) (wv : World), New w (.cells ⟨[(.bool r0), (.slice r1_p r1_n r1_c), (.int .i64 r2)]⟩ 47 (0, 0)) r wv →
  ∃ (t30 : Bool) (t31_p : Option Addr) (t31_n : Nat) (t31_c : Nat) (t32 : Int), (∀ wv_1, Ext wv.drew wv_1 → Loads P 47 ⟨r, 0, none⟩ (.agg #[(.bool t30), (.slice t31_p t31_n t31_c), (.int .i64 t32)]) wv_1) ∧ Calls P 43 ⟨[(.agg #[(.bool t30), (.slice t31_p t31_n t31_c), (.int .i64 t32)])]⟩ wv.drew fun e wv_2 =>
  ∃ (t4 : Bool), e = .returned (.bool t4) ∧
  (t4 = true →
    ∃ (t8_p : Option Addr) (t8_n : Nat) (t8_c : Nat), (∀ wv_3, Ext wv_2 wv_3 → Loads P 23 (((⟨r, 0, none⟩ : Addr).add 0).add 1) (.slice t8_p t8_n t8_c) wv_3) ∧ ((decide ((((t8_n : Nat) : Int) : Int) ≤ 1)) = true →
      ∃ (t15 : Bool), (∀ wv_4, Ext wv_2 wv_4 → Loads P 4 (((⟨r, 0, none⟩ : Addr).add 0).add 0) (.bool t15) wv_4) ∧ ((!t15) = true →
        ∃ (t190 : Bool) (t191_p : Option Addr) (t191_n : Nat) (t191_c : Nat) (t192 : Int), (∀ wv_5, Ext wv_2 wv_5 → Loads P 47 ⟨r, 0, none⟩ (.agg #[(.bool t190), (.slice t191_p t191_n t191_c), (.int .i64 t192)]) wv_5) ∧ Calls P 45 ⟨[(.int .i64 1)]⟩ wv_2 fun e_1 wv_6 =>
        ∃ (t200 : Bool) (t201_p : Option Addr) (t201_n : Nat) (t201_c : Nat), e_1 = .returned (.agg #[(.bool t200), (.slice t201_p t201_n t201_c)]) ∧
        Ext wv_2 wv_6 ∧ Calls P 44 ⟨[(.agg #[(.bool t190), (.slice t191_p t191_n t191_c), (.int .i64 t192)]), (.agg #[(.bool t200), (.slice t201_p t201_n t201_c), (.int .i64 0)])]⟩ wv_6 fun e_2 wv_7 =>
        ∃ (t22 : Int), e_2 = .returned (.int .i64 t22) ∧
        R (.bool (decide ((t22 : Int) ≤ 0))) wv_7) ∧
      ((!t15) = false →
        R (.bool false) wv_2)) ∧
    ((decide ((((t8_n : Nat) : Int) : Int) ≤ 1)) = false →
      (false = true →
        ∃ (t190_1 : Bool) (t191_p_1 : Option Addr) (t191_n_1 : Nat) (t191_c_1 : Nat) (t192_1 : Int), (∀ wv_8, Ext wv_2 wv_8 → Loads P 47 ⟨r, 0, none⟩ (.agg #[(.bool t190_1), (.slice t191_p_1 t191_n_1 t191_c_1), (.int .i64 t192_1)]) wv_8) ∧ Calls P 45 ⟨[(.int .i64 1)]⟩ wv_2 fun e_3 wv_9 =>
        ∃ (t200_1 : Bool) (t201_p_1 : Option Addr) (t201_n_1 : Nat) (t201_c_1 : Nat), e_3 = .returned (.agg #[(.bool t200_1), (.slice t201_p_1 t201_n_1 t201_c_1)]) ∧
        Ext wv_2 wv_9 ∧ Calls P 44 ⟨[(.agg #[(.bool t190_1), (.slice t191_p_1 t191_n_1 t191_c_1), (.int .i64 t192_1)]), (.agg #[(.bool t200_1), (.slice t201_p_1 t201_n_1 t201_c_1), (.int .i64 0)])]⟩ wv_9 fun e_4 wv_10 =>
        ∃ (t22_1 : Int), e_4 = .returned (.int .i64 t22_1) ∧
        R (.bool (decide ((t22_1 : Int) ≤ 0))) wv_10) ∧
      (false = false →
        R (.bool false) wv_2))) ∧
  (t4 = false →
    (false = true →
      ∃ (t15_1 : Bool), (∀ wv_11, Ext wv_2 wv_11 → Loads P 4 (((⟨r, 0, none⟩ : Addr).add 0).add 0) (.bool t15_1) wv_11) ∧ ((!t15_1) = true →
        ∃ (t190_2 : Bool) (t191_p_2 : Option Addr) (t191_n_2 : Nat) (t191_c_2 : Nat) (t192_2 : Int), (∀ wv_12, Ext wv_2 wv_12 → Loads P 47 ⟨r, 0, none⟩ (.agg #[(.bool t190_2), (.slice t191_p_2 t191_n_2 t191_c_2), (.int .i64 t192_2)]) wv_12) ∧ Calls P 45 ⟨[(.int .i64 1)]⟩ wv_2 fun e_5 wv_13 =>
        ∃ (t200_2 : Bool) (t201_p_2 : Option Addr) (t201_n_2 : Nat) (t201_c_2 : Nat), e_5 = .returned (.agg #[(.bool t200_2), (.slice t201_p_2 t201_n_2 t201_c_2)]) ∧
        Ext wv_2 wv_13 ∧ Calls P 44 ⟨[(.agg #[(.bool t190_2), (.slice t191_p_2 t191_n_2 t191_c_2), (.int .i64 t192_2)]), (.agg #[(.bool t200_2), (.slice t201_p_2 t201_n_2 t201_c_2), (.int .i64 0)])]⟩ wv_13 fun e_6 wv_14 =>
        ∃ (t22_2 : Int), e_6 = .returned (.int .i64 t22_2) ∧
        R (.bool (decide ((t22_2 : Int) ≤ 0))) wv_14) ∧
      ((!t15_1) = false →
        R (.bool false) wv_2)) ∧
    (false = false →
      (false = true →
        ∃ (t190_3 : Bool) (t191_p_3 : Option Addr) (t191_n_3 : Nat) (t191_c_3 : Nat) (t192_3 : Int), (∀ wv_15, Ext wv_2 wv_15 → Loads P 47 ⟨r, 0, none⟩ (.agg #[(.bool t190_3), (.slice t191_p_3 t191_n_3 t191_c_3), (.int .i64 t192_3)]) wv_15) ∧ Calls P 45 ⟨[(.int .i64 1)]⟩ wv_2 fun e_7 wv_16 =>
        ∃ (t200_3 : Bool) (t201_p_3 : Option Addr) (t201_n_3 : Nat) (t201_c_3 : Nat), e_7 = .returned (.agg #[(.bool t200_3), (.slice t201_p_3 t201_n_3 t201_c_3)]) ∧
        Ext wv_2 wv_16 ∧ Calls P 44 ⟨[(.agg #[(.bool t190_3), (.slice t191_p_3 t191_n_3 t191_c_3), (.int .i64 t192_3)]), (.agg #[(.bool t200_3), (.slice t201_p_3 t201_n_3 t201_c_3), (.int .i64 0)])]⟩ wv_16 fun e_8 wv_17 =>
        ∃ (t22_3 : Int), e_8 = .returned (.int .i64 t22_3) ∧
        R (.bool (decide ((t22_3 : Int) ≤ 0))) wv_17) ∧
      (false = false →
        R (.bool false) wv_2)))
theorem impl_TaxRateOk_eq (r0 : Bool) (r1_p : Option Addr) (r1_n : Nat) (r1_c : Nat) (r2 : Int) (w : World) (R : Value → World → Prop) : impl_TaxRateOk r0 r1_p r1_n r1_c r2 w R = fsem P Try.f34 (fun k => []) [(.agg #[(.bool r0), (.slice r1_p r1_n r1_c), (.int .i64 r2)])] R w := by kernel_rfl
theorem impl_TaxRateOk_ret {r0 : Bool} {r1_p : Option Addr} {r1_n : Nat} {r1_c : Nat} {r2 : Int} {w : World} {R : Value → World → Prop} (h : impl_TaxRateOk r0 r1_p r1_n r1_c r2 w R) : Ret P 34 [(.agg #[(.bool r0), (.slice r1_p r1_n r1_c), (.int .i64 r2)])] w R :=
  Ret.of_fsem Try.func34 rfl (Eq.mp (impl_TaxRateOk_eq r0 r1_p r1_n r1_c r2 w R) h)
def impl_NatOk_j0 (a_p : Option Addr) (a_n : Nat) (W : World) (R : Value → World → Prop) : Prop :=
  ∃ (Inv : Int → World → Prop) (mu : Int → World → Nat), Inv 0 W ∧
  ∀ (junk : Fr) (wv : World) (t24 : Int), Inv t24 wv →
    ((decide ((t24 : Int) < ((a_n : Nat) : Int))) = true →
      (0 ≤ (t24 : Int) ∧ (t24 : Int) < (a_n : Nat)) ∧ ptrS a_p fun ad => ∃ (t27 : Int), Loads P 3 (ad.add (t24.toNat * 1)) (.int .i64 t27) wv ∧ ((decide ((t27 : Int) < 0)) = true →
        (true = true →
          R (.bool false) wv) ∧
        (true = false →
          ∃ t34 : Int, t34 = IntKind.wrap .i64 (t24 + 1) ∧ Inv t34 wv ∧ mu t34 wv < mu t24 wv)) ∧
      ((decide ((t27 : Int) < 0)) = false →
        ((decide ((1000000000 : Int) ≤ t27)) = true →
          R (.bool false) wv) ∧
        ((decide ((1000000000 : Int) ≤ t27)) = false →
          ∃ t34_1 : Int, t34_1 = IntKind.wrap .i64 (t24 + 1) ∧ Inv t34_1 wv ∧ mu t34_1 wv < mu t24 wv))) ∧
    ((decide ((t24 : Int) < ((a_n : Nat) : Int))) = false →
      R (.bool true) wv)
def impl_NatOk (a_p : Option Addr) (a_n : Nat) (a_c : Nat) (w : World) (R : Value → World → Prop) : Prop :=
  ((decide ((50 : Int) < ((a_n : Nat) : Int))) = true →
    (true = true →
      R (.bool false) w) ∧
    (true = false →
      impl_NatOk_j0 a_p a_n w R)) ∧
  ((decide ((50 : Int) < ((a_n : Nat) : Int))) = false →
    ((decide ((0 : Int) < ((a_n : Nat) : Int))) = true →
      ∃ t16 : Int, t16 = IntKind.wrap .i64 (((a_n : Nat) : Int) - 1) ∧ (0 ≤ (t16 : Int) ∧ (t16 : Int) < (a_n : Nat)) ∧ ptrS a_p fun ad_1 => ∃ (t18 : Int), Loads P 3 (ad_1.add (t16.toNat * 1)) (.int .i64 t18) w ∧ ((decide ((t18 : Int) = 0)) = true →
        R (.bool false) w) ∧
      ((decide ((t18 : Int) = 0)) = false →
        impl_NatOk_j0 a_p a_n w R)) ∧
    ((decide ((0 : Int) < ((a_n : Nat) : Int))) = false →
      (false = true →
        R (.bool false) w) ∧
      (false = false →
        impl_NatOk_j0 a_p a_n w R)))
theorem impl_NatOk_eq (a_p : Option Addr) (a_n : Nat) (a_c : Nat) (w : World) (R : Value → World → Prop) : impl_NatOk a_p a_n a_c w R = fsem P Try.f35 (fun k => cond (Nat.beq k 5) [(24, .one (.int .i64))] ([])) [(.slice a_p a_n a_c)] R w := by kernel_rfl
theorem impl_NatOk_ret {a_p : Option Addr} {a_n : Nat} {a_c : Nat} {w : World} {R : Value → World → Prop} (h : impl_NatOk a_p a_n a_c w R) : Ret P 35 [(.slice a_p a_n a_c)] w R :=
  Ret.of_fsem Try.func35 rfl (Eq.mp (impl_NatOk_eq a_p a_n a_c w R) h)
def impl_natCmp (a_p : Option Addr) (a_n : Nat) (a_c : Nat) (b_p : Option Addr) (b_n : Nat) (b_c : Nat) (w : World) (R : Value → World → Prop) : Prop :=
  ((decide ((((a_n : Nat) : Int) : Int) ≠ ((b_n : Nat) : Int))) = true →
    ((decide ((((a_n : Nat) : Int) : Int) < ((b_n : Nat) : Int))) = true →
      R (.int .i64 (-1)) w) ∧
    ((decide ((((a_n : Nat) : Int) : Int) < ((b_n : Nat) : Int))) = false →
      R (.int .i64 1) w)) ∧
  ((decide ((((a_n : Nat) : Int) : Int) ≠ ((b_n : Nat) : Int))) = false →
    ∃ t18 : Int, t18 = IntKind.wrap .i64 (((a_n : Nat) : Int) - 1) ∧ ∃ (Inv : Int → World → Prop) (mu : Int → World → Nat), Inv t18 w ∧
    ∀ (junk : Fr) (wv : World) (i : Int), Inv i wv →
      ((decide ((0 : Int) ≤ i)) = true →
        (0 ≤ (i : Int) ∧ (i : Int) < (a_n : Nat)) ∧ ptrS a_p fun ad => ∃ (t26 : Int), (∀ wv_1, Ext wv.drew wv_1 → Loads P 3 (ad.add (i.toNat * 1)) (.int .i64 t26) wv_1) ∧ (0 ≤ (i : Int) ∧ (i : Int) < (b_n : Nat)) ∧ ptrS b_p fun ad_1 => ∃ (t30 : Int), (∀ wv_2, Ext wv.drew wv_2 → Loads P 3 (ad_1.add (i.toNat * 1)) (.int .i64 t30) wv_2) ∧ ((decide ((t26 : Int) ≠ t30)) = true →
          (0 ≤ (i : Int) ∧ (i : Int) < (a_n : Nat)) ∧ ptrS a_p fun ad_2 => ∃ (t35 : Int), (∀ wv_3, Ext wv.drew.drew wv_3 → Loads P 3 (ad_2.add (i.toNat * 1)) (.int .i64 t35) wv_3) ∧ (0 ≤ (i : Int) ∧ (i : Int) < (b_n : Nat)) ∧ ptrS b_p fun ad_3 => ∃ (t39 : Int), (∀ wv_4, Ext wv.drew.drew wv_4 → Loads P 3 (ad_3.add (i.toNat * 1)) (.int .i64 t39) wv_4) ∧ ((decide ((t35 : Int) < t39)) = true →
            R (.int .i64 (-1)) wv.drew.drew) ∧
          ((decide ((t35 : Int) < t39)) = false →
            R (.int .i64 1) wv.drew.drew)) ∧
        ((decide ((t26 : Int) ≠ t30)) = false →
          ∃ t22 : Int, t22 = IntKind.wrap .i64 (i - 1) ∧ Inv t22 wv.drew ∧ mu t22 wv.drew < mu i wv)) ∧
      ((decide ((0 : Int) ≤ i)) = false →
        R (.int .i64 0) wv))
theorem impl_natCmp_eq (a_p : Option Addr) (a_n : Nat) (a_c : Nat) (b_p : Option Addr) (b_n : Nat) (b_c : Nat) (w : World) (R : Value → World → Prop) : impl_natCmp a_p a_n a_c b_p b_n b_c w R = fsem P Try.f37 (fun k => cond (Nat.beq k 7) [(5, .one (.int .i64))] ([])) [(.slice a_p a_n a_c), (.slice b_p b_n b_c)] R w := by kernel_rfl
theorem impl_natCmp_ret {a_p : Option Addr} {a_n : Nat} {a_c : Nat} {b_p : Option Addr} {b_n : Nat} {b_c : Nat} {w : World} {R : Value → World → Prop} (h : impl_natCmp a_p a_n a_c b_p b_n b_c w R) : Ret P 37 [(.slice a_p a_n a_c), (.slice b_p b_n b_c)] w R :=
  Ret.of_fsem Try.func37 rfl (Eq.mp (impl_natCmp_eq a_p a_n a_c b_p b_n b_c w R) h)
def impl_NatOf (n : Int) (w : World) (R : Value → World → Prop) : Prop :=
  ((decide ((n : Int) < 0)) = true →
    R (.slice none 0 0) w) ∧
  ((decide ((n : Int) < 0)) = false →
    ∃ t6 : Int, t6 = IntKind.wrap .u64 n ∧ Calls P 46 ⟨[(.int .u64 t6)]⟩ w fun e wv =>
    ∃ (t7_p : Option Addr) (t7_n : Nat) (t7_c : Nat), e = .returned (.slice t7_p t7_n t7_c) ∧
    R (.slice t7_p t7_n t7_c) wv)
theorem impl_NatOf_eq (n : Int) (w : World) (R : Value → World → Prop) : impl_NatOf n w R = fsem P Try.f38 (fun k => []) [(.int .i64 n)] R w := by kernel_rfl
theorem impl_NatOf_ret {n : Int} {w : World} {R : Value → World → Prop} (h : impl_NatOf n w R) : Ret P 38 [(.int .i64 n)] w R :=
  Ret.of_fsem Try.func38 rfl (Eq.mp (impl_NatOf_eq n w R) h)
def spec_DecOk (d0 : Bool) (d1_p : Option Addr) (d1_n : Nat) (d1_c : Nat) (d2 : Int) (w : World) (R : Value → World → Prop) : Prop :=
  ∀ (r : Nat) (wv : World), New w (.cells ⟨[(.bool d0), (.slice d1_p d1_n d1_c), (.int .i64 d2)]⟩ 47 (0, 0)) r wv →
  ∃ (t40 : Bool) (t41_p : Option Addr) (t41_n : Nat) (t41_c : Nat), Loads P 31 ((⟨r, 0, none⟩ : Addr).add 0) (.agg #[(.bool t40), (.slice t41_p t41_n t41_c)]) wv ∧ Calls P 15 ⟨[(.agg #[(.bool t40), (.slice t41_p t41_n t41_c)])]⟩ wv fun e wv_1 =>
  ∃ (t5 : Bool), e = .returned (.bool t5) ∧
  (t5 = true →
    ∃ (t9_p : Option Addr) (t9_n : Nat) (t9_c : Nat), Loads P 23 (((⟨r, 0, none⟩ : Addr).add 0).add 1) (.slice t9_p t9_n t9_c) wv_1 ∧ ((decide ((((t9_n : Nat) : Int) : Int) ≤ 6)) = true →
      ∃ (t15 : Int), Loads P 3 ((⟨r, 0, none⟩ : Addr).add 2) (.int .i64 t15) wv_1 ∧ Calls P 27 ⟨[(.int .i64 t15), (.int .i64 0), (.int .i64 30)]⟩ wv_1 fun e_1 wv_2 =>
      ∃ (t16 : Bool), e_1 = .returned (.bool t16) ∧
      R (.bool t16) wv_2) ∧
    ((decide ((((t9_n : Nat) : Int) : Int) ≤ 6)) = false →
      R (.bool false) wv_1)) ∧
  (t5 = false →
    (false = true →
      ∃ (t15_1 : Int), Loads P 3 ((⟨r, 0, none⟩ : Addr).add 2) (.int .i64 t15_1) wv_1 ∧ Calls P 27 ⟨[(.int .i64 t15_1), (.int .i64 0), (.int .i64 30)]⟩ wv_1 fun e_2 wv_3 =>
      ∃ (t16_1 : Bool), e_2 = .returned (.bool t16_1) ∧
      R (.bool t16_1) wv_3) ∧
    (false = false →
      R (.bool false) wv_1))
theorem spec_DecOk_eq (d0 : Bool) (d1_p : Option Addr) (d1_n : Nat) (d1_c : Nat) (d2 : Int) (w : World) (R : Value → World → Prop) : spec_DecOk d0 d1_p d1_n d1_c d2 w R = fsem P Try.f40 (fun k => []) [(.agg #[(.bool d0), (.slice d1_p d1_n d1_c), (.int .i64 d2)])] R w := by kernel_rfl
theorem spec_DecOk_ret {d0 : Bool} {d1_p : Option Addr} {d1_n : Nat} {d1_c : Nat} {d2 : Int} {w : World} {R : Value → World → Prop} (h : spec_DecOk d0 d1_p d1_n d1_c d2 w R) : Ret P 40 [(.agg #[(.bool d0), (.slice d1_p d1_n d1_c), (.int .i64 d2)])] w R :=
  Ret.of_fsem Try.func40 rfl (Eq.mp (spec_DecOk_eq d0 d1_p d1_n d1_c d2 w R) h)
def spec_DecCmp_j0 (r : Nat) (r_1 : Nat) (W : World) (R : Value → World → Prop) : Prop :=
  ∃ (t170 : Bool) (t171_p : Option Addr) (t171_n : Nat) (t171_c : Nat) (t172 : Int), Loads P 47 ⟨r, 0, none⟩ (.agg #[(.bool t170), (.slice t171_p t171_n t171_c), (.int .i64 t172)]) W ∧ ∃ (t180 : Bool) (t181_p : Option Addr) (t181_n : Nat) (t181_c : Nat) (t182 : Int), Loads P 47 ⟨r_1, 0, none⟩ (.agg #[(.bool t180), (.slice t181_p t181_n t181_c), (.int .i64 t182)]) W ∧ Calls P 47 ⟨[(.agg #[(.bool t170), (.slice t171_p t171_n t171_c), (.int .i64 t172)]), (.agg #[(.bool t180), (.slice t181_p t181_n t181_c), (.int .i64 t182)])]⟩ W fun e_1 wv_3 =>
  ∃ (t190 : Bool) (t191_p : Option Addr) (t191_n : Nat) (t191_c : Nat) (t190_1 : Bool) (t191_p_1 : Option Addr) (t191_n_1 : Nat) (t191_c_1 : Nat) (t19 : Int), e_1 = .returned (.tuple #[(.agg #[(.bool t190), (.slice t191_p t191_n t191_c)]), (.agg #[(.bool t190_1), (.slice t191_p_1 t191_n_1 t191_c_1)]), (.int .i64 t19)]) ∧
  ∀ (r_2 : Nat) (wv_4 : World), New wv_3 (.cells ⟨[(.bool false), (.slice none 0 0)]⟩ 31 (0, 0)) r_2 wv_4 →
  ∀ (r_3 : Nat) (wv_5 : World), New wv_4 (.cells ⟨[(.bool false), (.slice none 0 0)]⟩ 31 (0, 0)) r_3 wv_5 →
  ∃ wv_6, Stores P 31 ⟨r_2, 0, none⟩ (.agg #[(.bool t190), (.slice t191_p t191_n t191_c)]) wv_5 wv_6 ∧
  ∃ wv_7, Stores P 31 ⟨r_3, 0, none⟩ (.agg #[(.bool t190_1), (.slice t191_p_1 t191_n_1 t191_c_1)]) wv_6 wv_7 ∧
  ∃ (t230 : Bool) (t231_p : Option Addr) (t231_n : Nat) (t231_c : Nat), Loads P 31 ⟨r_2, 0, none⟩ (.agg #[(.bool t230), (.slice t231_p t231_n t231_c)]) wv_7 ∧ ∃ (t240 : Bool) (t241_p : Option Addr) (t241_n : Nat) (t241_c : Nat), Loads P 31 ⟨r_3, 0, none⟩ (.agg #[(.bool t240), (.slice t241_p t241_n t241_c)]) wv_7 ∧ Calls P 16 ⟨[(.agg #[(.bool t230), (.slice t231_p t231_n t231_c)]), (.agg #[(.bool t240), (.slice t241_p t241_n t241_c)])]⟩ wv_7 fun e_2 wv_8 =>
  ∃ (t25 : Int), e_2 = .returned (.int .i64 t25) ∧
  R (.int .i64 t25) wv_8
def spec_DecCmp (d0 : Bool) (d1_p : Option Addr) (d1_n : Nat) (d1_c : Nat) (d2 : Int) (e0 : Bool) (e1_p : Option Addr) (e1_n : Nat) (e1_c : Nat) (e2 : Int) (w : World) (R : Value → World → Prop) : Prop :=
  ∀ (r : Nat) (wv : World), New w (.cells ⟨[(.bool d0), (.slice d1_p d1_n d1_c), (.int .i64 d2)]⟩ 47 (0, 0)) r wv →
  ∀ (r_1 : Nat) (wv_1 : World), New wv (.cells ⟨[(.bool e0), (.slice e1_p e1_n e1_c), (.int .i64 e2)]⟩ 47 (0, 0)) r_1 wv_1 →
  ∃ (t80 : Bool) (t81_p : Option Addr) (t81_n : Nat) (t81_c : Nat) (t82 : Int), Loads P 47 ⟨r, 0, none⟩ (.agg #[(.bool t80), (.slice t81_p t81_n t81_c), (.int .i64 t82)]) wv_1 ∧ Calls P 40 ⟨[(.agg #[(.bool t80), (.slice t81_p t81_n t81_c), (.int .i64 t82)])]⟩ wv_1 fun e wv_2 =>
  ∃ (t9 : Bool), e = .returned (.bool t9) ∧
  ((!t9) = true →
    (true = true →
      R (.int .i64 0) wv_2) ∧
    (true = false →
      spec_DecCmp_j0 r r_1 wv_2 R)) ∧
  ((!t9) = false →
    ∃ (t120 : Bool) (t121_p : Option Addr) (t121_n : Nat) (t121_c : Nat) (t122 : Int), Loads P 47 ⟨r_1, 0, none⟩ (.agg #[(.bool t120), (.slice t121_p t121_n t121_c), (.int .i64 t122)]) wv_2 ∧ Calls P 40 ⟨[(.agg #[(.bool t120), (.slice t121_p t121_n t121_c), (.int .i64 t122)])]⟩ wv_2 fun e_3 wv_9 =>
    ∃ (t13 : Bool), e_3 = .returned (.bool t13) ∧
    ((!t13) = true →
      R (.int .i64 0) wv_9) ∧
    ((!t13) = false →
      spec_DecCmp_j0 r r_1 wv_9 R))
theorem spec_DecCmp_eq (d0 : Bool) (d1_p : Option Addr) (d1_n : Nat) (d1_c : Nat) (d2 : Int) (e0 : Bool) (e1_p : Option Addr) (e1_n : Nat) (e1_c : Nat) (e2 : Int) (w : World) (R : Value → World → Prop) : spec_DecCmp d0 d1_p d1_n d1_c d2 e0 e1_p e1_n e1_c e2 w R = fsem P Try.f41 (fun k => []) [(.agg #[(.bool d0), (.slice d1_p d1_n d1_c), (.int .i64 d2)]), (.agg #[(.bool e0), (.slice e1_p e1_n e1_c), (.int .i64 e2)])] R w := by kernel_rfl
theorem spec_DecCmp_ret {d0 : Bool} {d1_p : Option Addr} {d1_n : Nat} {d1_c : Nat} {d2 : Int} {e0 : Bool} {e1_p : Option Addr} {e1_n : Nat} {e1_c : Nat} {e2 : Int} {w : World} {R : Value → World → Prop} (h : spec_DecCmp d0 d1_p d1_n d1_c d2 e0 e1_p e1_n e1_c e2 w R) : Ret P 41 [(.agg #[(.bool d0), (.slice d1_p d1_n d1_c), (.int .i64 d2)]), (.agg #[(.bool e0), (.slice e1_p e1_n e1_c), (.int .i64 e2)])] w R :=
  Ret.of_fsem Try.func41 rfl (Eq.mp (spec_DecCmp_eq d0 d1_p d1_n d1_c d2 e0 e1_p e1_n e1_c e2 w R) h)
def spec_l02Cap (a_p : Option Addr) (a_n : Nat) (a_c : Nat) (w : World) (R : Value → World → Prop) : Prop :=
  Calls P 48 ⟨[(.slice a_p a_n a_c)]⟩ w fun e wv =>
  ∃ (t5_p : Option Addr) (t5_n : Nat) (t5_c : Nat), e = .returned (.slice t5_p t5_n t5_c) ∧
  ((decide ((50 : Int) < ((t5_n : Nat) : Int))) = true →
    R (.slice none 0 0) wv) ∧
  ((decide ((50 : Int) < ((t5_n : Nat) : Int))) = false →
    R (.slice t5_p t5_n t5_c) wv)
theorem spec_l02Cap_eq (a_p : Option Addr) (a_n : Nat) (a_c : Nat) (w : World) (R : Value → World → Prop) : spec_l02Cap a_p a_n a_c w R = fsem P Try.f42 (fun k => []) [(.slice a_p a_n a_c)] R w := by kernel_rfl
theorem spec_l02Cap_ret {a_p : Option Addr} {a_n : Nat} {a_c : Nat} {w : World} {R : Value → World → Prop} (h : spec_l02Cap a_p a_n a_c w R) : Ret P 42 [(.slice a_p a_n a_c)] w R :=
  Ret.of_fsem Try.func42 rfl (Eq.mp (spec_l02Cap_eq a_p a_n a_c w R) h)
def impl_DecOk (d0 : Bool) (d1_p : Option Addr) (d1_n : Nat) (d1_c : Nat) (d2 : Int) (w : World) (R : Value → World → Prop) : Prop :=
  ∀ (r : Nat) (wv : World), New w (.cells ⟨[(.bool d0), (.slice d1_p d1_n d1_c), (.int .i64 d2)]⟩ 47 (0, 0)) r wv →
  ∃ (t40 : Bool) (t41_p : Option Addr) (t41_n : Nat) (t41_c : Nat), Loads P 31 ((⟨r, 0, none⟩ : Addr).add 0) (.agg #[(.bool t40), (.slice t41_p t41_n t41_c)]) wv ∧ Calls P 22 ⟨[(.agg #[(.bool t40), (.slice t41_p t41_n t41_c)])]⟩ wv fun e wv_1 =>
  ∃ (t5 : Bool), e = .returned (.bool t5) ∧
  (t5 = true →
    ∃ (t9_p : Option Addr) (t9_n : Nat) (t9_c : Nat), Loads P 23 (((⟨r, 0, none⟩ : Addr).add 0).add 1) (.slice t9_p t9_n t9_c) wv_1 ∧ ((decide ((((t9_n : Nat) : Int) : Int) ≤ 6)) = true →
      ∃ (t15 : Int), Loads P 3 ((⟨r, 0, none⟩ : Addr).add 2) (.int .i64 t15) wv_1 ∧ Calls P 49 ⟨[(.int .i64 t15)]⟩ wv_1 fun e_1 wv_2 =>
      ∃ (t16 : Bool), e_1 = .returned (.bool t16) ∧
      R (.bool t16) wv_2) ∧
    ((decide ((((t9_n : Nat) : Int) : Int) ≤ 6)) = false →
      R (.bool false) wv_1)) ∧
  (t5 = false →
    (false = true →
      ∃ (t15_1 : Int), Loads P 3 ((⟨r, 0, none⟩ : Addr).add 2) (.int .i64 t15_1) wv_1 ∧ Calls P 49 ⟨[(.int .i64 t15_1)]⟩ wv_1 fun e_2 wv_3 =>
      ∃ (t16_1 : Bool), e_2 = .returned (.bool t16_1) ∧
      R (.bool t16_1) wv_3) ∧
    (false = false →
      R (.bool false) wv_1))
theorem impl_DecOk_eq (d0 : Bool) (d1_p : Option Addr) (d1_n : Nat) (d1_c : Nat) (d2 : Int) (w : World) (R : Value → World → Prop) : impl_DecOk d0 d1_p d1_n d1_c d2 w R = fsem P Try.f43 (fun k => []) [(.agg #[(.bool d0), (.slice d1_p d1_n d1_c), (.int .i64 d2)])] R w := by kernel_rfl
theorem impl_DecOk_ret {d0 : Bool} {d1_p : Option Addr} {d1_n : Nat} {d1_c : Nat} {d2 : Int} {w : World} {R : Value → World → Prop} (h : impl_DecOk d0 d1_p d1_n d1_c d2 w R) : Ret P 43 [(.agg #[(.bool d0), (.slice d1_p d1_n d1_c), (.int .i64 d2)])] w R :=
  Ret.of_fsem Try.func43 rfl (Eq.mp (impl_DecOk_eq d0 d1_p d1_n d1_c d2 w R) h)
def impl_DecCmp_j0 (r : Nat) (r_1 : Nat) (W : World) (R : Value → World → Prop) : Prop :=
  ∃ (t15 : Int), Loads P 3 ((⟨r, 0, none⟩ : Addr).add 2) (.int .i64 t15) W ∧ ∃ (t17 : Int), Loads P 3 ((⟨r_1, 0, none⟩ : Addr).add 2) (.int .i64 t17) W ∧ ∃ t18 : Int, t18 = (if t17 > t15 then t17 else t15) ∧ Calls P 50 ⟨[(.int .i64 t18)]⟩ W fun e_1 wv_3 =>
  ∃ (t19 : Value), e_1 = .returned t19 ∧
  ∃ (t210 : Bool) (t211_p : Option Addr) (t211_n : Nat) (t211_c : Nat) (t212 : Int), (∀ wv_4, Ext wv_3.drew wv_4 → Loads P 47 ⟨r, 0, none⟩ (.agg #[(.bool t210), (.slice t211_p t211_n t211_c), (.int .i64 t212)]) wv_4) ∧ CallW P t19 [(.agg #[(.bool t210), (.slice t211_p t211_n t211_c), (.int .i64 t212)])] wv_3.drew fun e_2 wv_5 =>
  ∃ (t220 : Bool) (t221_p : Option Addr) (t221_n : Nat) (t221_c : Nat), e_2 = .returned (.agg #[(.bool t220), (.slice t221_p t221_n t221_c)]) ∧
  Ext wv_3.drew wv_5 ∧ ∃ (t240 : Bool) (t241_p : Option Addr) (t241_n : Nat) (t241_c : Nat) (t242 : Int), (∀ wv_6, Ext wv_3.drew wv_6 → Loads P 47 ⟨r_1, 0, none⟩ (.agg #[(.bool t240), (.slice t241_p t241_n t241_c), (.int .i64 t242)]) wv_6) ∧ CallW P t19 [(.agg #[(.bool t240), (.slice t241_p t241_n t241_c), (.int .i64 t242)])] wv_5 fun e_3 wv_7 =>
  ∃ (t250 : Bool) (t251_p : Option Addr) (t251_n : Nat) (t251_c : Nat), e_3 = .returned (.agg #[(.bool t250), (.slice t251_p t251_n t251_c)]) ∧
  Calls P 51 ⟨[(.agg #[(.bool t220), (.slice t221_p t221_n t221_c)]), (.agg #[(.bool t250), (.slice t251_p t251_n t251_c)])]⟩ wv_7 fun e_4 wv_8 =>
  ∃ (t26 : Int), e_4 = .returned (.int .i64 t26) ∧
  R (.int .i64 t26) wv_8
def impl_DecCmp (d0 : Bool) (d1_p : Option Addr) (d1_n : Nat) (d1_c : Nat) (d2 : Int) (e0 : Bool) (e1_p : Option Addr) (e1_n : Nat) (e1_c : Nat) (e2 : Int) (w : World) (R : Value → World → Prop) : Prop :=
  ∀ (r : Nat) (wv : World), New w (.cells ⟨[(.bool d0), (.slice d1_p d1_n d1_c), (.int .i64 d2)]⟩ 47 (0, 0)) r wv →
  ∀ (r_1 : Nat) (wv_1 : World), New wv (.cells ⟨[(.bool e0), (.slice e1_p e1_n e1_c), (.int .i64 e2)]⟩ 47 (0, 0)) r_1 wv_1 →
  ∃ (t60 : Bool) (t61_p : Option Addr) (t61_n : Nat) (t61_c : Nat) (t62 : Int), Loads P 47 ⟨r, 0, none⟩ (.agg #[(.bool t60), (.slice t61_p t61_n t61_c), (.int .i64 t62)]) wv_1 ∧ Calls P 43 ⟨[(.agg #[(.bool t60), (.slice t61_p t61_n t61_c), (.int .i64 t62)])]⟩ wv_1 fun e wv_2 =>
  ∃ (t7 : Bool), e = .returned (.bool t7) ∧
  ((!t7) = true →
    (true = true →
      R (.int .i64 0) wv_2) ∧
    (true = false →
      impl_DecCmp_j0 r r_1 wv_2 R)) ∧
  ((!t7) = false →
    ∃ (t100 : Bool) (t101_p : Option Addr) (t101_n : Nat) (t101_c : Nat) (t102 : Int), Loads P 47 ⟨r_1, 0, none⟩ (.agg #[(.bool t100), (.slice t101_p t101_n t101_c), (.int .i64 t102)]) wv_2 ∧ Calls P 43 ⟨[(.agg #[(.bool t100), (.slice t101_p t101_n t101_c), (.int .i64 t102)])]⟩ wv_2 fun e_5 wv_9 =>
    ∃ (t11 : Bool), e_5 = .returned (.bool t11) ∧
    ((!t11) = true →
      R (.int .i64 0) wv_9) ∧
    ((!t11) = false →
      impl_DecCmp_j0 r r_1 wv_9 R))
theorem impl_DecCmp_eq (d0 : Bool) (d1_p : Option Addr) (d1_n : Nat) (d1_c : Nat) (d2 : Int) (e0 : Bool) (e1_p : Option Addr) (e1_n : Nat) (e1_c : Nat) (e2 : Int) (w : World) (R : Value → World → Prop) : impl_DecCmp d0 d1_p d1_n d1_c d2 e0 e1_p e1_n e1_c e2 w R = fsem P Try.f44 (fun k => []) [(.agg #[(.bool d0), (.slice d1_p d1_n d1_c), (.int .i64 d2)]), (.agg #[(.bool e0), (.slice e1_p e1_n e1_c), (.int .i64 e2)])] R w := by kernel_rfl
theorem impl_DecCmp_ret {d0 : Bool} {d1_p : Option Addr} {d1_n : Nat} {d1_c : Nat} {d2 : Int} {e0 : Bool} {e1_p : Option Addr} {e1_n : Nat} {e1_c : Nat} {e2 : Int} {w : World} {R : Value → World → Prop} (h : impl_DecCmp d0 d1_p d1_n d1_c d2 e0 e1_p e1_n e1_c e2 w R) : Ret P 44 [(.agg #[(.bool d0), (.slice d1_p d1_n d1_c), (.int .i64 d2)]), (.agg #[(.bool e0), (.slice e1_p e1_n e1_c), (.int .i64 e2)])] w R :=
  Ret.of_fsem Try.func44 rfl (Eq.mp (impl_DecCmp_eq d0 d1_p d1_n d1_c d2 e0 e1_p e1_n e1_c e2 w R) h)
def impl_IntOf (n : Int) (w : World) (R : Value → World → Prop) : Prop :=
  ∀ (r : Nat) (wv : World), New w (.cells ⟨[(.bool false), (.slice none 0 0)]⟩ 31 (0, 0)) r wv →
  ((decide ((n : Int) < 0)) = true →
    ∃ t6 : Int, t6 = IntKind.wrap .u64 n ∧ ∃ t7 : Int, t7 = IntKind.wrap .u64 (0 - t6) ∧ Calls P 46 ⟨[(.int .u64 t7)]⟩ wv fun e wv_1 =>
    ∃ (t8_p : Option Addr) (t8_n : Nat) (t8_c : Nat), e = .returned (.slice t8_p t8_n t8_c) ∧
    ∃ wv_2, Stores P 31 ⟨r, 0, none⟩ (.agg #[(.bool true), (.slice t8_p t8_n t8_c)]) wv_1 wv_2 ∧
    ∃ (r0 : Bool) (r1_p : Option Addr) (r1_n : Nat) (r1_c : Nat), Loads P 31 ⟨r, 0, none⟩ (.agg #[(.bool r0), (.slice r1_p r1_n r1_c)]) wv_2 ∧ R (.agg #[(.bool r0), (.slice r1_p r1_n r1_c)]) wv_2) ∧
  ((decide ((n : Int) < 0)) = false →
    ∃ t11 : Int, t11 = IntKind.wrap .u64 n ∧ Calls P 46 ⟨[(.int .u64 t11)]⟩ wv fun e_1 wv_3 =>
    ∃ (t12_p : Option Addr) (t12_n : Nat) (t12_c : Nat), e_1 = .returned (.slice t12_p t12_n t12_c) ∧
    ∃ wv_4, Stores P 31 ⟨r, 0, none⟩ (.agg #[(.bool false), (.slice t12_p t12_n t12_c)]) wv_3 wv_4 ∧
    ∃ (r0_1 : Bool) (r1_p_1 : Option Addr) (r1_n_1 : Nat) (r1_c_1 : Nat), Loads P 31 ⟨r, 0, none⟩ (.agg #[(.bool r0_1), (.slice r1_p_1 r1_n_1 r1_c_1)]) wv_4 ∧ R (.agg #[(.bool r0_1), (.slice r1_p_1 r1_n_1 r1_c_1)]) wv_4)
theorem impl_IntOf_eq (n : Int) (w : World) (R : Value → World → Prop) : impl_IntOf n w R = fsem P Try.f45 (fun k => []) [(.int .i64 n)] R w := by kernel_rfl
theorem impl_IntOf_ret {n : Int} {w : World} {R : Value → World → Prop} (h : impl_IntOf n w R) : Ret P 45 [(.int .i64 n)] w R :=
  Ret.of_fsem Try.func45 rfl (Eq.mp (impl_IntOf_eq n w R) h)
def impl_natOf (n : Int) (w : World) (R : Value → World → Prop) : Prop :=
  ∀ (r : Nat) (wv : World), New w (.cells ⟨[]⟩ 3 (0, 0)) r wv →
  ∃ (Inv : Int → Option Addr → Nat → Nat → World → Prop) (mu : Int → Option Addr → Nat → Nat → World → Nat), Inv n (some ⟨r, 0, none⟩) 0 0 wv ∧
  ∀ (junk : Fr) (wv_1 : World) (n_1 : Int) (a_p : Option Addr) (a_n : Nat) (a_c : Nat), Inv n_1 a_p a_n a_c wv_1 →
    ((decide ((0 : Int) < n_1)) = true →
      (1000000000 : Int) ≠ 0 ∧ ∃ t9 : Int, t9 = Int.tmod n_1 1000000000 ∧ ∃ t10 : Int, t10 = IntKind.wrap .i64 t9 ∧ ∀ (r_1 : Nat) (wv_2 : World), New wv_1 (.cells ⟨[(.int .i64 t10)]⟩ 3 (0, 0)) r_1 wv_2 →
      ∃ (t12_p : Option Addr) (t12_n : Nat) (t12_c : Nat) (wv_3 : World), Appends P [23, 23] [(.slice a_p a_n a_c), (.slice (some ⟨r_1, 0, none⟩) 1 1)] (.slice t12_p t12_n t12_c) wv_2 wv_3 ∧
      (1000000000 : Int) ≠ 0 ∧ ∃ t14 : Int, t14 = IntKind.wrap .u64 (Int.tdiv n_1 1000000000) ∧ Inv t14 t12_p t12_n t12_c wv_3 ∧ mu t14 t12_p t12_n t12_c wv_3 < mu n_1 a_p a_n a_c wv_1) ∧
    ((decide ((0 : Int) < n_1)) = false →
      R (.slice a_p a_n a_c) wv_1)
theorem impl_natOf_eq (n : Int) (w : World) (R : Value → World → Prop) : impl_natOf n w R = fsem P Try.f46 (fun k => cond (Nat.beq k 3) [(0, .one (.int .u64)), (3, .one .slice)] ([])) [(.int .u64 n)] R w := by kernel_rfl
theorem impl_natOf_ret {n : Int} {w : World} {R : Value → World → Prop} (h : impl_natOf n w R) : Ret P 46 [(.int .u64 n)] w R :=
  Ret.of_fsem Try.func46 rfl (Eq.mp (impl_natOf_eq n w R) h)
def spec_l07Both_j0 (r : Nat) (r_1 : Nat) (r_2 : Nat) (r_3 : Nat) (scale : Int) (W : World) (R : Value → World → Prop) : Prop :=
  ∃ (t170 : Bool) (t171_p : Option Addr) (t171_n : Nat) (t171_c : Nat), (∀ wv_4, Ext W.drew wv_4 → Loads P 31 ((⟨r, 0, none⟩ : Addr).add 0) (.agg #[(.bool t170), (.slice t171_p t171_n t171_c)]) wv_4) ∧ ∃ (t20 : Int), (∀ wv_5, Ext W.drew wv_5 → Loads P 3 ((⟨r, 0, none⟩ : Addr).add 2) (.int .i64 t20) wv_5) ∧ ∃ t21 : Int, t21 = IntKind.wrap .i64 (scale - t20) ∧ Calls P 53 ⟨[(.int .i64 t21)]⟩ W.drew fun e wv_6 =>
  ∃ (t220 : Bool) (t221_p : Option Addr) (t221_n : Nat) (t221_c : Nat), e = .returned (.agg #[(.bool t220), (.slice t221_p t221_n t221_c)]) ∧
  Ext W.drew wv_6 ∧ Calls P 52 ⟨[(.agg #[(.bool t170), (.slice t171_p t171_n t171_c)]), (.agg #[(.bool t220), (.slice t221_p t221_n t221_c)])]⟩ wv_6 fun e_1 wv_7 =>
  ∃ (t230 : Bool) (t231_p : Option Addr) (t231_n : Nat) (t231_c : Nat), e_1 = .returned (.agg #[(.bool t230), (.slice t231_p t231_n t231_c)]) ∧
  Ext wv_6 wv_7 ∧ ∃ (t250 : Bool) (t251_p : Option Addr) (t251_n : Nat) (t251_c : Nat), (∀ wv_8, Ext W.drew wv_8 → Loads P 31 ((⟨r_1, 0, none⟩ : Addr).add 0) (.agg #[(.bool t250), (.slice t251_p t251_n t251_c)]) wv_8) ∧ ∃ (t28 : Int), (∀ wv_9, Ext W.drew wv_9 → Loads P 3 ((⟨r_1, 0, none⟩ : Addr).add 2) (.int .i64 t28) wv_9) ∧ ∃ t29 : Int, t29 = IntKind.wrap .i64 (scale - t28) ∧ Calls P 53 ⟨[(.int .i64 t29)]⟩ wv_7 fun e_2 wv_10 =>
  ∃ (t300 : Bool) (t301_p : Option Addr) (t301_n : Nat) (t301_c : Nat), e_2 = .returned (.agg #[(.bool t300), (.slice t301_p t301_n t301_c)]) ∧
  Ext wv_7 wv_10 ∧ Calls P 52 ⟨[(.agg #[(.bool t250), (.slice t251_p t251_n t251_c)]), (.agg #[(.bool t300), (.slice t301_p t301_n t301_c)])]⟩ wv_10 fun e_3 wv_11 =>
  ∃ (t310 : Bool) (t311_p : Option Addr) (t311_n : Nat) (t311_c : Nat), e_3 = .returned (.agg #[(.bool t310), (.slice t311_p t311_n t311_c)]) ∧
  ∃ wv_12, Stores P 31 ⟨r_2, 0, none⟩ (.agg #[(.bool t230), (.slice t231_p t231_n t231_c)]) wv_11 wv_12 ∧
  ∃ wv_13, Stores P 31 ⟨r_3, 0, none⟩ (.agg #[(.bool t310), (.slice t311_p t311_n t311_c)]) wv_12 wv_13 ∧
  ∃ (r0 : Bool) (r1_p : Option Addr) (r1_n : Nat) (r1_c : Nat), Loads P 31 ⟨r_2, 0, none⟩ (.agg #[(.bool r0), (.slice r1_p r1_n r1_c)]) wv_13 ∧ ∃ (r0_1 : Bool) (r1_p_1 : Option Addr) (r1_n_1 : Nat) (r1_c_1 : Nat), Loads P 31 ⟨r_3, 0, none⟩ (.agg #[(.bool r0_1), (.slice r1_p_1 r1_n_1 r1_c_1)]) wv_13 ∧ R (.tuple #[(.agg #[(.bool r0), (.slice r1_p r1_n r1_c)]), (.agg #[(.bool r0_1), (.slice r1_p_1 r1_n_1 r1_c_1)]), (.int .i64 scale)]) wv_13
def spec_l07Both (d0 : Bool) (d1_p : Option Addr) (d1_n : Nat) (d1_c : Nat) (d2 : Int) (e0 : Bool) (e1_p : Option Addr) (e1_n : Nat) (e1_c : Nat) (e2 : Int) (w : World) (R : Value → World → Prop) : Prop :=
  ∀ (r : Nat) (wv : World), New w (.cells ⟨[(.bool d0), (.slice d1_p d1_n d1_c), (.int .i64 d2)]⟩ 47 (0, 0)) r wv →
  ∀ (r_1 : Nat) (wv_1 : World), New wv (.cells ⟨[(.bool e0), (.slice e1_p e1_n e1_c), (.int .i64 e2)]⟩ 47 (0, 0)) r_1 wv_1 →
  ∀ (r_2 : Nat) (wv_2 : World), New wv_1 (.cells ⟨[(.bool false), (.slice none 0 0)]⟩ 31 (0, 0)) r_2 wv_2 →
  ∀ (r_3 : Nat) (wv_3 : World), New wv_2 (.cells ⟨[(.bool false), (.slice none 0 0)]⟩ 31 (0, 0)) r_3 wv_3 →
  ∃ (t9 : Int), Loads P 3 ((⟨r, 0, none⟩ : Addr).add 2) (.int .i64 t9) wv_3 ∧ ∃ (t11 : Int), Loads P 3 ((⟨r_1, 0, none⟩ : Addr).add 2) (.int .i64 t11) wv_3 ∧ ((decide ((t9 : Int) < t11)) = true →
    ∃ (t15 : Int), Loads P 3 ((⟨r_1, 0, none⟩ : Addr).add 2) (.int .i64 t15) wv_3 ∧ spec_l07Both_j0 r r_1 r_2 r_3 t15 wv_3 R) ∧
  ((decide ((t9 : Int) < t11)) = false →
    spec_l07Both_j0 r r_1 r_2 r_3 t9 wv_3 R)
theorem spec_l07Both_eq (d0 : Bool) (d1_p : Option Addr) (d1_n : Nat) (d1_c : Nat) (d2 : Int) (e0 : Bool) (e1_p : Option Addr) (e1_n : Nat) (e1_c : Nat) (e2 : Int) (w : World) (R : Value → World → Prop) : spec_l07Both d0 d1_p d1_n d1_c d2 e0 e1_p e1_n e1_c e2 w R = fsem P Try.f47 (fun k => []) [(.agg #[(.bool d0), (.slice d1_p d1_n d1_c), (.int .i64 d2)]), (.agg #[(.bool e0), (.slice e1_p e1_n e1_c), (.int .i64 e2)])] R w := by kernel_rfl
theorem spec_l07Both_ret {d0 : Bool} {d1_p : Option Addr} {d1_n : Nat} {d1_c : Nat} {d2 : Int} {e0 : Bool} {e1_p : Option Addr} {e1_n : Nat} {e1_c : Nat} {e2 : Int} {w : World} {R : Value → World → Prop} (h : spec_l07Both d0 d1_p d1_n d1_c d2 e0 e1_p e1_n e1_c e2 w R) : Ret P 47 [(.agg #[(.bool d0), (.slice d1_p d1_n d1_c), (.int .i64 d2)]), (.agg #[(.bool e0), (.slice e1_p e1_n e1_c), (.int .i64 e2)])] w R :=
  Ret.of_fsem Try.func47 rfl (Eq.mp (spec_l07Both_eq d0 d1_p d1_n d1_c d2 e0 e1_p e1_n e1_c e2 w R) h)
def spec_l02Trim (a_p : Option Addr) (a_n : Nat) (a_c : Nat) (w : World) (R : Value → World → Prop) : Prop :=
  ∃ (Inv : Int → World → Prop) (mu : Int → World → Nat), Inv ((a_n : Nat) : Int) w ∧
  ∀ (junk : Fr) (wv : World) (n : Int), Inv n wv →
    ((decide ((0 : Int) < n)) = true →
      ∃ t11 : Int, t11 = IntKind.wrap .i64 (n - 1) ∧ (0 ≤ (t11 : Int) ∧ (t11 : Int) < (a_n : Nat)) ∧ ptrS a_p fun ad => ∃ (t13 : Int), Loads P 3 (ad.add (t11.toNat * 1)) (.int .i64 t13) wv ∧ ((decide ((t13 : Int) = 0)) = true →
        ∃ t17 : Int, t17 = IntKind.wrap .i64 (n - 1) ∧ Inv t17 wv ∧ mu t17 wv < mu n wv) ∧
      ((decide ((t13 : Int) = 0)) = false →
        (0 ≤ (n : Int) ∧ (n : Int) ≤ (a_c : Nat)) ∧ R (.slice (sub a_p 0 a_c 1) (n.toNat - 0) (a_c - 0)) wv)) ∧
    ((decide ((0 : Int) < n)) = false →
      (false = true →
        ∃ t17_1 : Int, t17_1 = IntKind.wrap .i64 (n - 1) ∧ Inv t17_1 wv ∧ mu t17_1 wv < mu n wv) ∧
      (false = false →
        (0 ≤ (n : Int) ∧ (n : Int) ≤ (a_c : Nat)) ∧ R (.slice (sub a_p 0 a_c 1) (n.toNat - 0) (a_c - 0)) wv))
theorem spec_l02Trim_eq (a_p : Option Addr) (a_n : Nat) (a_c : Nat) (w : World) (R : Value → World → Prop) : spec_l02Trim a_p a_n a_c w R = fsem P Try.f48 (fun k => cond (Nat.beq k 3) [(3, .one (.int .i64))] ([])) [(.slice a_p a_n a_c)] R w := by kernel_rfl
theorem spec_l02Trim_ret {a_p : Option Addr} {a_n : Nat} {a_c : Nat} {w : World} {R : Value → World → Prop} (h : spec_l02Trim a_p a_n a_c w R) : Ret P 48 [(.slice a_p a_n a_c)] w R :=
  Ret.of_fsem Try.func48 rfl (Eq.mp (spec_l02Trim_eq a_p a_n a_c w R) h)
def impl_isScale (scale : Int) (w : World) (R : Value → World → Prop) : Prop :=
  ((decide ((0 : Int) ≤ scale)) = true →
    R (.bool (decide ((scale : Int) ≤ 30))) w) ∧
  ((decide ((0 : Int) ≤ scale)) = false →
    R (.bool false) w)
theorem impl_isScale_eq (scale : Int) (w : World) (R : Value → World → Prop) : impl_isScale scale w R = fsem P Try.f49 (fun k => []) [(.int .i64 scale)] R w := by kernel_rfl
theorem impl_isScale_ret {scale : Int} {w : World} {R : Value → World → Prop} (h : impl_isScale scale w R) : Ret P 49 [(.int .i64 scale)] w R :=
  Ret.of_fsem Try.func49 rfl (Eq.mp (impl_isScale_eq scale w R) h)
def impl_scaled (scale : Int) (w : World) (R : Value → World → Prop) : Prop :=
  ∀ (r : Nat) (wv : World), New w (.cells ⟨[(.int .i64 scale)]⟩ 3 (0, 0)) r wv →
  R (.func (.func 54) #[] #[(.pointer (some ⟨r, 0, none⟩))]) wv
theorem impl_scaled_eq (scale : Int) (w : World) (R : Value → World → Prop) : impl_scaled scale w R = fsem P Try.f50 (fun k => []) [(.int .i64 scale)] R w := by kernel_rfl
theorem impl_scaled_ret {scale : Int} {w : World} {R : Value → World → Prop} (h : impl_scaled scale w R) : Ret P 50 [(.int .i64 scale)] w R :=
  Ret.of_fsem Try.func50 rfl (Eq.mp (impl_scaled_eq scale w R) h)
def impl_intCmp (x0 : Bool) (x1_p : Option Addr) (x1_n : Nat) (x1_c : Nat) (y0 : Bool) (y1_p : Option Addr) (y1_n : Nat) (y1_c : Nat) (w : World) (R : Value → World → Prop) : Prop :=
  ∀ (r : Nat) (wv : World), New w (.cells ⟨[(.bool x0), (.slice x1_p x1_n x1_c)]⟩ 31 (0, 0)) r wv →
  ∀ (r_1 : Nat) (wv_1 : World), New wv (.cells ⟨[(.bool y0), (.slice y1_p y1_n y1_c)]⟩ 31 (0, 0)) r_1 wv_1 →
  ∃ (t50 : Bool) (t51_p : Option Addr) (t51_n : Nat) (t51_c : Nat), (∀ wv_2, Ext wv_1.drew wv_2 → Loads P 31 ⟨r, 0, none⟩ (.agg #[(.bool t50), (.slice t51_p t51_n t51_c)]) wv_2) ∧ ∃ (t60 : Bool) (t61_p : Option Addr) (t61_n : Nat) (t61_c : Nat), (∀ wv_3, Ext wv_1.drew wv_3 → Loads P 31 ⟨r_1, 0, none⟩ (.agg #[(.bool t60), (.slice t61_p t61_n t61_c)]) wv_3) ∧ Calls P 60 ⟨[(.agg #[(.bool t60), (.slice t61_p t61_n t61_c)])]⟩ wv_1.drew fun e wv_4 =>
  ∃ (t70 : Bool) (t71_p : Option Addr) (t71_n : Nat) (t71_c : Nat), e = .returned (.agg #[(.bool t70), (.slice t71_p t71_n t71_c)]) ∧
  Ext wv_1.drew wv_4 ∧ Calls P 59 ⟨[(.agg #[(.bool t50), (.slice t51_p t51_n t51_c)]), (.agg #[(.bool t70), (.slice t71_p t71_n t71_c)])]⟩ wv_4 fun e_1 wv_5 =>
  ∃ (t80 : Bool) (t81_p : Option Addr) (t81_n : Nat) (t81_c : Nat), e_1 = .returned (.agg #[(.bool t80), (.slice t81_p t81_n t81_c)]) ∧
  Calls P 58 ⟨[(.agg #[(.bool t80), (.slice t81_p t81_n t81_c)])]⟩ wv_5 fun e_2 wv_6 =>
  ∃ (t9 : Int), e_2 = .returned (.int .i64 t9) ∧
  R (.int .i64 t9) wv_6
theorem impl_intCmp_eq (x0 : Bool) (x1_p : Option Addr) (x1_n : Nat) (x1_c : Nat) (y0 : Bool) (y1_p : Option Addr) (y1_n : Nat) (y1_c : Nat) (w : World) (R : Value → World → Prop) : impl_intCmp x0 x1_p x1_n x1_c y0 y1_p y1_n y1_c w R = fsem P Try.f51 (fun k => []) [(.agg #[(.bool x0), (.slice x1_p x1_n x1_c)]), (.agg #[(.bool y0), (.slice y1_p y1_n y1_c)])] R w := by kernel_rfl
theorem impl_intCmp_ret {x0 : Bool} {x1_p : Option Addr} {x1_n : Nat} {x1_c : Nat} {y0 : Bool} {y1_p : Option Addr} {y1_n : Nat} {y1_c : Nat} {w : World} {R : Value → World → Prop} (h : impl_intCmp x0 x1_p x1_n x1_c y0 y1_p y1_n y1_c w R) : Ret P 51 [(.agg #[(.bool x0), (.slice x1_p x1_n x1_c)]), (.agg #[(.bool y0), (.slice y1_p y1_n y1_c)])] w R :=
  Ret.of_fsem Try.func51 rfl (Eq.mp (impl_intCmp_eq x0 x1_p x1_n x1_c y0 y1_p y1_n y1_c w R) h)
def spec_IntMul (x0 : Bool) (x1_p : Option Addr) (x1_n : Nat) (x1_c : Nat) (y0 : Bool) (y1_p : Option Addr) (y1_n : Nat) (y1_c : Nat) (w : World) (R : Value → World → Prop) : Prop :=
  ∀ (r : Nat) (wv : World), New w (.cells ⟨[(.bool x0), (.slice x1_p x1_n x1_c)]⟩ 31 (0, 0)) r wv →
  ∀ (r_1 : Nat) (wv_1 : World), New wv (.cells ⟨[(.bool y0), (.slice y1_p y1_n y1_c)]⟩ 31 (0, 0)) r_1 wv_1 →
  ∀ (r_2 : Nat) (wv_2 : World), New wv_1 (.cells ⟨[(.bool false), (.slice none 0 0)]⟩ 31 (0, 0)) r_2 wv_2 →
  ∃ (t50 : Bool) (t51_p : Option Addr) (t51_n : Nat) (t51_c : Nat), Loads P 31 ⟨r, 0, none⟩ (.agg #[(.bool t50), (.slice t51_p t51_n t51_c)]) wv_2 ∧ Calls P 15 ⟨[(.agg #[(.bool t50), (.slice t51_p t51_n t51_c)])]⟩ wv_2 fun e wv_3 =>
  ∃ (t6 : Bool), e = .returned (.bool t6) ∧
  ((!t6) = true →
    (true = true →
      ∃ wv_4, Stores P 31 ⟨r_2, 0, none⟩ (.agg #[(.bool false), (.slice none 0 0)]) wv_3 wv_4 ∧
      ∃ (r0 : Bool) (r1_p : Option Addr) (r1_n : Nat) (r1_c : Nat), Loads P 31 ⟨r_2, 0, none⟩ (.agg #[(.bool r0), (.slice r1_p r1_n r1_c)]) wv_4 ∧ R (.agg #[(.bool r0), (.slice r1_p r1_n r1_c)]) wv_4) ∧
    (true = false →
      ∃ (t15 : Bool), (∀ wv_5, Ext wv_3.drew wv_5 → Loads P 4 ((⟨r, 0, none⟩ : Addr).add 0) (.bool t15) wv_5) ∧ ∃ (t17 : Bool), (∀ wv_6, Ext wv_3.drew wv_6 → Loads P 4 ((⟨r_1, 0, none⟩ : Addr).add 0) (.bool t17) wv_6) ∧ ∃ (t20_p : Option Addr) (t20_n : Nat) (t20_c : Nat), (∀ wv_7, Ext wv_3.drew wv_7 → Loads P 23 ((⟨r, 0, none⟩ : Addr).add 1) (.slice t20_p t20_n t20_c) wv_7) ∧ ∃ (t22_p : Option Addr) (t22_n : Nat) (t22_c : Nat), (∀ wv_8, Ext wv_3.drew wv_8 → Loads P 23 ((⟨r_1, 0, none⟩ : Addr).add 1) (.slice t22_p t22_n t22_c) wv_8) ∧ Calls P 61 ⟨[(.slice t20_p t20_n t20_c), (.slice t22_p t22_n t22_c)]⟩ wv_3.drew fun e_1 wv_9 =>
      ∃ (t23_p : Option Addr) (t23_n : Nat) (t23_c : Nat), e_1 = .returned (.slice t23_p t23_n t23_c) ∧
      Ext wv_3.drew wv_9 ∧ Calls P 31 ⟨[(.bool (!(t15 == t17))), (.slice t23_p t23_n t23_c)]⟩ wv_9 fun e_2 wv_10 =>
      ∃ (t240 : Bool) (t241_p : Option Addr) (t241_n : Nat) (t241_c : Nat), e_2 = .returned (.agg #[(.bool t240), (.slice t241_p t241_n t241_c)]) ∧
      ∃ wv_11, Stores P 31 ⟨r_2, 0, none⟩ (.agg #[(.bool t240), (.slice t241_p t241_n t241_c)]) wv_10 wv_11 ∧
      ∃ (r0_1 : Bool) (r1_p_1 : Option Addr) (r1_n_1 : Nat) (r1_c_1 : Nat), Loads P 31 ⟨r_2, 0, none⟩ (.agg #[(.bool r0_1), (.slice r1_p_1 r1_n_1 r1_c_1)]) wv_11 ∧ R (.agg #[(.bool r0_1), (.slice r1_p_1 r1_n_1 r1_c_1)]) wv_11)) ∧
  ((!t6) = false →
    ∃ (t90 : Bool) (t91_p : Option Addr) (t91_n : Nat) (t91_c : Nat), Loads P 31 ⟨r_1, 0, none⟩ (.agg #[(.bool t90), (.slice t91_p t91_n t91_c)]) wv_3 ∧ Calls P 15 ⟨[(.agg #[(.bool t90), (.slice t91_p t91_n t91_c)])]⟩ wv_3 fun e_3 wv_12 =>
    ∃ (t10 : Bool), e_3 = .returned (.bool t10) ∧
    ((!t10) = true →
      ∃ wv_13, Stores P 31 ⟨r_2, 0, none⟩ (.agg #[(.bool false), (.slice none 0 0)]) wv_12 wv_13 ∧
      ∃ (r0_2 : Bool) (r1_p_2 : Option Addr) (r1_n_2 : Nat) (r1_c_2 : Nat), Loads P 31 ⟨r_2, 0, none⟩ (.agg #[(.bool r0_2), (.slice r1_p_2 r1_n_2 r1_c_2)]) wv_13 ∧ R (.agg #[(.bool r0_2), (.slice r1_p_2 r1_n_2 r1_c_2)]) wv_13) ∧
    ((!t10) = false →
      ∃ (t15_1 : Bool), (∀ wv_14, Ext wv_12.drew wv_14 → Loads P 4 ((⟨r, 0, none⟩ : Addr).add 0) (.bool t15_1) wv_14) ∧ ∃ (t17_1 : Bool), (∀ wv_15, Ext wv_12.drew wv_15 → Loads P 4 ((⟨r_1, 0, none⟩ : Addr).add 0) (.bool t17_1) wv_15) ∧ ∃ (t20_p_1 : Option Addr) (t20_n_1 : Nat) (t20_c_1 : Nat), (∀ wv_16, Ext wv_12.drew wv_16 → Loads P 23 ((⟨r, 0, none⟩ : Addr).add 1) (.slice t20_p_1 t20_n_1 t20_c_1) wv_16) ∧ ∃ (t22_p_1 : Option Addr) (t22_n_1 : Nat) (t22_c_1 : Nat), (∀ wv_17, Ext wv_12.drew wv_17 → Loads P 23 ((⟨r_1, 0, none⟩ : Addr).add 1) (.slice t22_p_1 t22_n_1 t22_c_1) wv_17) ∧ Calls P 61 ⟨[(.slice t20_p_1 t20_n_1 t20_c_1), (.slice t22_p_1 t22_n_1 t22_c_1)]⟩ wv_12.drew fun e_4 wv_18 =>
      ∃ (t23_p_1 : Option Addr) (t23_n_1 : Nat) (t23_c_1 : Nat), e_4 = .returned (.slice t23_p_1 t23_n_1 t23_c_1) ∧
      Ext wv_12.drew wv_18 ∧ Calls P 31 ⟨[(.bool (!(t15_1 == t17_1))), (.slice t23_p_1 t23_n_1 t23_c_1)]⟩ wv_18 fun e_5 wv_19 =>
      ∃ (t240_1 : Bool) (t241_p_1 : Option Addr) (t241_n_1 : Nat) (t241_c_1 : Nat), e_5 = .returned (.agg #[(.bool t240_1), (.slice t241_p_1 t241_n_1 t241_c_1)]) ∧
      ∃ wv_20, Stores P 31 ⟨r_2, 0, none⟩ (.agg #[(.bool t240_1), (.slice t241_p_1 t241_n_1 t241_c_1)]) wv_19 wv_20 ∧
      ∃ (r0_3 : Bool) (r1_p_3 : Option Addr) (r1_n_3 : Nat) (r1_c_3 : Nat), Loads P 31 ⟨r_2, 0, none⟩ (.agg #[(.bool r0_3), (.slice r1_p_3 r1_n_3 r1_c_3)]) wv_20 ∧ R (.agg #[(.bool r0_3), (.slice r1_p_3 r1_n_3 r1_c_3)]) wv_20))
theorem spec_IntMul_eq (x0 : Bool) (x1_p : Option Addr) (x1_n : Nat) (x1_c : Nat) (y0 : Bool) (y1_p : Option Addr) (y1_n : Nat) (y1_c : Nat) (w : World) (R : Value → World → Prop) : spec_IntMul x0 x1_p x1_n x1_c y0 y1_p y1_n y1_c w R = fsem P Try.f52 (fun k => []) [(.agg #[(.bool x0), (.slice x1_p x1_n x1_c)]), (.agg #[(.bool y0), (.slice y1_p y1_n y1_c)])] R w := by kernel_rfl
theorem spec_IntMul_ret {x0 : Bool} {x1_p : Option Addr} {x1_n : Nat} {x1_c : Nat} {y0 : Bool} {y1_p : Option Addr} {y1_n : Nat} {y1_c : Nat} {w : World} {R : Value → World → Prop} (h : spec_IntMul x0 x1_p x1_n x1_c y0 y1_p y1_n y1_c w R) : Ret P 52 [(.agg #[(.bool x0), (.slice x1_p x1_n x1_c)]), (.agg #[(.bool y0), (.slice y1_p y1_n y1_c)])] w R :=
  Ret.of_fsem Try.func52 rfl (Eq.mp (spec_IntMul_eq x0 x1_p x1_n x1_c y0 y1_p y1_n y1_c w R) h)
def spec_l07Ten (k : Int) (w : World) (R : Value → World → Prop) : Prop :=
  ∀ (r : Nat) (wv : World), New w (.cells ⟨[(.bool false), (.slice none 0 0)]⟩ 31 (0, 0)) r wv →
  Calls P 62 ⟨[(.int .i64 k)]⟩ wv fun e wv_1 =>
  ∃ (t4_p : Option Addr) (t4_n : Nat) (t4_c : Nat), e = .returned (.slice t4_p t4_n t4_c) ∧
  ∃ wv_2, Stores P 31 ⟨r, 0, none⟩ (.agg #[(.bool false), (.slice t4_p t4_n t4_c)]) wv_1 wv_2 ∧
  ∃ (r0 : Bool) (r1_p : Option Addr) (r1_n : Nat) (r1_c : Nat), Loads P 31 ⟨r, 0, none⟩ (.agg #[(.bool r0), (.slice r1_p r1_n r1_c)]) wv_2 ∧ R (.agg #[(.bool r0), (.slice r1_p r1_n r1_c)]) wv_2
theorem spec_l07Ten_eq (k : Int) (w : World) (R : Value → World → Prop) : spec_l07Ten k w R = fsem P Try.f53 (fun k => []) [(.int .i64 k)] R w := by kernel_rfl
theorem spec_l07Ten_ret {k : Int} {w : World} {R : Value → World → Prop} (h : spec_l07Ten k w R) : Ret P 53 [(.int .i64 k)] w R :=
  Ret.of_fsem Try.func53 rfl (Eq.mp (spec_l07Ten_eq k w R) h)
def impl_scaled_1 (d0 : Bool) (d1_p : Option Addr) (d1_n : Nat) (d1_c : Nat) (d2 : Int) (cap0 : Option Addr) (w : World) (R : Value → World → Prop) : Prop :=
  ∀ (r : Nat) (wv : World), New w (.cells ⟨[(.bool d0), (.slice d1_p d1_n d1_c), (.int .i64 d2)]⟩ 47 (0, 0)) r wv →
  ∀ (r_1 : Nat) (wv_1 : World), New wv (.cells ⟨[(.bool false), (.slice none 0 0)]⟩ 31 (0, 0)) r_1 wv_1 →
  ∃ (t6 : Bool), (∀ wv_2, Ext wv_1.drew wv_2 → Loads P 4 (((⟨r, 0, none⟩ : Addr).add 0).add 0) (.bool t6) wv_2) ∧ ∃ (t9_p : Option Addr) (t9_n : Nat) (t9_c : Nat), (∀ wv_3, Ext wv_1.drew wv_3 → Loads P 23 (((⟨r, 0, none⟩ : Addr).add 0).add 1) (.slice t9_p t9_n t9_c) wv_3) ∧ ptrS cap0 fun ad => ∃ (t10 : Int), (∀ wv_4, Ext wv_1.drew wv_4 → Loads P 3 ad (.int .i64 t10) wv_4) ∧ ∃ (t12 : Int), (∀ wv_5, Ext wv_1.drew wv_5 → Loads P 3 ((⟨r, 0, none⟩ : Addr).add 2) (.int .i64 t12) wv_5) ∧ ∃ t13 : Int, t13 = IntKind.wrap .i64 (t10 - t12) ∧ Calls P 57 ⟨[(.int .i64 t13)]⟩ wv_1.drew fun e wv_6 =>
  ∃ (t14_p : Option Addr) (t14_n : Nat) (t14_c : Nat), e = .returned (.slice t14_p t14_n t14_c) ∧
  Ext wv_1.drew wv_6 ∧ Calls P 56 ⟨[(.slice t9_p t9_n t9_c), (.slice t14_p t14_n t14_c)]⟩ wv_6 fun e_1 wv_7 =>
  ∃ (t15_p : Option Addr) (t15_n : Nat) (t15_c : Nat), e_1 = .returned (.slice t15_p t15_n t15_c) ∧
  Ext wv_6 wv_7 ∧ Calls P 55 ⟨[(.bool t6), (.slice t15_p t15_n t15_c)]⟩ wv_7 fun e_2 wv_8 =>
  ∃ (t160 : Bool) (t161_p : Option Addr) (t161_n : Nat) (t161_c : Nat), e_2 = .returned (.agg #[(.bool t160), (.slice t161_p t161_n t161_c)]) ∧
  ∃ wv_9, Stores P 31 ⟨r_1, 0, none⟩ (.agg #[(.bool t160), (.slice t161_p t161_n t161_c)]) wv_8 wv_9 ∧
  ∃ (r0 : Bool) (r1_p : Option Addr) (r1_n : Nat) (r1_c : Nat), Loads P 31 ⟨r_1, 0, none⟩ (.agg #[(.bool r0), (.slice r1_p r1_n r1_c)]) wv_9 ∧ R (.agg #[(.bool r0), (.slice r1_p r1_n r1_c)]) wv_9
theorem impl_scaled_1_eq (d0 : Bool) (d1_p : Option Addr) (d1_n : Nat) (d1_c : Nat) (d2 : Int) (cap0 : Option Addr) (w : World) (R : Value → World → Prop) : impl_scaled_1 d0 d1_p d1_n d1_c d2 cap0 w R = fsem P Try.f54 (fun k => []) [(.agg #[(.bool d0), (.slice d1_p d1_n d1_c), (.int .i64 d2)]), (.pointer cap0)] R w := by kernel_rfl
theorem impl_scaled_1_ret {d0 : Bool} {d1_p : Option Addr} {d1_n : Nat} {d1_c : Nat} {d2 : Int} {cap0 : Option Addr} {w : World} {R : Value → World → Prop} (h : impl_scaled_1 d0 d1_p d1_n d1_c d2 cap0 w R) : Ret P 54 [(.agg #[(.bool d0), (.slice d1_p d1_n d1_c), (.int .i64 d2)]), (.pointer cap0)] w R :=
  Ret.of_fsem Try.func54 rfl (Eq.mp (impl_scaled_1_eq d0 d1_p d1_n d1_c d2 cap0 w R) h)
def impl_signed (neg : Bool) (mag_p : Option Addr) (mag_n : Nat) (mag_c : Nat) (w : World) (R : Value → World → Prop) : Prop :=
  ∀ (r : Nat) (wv : World), New w (.cells ⟨[(.bool false), (.slice none 0 0)]⟩ 31 (0, 0)) r wv →
  (neg = true →
    ∃ wv_1, Stores P 31 ⟨r, 0, none⟩ (.agg #[(.bool (decide ((0 : Int) < ((mag_n : Nat) : Int)))), (.slice mag_p mag_n mag_c)]) wv wv_1 ∧
    ∃ (r0 : Bool) (r1_p : Option Addr) (r1_n : Nat) (r1_c : Nat), Loads P 31 ⟨r, 0, none⟩ (.agg #[(.bool r0), (.slice r1_p r1_n r1_c)]) wv_1 ∧ R (.agg #[(.bool r0), (.slice r1_p r1_n r1_c)]) wv_1) ∧
  (neg = false →
    ∃ wv_2, Stores P 31 ⟨r, 0, none⟩ (.agg #[(.bool false), (.slice mag_p mag_n mag_c)]) wv wv_2 ∧
    ∃ (r0_1 : Bool) (r1_p_1 : Option Addr) (r1_n_1 : Nat) (r1_c_1 : Nat), Loads P 31 ⟨r, 0, none⟩ (.agg #[(.bool r0_1), (.slice r1_p_1 r1_n_1 r1_c_1)]) wv_2 ∧ R (.agg #[(.bool r0_1), (.slice r1_p_1 r1_n_1 r1_c_1)]) wv_2)
theorem impl_signed_eq (neg : Bool) (mag_p : Option Addr) (mag_n : Nat) (mag_c : Nat) (w : World) (R : Value → World → Prop) : impl_signed neg mag_p mag_n mag_c w R = fsem P Try.f55 (fun k => []) [(.bool neg), (.slice mag_p mag_n mag_c)] R w := by kernel_rfl
theorem impl_signed_ret {neg : Bool} {mag_p : Option Addr} {mag_n : Nat} {mag_c : Nat} {w : World} {R : Value → World → Prop} (h : impl_signed neg mag_p mag_n mag_c w R) : Ret P 55 [(.bool neg), (.slice mag_p mag_n mag_c)] w R :=
  Ret.of_fsem Try.func55 rfl (Eq.mp (impl_signed_eq neg mag_p mag_n mag_c w R) h)
def impl_natMul (a_p : Option Addr) (a_n : Nat) (a_c : Nat) (b_p : Option Addr) (b_n : Nat) (b_c : Nat) (w : World) (R : Value → World → Prop) : Prop :=
  ∃ t16 : Int, t16 = IntKind.wrap .i64 (((a_n : Nat) : Int) + ((b_n : Nat) : Int)) ∧ ∃ t17 : Int, t17 = IntKind.wrap .i64 (t16 + 1) ∧ (0 ≤ (t17 : Int) ∧ (t17 : Int) ≤ t17 ∧ ((8 : Nat) : Int) * t17 ≤ 281474976710656) ∧
  ∀ (r : Nat) (wv : World), New w (.cells ⟨zeroRow (.int .i64 0) (t17.toNat * 1)⟩ 3 (0, 0)) r wv →
  ∃ (Inv : Int → World → Prop) (mu : Int → World → Nat), Inv 0 wv ∧
  ∀ (junk : Fr) (wv_1 : World) (t21 : Int), Inv t21 wv_1 →
    ((decide ((t21 : Int) < ((a_n : Nat) : Int))) = true →
      (0 ≤ (t21 : Int) ∧ (t21 : Int) < (a_n : Nat)) ∧ ptrS a_p fun ad => ∃ (t25 : Int), Loads P 3 (ad.add (t21.toNat * 1)) (.int .i64 t25) wv_1 ∧ ∃ (Inv_1 : Int → Int → World → Prop) (mu_1 : Int → Int → World → Nat), Inv_1 0 0 wv_1 ∧
      ∀ (junk_1 : Fr) (wv_2 : World) (carry : Int) (t28 : Int), Inv_1 carry t28 wv_2 →
        ((decide ((t28 : Int) < ((b_n : Nat) : Int))) = true →
          (0 ≤ (t28 : Int) ∧ (t28 : Int) < (b_n : Nat)) ∧ ptrS b_p fun ad_1 => ∃ (t32 : Int), Loads P 3 (ad_1.add (t28.toNat * 1)) (.int .i64 t32) wv_2 ∧ ∃ t37 : Int, t37 = IntKind.wrap .i64 (t21 + t28) ∧ (0 ≤ (t37 : Int) ∧ (t37 : Int) < (t17.toNat : Nat)) ∧ ∃ (t39 : Int), Loads P 3 ((⟨r, 0, none⟩ : Addr).add (t37.toNat * 1)) (.int .i64 t39) wv_2 ∧ ∃ t42 : Int, t42 = IntKind.wrap .i64 (t25 * t32) ∧ ∃ t43 : Int, t43 = IntKind.wrap .i64 (t39 + t42) ∧ ∃ t44 : Int, t44 = IntKind.wrap .i64 (carry + t43) ∧ ∃ t48 : Int, t48 = IntKind.wrap .i64 (t21 + t28) ∧ (1000000000 : Int) ≠ 0 ∧ ∃ t50 : Int, t50 = Int.tmod t44 1000000000 ∧ (0 ≤ (t48 : Int) ∧ (t48 : Int) < (t17.toNat : Nat)) ∧ ∃ wv_3, Stores P 3 ((⟨r, 0, none⟩ : Addr).add (t48.toNat * 1)) (.int .i64 t50) wv_2 wv_3 ∧
          (1000000000 : Int) ≠ 0 ∧ ∃ t53 : Int, t53 = IntKind.wrap .i64 (Int.tdiv t44 1000000000) ∧ ∃ t54 : Int, t54 = IntKind.wrap .i64 (t28 + 1) ∧ Inv_1 t53 t54 wv_3 ∧ mu_1 t53 t54 wv_3 < mu_1 carry t28 wv_2) ∧
        ((decide ((t28 : Int) < ((b_n : Nat) : Int))) = false →
          ∃ t58 : Int, t58 = IntKind.wrap .i64 (t21 + ((b_n : Nat) : Int)) ∧ ∃ (Inv_2 : Int → Int → World → Prop) (mu_2 : Int → Int → World → Nat), Inv_2 carry t58 wv_2 ∧
          ∀ (junk_2 : Fr) (wv_4 : World) (carry_1 : Int) (k : Int), Inv_2 carry_1 k wv_4 →
            ((decide ((0 : Int) < carry_1)) = true →
              (0 ≤ (k : Int) ∧ (k : Int) < (t17.toNat : Nat)) ∧ ∃ (t67 : Int), Loads P 3 ((⟨r, 0, none⟩ : Addr).add (k.toNat * 1)) (.int .i64 t67) wv_4 ∧ ∃ t68 : Int, t68 = IntKind.wrap .i64 (carry_1 + t67) ∧ (1000000000 : Int) ≠ 0 ∧ ∃ t72 : Int, t72 = Int.tmod t68 1000000000 ∧ (0 ≤ (k : Int) ∧ (k : Int) < (t17.toNat : Nat)) ∧ ∃ wv_5, Stores P 3 ((⟨r, 0, none⟩ : Addr).add (k.toNat * 1)) (.int .i64 t72) wv_4 wv_5 ∧
              (1000000000 : Int) ≠ 0 ∧ ∃ t75 : Int, t75 = IntKind.wrap .i64 (Int.tdiv t68 1000000000) ∧ ∃ t62 : Int, t62 = IntKind.wrap .i64 (k + 1) ∧ Inv_2 t75 t62 wv_5 ∧ mu_2 t75 t62 wv_5 < mu_2 carry_1 k wv_4) ∧
            ((decide ((0 : Int) < carry_1)) = false →
              ∃ t76 : Int, t76 = IntKind.wrap .i64 (t21 + 1) ∧ Inv t76 wv_4 ∧ mu t76 wv_4 < mu t21 wv_1))) ∧
    ((decide ((t21 : Int) < ((a_n : Nat) : Int))) = false →
      Calls P 63 ⟨[(.slice (some ⟨r, 0, none⟩) t17.toNat t17.toNat)]⟩ wv_1 fun e wv_6 =>
      ∃ (t78_p : Option Addr) (t78_n : Nat) (t78_c : Nat), e = .returned (.slice t78_p t78_n t78_c) ∧
      R (.slice t78_p t78_n t78_c) wv_6)
theorem impl_natMul_eq (a_p : Option Addr) (a_n : Nat) (a_c : Nat) (b_p : Option Addr) (b_n : Nat) (b_c : Nat) (w : World) (R : Value → World → Prop) : impl_natMul a_p a_n a_c b_p b_n b_c w R = fsem P Try.f56 (fun k => cond (Nat.beq k 4) [(21, .one (.int .i64))] (cond (Nat.beq k 8) [(8, .one (.int .i64)), (28, .one (.int .i64))] (cond (Nat.beq k 15) [(8, .one (.int .i64)), (11, .one (.int .i64))] ([])))) [(.slice a_p a_n a_c), (.slice b_p b_n b_c)] R w := by kernel_rfl
theorem impl_natMul_ret {a_p : Option Addr} {a_n : Nat} {a_c : Nat} {b_p : Option Addr} {b_n : Nat} {b_c : Nat} {w : World} {R : Value → World → Prop} (h : impl_natMul a_p a_n a_c b_p b_n b_c w R) : Ret P 56 [(.slice a_p a_n a_c), (.slice b_p b_n b_c)] w R :=
  Ret.of_fsem Try.func56 rfl (Eq.mp (impl_natMul_eq a_p a_n a_c b_p b_n b_c w R) h)
def impl_natTen (k : Int) (w : World) (R : Value → World → Prop) : Prop :=
  (9 : Int) ≠ 0 ∧ ∃ t6 : Int, t6 = IntKind.wrap .i64 (Int.tdiv k 9) ∧ (9 : Int) ≠ 0 ∧ ∃ t8 : Int, t8 = IntKind.wrap .i64 (Int.tdiv k 9) ∧ ∃ t9 : Int, t9 = IntKind.wrap .i64 (t8 + 1) ∧ (0 ≤ (t6 : Int) ∧ (t6 : Int) ≤ t9 ∧ ((8 : Nat) : Int) * t9 ≤ 281474976710656) ∧
  ∀ (r : Nat) (wv : World), New w (.cells ⟨zeroRow (.int .i64 0) (t9.toNat * 1)⟩ 3 (0, 0)) r wv →
  (9 : Int) ≠ 0 ∧ ∃ t12 : Int, t12 = Int.tmod k 9 ∧ ∃ (Inv : Int → Int → World → Prop) (mu : Int → Int → World → Nat), Inv 1 0 wv ∧
  ∀ (junk : Fr) (wv_1 : World) (top : Int) (t13 : Int), Inv top t13 wv_1 →
    ((decide ((t13 : Int) < t12)) = true →
      ∃ t16 : Int, t16 = IntKind.wrap .i64 (top * 10) ∧ ∃ t17 : Int, t17 = IntKind.wrap .i64 (t13 + 1) ∧ Inv t16 t17 wv_1 ∧ mu t16 t17 wv_1 < mu top t13 wv_1) ∧
    ((decide ((t13 : Int) < t12)) = false →
      ∀ (r_1 : Nat) (wv_2 : World), New wv_1 (.cells ⟨[(.int .i64 top)]⟩ 3 (0, 0)) r_1 wv_2 →
      ∃ (t21_p : Option Addr) (t21_n : Nat) (t21_c : Nat) (wv_3 : World), Appends P [23, 23] [(.slice (some ⟨r, 0, none⟩) t6.toNat t9.toNat), (.slice (some ⟨r_1, 0, none⟩) 1 1)] (.slice t21_p t21_n t21_c) wv_2 wv_3 ∧
      R (.slice t21_p t21_n t21_c) wv_3)
theorem impl_natTen_eq (k : Int) (w : World) (R : Value → World → Prop) : impl_natTen k w R = fsem P Try.f57 (fun k => cond (Nat.beq k 5) [(4, .one (.int .i64)), (13, .one (.int .i64))] ([])) [(.int .i64 k)] R w := by kernel_rfl
theorem impl_natTen_ret {k : Int} {w : World} {R : Value → World → Prop} (h : impl_natTen k w R) : Ret P 57 [(.int .i64 k)] w R :=
  Ret.of_fsem Try.func57 rfl (Eq.mp (impl_natTen_eq k w R) h)
end Go.Proofs.Ytfemmmbkhhemaaa

namespace Go.Proofs.Ytfemmmbkhhemaaa
open Go Go.Proofs.Ytfemmmbkhhemaaa.Sx
set_option linter.unusedVariables false
set_option maxRecDepth 100000
def impl_intSign (x0 : Bool) (x1_p : Option Addr) (x1_n : Nat) (x1_c : Nat) (w : World) (R : Value → World → Prop) : Prop :=
  ∀ (r : Nat) (wv : World), New w (.cells ⟨[(.bool x0), (.slice x1_p x1_n x1_c)]⟩ 31 (0, 0)) r wv →
  ∃ (t5_p : Option Addr) (t5_n : Nat) (t5_c : Nat), Loads P 23 ((⟨r, 0, none⟩ : Addr).add 1) (.slice t5_p t5_n t5_c) wv ∧ ((decide ((((t5_n : Nat) : Int) : Int) = 0)) = true →
    R (.int .i64 0) wv) ∧
  ((decide ((((t5_n : Nat) : Int) : Int) = 0)) = false →
    ∃ (t10 : Bool), Loads P 4 ((⟨r, 0, none⟩ : Addr).add 0) (.bool t10) wv ∧ (t10 = true →
      R (.int .i64 (-1)) wv) ∧
    (t10 = false →
      R (.int .i64 1) wv))
theorem impl_intSign_eq (x0 : Bool) (x1_p : Option Addr) (x1_n : Nat) (x1_c : Nat) (w : World) (R : Value → World → Prop) : impl_intSign x0 x1_p x1_n x1_c w R = fsem P Try.f58 (fun k => []) [(.agg #[(.bool x0), (.slice x1_p x1_n x1_c)])] R w := by kernel_rfl
theorem impl_intSign_ret {x0 : Bool} {x1_p : Option Addr} {x1_n : Nat} {x1_c : Nat} {w : World} {R : Value → World → Prop} (h : impl_intSign x0 x1_p x1_n x1_c w R) : Ret P 58 [(.agg #[(.bool x0), (.slice x1_p x1_n x1_c)])] w R :=
  Ret.of_fsem Try.func58 rfl (Eq.mp (impl_intSign_eq x0 x1_p x1_n x1_c w R) h)
def impl_intAdd_j0 (r : Nat) (r_1 : Nat) (r_2 : Nat) (W : World) (R : Value → World → Prop) : Prop :=
  ∃ (t27 : Bool), (∀ wv_12, Ext W.drew wv_12 → Loads P 4 ((⟨r, 0, none⟩ : Addr).add 0) (.bool t27) wv_12) ∧ ∃ (t29_p : Option Addr) (t29_n : Nat) (t29_c : Nat), (∀ wv_13, Ext W.drew wv_13 → Loads P 23 ((⟨r, 0, none⟩ : Addr).add 1) (.slice t29_p t29_n t29_c) wv_13) ∧ ∃ (t31_p : Option Addr) (t31_n : Nat) (t31_c : Nat), (∀ wv_14, Ext W.drew wv_14 → Loads P 23 ((⟨r_1, 0, none⟩ : Addr).add 1) (.slice t31_p t31_n t31_c) wv_14) ∧ Calls P 65 ⟨[(.slice t29_p t29_n t29_c), (.slice t31_p t31_n t31_c)]⟩ W.drew fun e_3 wv_15 =>
  ∃ (t32_p : Option Addr) (t32_n : Nat) (t32_c : Nat), e_3 = .returned (.slice t32_p t32_n t32_c) ∧
  Ext W.drew wv_15 ∧ Calls P 55 ⟨[(.bool t27), (.slice t32_p t32_n t32_c)]⟩ wv_15 fun e_4 wv_16 =>
  ∃ (t330 : Bool) (t331_p : Option Addr) (t331_n : Nat) (t331_c : Nat), e_4 = .returned (.agg #[(.bool t330), (.slice t331_p t331_n t331_c)]) ∧
  ∃ wv_17, Stores P 31 ⟨r_2, 0, none⟩ (.agg #[(.bool t330), (.slice t331_p t331_n t331_c)]) wv_16 wv_17 ∧
  ∃ (r0_1 : Bool) (r1_p_1 : Option Addr) (r1_n_1 : Nat) (r1_c_1 : Nat), Loads P 31 ⟨r_2, 0, none⟩ (.agg #[(.bool r0_1), (.slice r1_p_1 r1_n_1 r1_c_1)]) wv_17 ∧ R (.agg #[(.bool r0_1), (.slice r1_p_1 r1_n_1 r1_c_1)]) wv_17
def impl_intAdd (x0 : Bool) (x1_p : Option Addr) (x1_n : Nat) (x1_c : Nat) (y0 : Bool) (y1_p : Option Addr) (y1_n : Nat) (y1_c : Nat) (w : World) (R : Value → World → Prop) : Prop :=
  ∀ (r : Nat) (wv : World), New w (.cells ⟨[(.bool x0), (.slice x1_p x1_n x1_c)]⟩ 31 (0, 0)) r wv →
  ∀ (r_1 : Nat) (wv_1 : World), New wv (.cells ⟨[(.bool y0), (.slice y1_p y1_n y1_c)]⟩ 31 (0, 0)) r_1 wv_1 →
  ∀ (r_2 : Nat) (wv_2 : World), New wv_1 (.cells ⟨[(.bool false), (.slice none 0 0)]⟩ 31 (0, 0)) r_2 wv_2 →
  ∃ (t6 : Bool), Loads P 4 ((⟨r, 0, none⟩ : Addr).add 0) (.bool t6) wv_2 ∧ ∃ (t8 : Bool), Loads P 4 ((⟨r_1, 0, none⟩ : Addr).add 0) (.bool t8) wv_2 ∧ ((t6 == t8) = true →
    ∃ (t11 : Bool), (∀ wv_3, Ext wv_2.drew wv_3 → Loads P 4 ((⟨r, 0, none⟩ : Addr).add 0) (.bool t11) wv_3) ∧ ∃ (t13_p : Option Addr) (t13_n : Nat) (t13_c : Nat), (∀ wv_4, Ext wv_2.drew wv_4 → Loads P 23 ((⟨r, 0, none⟩ : Addr).add 1) (.slice t13_p t13_n t13_c) wv_4) ∧ ∃ (t15_p : Option Addr) (t15_n : Nat) (t15_c : Nat), (∀ wv_5, Ext wv_2.drew wv_5 → Loads P 23 ((⟨r_1, 0, none⟩ : Addr).add 1) (.slice t15_p t15_n t15_c) wv_5) ∧ Calls P 64 ⟨[(.slice t13_p t13_n t13_c), (.slice t15_p t15_n t15_c)]⟩ wv_2.drew fun e wv_6 =>
    ∃ (t16_p : Option Addr) (t16_n : Nat) (t16_c : Nat), e = .returned (.slice t16_p t16_n t16_c) ∧
    Ext wv_2.drew wv_6 ∧ Calls P 55 ⟨[(.bool t11), (.slice t16_p t16_n t16_c)]⟩ wv_6 fun e_1 wv_7 =>
    ∃ (t170 : Bool) (t171_p : Option Addr) (t171_n : Nat) (t171_c : Nat), e_1 = .returned (.agg #[(.bool t170), (.slice t171_p t171_n t171_c)]) ∧
    ∃ wv_8, Stores P 31 ⟨r_2, 0, none⟩ (.agg #[(.bool t170), (.slice t171_p t171_n t171_c)]) wv_7 wv_8 ∧
    ∃ (r0 : Bool) (r1_p : Option Addr) (r1_n : Nat) (r1_c : Nat), Loads P 31 ⟨r_2, 0, none⟩ (.agg #[(.bool r0), (.slice r1_p r1_n r1_c)]) wv_8 ∧ R (.agg #[(.bool r0), (.slice r1_p r1_n r1_c)]) wv_8) ∧
  ((t6 == t8) = false →
    ∃ (t19_p : Option Addr) (t19_n : Nat) (t19_c : Nat), Loads P 23 ((⟨r, 0, none⟩ : Addr).add 1) (.slice t19_p t19_n t19_c) wv_2 ∧ ∃ (t21_p : Option Addr) (t21_n : Nat) (t21_c : Nat), Loads P 23 ((⟨r_1, 0, none⟩ : Addr).add 1) (.slice t21_p t21_n t21_c) wv_2 ∧ Calls P 37 ⟨[(.slice t19_p t19_n t19_c), (.slice t21_p t21_n t21_c)]⟩ wv_2 fun e_2 wv_9 =>
    ∃ (t22 : Int), e_2 = .returned (.int .i64 t22) ∧
    ((decide ((t22 : Int) < 0)) = true →
      ∃ (t240 : Bool) (t241_p : Option Addr) (t241_n : Nat) (t241_c : Nat), Loads P 31 ⟨r_1, 0, none⟩ (.agg #[(.bool t240), (.slice t241_p t241_n t241_c)]) wv_9 ∧ ∃ (t250 : Bool) (t251_p : Option Addr) (t251_n : Nat) (t251_c : Nat), Loads P 31 ⟨r, 0, none⟩ (.agg #[(.bool t250), (.slice t251_p t251_n t251_c)]) wv_9 ∧ ∃ wv_10, Stores P 31 ⟨r, 0, none⟩ (.agg #[(.bool t240), (.slice t241_p t241_n t241_c)]) wv_9 wv_10 ∧
      ∃ wv_11, Stores P 31 ⟨r_1, 0, none⟩ (.agg #[(.bool t250), (.slice t251_p t251_n t251_c)]) wv_10 wv_11 ∧
      impl_intAdd_j0 r r_1 r_2 wv_11 R) ∧
    ((decide ((t22 : Int) < 0)) = false →
      impl_intAdd_j0 r r_1 r_2 wv_9 R))
theorem impl_intAdd_eq (x0 : Bool) (x1_p : Option Addr) (x1_n : Nat) (x1_c : Nat) (y0 : Bool) (y1_p : Option Addr) (y1_n : Nat) (y1_c : Nat) (w : World) (R : Value → World → Prop) : impl_intAdd x0 x1_p x1_n x1_c y0 y1_p y1_n y1_c w R = fsem P Try.f59 (fun k => []) [(.agg #[(.bool x0), (.slice x1_p x1_n x1_c)]), (.agg #[(.bool y0), (.slice y1_p y1_n y1_c)])] R w := by kernel_rfl
theorem impl_intAdd_ret {x0 : Bool} {x1_p : Option Addr} {x1_n : Nat} {x1_c : Nat} {y0 : Bool} {y1_p : Option Addr} {y1_n : Nat} {y1_c : Nat} {w : World} {R : Value → World → Prop} (h : impl_intAdd x0 x1_p x1_n x1_c y0 y1_p y1_n y1_c w R) : Ret P 59 [(.agg #[(.bool x0), (.slice x1_p x1_n x1_c)]), (.agg #[(.bool y0), (.slice y1_p y1_n y1_c)])] w R :=
  Ret.of_fsem Try.func59 rfl (Eq.mp (impl_intAdd_eq x0 x1_p x1_n x1_c y0 y1_p y1_n y1_c w R) h)
def impl_intNeg (x0 : Bool) (x1_p : Option Addr) (x1_n : Nat) (x1_c : Nat) (w : World) (R : Value → World → Prop) : Prop :=
  ∀ (r : Nat) (wv : World), New w (.cells ⟨[(.bool x0), (.slice x1_p x1_n x1_c)]⟩ 31 (0, 0)) r wv →
  ∀ (r_1 : Nat) (wv_1 : World), New wv (.cells ⟨[(.bool false), (.slice none 0 0)]⟩ 31 (0, 0)) r_1 wv_1 →
  ∃ (t4 : Bool), (∀ wv_2, Ext wv_1.drew wv_2 → Loads P 4 ((⟨r, 0, none⟩ : Addr).add 0) (.bool t4) wv_2) ∧ ∃ (t7_p : Option Addr) (t7_n : Nat) (t7_c : Nat), (∀ wv_3, Ext wv_1.drew wv_3 → Loads P 23 ((⟨r, 0, none⟩ : Addr).add 1) (.slice t7_p t7_n t7_c) wv_3) ∧ Calls P 66 ⟨[(.slice t7_p t7_n t7_c)]⟩ wv_1.drew fun e wv_4 =>
  ∃ (t8_p : Option Addr) (t8_n : Nat) (t8_c : Nat), e = .returned (.slice t8_p t8_n t8_c) ∧
  Ext wv_1.drew wv_4 ∧ Calls P 55 ⟨[(.bool (!t4)), (.slice t8_p t8_n t8_c)]⟩ wv_4 fun e_1 wv_5 =>
  ∃ (t90 : Bool) (t91_p : Option Addr) (t91_n : Nat) (t91_c : Nat), e_1 = .returned (.agg #[(.bool t90), (.slice t91_p t91_n t91_c)]) ∧
  ∃ wv_6, Stores P 31 ⟨r_1, 0, none⟩ (.agg #[(.bool t90), (.slice t91_p t91_n t91_c)]) wv_5 wv_6 ∧
  ∃ (r0 : Bool) (r1_p : Option Addr) (r1_n : Nat) (r1_c : Nat), Loads P 31 ⟨r_1, 0, none⟩ (.agg #[(.bool r0), (.slice r1_p r1_n r1_c)]) wv_6 ∧ R (.agg #[(.bool r0), (.slice r1_p r1_n r1_c)]) wv_6
theorem impl_intNeg_eq (x0 : Bool) (x1_p : Option Addr) (x1_n : Nat) (x1_c : Nat) (w : World) (R : Value → World → Prop) : impl_intNeg x0 x1_p x1_n x1_c w R = fsem P Try.f60 (fun k => []) [(.agg #[(.bool x0), (.slice x1_p x1_n x1_c)])] R w := by kernel_rfl
theorem impl_intNeg_ret {x0 : Bool} {x1_p : Option Addr} {x1_n : Nat} {x1_c : Nat} {w : World} {R : Value → World → Prop} (h : impl_intNeg x0 x1_p x1_n x1_c w R) : Ret P 60 [(.agg #[(.bool x0), (.slice x1_p x1_n x1_c)])] w R :=
  Ret.of_fsem Try.func60 rfl (Eq.mp (impl_intNeg_eq x0 x1_p x1_n x1_c w R) h)
def spec_l02Mul_j0 (a_p : Option Addr) (a_n : Nat) (b_p : Option Addr) (b_n : Nat) (W : World) (R : Value → World → Prop) : Prop :=
  ∃ t24 : Int, t24 = IntKind.wrap .i64 (((a_n : Nat) : Int) + ((b_n : Nat) : Int)) ∧ (0 ≤ (t24 : Int) ∧ (t24 : Int) ≤ t24 ∧ ((8 : Nat) : Int) * t24 ≤ 281474976710656) ∧
  ∀ (r : Nat) (wv : World), New W (.cells ⟨zeroRow (.int .i64 0) (t24.toNat * 1)⟩ 3 (0, 0)) r wv →
  ∃ (Inv : Int → World → Prop) (mu : Int → World → Nat), Inv 0 wv ∧
  ∀ (junk : Fr) (wv_1 : World) (t28 : Int), Inv t28 wv_1 →
    ((decide ((t28 : Int) < ((a_n : Nat) : Int))) = true →
      (0 ≤ (t28 : Int) ∧ (t28 : Int) < (a_n : Nat)) ∧ ptrS a_p fun ad => ∃ (t32 : Int), Loads P 3 (ad.add (t28.toNat * 1)) (.int .i64 t32) wv_1 ∧ ∃ (Inv_1 : Int → Int → World → Prop) (mu_1 : Int → Int → World → Nat), Inv_1 0 0 wv_1 ∧
      ∀ (junk_1 : Fr) (wv_2 : World) (carry : Int) (t35 : Int), Inv_1 carry t35 wv_2 →
        ((decide ((t35 : Int) < ((b_n : Nat) : Int))) = true →
          (0 ≤ (t35 : Int) ∧ (t35 : Int) < (b_n : Nat)) ∧ ptrS b_p fun ad_1 => ∃ (t39 : Int), Loads P 3 (ad_1.add (t35.toNat * 1)) (.int .i64 t39) wv_2 ∧ ∃ t43 : Int, t43 = IntKind.wrap .i64 (t28 + t35) ∧ (0 ≤ (t43 : Int) ∧ (t43 : Int) < (t24.toNat : Nat)) ∧ ∃ (t45 : Int), Loads P 3 ((⟨r, 0, none⟩ : Addr).add (t43.toNat * 1)) (.int .i64 t45) wv_2 ∧ ∃ t48 : Int, t48 = IntKind.wrap .i64 (t32 * t39) ∧ ∃ t49 : Int, t49 = IntKind.wrap .i64 (t45 + t48) ∧ ∃ t51 : Int, t51 = IntKind.wrap .i64 (t49 + carry) ∧ ∃ t55 : Int, t55 = IntKind.wrap .i64 (t28 + t35) ∧ (1000000000 : Int) ≠ 0 ∧ ∃ t57 : Int, t57 = Int.tmod t51 1000000000 ∧ (0 ≤ (t55 : Int) ∧ (t55 : Int) < (t24.toNat : Nat)) ∧ ∃ wv_3, Stores P 3 ((⟨r, 0, none⟩ : Addr).add (t55.toNat * 1)) (.int .i64 t57) wv_2 wv_3 ∧
          (1000000000 : Int) ≠ 0 ∧ ∃ t60 : Int, t60 = IntKind.wrap .i64 (Int.tdiv t51 1000000000) ∧ ∃ t61 : Int, t61 = IntKind.wrap .i64 (t35 + 1) ∧ Inv_1 t60 t61 wv_3 ∧ mu_1 t60 t61 wv_3 < mu_1 carry t35 wv_2) ∧
        ((decide ((t35 : Int) < ((b_n : Nat) : Int))) = false →
          ∃ t66 : Int, t66 = IntKind.wrap .i64 (t28 + ((b_n : Nat) : Int)) ∧ (0 ≤ (t66 : Int) ∧ (t66 : Int) < (t24.toNat : Nat)) ∧ ∃ wv_4, Stores P 3 ((⟨r, 0, none⟩ : Addr).add (t66.toNat * 1)) (.int .i64 carry) wv_2 wv_4 ∧
          ∃ t69 : Int, t69 = IntKind.wrap .i64 (t28 + 1) ∧ Inv t69 wv_4 ∧ mu t69 wv_4 < mu t28 wv_1)) ∧
    ((decide ((t28 : Int) < ((a_n : Nat) : Int))) = false →
      Calls P 48 ⟨[(.slice (some ⟨r, 0, none⟩) t24.toNat t24.toNat)]⟩ wv_1 fun e wv_5 =>
      ∃ (t71_p : Option Addr) (t71_n : Nat) (t71_c : Nat), e = .returned (.slice t71_p t71_n t71_c) ∧
      R (.slice t71_p t71_n t71_c) wv_5)
def spec_l02Mul (a_p : Option Addr) (a_n : Nat) (a_c : Nat) (b_p : Option Addr) (b_n : Nat) (b_c : Nat) (w : World) (R : Value → World → Prop) : Prop :=
  ((decide ((((a_n : Nat) : Int) : Int) = 0)) = true →
    (true = true →
      R (.slice none 0 0) w) ∧
    (true = false →
      spec_l02Mul_j0 a_p a_n b_p b_n w R)) ∧
  ((decide ((((a_n : Nat) : Int) : Int) = 0)) = false →
    ((decide ((((b_n : Nat) : Int) : Int) = 0)) = true →
      R (.slice none 0 0) w) ∧
    ((decide ((((b_n : Nat) : Int) : Int) = 0)) = false →
      spec_l02Mul_j0 a_p a_n b_p b_n w R))
theorem spec_l02Mul_eq (a_p : Option Addr) (a_n : Nat) (a_c : Nat) (b_p : Option Addr) (b_n : Nat) (b_c : Nat) (w : World) (R : Value → World → Prop) : spec_l02Mul a_p a_n a_c b_p b_n b_c w R = fsem P Try.f61 (fun k => cond (Nat.beq k 6) [(28, .one (.int .i64))] (cond (Nat.beq k 10) [(8, .one (.int .i64)), (35, .one (.int .i64))] ([]))) [(.slice a_p a_n a_c), (.slice b_p b_n b_c)] R w := by kernel_rfl
theorem spec_l02Mul_ret {a_p : Option Addr} {a_n : Nat} {a_c : Nat} {b_p : Option Addr} {b_n : Nat} {b_c : Nat} {w : World} {R : Value → World → Prop} (h : spec_l02Mul a_p a_n a_c b_p b_n b_c w R) : Ret P 61 [(.slice a_p a_n a_c), (.slice b_p b_n b_c)] w R :=
  Ret.of_fsem Try.func61 rfl (Eq.mp (spec_l02Mul_eq a_p a_n a_c b_p b_n b_c w R) h)
def spec_NatTen (k : Int) (w : World) (R : Value → World → Prop) : Prop :=
  Calls P 27 ⟨[(.int .i64 k), (.int .i64 0), (.int .i64 449)]⟩ w fun e wv =>
  ∃ (t7 : Bool), e = .returned (.bool t7) ∧
  ((!t7) = true →
    R (.slice none 0 0) wv) ∧
  ((!t7) = false →
    (9 : Int) ≠ 0 ∧ ∃ t10 : Int, t10 = IntKind.wrap .i64 (Int.tdiv k 9) ∧ (0 ≤ (t10 : Int) ∧ (t10 : Int) ≤ t10 ∧ ((8 : Nat) : Int) * t10 ≤ 281474976710656) ∧
    ∀ (r : Nat) (wv_1 : World), New wv (.cells ⟨zeroRow (.int .i64 0) (t10.toNat * 1)⟩ 3 (0, 0)) r wv_1 →
    ∃ (Inv : Int → Int → World → Prop) (mu : Int → Int → World → Nat), Inv 1 0 wv_1 ∧
    ∀ (junk : Fr) (wv_2 : World) (f : Int) (i : Int), Inv f i wv_2 →
      (9 : Int) ≠ 0 ∧ ∃ t14 : Int, t14 = Int.tmod k 9 ∧ ((decide ((i : Int) < t14)) = true →
        ∃ t19 : Int, t19 = IntKind.wrap .i64 (f * 10) ∧ ∃ t17 : Int, t17 = IntKind.wrap .i64 (i + 1) ∧ Inv t19 t17 wv_2 ∧ mu t19 t17 wv_2 < mu f i wv_2) ∧
      ((decide ((i : Int) < t14)) = false →
        ∀ (r_1 : Nat) (wv_3 : World), New wv_2 (.cells ⟨[(.int .i64 f)]⟩ 3 (0, 0)) r_1 wv_3 →
        ∃ (t23_p : Option Addr) (t23_n : Nat) (t23_c : Nat) (wv_4 : World), Appends P [23, 23] [(.slice (some ⟨r, 0, none⟩) t10.toNat t10.toNat), (.slice (some ⟨r_1, 0, none⟩) 1 1)] (.slice t23_p t23_n t23_c) wv_3 wv_4 ∧
        R (.slice t23_p t23_n t23_c) wv_4))
theorem spec_NatTen_eq (k : Int) (w : World) (R : Value → World → Prop) : spec_NatTen k w R = fsem P Try.f62 (fun k => cond (Nat.beq k 7) [(4, .one (.int .i64)), (5, .one (.int .i64))] ([])) [(.int .i64 k)] R w := by kernel_rfl
theorem spec_NatTen_ret {k : Int} {w : World} {R : Value → World → Prop} (h : spec_NatTen k w R) : Ret P 62 [(.int .i64 k)] w R :=
  Ret.of_fsem Try.func62 rfl (Eq.mp (spec_NatTen_eq k w R) h)
def impl_trim (a_p : Option Addr) (a_n : Nat) (a_c : Nat) (w : World) (R : Value → World → Prop) : Prop :=
  ∃ (Inv : Option Addr → Nat → Nat → World → Prop) (mu : Option Addr → Nat → Nat → World → Nat), Inv a_p a_n a_c w ∧
  ∀ (junk : Fr) (wv : World) (a_p_1 : Option Addr) (a_n_1 : Nat) (a_c_1 : Nat), Inv a_p_1 a_n_1 a_c_1 wv →
    ((decide ((0 : Int) < ((a_n_1 : Nat) : Int))) = true →
      ∃ t10 : Int, t10 = IntKind.wrap .i64 (((a_n_1 : Nat) : Int) - 1) ∧ (0 ≤ (t10 : Int) ∧ (t10 : Int) < (a_n_1 : Nat)) ∧ ptrS a_p_1 fun ad => ∃ (t12 : Int), Loads P 3 (ad.add (t10.toNat * 1)) (.int .i64 t12) wv ∧ ((decide ((t12 : Int) = 0)) = true →
        ∃ t18 : Int, t18 = IntKind.wrap .i64 (((a_n_1 : Nat) : Int) - 1) ∧ (0 ≤ (t18 : Int) ∧ (t18 : Int) ≤ (a_c_1 : Nat)) ∧ Inv (sub a_p_1 0 a_c_1 1) (t18.toNat - 0) (a_c_1 - 0) wv ∧ mu (sub a_p_1 0 a_c_1 1) (t18.toNat - 0) (a_c_1 - 0) wv < mu a_p_1 a_n_1 a_c_1 wv) ∧
      ((decide ((t12 : Int) = 0)) = false →
        R (.slice a_p_1 a_n_1 a_c_1) wv)) ∧
    ((decide ((0 : Int) < ((a_n_1 : Nat) : Int))) = false →
      (false = true →
        ∃ t18_1 : Int, t18_1 = IntKind.wrap .i64 (((a_n_1 : Nat) : Int) - 1) ∧ (0 ≤ (t18_1 : Int) ∧ (t18_1 : Int) ≤ (a_c_1 : Nat)) ∧ Inv (sub a_p_1 0 a_c_1 1) (t18_1.toNat - 0) (a_c_1 - 0) wv ∧ mu (sub a_p_1 0 a_c_1 1) (t18_1.toNat - 0) (a_c_1 - 0) wv < mu a_p_1 a_n_1 a_c_1 wv) ∧
      (false = false →
        R (.slice a_p_1 a_n_1 a_c_1) wv))
theorem impl_trim_eq (a_p : Option Addr) (a_n : Nat) (a_c : Nat) (w : World) (R : Value → World → Prop) : impl_trim a_p a_n a_c w R = fsem P Try.f63 (fun k => cond (Nat.beq k 2) [(0, .one .slice)] ([])) [(.slice a_p a_n a_c)] R w := by kernel_rfl
theorem impl_trim_ret {a_p : Option Addr} {a_n : Nat} {a_c : Nat} {w : World} {R : Value → World → Prop} (h : impl_trim a_p a_n a_c w R) : Ret P 63 [(.slice a_p a_n a_c)] w R :=
  Ret.of_fsem Try.func63 rfl (Eq.mp (impl_trim_eq a_p a_n a_c w R) h)
def impl_natAdd_j1 (wv_1 : World) (Inv : Option Addr → Nat → Nat → Int → Int → World → Prop) (mu : Option Addr → Nat → Nat → Int → Int → World → Nat) (out_p : Option Addr) (out_n : Nat) (out_c : Nat) (carry : Int) (i : Int) (carry_2 : Int) (W_1 : World) (R : Value → World → Prop) : Prop :=
  (1000000000 : Int) ≠ 0 ∧ ∃ t46 : Int, t46 = Int.tmod carry_2 1000000000 ∧ ∀ (r_1 : Nat) (wv_2 : World), New W_1 (.cells ⟨[(.int .i64 t46)]⟩ 3 (0, 0)) r_1 wv_2 →
  ∃ (t48_p : Option Addr) (t48_n : Nat) (t48_c : Nat) (wv_3 : World), Appends P [23, 23] [(.slice out_p out_n out_c), (.slice (some ⟨r_1, 0, none⟩) 1 1)] (.slice t48_p t48_n t48_c) wv_2 wv_3 ∧
  (1000000000 : Int) ≠ 0 ∧ ∃ t50 : Int, t50 = IntKind.wrap .i64 (Int.tdiv carry_2 1000000000) ∧ ∃ t23 : Int, t23 = IntKind.wrap .i64 (i + 1) ∧ Inv t48_p t48_n t48_c t50 t23 wv_3 ∧ mu t48_p t48_n t48_c t50 t23 wv_3 < mu out_p out_n out_c carry i wv_1
def impl_natAdd_j0 (b_p : Option Addr) (b_n : Nat) (wv_1 : World) (Inv : Option Addr → Nat → Nat → Int → Int → World → Prop) (mu : Option Addr → Nat → Nat → Int → Int → World → Nat) (out_p : Option Addr) (out_n : Nat) (out_c : Nat) (carry : Int) (i : Int) (carry_1 : Int) (W : World) (R : Value → World → Prop) : Prop :=
  ((decide ((i : Int) < ((b_n : Nat) : Int))) = true →
    (0 ≤ (i : Int) ∧ (i : Int) < (b_n : Nat)) ∧ ptrS b_p fun ad_1 => ∃ (t42 : Int), Loads P 3 (ad_1.add (i.toNat * 1)) (.int .i64 t42) W ∧ ∃ t43 : Int, t43 = IntKind.wrap .i64 (carry_1 + t42) ∧ impl_natAdd_j1 wv_1 Inv mu out_p out_n out_c carry i t43 W R) ∧
  ((decide ((i : Int) < ((b_n : Nat) : Int))) = false →
    impl_natAdd_j1 wv_1 Inv mu out_p out_n out_c carry i carry_1 W R)
def impl_natAdd (a_p : Option Addr) (a_n : Nat) (a_c : Nat) (b_p : Option Addr) (b_n : Nat) (b_c : Nat) (w : World) (R : Value → World → Prop) : Prop :=
  ∃ t12 : Int, t12 = (if ((b_n : Nat) : Int) > ((a_n : Nat) : Int) then ((b_n : Nat) : Int) else ((a_n : Nat) : Int)) ∧ ∃ t13 : Int, t13 = IntKind.wrap .i64 (t12 + 1) ∧ (0 ≤ (0 : Int) ∧ (0 : Int) ≤ t13 ∧ ((8 : Nat) : Int) * t13 ≤ 281474976710656) ∧
  ∀ (r : Nat) (wv : World), New w (.cells ⟨zeroRow (.int .i64 0) (t13.toNat * 1)⟩ 3 (0, 0)) r wv →
  ∃ (Inv : Option Addr → Nat → Nat → Int → Int → World → Prop) (mu : Option Addr → Nat → Nat → Int → Int → World → Nat), Inv (some ⟨r, 0, none⟩) 0 t13.toNat 0 0 wv ∧
  ∀ (junk : Fr) (wv_1 : World) (out_p : Option Addr) (out_n : Nat) (out_c : Nat) (carry : Int) (i : Int), Inv out_p out_n out_c carry i wv_1 →
    ∃ t20 : Int, t20 = (if ((b_n : Nat) : Int) > ((a_n : Nat) : Int) then ((b_n : Nat) : Int) else ((a_n : Nat) : Int)) ∧ ((decide ((i : Int) < t20)) = true →
      ((decide ((i : Int) < ((a_n : Nat) : Int))) = true →
        (0 ≤ (i : Int) ∧ (i : Int) < (a_n : Nat)) ∧ ptrS a_p fun ad => ∃ (t32 : Int), Loads P 3 (ad.add (i.toNat * 1)) (.int .i64 t32) wv_1 ∧ ∃ t33 : Int, t33 = IntKind.wrap .i64 (carry + t32) ∧ impl_natAdd_j0 b_p b_n wv_1 Inv mu out_p out_n out_c carry i t33 wv_1 R) ∧
      ((decide ((i : Int) < ((a_n : Nat) : Int))) = false →
        impl_natAdd_j0 b_p b_n wv_1 Inv mu out_p out_n out_c carry i carry wv_1 R)) ∧
    ((decide ((i : Int) < t20)) = false →
      ∀ (r_2 : Nat) (wv_4 : World), New wv_1 (.cells ⟨[(.int .i64 carry)]⟩ 3 (0, 0)) r_2 wv_4 →
      ∃ (t54_p : Option Addr) (t54_n : Nat) (t54_c : Nat) (wv_5 : World), Appends P [23, 23] [(.slice out_p out_n out_c), (.slice (some ⟨r_2, 0, none⟩) 1 1)] (.slice t54_p t54_n t54_c) wv_4 wv_5 ∧
      Calls P 63 ⟨[(.slice t54_p t54_n t54_c)]⟩ wv_5 fun e wv_6 =>
      ∃ (t55_p : Option Addr) (t55_n : Nat) (t55_c : Nat), e = .returned (.slice t55_p t55_n t55_c) ∧
      R (.slice t55_p t55_n t55_c) wv_6)
theorem impl_natAdd_eq (a_p : Option Addr) (a_n : Nat) (a_c : Nat) (b_p : Option Addr) (b_n : Nat) (b_c : Nat) (w : World) (R : Value → World → Prop) : impl_natAdd a_p a_n a_c b_p b_n b_c w R = fsem P Try.f64 (fun k => cond (Nat.beq k 5) [(5, .one .slice), (6, .one (.int .i64)), (7, .one (.int .i64))] ([])) [(.slice a_p a_n a_c), (.slice b_p b_n b_c)] R w := by kernel_rfl
theorem impl_natAdd_ret {a_p : Option Addr} {a_n : Nat} {a_c : Nat} {b_p : Option Addr} {b_n : Nat} {b_c : Nat} {w : World} {R : Value → World → Prop} (h : impl_natAdd a_p a_n a_c b_p b_n b_c w R) : Ret P 64 [(.slice a_p a_n a_c), (.slice b_p b_n b_c)] w R :=
  Ret.of_fsem Try.func64 rfl (Eq.mp (impl_natAdd_eq a_p a_n a_c b_p b_n b_c w R) h)
def impl_natSub_j1 (a_n : Nat) (r : Nat) (wv_1 : World) (Inv : Int → Int → World → Prop) (mu : Int → Int → World → Nat) (borrow : Int) (t14 : Int) (borrow_1 : Int) (n_1 : Int) (W_1 : World) (R : Value → World → Prop) : Prop :=
  (0 ≤ (t14 : Int) ∧ (t14 : Int) < (a_n : Nat)) ∧ ∃ wv_2, Stores P 3 ((⟨r, 0, none⟩ : Addr).add (t14.toNat * 1)) (.int .i64 n_1) W_1 wv_2 ∧
  ∃ t41 : Int, t41 = IntKind.wrap .i64 (t14 + 1) ∧ Inv borrow_1 t41 wv_2 ∧ mu borrow_1 t41 wv_2 < mu borrow t14 wv_1
def impl_natSub_j0 (a_n : Nat) (r : Nat) (wv_1 : World) (Inv : Int → Int → World → Prop) (mu : Int → Int → World → Nat) (borrow : Int) (t14 : Int) (n : Int) (W : World) (R : Value → World → Prop) : Prop :=
  ((decide ((n : Int) < 0)) = true →
    ∃ t36 : Int, t36 = IntKind.wrap .i64 (n + 1000000000) ∧ impl_natSub_j1 a_n r wv_1 Inv mu borrow t14 1 t36 W R) ∧
  ((decide ((n : Int) < 0)) = false →
    impl_natSub_j1 a_n r wv_1 Inv mu borrow t14 0 n W R)
def impl_natSub (a_p : Option Addr) (a_n : Nat) (a_c : Nat) (b_p : Option Addr) (b_n : Nat) (b_c : Nat) (w : World) (R : Value → World → Prop) : Prop :=
  (0 ≤ (((a_n : Nat) : Int) : Int) ∧ (((a_n : Nat) : Int) : Int) ≤ ((a_n : Nat) : Int) ∧ ((8 : Nat) : Int) * ((a_n : Nat) : Int) ≤ 281474976710656) ∧
  ∀ (r : Nat) (wv : World), New w (.cells ⟨zeroRow (.int .i64 0) (a_n * 1)⟩ 3 (0, 0)) r wv →
  ∃ (Inv : Int → Int → World → Prop) (mu : Int → Int → World → Nat), Inv 0 0 wv ∧
  ∀ (junk : Fr) (wv_1 : World) (borrow : Int) (t14 : Int), Inv borrow t14 wv_1 →
    ((decide ((t14 : Int) < ((a_n : Nat) : Int))) = true →
      (0 ≤ (t14 : Int) ∧ (t14 : Int) < (a_n : Nat)) ∧ ptrS a_p fun ad => ∃ (t20 : Int), Loads P 3 (ad.add (t14.toNat * 1)) (.int .i64 t20) wv_1 ∧ ∃ t22 : Int, t22 = IntKind.wrap .i64 (t20 - borrow) ∧ ((decide ((t14 : Int) < ((b_n : Nat) : Int))) = true →
        (0 ≤ (t14 : Int) ∧ (t14 : Int) < (b_n : Nat)) ∧ ptrS b_p fun ad_1 => ∃ (t31 : Int), Loads P 3 (ad_1.add (t14.toNat * 1)) (.int .i64 t31) wv_1 ∧ ∃ t32 : Int, t32 = IntKind.wrap .i64 (t22 - t31) ∧ impl_natSub_j0 a_n r wv_1 Inv mu borrow t14 t32 wv_1 R) ∧
      ((decide ((t14 : Int) < ((b_n : Nat) : Int))) = false →
        impl_natSub_j0 a_n r wv_1 Inv mu borrow t14 t22 wv_1 R)) ∧
    ((decide ((t14 : Int) < ((a_n : Nat) : Int))) = false →
      Calls P 63 ⟨[(.slice (some ⟨r, 0, none⟩) a_n a_n)]⟩ wv_1 fun e wv_3 =>
      ∃ (t43_p : Option Addr) (t43_n : Nat) (t43_c : Nat), e = .returned (.slice t43_p t43_n t43_c) ∧
      R (.slice t43_p t43_n t43_c) wv_3)
theorem impl_natSub_eq (a_p : Option Addr) (a_n : Nat) (a_c : Nat) (b_p : Option Addr) (b_n : Nat) (b_c : Nat) (w : World) (R : Value → World → Prop) : impl_natSub a_p a_n a_c b_p b_n b_c w R = fsem P Try.f65 (fun k => cond (Nat.beq k 5) [(6, .one (.int .i64)), (14, .one (.int .i64))] ([])) [(.slice a_p a_n a_c), (.slice b_p b_n b_c)] R w := by kernel_rfl
theorem impl_natSub_ret {a_p : Option Addr} {a_n : Nat} {a_c : Nat} {b_p : Option Addr} {b_n : Nat} {b_c : Nat} {w : World} {R : Value → World → Prop} (h : impl_natSub a_p a_n a_c b_p b_n b_c w R) : Ret P 65 [(.slice a_p a_n a_c), (.slice b_p b_n b_c)] w R :=
  Ret.of_fsem Try.func65 rfl (Eq.mp (impl_natSub_eq a_p a_n a_c b_p b_n b_c w R) h)
def impl_natCopy (a_p : Option Addr) (a_n : Nat) (a_c : Nat) (w : World) (R : Value → World → Prop) : Prop :=
  ∀ (r : Nat) (wv : World), New w (.cells ⟨[]⟩ 3 (0, 0)) r wv →
  ∃ (t5_p : Option Addr) (t5_n : Nat) (t5_c : Nat) (wv_1 : World), Appends P [23, 23] [(.slice (some ⟨r, 0, none⟩) 0 0), (.slice a_p a_n a_c)] (.slice t5_p t5_n t5_c) wv wv_1 ∧
  R (.slice t5_p t5_n t5_c) wv_1
theorem impl_natCopy_eq (a_p : Option Addr) (a_n : Nat) (a_c : Nat) (w : World) (R : Value → World → Prop) : impl_natCopy a_p a_n a_c w R = fsem P Try.f66 (fun k => []) [(.slice a_p a_n a_c)] R w := by kernel_rfl
theorem impl_natCopy_ret {a_p : Option Addr} {a_n : Nat} {a_c : Nat} {w : World} {R : Value → World → Prop} (h : impl_natCopy a_p a_n a_c w R) : Ret P 66 [(.slice a_p a_n a_c)] w R :=
  Ret.of_fsem Try.func66 rfl (Eq.mp (impl_natCopy_eq a_p a_n a_c w R) h)
end Go.Proofs.Ytfemmmbkhhemaaa

namespace Go.Proofs.Ytfemmmbkhhemaaa
open Go Go.Proofs.Ytfemmmbkhhemaaa.Sx
set_option linter.unusedVariables false
set_option maxRecDepth 100000
def laws_szStepS (a_p : Option Addr) (a_n : Nat) (a_c : Nat) (left : Int) (w : World) (R : Value → World → Prop) : Prop :=
  ∃ t9 : Int, t9 = IntKind.wrap .i64 (left - ((a_n : Nat) : Int)) ∧ ((decide ((t9 : Int) < 0)) = true →
    R (.int .i64 (-1)) w) ∧
  ((decide ((t9 : Int) < 0)) = false →
    ∃ (Inv : Int → Int → World → Prop) (mu : Int → Int → World → Nat), Inv t9 0 w ∧
    ∀ (junk : Fr) (wv : World) (left_1 : Int) (i : Int), Inv left_1 i wv →
      ((decide ((i : Int) < ((a_n : Nat) : Int))) = true →
        (0 ≤ (i : Int) ∧ (i : Int) < (a_n : Nat)) ∧ ptrS a_p fun ad => ∃ (t210 : Int) (t211 : Bool) (t212_p : Option Addr) (t212_n : Nat) (t212_c : Nat) (t213 : Int), Loads P 40 (ad.add (i.toNat * 4)) (.agg #[(.int .i64 t210), (.bool t211), (.slice t212_p t212_n t212_c), (.int .i64 t213)]) wv ∧ Calls P 12 ⟨[(.agg #[(.int .i64 t210), (.bool t211), (.slice t212_p t212_n t212_c), (.int .i64 t213)]), (.int .i64 left_1)]⟩ wv fun e wv_1 =>
        ∃ (t23 : Int), e = .returned (.int .i64 t23) ∧
        ((decide ((t23 : Int) < 0)) = true →
          R (.int .i64 (-1)) wv_1) ∧
        ((decide ((t23 : Int) < 0)) = false →
          ∃ t17 : Int, t17 = IntKind.wrap .i64 (i + 1) ∧ Inv t23 t17 wv_1 ∧ mu t23 t17 wv_1 < mu left_1 i wv)) ∧
      ((decide ((i : Int) < ((a_n : Nat) : Int))) = false →
        R (.int .i64 left_1) wv))
theorem laws_szStepS_eq (a_p : Option Addr) (a_n : Nat) (a_c : Nat) (left : Int) (w : World) (R : Value → World → Prop) : laws_szStepS a_p a_n a_c left w R = fsem P Try.f4 (fun k => cond (Nat.beq k 6) [(1, .one (.int .i64)), (5, .one (.int .i64))] ([])) [(.slice a_p a_n a_c), (.int .i64 left)] R w := by kernel_rfl
theorem laws_szStepS_ret {a_p : Option Addr} {a_n : Nat} {a_c : Nat} {left : Int} {w : World} {R : Value → World → Prop} (h : laws_szStepS a_p a_n a_c left w R) : Ret P 4 [(.slice a_p a_n a_c), (.int .i64 left)] w R :=
  Ret.of_fsem Try.func4 rfl (Eq.mp (laws_szStepS_eq a_p a_n a_c left w R) h)
def laws_szSigned (a0 : Bool) (a1_p : Option Addr) (a1_n : Nat) (a1_c : Nat) (left : Int) (w : World) (R : Value → World → Prop) : Prop :=
  ∀ (r : Nat) (wv : World), New w (.cells ⟨[(.bool a0), (.slice a1_p a1_n a1_c)]⟩ 25 (0, 0)) r wv →
  ∃ (t6_p : Option Addr) (t6_n : Nat) (t6_c : Nat), Loads P 23 ((⟨r, 0, none⟩ : Addr).add 1) (.slice t6_p t6_n t6_c) wv ∧ Calls P 13 ⟨[(.slice t6_p t6_n t6_c), (.int .i64 left)]⟩ wv fun e wv_1 =>
  ∃ (t8 : Int), e = .returned (.int .i64 t8) ∧
  ((decide ((t8 : Int) < 0)) = true →
    R (.int .i64 (-1)) wv_1) ∧
  ((decide ((t8 : Int) < 0)) = false →
    R (.int .i64 t8) wv_1)
theorem laws_szSigned_eq (a0 : Bool) (a1_p : Option Addr) (a1_n : Nat) (a1_c : Nat) (left : Int) (w : World) (R : Value → World → Prop) : laws_szSigned a0 a1_p a1_n a1_c left w R = fsem P Try.f5 (fun k => []) [(.agg #[(.bool a0), (.slice a1_p a1_n a1_c)]), (.int .i64 left)] R w := by kernel_rfl
theorem laws_szSigned_ret {a0 : Bool} {a1_p : Option Addr} {a1_n : Nat} {a1_c : Nat} {left : Int} {w : World} {R : Value → World → Prop} (h : laws_szSigned a0 a1_p a1_n a1_c left w R) : Ret P 5 [(.agg #[(.bool a0), (.slice a1_p a1_n a1_c)]), (.int .i64 left)] w R :=
  Ret.of_fsem Try.func5 rfl (Eq.mp (laws_szSigned_eq a0 a1_p a1_n a1_c left w R) h)
def laws_toStepS (a_p : Option Addr) (a_n : Nat) (a_c : Nat) (w : World) (R : Value → World → Prop) : Prop :=
  (0 ≤ (((a_n : Nat) : Int) : Int) ∧ (((a_n : Nat) : Int) : Int) ≤ ((a_n : Nat) : Int) ∧ ((48 : Nat) : Int) * ((a_n : Nat) : Int) ≤ 281474976710656) ∧
  ∀ (r : Nat) (wv : World), New w (.cells ⟨zeroRow (.agg #[(.int .i64 0), (.bool false), (.slice none 0 0), (.int .i64 0)]) (a_n * 4)⟩ 49 (0, 0)) r wv →
  ∃ (Inv : Int → World → Prop) (mu : Int → World → Nat), Inv 0 wv ∧
  ∀ (junk : Fr) (wv_1 : World) (i : Int), Inv i wv_1 →
    ((decide ((i : Int) < ((a_n : Nat) : Int))) = true →
      (0 ≤ (i : Int) ∧ (i : Int) < (a_n : Nat)) ∧ ptrS a_p fun ad => ∃ (t190 : Int) (t191 : Bool) (t192_p : Option Addr) (t192_n : Nat) (t192_c : Nat) (t193 : Int), Loads P 40 (ad.add (i.toNat * 4)) (.agg #[(.int .i64 t190), (.bool t191), (.slice t192_p t192_n t192_c), (.int .i64 t193)]) wv_1 ∧ Calls P 19 ⟨[(.agg #[(.int .i64 t190), (.bool t191), (.slice t192_p t192_n t192_c), (.int .i64 t193)])]⟩ wv_1 fun e wv_2 =>
      ∃ (t200 : Int) (t201 : Bool) (t202_p : Option Addr) (t202_n : Nat) (t202_c : Nat) (t203 : Int), e = .returned (.agg #[(.int .i64 t200), (.bool t201), (.slice t202_p t202_n t202_c), (.int .i64 t203)]) ∧
      (0 ≤ (i : Int) ∧ (i : Int) < (a_n : Nat)) ∧ ∃ wv_3, Stores P 49 ((⟨r, 0, none⟩ : Addr).add (i.toNat * 4)) (.agg #[(.int .i64 t200), (.bool t201), (.slice t202_p t202_n t202_c), (.int .i64 t203)]) wv_2 wv_3 ∧
      ∃ t13 : Int, t13 = IntKind.wrap .i64 (i + 1) ∧ Inv t13 wv_3 ∧ mu t13 wv_3 < mu i wv_1) ∧
    ((decide ((i : Int) < ((a_n : Nat) : Int))) = false →
      R (.slice (some ⟨r, 0, none⟩) a_n a_n) wv_1)
theorem laws_toStepS_eq (a_p : Option Addr) (a_n : Nat) (a_c : Nat) (w : World) (R : Value → World → Prop) : laws_toStepS a_p a_n a_c w R = fsem P Try.f7 (fun k => cond (Nat.beq k 4) [(4, .one (.int .i64))] ([])) [(.slice a_p a_n a_c)] R w := by kernel_rfl
theorem laws_toStepS_ret {a_p : Option Addr} {a_n : Nat} {a_c : Nat} {w : World} {R : Value → World → Prop} (h : laws_toStepS a_p a_n a_c w R) : Ret P 7 [(.slice a_p a_n a_c)] w R :=
  Ret.of_fsem Try.func7 rfl (Eq.mp (laws_toStepS_eq a_p a_n a_c w R) h)
def laws_toSigned (a0 : Bool) (a1_p : Option Addr) (a1_n : Nat) (a1_c : Nat) (w : World) (R : Value → World → Prop) : Prop :=
  ∀ (r : Nat) (wv : World), New w (.cells ⟨[(.bool a0), (.slice a1_p a1_n a1_c)]⟩ 25 (0, 0)) r wv →
  ∀ (r_1 : Nat) (wv_1 : World), New wv (.cells ⟨[(.bool false), (.slice none 0 0)]⟩ 31 (0, 0)) r_1 wv_1 →
  ∀ (r_2 : Nat) (wv_2 : World), New wv_1 (.cells ⟨[(.bool false), (.slice none 0 0)]⟩ 31 (0, 0)) r_2 wv_2 →
  ∃ (t5 : Bool), Loads P 4 ((⟨r, 0, none⟩ : Addr).add 0) (.bool t5) wv_2 ∧ ∃ wv_3, Stores P 4 ((⟨r_2, 0, none⟩ : Addr).add 0) (.bool t5) wv_2 wv_3 ∧
  ∃ (t8_p : Option Addr) (t8_n : Nat) (t8_c : Nat), Loads P 23 ((⟨r, 0, none⟩ : Addr).add 1) (.slice t8_p t8_n t8_c) wv_3 ∧ Calls P 20 ⟨[(.slice t8_p t8_n t8_c)]⟩ wv_3 fun e wv_4 =>
  ∃ (t9_p : Option Addr) (t9_n : Nat) (t9_c : Nat), e = .returned (.slice t9_p t9_n t9_c) ∧
  ∃ wv_5, Stores P 23 ((⟨r_2, 0, none⟩ : Addr).add 1) (.slice t9_p t9_n t9_c) wv_4 wv_5 ∧
  ∃ (t110 : Bool) (t111_p : Option Addr) (t111_n : Nat) (t111_c : Nat), Loads P 31 ⟨r_2, 0, none⟩ (.agg #[(.bool t110), (.slice t111_p t111_n t111_c)]) wv_5 ∧ ∃ wv_6, Stores P 31 ⟨r_1, 0, none⟩ (.agg #[(.bool t110), (.slice t111_p t111_n t111_c)]) wv_5 wv_6 ∧
  ∃ (r0 : Bool) (r1_p : Option Addr) (r1_n : Nat) (r1_c : Nat), Loads P 31 ⟨r_1, 0, none⟩ (.agg #[(.bool r0), (.slice r1_p r1_n r1_c)]) wv_6 ∧ R (.agg #[(.bool r0), (.slice r1_p r1_n r1_c)]) wv_6
theorem laws_toSigned_eq (a0 : Bool) (a1_p : Option Addr) (a1_n : Nat) (a1_c : Nat) (w : World) (R : Value → World → Prop) : laws_toSigned a0 a1_p a1_n a1_c w R = fsem P Try.f8 (fun k => []) [(.agg #[(.bool a0), (.slice a1_p a1_n a1_c)])] R w := by kernel_rfl
theorem laws_toSigned_ret {a0 : Bool} {a1_p : Option Addr} {a1_n : Nat} {a1_c : Nat} {w : World} {R : Value → World → Prop} (h : laws_toSigned a0 a1_p a1_n a1_c w R) : Ret P 8 [(.agg #[(.bool a0), (.slice a1_p a1_n a1_c)])] w R :=
  Ret.of_fsem Try.func8 rfl (Eq.mp (laws_toSigned_eq a0 a1_p a1_n a1_c w R) h)
def laws_eqStepS (a_p : Option Addr) (a_n : Nat) (a_c : Nat) (b_p : Option Addr) (b_n : Nat) (b_c : Nat) (w : World) (R : Value → World → Prop) : Prop :=
  ((decide ((((a_n : Nat) : Int) : Int) ≠ ((b_n : Nat) : Int))) = true →
    R (.bool false) w) ∧
  ((decide ((((a_n : Nat) : Int) : Int) ≠ ((b_n : Nat) : Int))) = false →
    ∃ (Inv : Int → World → Prop) (mu : Int → World → Nat), Inv 0 w ∧
    ∀ (junk : Fr) (wv : World) (i : Int), Inv i wv →
      ((decide ((i : Int) < ((a_n : Nat) : Int))) = true →
        (0 ≤ (i : Int) ∧ (i : Int) < (a_n : Nat)) ∧ ptrS a_p fun ad => ∃ (t200 : Int) (t201 : Bool) (t202_p : Option Addr) (t202_n : Nat) (t202_c : Nat) (t203 : Int), (∀ wv_1, Ext wv.drew wv_1 → Loads P 49 (ad.add (i.toNat * 4)) (.agg #[(.int .i64 t200), (.bool t201), (.slice t202_p t202_n t202_c), (.int .i64 t203)]) wv_1) ∧ (0 ≤ (i : Int) ∧ (i : Int) < (b_n : Nat)) ∧ ptrS b_p fun ad_1 => ∃ (t240 : Int) (t241 : Bool) (t242_p : Option Addr) (t242_n : Nat) (t242_c : Nat) (t243 : Int), (∀ wv_2, Ext wv.drew wv_2 → Loads P 49 (ad_1.add (i.toNat * 4)) (.agg #[(.int .i64 t240), (.bool t241), (.slice t242_p t242_n t242_c), (.int .i64 t243)]) wv_2) ∧ Calls P 24 ⟨[(.agg #[(.int .i64 t200), (.bool t201), (.slice t202_p t202_n t202_c), (.int .i64 t203)]), (.agg #[(.int .i64 t240), (.bool t241), (.slice t242_p t242_n t242_c), (.int .i64 t243)])]⟩ wv.drew fun e wv_3 =>
        ∃ (t25 : Bool), e = .returned (.bool t25) ∧
        ((!t25) = true →
          R (.bool false) wv_3) ∧
        ((!t25) = false →
          ∃ t16 : Int, t16 = IntKind.wrap .i64 (i + 1) ∧ Inv t16 wv_3 ∧ mu t16 wv_3 < mu i wv)) ∧
      ((decide ((i : Int) < ((a_n : Nat) : Int))) = false →
        R (.bool true) wv))
theorem laws_eqStepS_eq (a_p : Option Addr) (a_n : Nat) (a_c : Nat) (b_p : Option Addr) (b_n : Nat) (b_c : Nat) (w : World) (R : Value → World → Prop) : laws_eqStepS a_p a_n a_c b_p b_n b_c w R = fsem P Try.f10 (fun k => cond (Nat.beq k 5) [(5, .one (.int .i64))] ([])) [(.slice a_p a_n a_c), (.slice b_p b_n b_c)] R w := by kernel_rfl
theorem laws_eqStepS_ret {a_p : Option Addr} {a_n : Nat} {a_c : Nat} {b_p : Option Addr} {b_n : Nat} {b_c : Nat} {w : World} {R : Value → World → Prop} (h : laws_eqStepS a_p a_n a_c b_p b_n b_c w R) : Ret P 10 [(.slice a_p a_n a_c), (.slice b_p b_n b_c)] w R :=
  Ret.of_fsem Try.func10 rfl (Eq.mp (laws_eqStepS_eq a_p a_n a_c b_p b_n b_c w R) h)
def laws_eqSigned (a0 : Bool) (a1_p : Option Addr) (a1_n : Nat) (a1_c : Nat) (b0 : Bool) (b1_p : Option Addr) (b1_n : Nat) (b1_c : Nat) (w : World) (R : Value → World → Prop) : Prop :=
  ∀ (r : Nat) (wv : World), New w (.cells ⟨[(.bool a0), (.slice a1_p a1_n a1_c)]⟩ 31 (0, 0)) r wv →
  ∀ (r_1 : Nat) (wv_1 : World), New wv (.cells ⟨[(.bool b0), (.slice b1_p b1_n b1_c)]⟩ 31 (0, 0)) r_1 wv_1 →
  ∃ (t6 : Bool), Loads P 4 ((⟨r, 0, none⟩ : Addr).add 0) (.bool t6) wv_1 ∧ ∃ (t8 : Bool), Loads P 4 ((⟨r_1, 0, none⟩ : Addr).add 0) (.bool t8) wv_1 ∧ ((!(t6 == t8)) = true →
    R (.bool false) wv_1) ∧
  ((!(t6 == t8)) = false →
    ∃ (t11_p : Option Addr) (t11_n : Nat) (t11_c : Nat), Loads P 23 ((⟨r, 0, none⟩ : Addr).add 1) (.slice t11_p t11_n t11_c) wv_1 ∧ ∃ (t13_p : Option Addr) (t13_n : Nat) (t13_c : Nat), Loads P 23 ((⟨r_1, 0, none⟩ : Addr).add 1) (.slice t13_p t13_n t13_c) wv_1 ∧ Calls P 25 ⟨[(.slice t11_p t11_n t11_c), (.slice t13_p t13_n t13_c)]⟩ wv_1 fun e wv_2 =>
    ∃ (t14 : Bool), e = .returned (.bool t14) ∧
    ((!t14) = true →
      R (.bool false) wv_2) ∧
    ((!t14) = false →
      R (.bool true) wv_2))
theorem laws_eqSigned_eq (a0 : Bool) (a1_p : Option Addr) (a1_n : Nat) (a1_c : Nat) (b0 : Bool) (b1_p : Option Addr) (b1_n : Nat) (b1_c : Nat) (w : World) (R : Value → World → Prop) : laws_eqSigned a0 a1_p a1_n a1_c b0 b1_p b1_n b1_c w R = fsem P Try.f11 (fun k => []) [(.agg #[(.bool a0), (.slice a1_p a1_n a1_c)]), (.agg #[(.bool b0), (.slice b1_p b1_n b1_c)])] R w := by kernel_rfl
theorem laws_eqSigned_ret {a0 : Bool} {a1_p : Option Addr} {a1_n : Nat} {a1_c : Nat} {b0 : Bool} {b1_p : Option Addr} {b1_n : Nat} {b1_c : Nat} {w : World} {R : Value → World → Prop} (h : laws_eqSigned a0 a1_p a1_n a1_c b0 b1_p b1_n b1_c w R) : Ret P 11 [(.agg #[(.bool a0), (.slice a1_p a1_n a1_c)]), (.agg #[(.bool b0), (.slice b1_p b1_n b1_c)])] w R :=
  Ret.of_fsem Try.func11 rfl (Eq.mp (laws_eqSigned_eq a0 a1_p a1_n a1_c b0 b1_p b1_n b1_c w R) h)
def laws_szStep (a0 : Int) (a1 : Bool) (a2_p : Option Addr) (a2_n : Nat) (a2_c : Nat) (a3 : Int) (left : Int) (w : World) (R : Value → World → Prop) : Prop :=
  ∀ (r : Nat) (wv : World), New w (.cells ⟨[(.int .i64 a0), (.bool a1), (.slice a2_p a2_n a2_c), (.int .i64 a3)]⟩ 40 (0, 0)) r wv →
  ∃ (t60 : Bool) (t61_p : Option Addr) (t61_n : Nat) (t61_c : Nat) (t62 : Int), Loads P 38 ((⟨r, 0, none⟩ : Addr).add 1) (.agg #[(.bool t60), (.slice t61_p t61_n t61_c), (.int .i64 t62)]) wv ∧ Calls P 26 ⟨[(.agg #[(.bool t60), (.slice t61_p t61_n t61_c), (.int .i64 t62)]), (.int .i64 left)]⟩ wv fun e wv_1 =>
  ∃ (t8 : Int), e = .returned (.int .i64 t8) ∧
  ((decide ((t8 : Int) < 0)) = true →
    R (.int .i64 (-1)) wv_1) ∧
  ((decide ((t8 : Int) < 0)) = false →
    R (.int .i64 t8) wv_1)
theorem laws_szStep_eq (a0 : Int) (a1 : Bool) (a2_p : Option Addr) (a2_n : Nat) (a2_c : Nat) (a3 : Int) (left : Int) (w : World) (R : Value → World → Prop) : laws_szStep a0 a1 a2_p a2_n a2_c a3 left w R = fsem P Try.f12 (fun k => []) [(.agg #[(.int .i64 a0), (.bool a1), (.slice a2_p a2_n a2_c), (.int .i64 a3)]), (.int .i64 left)] R w := by kernel_rfl
theorem laws_szStep_ret {a0 : Int} {a1 : Bool} {a2_p : Option Addr} {a2_n : Nat} {a2_c : Nat} {a3 : Int} {left : Int} {w : World} {R : Value → World → Prop} (h : laws_szStep a0 a1 a2_p a2_n a2_c a3 left w R) : Ret P 12 [(.agg #[(.int .i64 a0), (.bool a1), (.slice a2_p a2_n a2_c), (.int .i64 a3)]), (.int .i64 left)] w R :=
  Ret.of_fsem Try.func12 rfl (Eq.mp (laws_szStep_eq a0 a1 a2_p a2_n a2_c a3 left w R) h)
def laws_szIntS (a_p : Option Addr) (a_n : Nat) (a_c : Nat) (left : Int) (w : World) (R : Value → World → Prop) : Prop :=
  ∃ t8 : Int, t8 = IntKind.wrap .i64 (left - ((a_n : Nat) : Int)) ∧ ((decide ((t8 : Int) < 0)) = true →
    R (.int .i64 (-1)) w) ∧
  ((decide ((t8 : Int) < 0)) = false →
    R (.int .i64 t8) w)
theorem laws_szIntS_eq (a_p : Option Addr) (a_n : Nat) (a_c : Nat) (left : Int) (w : World) (R : Value → World → Prop) : laws_szIntS a_p a_n a_c left w R = fsem P Try.f13 (fun k => []) [(.slice a_p a_n a_c), (.int .i64 left)] R w := by kernel_rfl
theorem laws_szIntS_ret {a_p : Option Addr} {a_n : Nat} {a_c : Nat} {left : Int} {w : World} {R : Value → World → Prop} (h : laws_szIntS a_p a_n a_c left w R) : Ret P 13 [(.slice a_p a_n a_c), (.int .i64 left)] w R :=
  Ret.of_fsem Try.func13 rfl (Eq.mp (laws_szIntS_eq a_p a_n a_c left w R) h)
def laws_toStep (a0 : Int) (a1 : Bool) (a2_p : Option Addr) (a2_n : Nat) (a2_c : Nat) (a3 : Int) (w : World) (R : Value → World → Prop) : Prop :=
  ∀ (r : Nat) (wv : World), New w (.cells ⟨[(.int .i64 a0), (.bool a1), (.slice a2_p a2_n a2_c), (.int .i64 a3)]⟩ 40 (0, 0)) r wv →
  ∀ (r_1 : Nat) (wv_1 : World), New wv (.cells ⟨[(.int .i64 0), (.bool false), (.slice none 0 0), (.int .i64 0)]⟩ 49 (0, 0)) r_1 wv_1 →
  ∀ (r_2 : Nat) (wv_2 : World), New wv_1 (.cells ⟨[(.int .i64 0), (.bool false), (.slice none 0 0), (.int .i64 0)]⟩ 49 (0, 0)) r_2 wv_2 →
  ∃ (t5 : Int), Loads P 3 ((⟨r, 0, none⟩ : Addr).add 0) (.int .i64 t5) wv_2 ∧ ∃ wv_3, Stores P 3 ((⟨r_2, 0, none⟩ : Addr).add 0) (.int .i64 t5) wv_2 wv_3 ∧
  ∃ (t80 : Bool) (t81_p : Option Addr) (t81_n : Nat) (t81_c : Nat) (t82 : Int), Loads P 38 ((⟨r, 0, none⟩ : Addr).add 1) (.agg #[(.bool t80), (.slice t81_p t81_n t81_c), (.int .i64 t82)]) wv_3 ∧ Calls P 33 ⟨[(.agg #[(.bool t80), (.slice t81_p t81_n t81_c), (.int .i64 t82)])]⟩ wv_3 fun e wv_4 =>
  ∃ (t90 : Bool) (t91_p : Option Addr) (t91_n : Nat) (t91_c : Nat) (t92 : Int), e = .returned (.agg #[(.bool t90), (.slice t91_p t91_n t91_c), (.int .i64 t92)]) ∧
  ∃ wv_5, Stores P 47 ((⟨r_2, 0, none⟩ : Addr).add 1) (.agg #[(.bool t90), (.slice t91_p t91_n t91_c), (.int .i64 t92)]) wv_4 wv_5 ∧
  ∃ (t110 : Int) (t111 : Bool) (t112_p : Option Addr) (t112_n : Nat) (t112_c : Nat) (t113 : Int), Loads P 49 ⟨r_2, 0, none⟩ (.agg #[(.int .i64 t110), (.bool t111), (.slice t112_p t112_n t112_c), (.int .i64 t113)]) wv_5 ∧ ∃ wv_6, Stores P 49 ⟨r_1, 0, none⟩ (.agg #[(.int .i64 t110), (.bool t111), (.slice t112_p t112_n t112_c), (.int .i64 t113)]) wv_5 wv_6 ∧
  ∃ (r0 : Int) (r1 : Bool) (r2_p : Option Addr) (r2_n : Nat) (r2_c : Nat) (r3 : Int), Loads P 49 ⟨r_1, 0, none⟩ (.agg #[(.int .i64 r0), (.bool r1), (.slice r2_p r2_n r2_c), (.int .i64 r3)]) wv_6 ∧ R (.agg #[(.int .i64 r0), (.bool r1), (.slice r2_p r2_n r2_c), (.int .i64 r3)]) wv_6
theorem laws_toStep_eq (a0 : Int) (a1 : Bool) (a2_p : Option Addr) (a2_n : Nat) (a2_c : Nat) (a3 : Int) (w : World) (R : Value → World → Prop) : laws_toStep a0 a1 a2_p a2_n a2_c a3 w R = fsem P Try.f19 (fun k => []) [(.agg #[(.int .i64 a0), (.bool a1), (.slice a2_p a2_n a2_c), (.int .i64 a3)])] R w := by kernel_rfl
theorem laws_toStep_ret {a0 : Int} {a1 : Bool} {a2_p : Option Addr} {a2_n : Nat} {a2_c : Nat} {a3 : Int} {w : World} {R : Value → World → Prop} (h : laws_toStep a0 a1 a2_p a2_n a2_c a3 w R) : Ret P 19 [(.agg #[(.int .i64 a0), (.bool a1), (.slice a2_p a2_n a2_c), (.int .i64 a3)])] w R :=
  Ret.of_fsem Try.func19 rfl (Eq.mp (laws_toStep_eq a0 a1 a2_p a2_n a2_c a3 w R) h)
def laws_toIntS (a_p : Option Addr) (a_n : Nat) (a_c : Nat) (w : World) (R : Value → World → Prop) : Prop :=
  (0 ≤ (((a_n : Nat) : Int) : Int) ∧ (((a_n : Nat) : Int) : Int) ≤ ((a_n : Nat) : Int) ∧ ((8 : Nat) : Int) * ((a_n : Nat) : Int) ≤ 281474976710656) ∧
  ∀ (r : Nat) (wv : World), New w (.cells ⟨zeroRow (.int .i64 0) (a_n * 1)⟩ 3 (0, 0)) r wv →
  ∃ (Inv : Int → World → Prop) (mu : Int → World → Nat), Inv 0 wv ∧
  ∀ (junk : Fr) (wv_1 : World) (i : Int), Inv i wv_1 →
    ((decide ((i : Int) < ((a_n : Nat) : Int))) = true →
      (0 ≤ (i : Int) ∧ (i : Int) < (a_n : Nat)) ∧ ptrS a_p fun ad => ∃ (t19 : Int), Loads P 3 (ad.add (i.toNat * 1)) (.int .i64 t19) wv_1 ∧ (0 ≤ (i : Int) ∧ (i : Int) < (a_n : Nat)) ∧ ∃ wv_2, Stores P 3 ((⟨r, 0, none⟩ : Addr).add (i.toNat * 1)) (.int .i64 t19) wv_1 wv_2 ∧
      ∃ t13 : Int, t13 = IntKind.wrap .i64 (i + 1) ∧ Inv t13 wv_2 ∧ mu t13 wv_2 < mu i wv_1) ∧
    ((decide ((i : Int) < ((a_n : Nat) : Int))) = false →
      R (.slice (some ⟨r, 0, none⟩) a_n a_n) wv_1)
theorem laws_toIntS_eq (a_p : Option Addr) (a_n : Nat) (a_c : Nat) (w : World) (R : Value → World → Prop) : laws_toIntS a_p a_n a_c w R = fsem P Try.f20 (fun k => cond (Nat.beq k 4) [(4, .one (.int .i64))] ([])) [(.slice a_p a_n a_c)] R w := by kernel_rfl
theorem laws_toIntS_ret {a_p : Option Addr} {a_n : Nat} {a_c : Nat} {w : World} {R : Value → World → Prop} (h : laws_toIntS a_p a_n a_c w R) : Ret P 20 [(.slice a_p a_n a_c)] w R :=
  Ret.of_fsem Try.func20 rfl (Eq.mp (laws_toIntS_eq a_p a_n a_c w R) h)
def laws_eqStep (a0 : Int) (a1 : Bool) (a2_p : Option Addr) (a2_n : Nat) (a2_c : Nat) (a3 : Int) (b0 : Int) (b1 : Bool) (b2_p : Option Addr) (b2_n : Nat) (b2_c : Nat) (b3 : Int) (w : World) (R : Value → World → Prop) : Prop :=
  ∀ (r : Nat) (wv : World), New w (.cells ⟨[(.int .i64 a0), (.bool a1), (.slice a2_p a2_n a2_c), (.int .i64 a3)]⟩ 49 (0, 0)) r wv →
  ∀ (r_1 : Nat) (wv_1 : World), New wv (.cells ⟨[(.int .i64 b0), (.bool b1), (.slice b2_p b2_n b2_c), (.int .i64 b3)]⟩ 49 (0, 0)) r_1 wv_1 →
  ∃ (t6 : Int), Loads P 3 ((⟨r, 0, none⟩ : Addr).add 0) (.int .i64 t6) wv_1 ∧ ∃ (t8 : Int), Loads P 3 ((⟨r_1, 0, none⟩ : Addr).add 0) (.int .i64 t8) wv_1 ∧ ((decide ((t6 : Int) ≠ t8)) = true →
    R (.bool false) wv_1) ∧
  ((decide ((t6 : Int) ≠ t8)) = false →
    ∃ (t110 : Bool) (t111_p : Option Addr) (t111_n : Nat) (t111_c : Nat) (t112 : Int), Loads P 47 ((⟨r, 0, none⟩ : Addr).add 1) (.agg #[(.bool t110), (.slice t111_p t111_n t111_c), (.int .i64 t112)]) wv_1 ∧ ∃ (t130 : Bool) (t131_p : Option Addr) (t131_n : Nat) (t131_c : Nat) (t132 : Int), Loads P 47 ((⟨r_1, 0, none⟩ : Addr).add 1) (.agg #[(.bool t130), (.slice t131_p t131_n t131_c), (.int .i64 t132)]) wv_1 ∧ Calls P 39 ⟨[(.agg #[(.bool t110), (.slice t111_p t111_n t111_c), (.int .i64 t112)]), (.agg #[(.bool t130), (.slice t131_p t131_n t131_c), (.int .i64 t132)])]⟩ wv_1 fun e wv_2 =>
    ∃ (t14 : Bool), e = .returned (.bool t14) ∧
    ((!t14) = true →
      R (.bool false) wv_2) ∧
    ((!t14) = false →
      R (.bool true) wv_2))
theorem laws_eqStep_eq (a0 : Int) (a1 : Bool) (a2_p : Option Addr) (a2_n : Nat) (a2_c : Nat) (a3 : Int) (b0 : Int) (b1 : Bool) (b2_p : Option Addr) (b2_n : Nat) (b2_c : Nat) (b3 : Int) (w : World) (R : Value → World → Prop) : laws_eqStep a0 a1 a2_p a2_n a2_c a3 b0 b1 b2_p b2_n b2_c b3 w R = fsem P Try.f24 (fun k => []) [(.agg #[(.int .i64 a0), (.bool a1), (.slice a2_p a2_n a2_c), (.int .i64 a3)]), (.agg #[(.int .i64 b0), (.bool b1), (.slice b2_p b2_n b2_c), (.int .i64 b3)])] R w := by kernel_rfl
theorem laws_eqStep_ret {a0 : Int} {a1 : Bool} {a2_p : Option Addr} {a2_n : Nat} {a2_c : Nat} {a3 : Int} {b0 : Int} {b1 : Bool} {b2_p : Option Addr} {b2_n : Nat} {b2_c : Nat} {b3 : Int} {w : World} {R : Value → World → Prop} (h : laws_eqStep a0 a1 a2_p a2_n a2_c a3 b0 b1 b2_p b2_n b2_c b3 w R) : Ret P 24 [(.agg #[(.int .i64 a0), (.bool a1), (.slice a2_p a2_n a2_c), (.int .i64 a3)]), (.agg #[(.int .i64 b0), (.bool b1), (.slice b2_p b2_n b2_c), (.int .i64 b3)])] w R :=
  Ret.of_fsem Try.func24 rfl (Eq.mp (laws_eqStep_eq a0 a1 a2_p a2_n a2_c a3 b0 b1 b2_p b2_n b2_c b3 w R) h)
def laws_eqIntS (a_p : Option Addr) (a_n : Nat) (a_c : Nat) (b_p : Option Addr) (b_n : Nat) (b_c : Nat) (w : World) (R : Value → World → Prop) : Prop :=
  ((decide ((((a_n : Nat) : Int) : Int) ≠ ((b_n : Nat) : Int))) = true →
    R (.bool false) w) ∧
  ((decide ((((a_n : Nat) : Int) : Int) ≠ ((b_n : Nat) : Int))) = false →
    ∃ (Inv : Int → World → Prop) (mu : Int → World → Nat), Inv 0 w ∧
    ∀ (junk : Fr) (wv : World) (i : Int), Inv i wv →
      ((decide ((i : Int) < ((a_n : Nat) : Int))) = true →
        (0 ≤ (i : Int) ∧ (i : Int) < (a_n : Nat)) ∧ ptrS a_p fun ad => ∃ (t20 : Int), (∀ wv_1, Ext wv.drew wv_1 → Loads P 3 (ad.add (i.toNat * 1)) (.int .i64 t20) wv_1) ∧ (0 ≤ (i : Int) ∧ (i : Int) < (b_n : Nat)) ∧ ptrS b_p fun ad_1 => ∃ (t24 : Int), (∀ wv_2, Ext wv.drew wv_2 → Loads P 3 (ad_1.add (i.toNat * 1)) (.int .i64 t24) wv_2) ∧ ((decide ((t20 : Int) ≠ t24)) = true →
          R (.bool false) wv.drew) ∧
        ((decide ((t20 : Int) ≠ t24)) = false →
          ∃ t16 : Int, t16 = IntKind.wrap .i64 (i + 1) ∧ Inv t16 wv.drew ∧ mu t16 wv.drew < mu i wv)) ∧
      ((decide ((i : Int) < ((a_n : Nat) : Int))) = false →
        R (.bool true) wv))
theorem laws_eqIntS_eq (a_p : Option Addr) (a_n : Nat) (a_c : Nat) (b_p : Option Addr) (b_n : Nat) (b_c : Nat) (w : World) (R : Value → World → Prop) : laws_eqIntS a_p a_n a_c b_p b_n b_c w R = fsem P Try.f25 (fun k => cond (Nat.beq k 5) [(5, .one (.int .i64))] ([])) [(.slice a_p a_n a_c), (.slice b_p b_n b_c)] R w := by kernel_rfl
theorem laws_eqIntS_ret {a_p : Option Addr} {a_n : Nat} {a_c : Nat} {b_p : Option Addr} {b_n : Nat} {b_c : Nat} {w : World} {R : Value → World → Prop} (h : laws_eqIntS a_p a_n a_c b_p b_n b_c w R) : Ret P 25 [(.slice a_p a_n a_c), (.slice b_p b_n b_c)] w R :=
  Ret.of_fsem Try.func25 rfl (Eq.mp (laws_eqIntS_eq a_p a_n a_c b_p b_n b_c w R) h)
def laws_szDec (a0 : Bool) (a1_p : Option Addr) (a1_n : Nat) (a1_c : Nat) (a2 : Int) (left : Int) (w : World) (R : Value → World → Prop) : Prop :=
  ∀ (r : Nat) (wv : World), New w (.cells ⟨[(.bool a0), (.slice a1_p a1_n a1_c), (.int .i64 a2)]⟩ 38 (0, 0)) r wv →
  ∃ (t60 : Bool) (t61_p : Option Addr) (t61_n : Nat) (t61_c : Nat), Loads P 25 ((⟨r, 0, none⟩ : Addr).add 0) (.agg #[(.bool t60), (.slice t61_p t61_n t61_c)]) wv ∧ Calls P 5 ⟨[(.agg #[(.bool t60), (.slice t61_p t61_n t61_c)]), (.int .i64 left)]⟩ wv fun e wv_1 =>
  ∃ (t8 : Int), e = .returned (.int .i64 t8) ∧
  ((decide ((t8 : Int) < 0)) = true →
    R (.int .i64 (-1)) wv_1) ∧
  ((decide ((t8 : Int) < 0)) = false →
    R (.int .i64 t8) wv_1)
theorem laws_szDec_eq (a0 : Bool) (a1_p : Option Addr) (a1_n : Nat) (a1_c : Nat) (a2 : Int) (left : Int) (w : World) (R : Value → World → Prop) : laws_szDec a0 a1_p a1_n a1_c a2 left w R = fsem P Try.f26 (fun k => []) [(.agg #[(.bool a0), (.slice a1_p a1_n a1_c), (.int .i64 a2)]), (.int .i64 left)] R w := by kernel_rfl
theorem laws_szDec_ret {a0 : Bool} {a1_p : Option Addr} {a1_n : Nat} {a1_c : Nat} {a2 : Int} {left : Int} {w : World} {R : Value → World → Prop} (h : laws_szDec a0 a1_p a1_n a1_c a2 left w R) : Ret P 26 [(.agg #[(.bool a0), (.slice a1_p a1_n a1_c), (.int .i64 a2)]), (.int .i64 left)] w R :=
  Ret.of_fsem Try.func26 rfl (Eq.mp (laws_szDec_eq a0 a1_p a1_n a1_c a2 left w R) h)
def laws_toDec (a0 : Bool) (a1_p : Option Addr) (a1_n : Nat) (a1_c : Nat) (a2 : Int) (w : World) (R : Value → World → Prop) : Prop :=
  ∀ (r : Nat) (wv : World), New w (.cells ⟨[(.bool a0), (.slice a1_p a1_n a1_c), (.int .i64 a2)]⟩ 38 (0, 0)) r wv →
  ∀ (r_1 : Nat) (wv_1 : World), New wv (.cells ⟨[(.bool false), (.slice none 0 0), (.int .i64 0)]⟩ 47 (0, 0)) r_1 wv_1 →
  ∀ (r_2 : Nat) (wv_2 : World), New wv_1 (.cells ⟨[(.bool false), (.slice none 0 0), (.int .i64 0)]⟩ 47 (0, 0)) r_2 wv_2 →
  ∃ (t50 : Bool) (t51_p : Option Addr) (t51_n : Nat) (t51_c : Nat), Loads P 25 ((⟨r, 0, none⟩ : Addr).add 0) (.agg #[(.bool t50), (.slice t51_p t51_n t51_c)]) wv_2 ∧ Calls P 8 ⟨[(.agg #[(.bool t50), (.slice t51_p t51_n t51_c)])]⟩ wv_2 fun e wv_3 =>
  ∃ (t60 : Bool) (t61_p : Option Addr) (t61_n : Nat) (t61_c : Nat), e = .returned (.agg #[(.bool t60), (.slice t61_p t61_n t61_c)]) ∧
  ∃ wv_4, Stores P 31 ((⟨r_2, 0, none⟩ : Addr).add 0) (.agg #[(.bool t60), (.slice t61_p t61_n t61_c)]) wv_3 wv_4 ∧
  ∃ (t9 : Int), Loads P 3 ((⟨r, 0, none⟩ : Addr).add 2) (.int .i64 t9) wv_4 ∧ ∃ wv_5, Stores P 3 ((⟨r_2, 0, none⟩ : Addr).add 2) (.int .i64 t9) wv_4 wv_5 ∧
  ∃ (t110 : Bool) (t111_p : Option Addr) (t111_n : Nat) (t111_c : Nat) (t112 : Int), Loads P 47 ⟨r_2, 0, none⟩ (.agg #[(.bool t110), (.slice t111_p t111_n t111_c), (.int .i64 t112)]) wv_5 ∧ ∃ wv_6, Stores P 47 ⟨r_1, 0, none⟩ (.agg #[(.bool t110), (.slice t111_p t111_n t111_c), (.int .i64 t112)]) wv_5 wv_6 ∧
  ∃ (r0 : Bool) (r1_p : Option Addr) (r1_n : Nat) (r1_c : Nat) (r2 : Int), Loads P 47 ⟨r_1, 0, none⟩ (.agg #[(.bool r0), (.slice r1_p r1_n r1_c), (.int .i64 r2)]) wv_6 ∧ R (.agg #[(.bool r0), (.slice r1_p r1_n r1_c), (.int .i64 r2)]) wv_6
theorem laws_toDec_eq (a0 : Bool) (a1_p : Option Addr) (a1_n : Nat) (a1_c : Nat) (a2 : Int) (w : World) (R : Value → World → Prop) : laws_toDec a0 a1_p a1_n a1_c a2 w R = fsem P Try.f33 (fun k => []) [(.agg #[(.bool a0), (.slice a1_p a1_n a1_c), (.int .i64 a2)])] R w := by kernel_rfl
theorem laws_toDec_ret {a0 : Bool} {a1_p : Option Addr} {a1_n : Nat} {a1_c : Nat} {a2 : Int} {w : World} {R : Value → World → Prop} (h : laws_toDec a0 a1_p a1_n a1_c a2 w R) : Ret P 33 [(.agg #[(.bool a0), (.slice a1_p a1_n a1_c), (.int .i64 a2)])] w R :=
  Ret.of_fsem Try.func33 rfl (Eq.mp (laws_toDec_eq a0 a1_p a1_n a1_c a2 w R) h)
def laws_eqDec (a0 : Bool) (a1_p : Option Addr) (a1_n : Nat) (a1_c : Nat) (a2 : Int) (b0 : Bool) (b1_p : Option Addr) (b1_n : Nat) (b1_c : Nat) (b2 : Int) (w : World) (R : Value → World → Prop) : Prop :=
  ∀ (r : Nat) (wv : World), New w (.cells ⟨[(.bool a0), (.slice a1_p a1_n a1_c), (.int .i64 a2)]⟩ 47 (0, 0)) r wv →
  ∀ (r_1 : Nat) (wv_1 : World), New wv (.cells ⟨[(.bool b0), (.slice b1_p b1_n b1_c), (.int .i64 b2)]⟩ 47 (0, 0)) r_1 wv_1 →
  ∃ (t60 : Bool) (t61_p : Option Addr) (t61_n : Nat) (t61_c : Nat), Loads P 31 ((⟨r, 0, none⟩ : Addr).add 0) (.agg #[(.bool t60), (.slice t61_p t61_n t61_c)]) wv_1 ∧ ∃ (t80 : Bool) (t81_p : Option Addr) (t81_n : Nat) (t81_c : Nat), Loads P 31 ((⟨r_1, 0, none⟩ : Addr).add 0) (.agg #[(.bool t80), (.slice t81_p t81_n t81_c)]) wv_1 ∧ Calls P 11 ⟨[(.agg #[(.bool t60), (.slice t61_p t61_n t61_c)]), (.agg #[(.bool t80), (.slice t81_p t81_n t81_c)])]⟩ wv_1 fun e wv_2 =>
  ∃ (t9 : Bool), e = .returned (.bool t9) ∧
  ((!t9) = true →
    R (.bool false) wv_2) ∧
  ((!t9) = false →
    ∃ (t12 : Int), Loads P 3 ((⟨r, 0, none⟩ : Addr).add 2) (.int .i64 t12) wv_2 ∧ ∃ (t14 : Int), Loads P 3 ((⟨r_1, 0, none⟩ : Addr).add 2) (.int .i64 t14) wv_2 ∧ ((decide ((t12 : Int) ≠ t14)) = true →
      R (.bool false) wv_2) ∧
    ((decide ((t12 : Int) ≠ t14)) = false →
      R (.bool true) wv_2))
theorem laws_eqDec_eq (a0 : Bool) (a1_p : Option Addr) (a1_n : Nat) (a1_c : Nat) (a2 : Int) (b0 : Bool) (b1_p : Option Addr) (b1_n : Nat) (b1_c : Nat) (b2 : Int) (w : World) (R : Value → World → Prop) : laws_eqDec a0 a1_p a1_n a1_c a2 b0 b1_p b1_n b1_c b2 w R = fsem P Try.f39 (fun k => []) [(.agg #[(.bool a0), (.slice a1_p a1_n a1_c), (.int .i64 a2)]), (.agg #[(.bool b0), (.slice b1_p b1_n b1_c), (.int .i64 b2)])] R w := by kernel_rfl
theorem laws_eqDec_ret {a0 : Bool} {a1_p : Option Addr} {a1_n : Nat} {a1_c : Nat} {a2 : Int} {b0 : Bool} {b1_p : Option Addr} {b1_n : Nat} {b1_c : Nat} {b2 : Int} {w : World} {R : Value → World → Prop} (h : laws_eqDec a0 a1_p a1_n a1_c a2 b0 b1_p b1_n b1_c b2 w R) : Ret P 39 [(.agg #[(.bool a0), (.slice a1_p a1_n a1_c), (.int .i64 a2)]), (.agg #[(.bool b0), (.slice b1_p b1_n b1_c), (.int .i64 b2)])] w R :=
  Ret.of_fsem Try.func39 rfl (Eq.mp (laws_eqDec_eq a0 a1_p a1_n a1_c a2 b0 b1_p b1_n b1_c b2 w R) h)
end Go.Proofs.Ytfemmmbkhhemaaa

namespace Go.Proofs.Ytfemmmbkhhemaaa.Sx
open Go Go.RowKit
set_option linter.unusedVariables false
set_option linter.unusedSimpArgs false
/-- only blocks in S (and new ones) have turned -/
theorem Ext.le {a b : World} (h : Ext a b) : a.heap.size ≤ b.heap.size := h.size
def Seg (w : World) (b off : Nat) (cs : List Value) : Prop := ∀ j v, cs[j]? = some v → w.cell? ⟨b, off + j, none⟩ = some v
theorem Seg.nil {w : World} {b off : Nat} : Seg w b off [] := fun j v h => by simp at h
theorem Seg.drop {w : World} {b off : Nat} {cs : List Value} (h : Seg w b off cs) (k : Nat) : Seg w b (off + k) (cs.drop k) := fun j v hj => by
  rw [List.getElem?_drop] at hj
  have := h _ _ hj
  rwa [Nat.add_assoc]
theorem Seg.take {w : World} {b off : Nat} {cs : List Value} (h : Seg w b off cs) (k : Nat) : Seg w b off (cs.take k) := fun j v hj => by
  rw [List.getElem?_take] at hj
  split at hj
  · exact h _ _ hj
  · cases hj
theorem Seg.ext {w w' : World} {b off : Nat} {cs : List Value} (h : Seg w b off cs) (he : Ext w w') : Seg w' b off cs := fun j v hj => by
  have h1 := h j v hj
  rw [← h1]
  exact he.cell (World.block_lt_of_cell? w _ h1)
theorem Seg.chg {S : List Nat} {w w' : World} {b off : Nat} {cs : List Value} (h : Seg w b off cs) (he : Chg S w w') (hb : b ∉ S) : Seg w' b off cs := fun j v hj => by
  have h1 := h j v hj
  rw [← h1]
  exact World.cell?_of_block (he.block b (World.block_lt_of_cell? w _ h1) hb)
/-- a block that is known whole -/
def Blk (w : World) (b : Nat) (e : TypeId) (xs : List Value) : Prop := w.heap[b]? = some (.cells ⟨xs⟩ e (0, 0))
theorem Blk.lt {w : World} {b : Nat} {e : TypeId} {xs : List Value} (h : Blk w b e xs) : b < w.heap.size := (Array.getElem?_eq_some_iff.1 h).1
theorem Blk.ext {w w' : World} {b : Nat} {e : TypeId} {xs : List Value} (h : Blk w b e xs) (he : Ext w w') : Blk w' b e xs := (he.block b h.lt).trans h
theorem Blk.chg {S : List Nat} {w w' : World} {b : Nat} {e : TypeId} {xs : List Value} (h : Blk w b e xs) (he : Chg S w w') (hb : b ∉ S) : Blk w' b e xs := (he.block b h.lt hb).trans h
theorem Blk.cell {w : World} {b : Nat} {e : TypeId} {xs : List Value} (h : Blk w b e xs) (j : Nat) : w.cell? ⟨b, j, none⟩ = xs[j]? := by
  rw [cell_of_row w b j _ e (0, 0) h]; simp
theorem Blk.seg {w : World} {b : Nat} {e : TypeId} {xs : List Value} (h : Blk w b e xs) : Seg w b 0 xs := fun j v hj => by rw [Nat.zero_add, h.cell, hj]
theorem New.ext {w w' : World} {o : Obj} {r : Nat} (h : New w o r w') : Ext w w' := by
  obtain ⟨rfl, rfl⟩ := h
  exact (Below.refl _ _).alloc (Nat.le_refl _) _
theorem New.size {w w' : World} {o : Obj} {r : Nat} (h : New w o r w') : w'.heap.size = w.heap.size + 1 := by
  obtain ⟨rfl, rfl⟩ := h; simp
theorem New.blk {w w' : World} {xs : List Value} {e : TypeId} {r : Nat} (h : New w (.cells ⟨xs⟩ e (0, 0)) r w') : Blk w' r e xs := by
  obtain ⟨rfl, rfl⟩ := h
  exact heap_alloc_new w _
theorem addr_add (b o k : Nat) : (⟨b, o, none⟩ : Addr).add k = ⟨b, o + k, none⟩ := Addr.add_lit b o k
section
variable {P : Program}
/-- a type whose values lie in one cell -/
def cellT (P : Program) (t : TypeId) : Bool :=
  match P.underlying t, P.info? t with
  | some (.struct _), _ => false
  | some (.array _ _), _ => false
  | some _, some i => Nat.beq i.size 1
  | _, _ => false
/-- a type whose values are aggregates of so many cells -/
def aggT (P : Program) (t : TypeId) (n : Nat) : Bool :=
  match P.underlying t, P.info? t with
  | some (.struct _), some i => Nat.beq i.size n
  | some (.array _ _), some i => Nat.beq i.size n
  | _, _ => false
theorem cellT_spec {t : TypeId} (h : cellT P t = true) : (∀ w, (isAgg t).run P w = .ok false w) ∧ ∃ i, P.info? t = some i ∧ i.size = 1 := by
  unfold cellT at h
  split at h <;> try cases h
  rename_i d i hs ha hu hi
  refine ⟨fun w => ?_, i, hi, Nat.eq_of_beq_eq_true h⟩
  unfold isAgg
  rw [Sem.run_bind, underlying_run hu w]
  cases d <;> first | rfl | (exact absurd rfl (hs _)) | (exact absurd rfl (ha _ _))
theorem aggT_spec {t : TypeId} {n : Nat} (h : aggT P t n = true) : (∀ w, (isAgg t).run P w = .ok true w) ∧ ∃ i, P.info? t = some i ∧ i.size = n := by
  unfold aggT at h
  split at h
  · rename_i fs i hu hi
    exact ⟨fun w => by unfold isAgg; rw [Sem.run_bind, underlying_run hu w]; rfl, i, hi, Nat.eq_of_beq_eq_true h⟩
  · rename_i k e i hu hi
    exact ⟨fun w => by unfold isAgg; rw [Sem.run_bind, underlying_run hu w]; rfl, i, hi, Nat.eq_of_beq_eq_true h⟩
  · cases h
theorem loads1 {w : World} {t : TypeId} {b o : Nat} {v : Value} (ht : cellT P t = true) (h : w.cell? ⟨b, o, none⟩ = some v) : Loads P t ⟨b, o, none⟩ v w := by
  unfold Loads loadVar
  rw [Sem.run_bind, (cellT_spec ht).1]
  simp [h]
theorem loadsA {w : World} {t : TypeId} {b o : Nat} {cs : List Value} (ht : aggT P t cs.length = true) (h : Seg w b o cs) : Loads P t ⟨b, o, none⟩ (.agg ⟨cs⟩) w := by
  obtain ⟨h1, i, hi, hn⟩ := aggT_spec ht
  unfold Loads loadVar
  rw [Sem.run_bind, h1]
  simp only [Result.andThen_ok, if_true, Sem.run_bind, sizeOf_run hi, hn]
  rw [run_loadCells_list (P := P) w ⟨b, o, none⟩ cs fun j v hv => by rw [addr_add]; exact h j v hv]
  rfl
theorem Seg.load {w : World} {t : TypeId} {b o k : Nat} {cs : List Value} {v : Value} (h : Seg w b o cs) (ht : cellT P t = true) (hx : cs[k]? = some v) : Loads P t ((⟨b, o, none⟩ : Addr).add k) v w := by
  rw [addr_add]; exact loads1 ht (h _ _ hx)
theorem Seg.loadA {w : World} {t : TypeId} {b o k : Nat} {cs xs : List Value} (h : Seg w b o cs) (ht : aggT P t xs.length = true) (hx : (cs.drop k).take xs.length = xs) : Loads P t ((⟨b, o, none⟩ : Addr).add k) (.agg ⟨xs⟩) w := by
  rw [addr_add]
  refine loadsA ht ?_
  have := (h.drop k).take xs.length
  rwa [hx] at this
theorem Blk.load {w : World} {t : TypeId} {b k : Nat} {e : TypeId} {cs : List Value} {v : Value} (h : Blk w b e cs) (ht : cellT P t = true) (hx : cs[k]? = some v) : Loads P t ((⟨b, 0, none⟩ : Addr).add k) v w :=
  h.seg.load ht hx
theorem Blk.loadA {w : World} {t : TypeId} {b k : Nat} {e : TypeId} {cs xs : List Value} (h : Blk w b e cs) (ht : aggT P t xs.length = true) (hx : (cs.drop k).take xs.length = xs) : Loads P t ((⟨b, 0, none⟩ : Addr).add k) (.agg ⟨xs⟩) w :=
  h.seg.loadA ht hx
theorem setRow_chg (w : World) (b : Nat) (cs : Array Value) : Chg [b] w (w.setRow b cs) :=
  ⟨rfl, rfl, rfl, by simp, fun k _ hk => setRow_other w b k _ (by simpa using hk)⟩
/-- a store into a block that is known whole -/
theorem Blk.store {w : World} {t : TypeId} {b k : Nat} {e : TypeId} {cs : List Value} {v : Value} (h : Blk w b e cs) (ht : cellT P t = true) (hk : k < cs.length) (hv : v.oneCell' = true) :
    ∃ w', Stores P t ((⟨b, 0, none⟩ : Addr).add k) v w w' ∧ Blk w' b e (cs.set k v) ∧ Chg [b] w w' ∧ w'.heap.size = w.heap.size := by
  obtain ⟨_, i, hi, hn⟩ := cellT_spec ht
  have hc : v.cells = #[v] := by cases v <;> first | rfl | (simp [Value.oneCell'] at hv)
  have hst := run_storeCells_at P b k e [v] 0 ⟨cs⟩ w h (by simp only [List.length_cons, List.length_nil]; show k + 0 + 1 ≤ cs.length; omega) (by simpa using hv)
  refine ⟨_, ?_, setRow_heap w b ⟨cs⟩ _ e _ h, setRow_chg _ _ _, by simp⟩
  · unfold Stores storeVar
    rw [addr_add, Nat.zero_add]
    simp only [Sem.run_bind, sizeOf_run hi, Result.andThen_ok, hc, hn, List.size_toArray, List.length_cons, List.length_nil]
    simp only [Nat.zero_add, ne_eq, not_true, if_false, Sem.run_pure, Result.andThen_ok]
    rw [hst]
    congr 3
    simp only [Nat.add_zero, List.length_cons, List.length_nil, Nat.zero_add]
    rw [List.set_eq_take_append_cons_drop]
    simp [hk]
/-- a store of an aggregate -/
theorem Blk.storeA {w : World} {t : TypeId} {b k : Nat} {e : TypeId} {cs xs : List Value} (h : Blk w b e cs) (ht : aggT P t xs.length = true) (hk : k + xs.length ≤ cs.length) (hv : ∀ v ∈ xs, v.oneCell' = true) :
    ∃ w', Stores P t ((⟨b, 0, none⟩ : Addr).add k) (.agg ⟨xs⟩) w w' ∧ Blk w' b e (cs.take k ++ xs ++ cs.drop (k + xs.length)) ∧ Chg [b] w w' ∧ w'.heap.size = w.heap.size := by
  obtain ⟨_, i, hi, hn⟩ := aggT_spec ht
  have hst := run_storeCells_at P b k e xs 0 ⟨cs⟩ w h (by simpa using hk) hv
  refine ⟨_, ?_, setRow_heap w b ⟨cs⟩ _ e _ h, setRow_chg _ _ _, by simp⟩
  unfold Stores storeVar
  rw [addr_add, Nat.zero_add]
  simp only [Sem.run_bind, sizeOf_run hi, Result.andThen_ok, Value.cells, hn, List.size_toArray]
  simp only [ne_eq, not_true, if_false, Sem.run_pure, Result.andThen_ok]
  rw [hst]
  simp
/-- a slice type: its element type, that one's zero value, cells and bytes -/
def sliceT (P : Program) (t e : TypeId) (z : Value) (size bytes : Nat) : Prop :=
  P.underlying t = some (.slice e) ∧ (P.info? e).map (fun i => (i.zero, i.size, i.bytes)) = some (some z, size, bytes) ∧ z.cells.size = size ∧ 0 < size
/-- a slice whose cells are one's own -/
def Own (w : World) (base : Nat) (e : TypeId) (size : Nat) (p : Option Addr) (n c : Nat) (xs : List Value) : Prop := w.ownsRow base e size (.slice p n c) n xs
theorem Own.nil (w : World) (base : Nat) (e : TypeId) (size : Nat) : Own w base e size none 0 0 [] := World.ownsRow_nil w base e size
theorem Own.ext {w w' : World} {base : Nat} {e : TypeId} {size : Nat} {p : Option Addr} {n c : Nat} {xs : List Value} (h : Own w base e size p n c xs) (he : Ext w w') : Own w' base e size p n c xs :=
  h.kept (row := none) ⟨he.os, he.tape, he.output, he.size, fun k hk _ => he.block k hk⟩ (by cases p <;> simp [Value.ownBlock])
theorem Own.of_blk {w : World} {base : Nat} {e : TypeId} {size : Nat} {r n : Nat} {xs : List Value} (h : Blk w r e xs) (hb : base ≤ r) (hl : xs.length = n * size) (hn : n ≤ maxLen) : Own w base e size (some ⟨r, 0, none⟩) n n xs :=
  ⟨hl, .inr ⟨r, n, ⟨xs⟩, rfl, hb, h, Nat.le_refl _, hn, by simpa using hl, by simp [← hl]⟩⟩
theorem Own.of_blk0 {w : World} {base : Nat} {e : TypeId} {size : Nat} {r n : Nat} {xs : List Value} (h : Blk w r e xs) (hb : base ≤ r) (hl : xs.length = n * size) (hn : n ≤ maxLen) : Own w base e size (some ⟨r, 0, none⟩) 0 n [] :=
  ⟨by simp, .inr ⟨r, n, ⟨xs⟩, rfl, hb, h, Nat.zero_le _, hn, by simpa using hl, by simp⟩⟩
theorem Own.len {w : World} {base : Nat} {e : TypeId} {size : Nat} {p : Option Addr} {n c : Nat} {xs : List Value} (h : Own w base e size p n c xs) : xs.length = n * size := h.1
theorem Own.le {w : World} {base : Nat} {e : TypeId} {size : Nat} {p : Option Addr} {n c : Nat} {xs : List Value} (h : Own w base e size p n c xs) : n ≤ c := by
  rcases h.2 with ⟨h1, h2⟩ | ⟨g, cap, cur, h1, _, _, h3, _⟩
  · omega
  · simp only [Value.slice.injEq] at h1; omega
theorem Own.capLe {w : World} {base : Nat} {e : TypeId} {size : Nat} {p : Option Addr} {n c : Nat} {xs : List Value} (h : Own w base e size p n c xs) : c ≤ 9223372036854775807 := by
  rcases h.2 with ⟨h1, h2⟩ | ⟨g, cap, cur, h1, _, _, h3, h4, _⟩
  · simp only [Value.slice.injEq] at h1; omega
  · simp only [Value.slice.injEq] at h1; simp only [maxLen] at h4; omega
theorem Own.seg {w : World} {base : Nat} {e : TypeId} {size : Nat} {p : Option Addr} {n c : Nat} {xs : List Value} (h : Own w base e size p n c xs) (hn : 0 < n) : ∃ b, p = some ⟨b, 0, none⟩ ∧ base ≤ b ∧ Seg w b 0 xs := by
  rcases h.2 with ⟨h1, h2⟩ | ⟨g, cap, cur, h1, hb, hg, h3, h4, h5, h6⟩
  · omega
  · simp only [Value.slice.injEq] at h1
    refine ⟨g, h1.1, hb, fun j v hj => ?_⟩
    rw [Nat.zero_add, cell_of_row w g j cur e (0, 0) hg]
    rw [← h6, List.getElem?_take] at hj
    split at hj
    · simpa using hj
    · cases hj
theorem Own.mono {w : World} {base base' : Nat} {e : TypeId} {size : Nat} {p : Option Addr} {n c : Nat} {xs : List Value} (h : Own w base e size p n c xs) (hb : base' ≤ base) : Own w base' e size p n c xs := by
  refine ⟨h.1, ?_⟩
  rcases h.2 with h1 | ⟨g, cap, cur, h1, h2, h3⟩
  · exact .inl h1
  · exact .inr ⟨g, cap, cur, h1, Nat.le_trans hb h2, h3⟩
/-- append onto a row of one's own: m elements that lie in a block known whole -/
theorem Own.append {w : World} {base : Nat} {t e : TypeId} {z : Value} {size bytes : Nat} {p : Option Addr} {n c r m mc : Nat} {xs news : List Value} (h : Own w base e size p n c xs)
    (hT : sliceT P t e z size bytes) (hb : base ≤ w.heap.size) (hr : Blk w r e news) (hl : news.length = m * size) (h1 : ∀ u ∈ news, u.oneCell' = true)
    (hbytes : (n + m) * bytes ≤ 140737488355328) (hby : 1 ≤ bytes) :
    ∃ p' c' w', Appends P [t, t] [.slice p n c, .slice (some ⟨r, 0, none⟩) m mc] (.slice p' (n + m) c') w w' ∧ Own w' base e size p' (n + m) c' (xs ++ news) ∧
      (∀ w0, Ext w0 w → w0.heap.size ≤ base → Ext w0 w') ∧ (∀ b e' ys, Blk w b e' ys → p.map (·.block) ≠ some b → Blk w' b e' ys) ∧
      (∀ b o ys, Seg w b o ys → p.map (·.block) ≠ some b → Seg w' b o ys) := by
  obtain ⟨hu, hi, hz, hs⟩ := hT
  cases hinf : P.info? e with
  | none => rw [hinf] at hi; cases hi
  | some i =>
    rw [hinf] at hi
    simp only [Option.map_some, Option.some.injEq, Prod.mk.injEq] at hi
    have hnm : n + m ≤ maxLen := by
      have : n + m ≤ (n + m) * bytes := Nat.le_mul_of_pos_right _ hby
      simp only [maxLen]; omega
    obtain ⟨v', w', hrun, hown, hgr, _⟩ := run_append_own (P := P) w base t 0 e i z size bytes hu hinf hi.1 hi.2.1 hi.2.2 hz hs (.slice p n c) n xs h ⟨r, 0, none⟩ m mc news hl
      (fun j u hj => by rw [addr_add, Nat.zero_add, hr.cell, hj]) h1 hnm hbytes hb
    have hlt := h.lt
    have hv : ∃ p' c', v' = .slice p' (n + m) c' := by
      rcases hown.2 with ⟨e1, e2⟩ | ⟨g, cap, cur, e1, _⟩
      · exact ⟨none, 0, by rw [e1, e2]⟩
      · exact ⟨_, _, e1⟩
    obtain ⟨p', c', rfl⟩ := hv
    have hob : (Value.slice p n c).ownBlock = p.map (·.block) := by cases p <;> rfl
    refine ⟨p', c', w', hrun, hown, ?_, ?_, ?_⟩
    · intro w0 hx hb0
      refine hx.chg (S := (p.map (·.block)).toList) ⟨hgr.os, hgr.tape, hgr.output, hgr.size, fun k hk hn => hgr.block k hk ?_⟩ ?_
      · rw [hob]; intro e; rw [← e] at hn; simp at hn
      · intro x hx'
        have := (hlt x (by rw [hob]; cases p <;> simp_all)).1
        omega
    · intro b e' ys hy hne
      exact (hgr.block b hy.lt (by rw [hob]; exact fun e => hne e.symm)).trans hy
    · intro b o ys hy hne j v hj
      have h3 := hy j v hj
      rw [← h3]
      exact World.cell?_of_block (hgr.block b (World.block_lt_of_cell? w _ h3) (by rw [hob]; exact fun e => hne e.symm))
end
/-- a slice of numbers reads as zs -/
def IntsR (w : World) (p : Option Addr) (n c : Nat) (zs : List Int) : Prop :=
  zs.length = n ∧ n ≤ c ∧ c ≤ 9223372036854775807 ∧ (0 < n → ∃ b off, p = some ⟨b, off, none⟩ ∧ Seg w b off (zs.map (Value.int .i64)))
theorem IntsR.ext {w w' : World} {p : Option Addr} {n c : Nat} {zs : List Int} (h : IntsR w p n c zs) (he : Ext w w') : IntsR w' p n c zs :=
  ⟨h.1, h.2.1, h.2.2.1, fun hn => let ⟨b, off, hp, hs⟩ := h.2.2.2 hn; ⟨b, off, hp, hs.ext he⟩⟩
theorem IntsR.chg {S : List Nat} {w w' : World} {p : Option Addr} {n c : Nat} {zs : List Int} (h : IntsR w p n c zs) (he : Chg S w w') (hS : ∀ b, p.map (·.block) = some b → b ∉ S) : IntsR w' p n c zs :=
  ⟨h.1, h.2.1, h.2.2.1, fun hn => let ⟨b, off, hp, hs⟩ := h.2.2.2 hn; ⟨b, off, hp, hs.chg he (hS b (by rw [hp]; rfl))⟩⟩
theorem IntsR.nil (w : World) (p : Option Addr) {c : Nat} (hc : c ≤ 9223372036854775807) : IntsR w p 0 c [] := ⟨rfl, Nat.zero_le _, hc, fun h => absurd h (by omega)⟩
theorem Own.ints {w : World} {base : Nat} {e : TypeId} {p : Option Addr} {n c : Nat} {zs : List Int} (h : Own w base e 1 p n c (zs.map (Value.int .i64))) : IntsR w p n c zs :=
  ⟨by simpa using h.len, h.le, h.capLe, fun hn => let ⟨b, hp, _, hs⟩ := h.seg hn; ⟨b, 0, hp, hs⟩⟩
/-- the cell of number k -/
theorem IntsR.at {P : Program} {w : World} {p : Option Addr} {n c k : Nat} {zs : List Int} (h : IntsR w p n c zs) {t : TypeId} (ht : cellT P t = true) (hk : k < n) :
    ∃ a, p = some a ∧ Loads P t (a.add (k * 1)) (.int .i64 (zs[k]'(by rw [h.1]; exact hk))) w := by
  obtain ⟨b, off, hp, hs⟩ := h.2.2.2 (by omega)
  refine ⟨_, hp, ?_⟩
  rw [Nat.mul_one]
  exact hs.load ht (by simp [List.getElem?_eq_getElem (by rw [h.1]; exact hk : k < zs.length)])
theorem wrap64 {e : Int} (h1 : -9223372036854775808 ≤ e) (h2 : e ≤ 9223372036854775807) : IntKind.wrap .i64 e = e := by
  simp only [IntKind.wrap, IntKind.bits, IntKind.signed]
  by_cases h0 : 0 ≤ e
  · have : e % (2 ^ 64 : Int) = e := Int.emod_eq_of_lt h0 (by omega)
    simp [this]; omega
  · have : e % (2 ^ 64 : Int) = e + 2 ^ 64 := by omega
    simp [this]; omega
/-- a sum that fits -/
theorem exW {e : Int} {Q : Int → Prop} (h : -9223372036854775808 ≤ e ∧ e ≤ 9223372036854775807) (hq : Q e) : ∃ z, z = IntKind.wrap .i64 e ∧ Q z := ⟨e, (wrap64 h.1 h.2).symm, hq⟩
/-- a test, both ways -/
theorem ifD {p : Prop} [Decidable p] {A B : Prop} (ha : p → A) (hb : ¬ p → B) : (decide p = true → A) ∧ (decide p = false → B) :=
  ⟨fun h => ha (of_decide_eq_true h), fun h => hb (of_decide_eq_false h)⟩
theorem ifN {b : Bool} {A B : Prop} (ha : b = false → A) (hb : b = true → B) : ((!b) = true → A) ∧ ((!b) = false → B) := ⟨fun h => ha (by simpa using h), fun h => hb (by simpa using h)⟩
theorem ifT {A B : Prop} (ha : A) : (true = true → A) ∧ (true = false → B) := ⟨fun _ => ha, fun h => nomatch h⟩
theorem ifF {A B : Prop} (hb : B) : (false = true → A) ∧ (false = false → B) := ⟨fun h => (nomatch h), fun _ => hb⟩
theorem zeroRow_int (k : IntKind) (z : Int) (n : Nat) : zeroRow (.int k z) n = List.replicate n (.int k z) := by
  unfold zeroRow
  apply List.ext_getElem
  · simp
  · intro i h1 h2
    simp [Value.cells, Nat.mod_one]
end Go.Proofs.Ytfemmmbkhhemaaa.Sx

namespace Go.Proofs.Ytfemmmbkhhemaaa
abbrev n_laws_FnExactStepAt : Nat := 3
abbrev n_laws_szStepS : Nat := 4
abbrev n_laws_szSigned : Nat := 5
abbrev n_spec_StepAt : Nat := 6
abbrev n_laws_toStepS : Nat := 7
abbrev n_laws_toSigned : Nat := 8
abbrev n_impl_StepAt : Nat := 9
abbrev n_laws_eqStepS : Nat := 10
abbrev n_laws_eqSigned : Nat := 11
abbrev n_laws_szStep : Nat := 12
abbrev n_laws_szIntS : Nat := 13
abbrev n_spec_StepsOk : Nat := 14
abbrev n_spec_IntOk : Nat := 15
abbrev n_spec_IntCmp : Nat := 16
abbrev n_spec_IntOf : Nat := 17
abbrev n_spec_IntAbs : Nat := 18
abbrev n_laws_toStep : Nat := 19
abbrev n_laws_toIntS : Nat := 20
abbrev n_impl_StepsOk : Nat := 21
abbrev n_impl_IntOk : Nat := 22
abbrev n_laws_eqStep : Nat := 24
abbrev n_laws_eqIntS : Nat := 25
abbrev n_laws_szDec : Nat := 26
abbrev n_spec_l01In : Nat := 27
abbrev n_spec_TaxRateOk : Nat := 28
abbrev n_spec_NatOk : Nat := 29
abbrev n_spec_l02Cmp : Nat := 30
abbrev n_spec_l04Make : Nat := 31
abbrev n_spec_NatOf : Nat := 32
abbrev n_laws_toDec : Nat := 33
abbrev n_impl_TaxRateOk : Nat := 34
abbrev n_impl_NatOk : Nat := 35
abbrev n_impl_natCmp : Nat := 37
abbrev n_impl_NatOf : Nat := 38
abbrev n_laws_eqDec : Nat := 39
abbrev n_spec_DecOk : Nat := 40
abbrev n_spec_DecCmp : Nat := 41
abbrev n_spec_l02Cap : Nat := 42
abbrev n_impl_DecOk : Nat := 43
abbrev n_impl_DecCmp : Nat := 44
abbrev n_impl_IntOf : Nat := 45
abbrev n_impl_natOf : Nat := 46
abbrev n_spec_l07Both : Nat := 47
abbrev n_spec_l02Trim : Nat := 48
abbrev n_impl_isScale : Nat := 49
abbrev n_impl_intCmp : Nat := 51
abbrev n_spec_IntMul : Nat := 52
abbrev n_spec_l07Ten : Nat := 53
abbrev n_impl_scaled_1 : Nat := 54
abbrev n_impl_signed : Nat := 55
abbrev n_impl_natMul : Nat := 56
abbrev n_impl_natTen : Nat := 57
abbrev n_impl_intSign : Nat := 58
abbrev n_impl_intAdd : Nat := 59
abbrev n_impl_intNeg : Nat := 60
abbrev n_spec_l02Mul : Nat := 61
abbrev n_spec_NatTen : Nat := 62
abbrev n_impl_trim : Nat := 63
abbrev n_impl_natAdd : Nat := 64
abbrev n_impl_natSub : Nat := 65
abbrev n_impl_natCopy : Nat := 66
abbrev T_int : Nat := 3
abbrev T_bool : Nat := 4
abbrev T_s_int : Nat := 23
abbrev T_impl_Signed : Nat := 31
abbrev T_laws_Step : Nat := 40
abbrev T_impl_Dec : Nat := 47
abbrev T_impl_Step : Nat := 49
end Go.Proofs.Ytfemmmbkhhemaaa

namespace Go.Proofs.Ytfemmmbkhhemaaa.Sx
open Go Go.RowKit
set_option linter.unusedVariables false
set_option linter.unusedSimpArgs false
/-- what one cell reads as -/
inductive D0 where
  | int (n : Int) | bool (b : Bool) | str (s : ByteArray) | ints (l : List Int)
  deriving DecidableEq
inductive C0 where
  | int | bool | str | ints
  deriving DecidableEq
def D0.code : D0 → C0
  | .int _ => .int
  | .bool _ => .bool
  | .str _ => .str
  | .ints _ => .ints
def Rep0 (w : World) (v : Value) : D0 → Prop
  | .int n => v = .int .i64 n
  | .bool b => v = .bool b
  | .str s => v = .string s
  | .ints zs => ∃ p n c, v = .slice p n c ∧ IntsR w p n c zs
def Reps (w : World) : List Value → List D0 → Prop
  | [], [] => True
  | v :: vs, d :: ds => Rep0 w v d ∧ Reps w vs ds
  | _, _ => False
theorem Rep0.ext {w w' : World} {v : Value} {d : D0} (h : Rep0 w v d) (he : Ext w w') : Rep0 w' v d := by
  cases d <;> simp only [Rep0] at h ⊢ <;> try exact h
  obtain ⟨p, n, c, hv, hi⟩ := h
  exact ⟨p, n, c, hv, hi.ext he⟩
theorem Reps.ext {w w' : World} : ∀ {vs : List Value} {ds : List D0}, Reps w vs ds → Ext w w' → Reps w' vs ds
  | [], [], _, _ => trivial
  | [], _ :: _, h, _ => h.elim
  | _ :: _, [], h, _ => h.elim
  | _ :: _, _ :: _, h, he => ⟨h.1.ext he, Reps.ext h.2 he⟩
theorem Reps.len {w : World} : ∀ {vs : List Value} {ds : List D0}, Reps w vs ds → vs.length = ds.length
  | [], [], _ => rfl
  | [], _ :: _, h => h.elim
  | _ :: _, [], h => h.elim
  | _ :: _, _ :: _, h => by simp [Reps.len h.2]
theorem Reps.append {w : World} : ∀ {vs us : List Value} {ds es : List D0}, Reps w vs ds → Reps w us es → Reps w (vs ++ us) (ds ++ es)
  | [], _, [], _, _, k => k
  | [], _, _ :: _, _, h, _ => h.elim
  | _ :: _, _, [], _, h, _ => h.elim
  | _ :: _, _, _ :: _, _, h, k => ⟨h.1, Reps.append h.2 k⟩
theorem Reps.one {w : World} {vs : List Value} {ds : List D0} (h : Reps w vs ds) (h1 : ∀ v ∈ vs, v.oneCell' = true → True) : True := trivial
/-- every such cell is one cell -/
theorem Rep0.cell1 {w : World} {v : Value} {d : D0} (h : Rep0 w v d) : v.oneCell' = true := by
  cases d <;> simp only [Rep0] at h
  case ints l => obtain ⟨p, n, c, hv, _⟩ := h; rw [hv]; rfl
  all_goals (rw [h]; rfl)
theorem Reps.cells1 {w : World} : ∀ {vs : List Value} {ds : List D0}, Reps w vs ds → ∀ v ∈ vs, v.oneCell' = true
  | [], [], _, v, hv => by simp at hv
  | [], _ :: _, h, _, _ => h.elim
  | _ :: _, [], h, _, _ => h.elim
  | x :: xs, d :: ds, h, v, hv => by
    rcases List.mem_cons.1 hv with e | e
    · rw [e]; exact h.1.cell1
    · exact Reps.cells1 h.2 v e
/-- by its code, a list of cells comes written out -/
theorem Reps.int {w : World} {vs : List Value} {ds : List D0} {cs : List C0} (h : Reps w vs ds) (hc : ds.map D0.code = .int :: cs) : ∃ n us es, vs = .int .i64 n :: us ∧ ds = .int n :: es ∧ Reps w us es ∧ es.map D0.code = cs := by
  cases ds with
  | nil => simp at hc
  | cons d es =>
    cases vs with
    | nil => exact h.elim
    | cons v us =>
      simp only [List.map_cons, List.cons.injEq] at hc
      cases d <;> simp [D0.code] at hc
      rename_i n
      exact ⟨n, us, es, by rw [show v = _ from h.1], rfl, h.2, hc⟩
theorem Reps.bool {w : World} {vs : List Value} {ds : List D0} {cs : List C0} (h : Reps w vs ds) (hc : ds.map D0.code = .bool :: cs) : ∃ b us es, vs = .bool b :: us ∧ ds = .bool b :: es ∧ Reps w us es ∧ es.map D0.code = cs := by
  cases ds with
  | nil => simp at hc
  | cons d es =>
    cases vs with
    | nil => exact h.elim
    | cons v us =>
      simp only [List.map_cons, List.cons.injEq] at hc
      cases d <;> simp [D0.code] at hc
      rename_i n
      exact ⟨n, us, es, by rw [show v = _ from h.1], rfl, h.2, hc⟩
theorem Reps.str {w : World} {vs : List Value} {ds : List D0} {cs : List C0} (h : Reps w vs ds) (hc : ds.map D0.code = .str :: cs) : ∃ s us es, vs = .string s :: us ∧ ds = .str s :: es ∧ Reps w us es ∧ es.map D0.code = cs := by
  cases ds with
  | nil => simp at hc
  | cons d es =>
    cases vs with
    | nil => exact h.elim
    | cons v us =>
      simp only [List.map_cons, List.cons.injEq] at hc
      cases d <;> simp [D0.code] at hc
      rename_i n
      exact ⟨n, us, es, by rw [show v = _ from h.1], rfl, h.2, hc⟩
theorem Reps.ints {w : World} {vs : List Value} {ds : List D0} {cs : List C0} (h : Reps w vs ds) (hc : ds.map D0.code = .ints :: cs) :
    ∃ p n c zs us es, vs = .slice p n c :: us ∧ ds = .ints zs :: es ∧ IntsR w p n c zs ∧ Reps w us es ∧ es.map D0.code = cs := by
  cases ds with
  | nil => simp at hc
  | cons d es =>
    cases vs with
    | nil => exact h.elim
    | cons v us =>
      simp only [List.map_cons, List.cons.injEq] at hc
      cases d <;> simp [D0.code] at hc
      rename_i zs
      obtain ⟨p, n, c, hv, hi⟩ := h.1
      exact ⟨p, n, c, zs, us, es, by rw [hv], rfl, hi, h.2, hc⟩
theorem Reps.done {w : World} {vs : List Value} {ds : List D0} (h : Reps w vs ds) (hc : ds.map D0.code = []) : vs = [] ∧ ds = [] := by
  have : ds = [] := by simpa using hc
  subst this
  cases vs with
  | nil => exact ⟨rfl, rfl⟩
  | cons _ _ => exact h.elim
/-- a slice of structs of k cells -/
def RowsR (w : World) (k : Nat) (p : Option Addr) (n c : Nat) (l : List (List D0)) : Prop :=
  l.length = n ∧ n ≤ c ∧ c ≤ 9223372036854775807 ∧ (0 < n → ∃ b off, p = some ⟨b, off, none⟩ ∧ ∀ i x, l[i]? = some x → ∃ cs, cs.length = k ∧ Reps w cs x ∧ Seg w b (off + i * k) cs)
theorem RowsR.ext {w w' : World} {k : Nat} {p : Option Addr} {n c : Nat} {l : List (List D0)} (h : RowsR w k p n c l) (he : Ext w w') : RowsR w' k p n c l :=
  ⟨h.1, h.2.1, h.2.2.1, fun hn => let ⟨b, off, hp, hs⟩ := h.2.2.2 hn; ⟨b, off, hp, fun i x hx => let ⟨cs, h1, h2, h3⟩ := hs i x hx; ⟨cs, h1, h2.ext he, h3.ext he⟩⟩⟩
theorem RowsR.nil (w : World) (k : Nat) (p : Option Addr) {c : Nat} (hc : c ≤ 9223372036854775807) : RowsR w k p 0 c [] := ⟨rfl, Nat.zero_le _, hc, fun h => absurd h (by omega)⟩
/-- element i -/
theorem RowsR.at {P : Program} {w : World} {k : Nat} {p : Option Addr} {n c i : Nat} {l : List (List D0)} (h : RowsR w k p n c l) {t : TypeId} (ht : aggT P t k = true) (hi : i < n) :
    ∃ a cs, p = some a ∧ cs.length = k ∧ Reps w cs (l[i]'(by rw [h.1]; exact hi)) ∧ Loads P t (a.add (i * k)) (.agg ⟨cs⟩) w := by
  obtain ⟨b, off, hp, hs⟩ := h.2.2.2 (by omega)
  obtain ⟨cs, h1, h2, h3⟩ := hs i _ (List.getElem?_eq_getElem (by rw [h.1]; exact hi))
  refine ⟨_, cs, hp, h1, h2, ?_⟩
  rw [addr_add]
  exact loadsA (by rw [h1]; exact ht) h3
/-- how much there is of it -/
def D0.bulk : D0 → Nat
  | .str s => s.size
  | .ints l => l.length
  | _ => 0
def bulks (ds : List D0) : Nat := (ds.map D0.bulk).sum
theorem bulks_le {l : List (List D0)} {y : List D0} (h : y ∈ l) : bulks y ≤ (l.map bulks).sum := by
  induction l with
  | nil => simp at h
  | cons a r ih =>
    simp only [List.map_cons, List.sum_cons]
    rcases List.mem_cons.1 h with e | e
    · rw [e]; omega
    · have := ih e; omega
/-- what a reading says of sizes -/
def D0.ok : D0 → Prop
  | .int n => -9223372036854775808 ≤ n ∧ n ≤ 9223372036854775807
  | .str s => s.size ≤ 9223372036854775807
  | .ints l => l.length ≤ 9223372036854775807
  | .bool _ => True
end Go.Proofs.Ytfemmmbkhhemaaa.Sx

namespace Go.Proofs.Ytfemmmbkhhemaaa.Sx
open Go Go.RowKit
set_option linter.unusedVariables false
set_option linter.unusedSimpArgs false
section
variable {P : Program}
theorem Blk.load0 {w : World} {t : TypeId} {b k : Nat} {e : TypeId} {cs : List Value} {v : Value} (h : Blk w b e cs) (ht : cellT P t = true) (hx : cs[k]? = some v) : Loads P t ⟨b, k, none⟩ v w :=
  loads1 ht (by rw [h.cell]; exact hx)
theorem Blk.loadA0 {w : World} {t : TypeId} {b : Nat} {e : TypeId} {cs : List Value} (h : Blk w b e cs) (ht : aggT P t cs.length = true) : Loads P t ⟨b, 0, none⟩ (.agg ⟨cs⟩) w :=
  loadsA ht h.seg
theorem Blk.storeA0 {w : World} {t : TypeId} {b : Nat} {e : TypeId} {cs xs : List Value} (h : Blk w b e cs) (ht : aggT P t xs.length = true) (hk : xs.length = cs.length) (hv : ∀ v ∈ xs, v.oneCell' = true) :
    ∃ w', Stores P t ⟨b, 0, none⟩ (.agg ⟨xs⟩) w w' ∧ Blk w' b e xs ∧ Chg [b] w w' ∧ w'.heap.size = w.heap.size := by
  obtain ⟨w', h1, h2, h3, h4⟩ := h.storeA (P := P) (k := 0) ht (by omega) hv
  rw [addr_add, Nat.zero_add] at h1
  refine ⟨w', h1, ?_, h3, h4⟩
  rw [List.take_zero, List.nil_append, Nat.zero_add, hk, List.drop_length, List.append_nil] at h2
  exact h2
end
def Own0 (w : World) (B : Nat) (v : Value) : D0 → List Nat → Prop
  | .int n, f => v = .int .i64 n ∧ f = []
  | .bool b, f => v = .bool b ∧ f = []
  | .str s, f => v = .string s ∧ f = []
  | .ints zs, f => ∃ p n c, v = .slice p n c ∧ Own w B T_int 1 p n c (zs.map (Value.int .i64)) ∧ f = (p.map (·.block)).toList
def Owns (w : World) (B : Nat) : List Value → List D0 → List Nat → Prop
  | [], [], f => f = []
  | v :: vs, d :: ds, f => ∃ f1 f2, f = f1 ++ f2 ∧ Own0 w B v d f1 ∧ Owns w B vs ds f2
  | _, _, _ => False
theorem Own0.rep {w : World} {B : Nat} {v : Value} {d : D0} {f : List Nat} (h : Own0 w B v d f) : Rep0 w v d := by
  cases d <;> simp only [Own0] at h <;> simp only [Rep0]
  case ints zs => obtain ⟨p, n, c, hv, ho, _⟩ := h; exact ⟨p, n, c, hv, ho.ints⟩
  all_goals exact h.1
theorem Owns.reps {w : World} {B : Nat} : ∀ {vs : List Value} {ds : List D0} {f : List Nat}, Owns w B vs ds f → Reps w vs ds
  | [], [], _, _ => trivial
  | [], _ :: _, _, h => h.elim
  | _ :: _, [], _, h => h.elim
  | _ :: _, _ :: _, _, h => by
    obtain ⟨f1, f2, _, h1, h2⟩ := h
    exact ⟨h1.rep, Owns.reps h2⟩
theorem Own0.lt {w : World} {B : Nat} {v : Value} {d : D0} {f : List Nat} (h : Own0 w B v d f) : ∀ k ∈ f, B ≤ k ∧ k < w.heap.size := by
  cases d <;> simp only [Own0] at h
  case ints zs =>
    obtain ⟨p, n, c, hv, ho, hf⟩ := h
    intro k hk
    rw [hf] at hk
    exact World.ownsRow.lt ho k (by cases p <;> simp_all [Value.ownBlock])
  all_goals (intro k hk; rw [h.2] at hk; simp at hk)
theorem Owns.lt {w : World} {B : Nat} : ∀ {vs : List Value} {ds : List D0} {f : List Nat}, Owns w B vs ds f → ∀ k ∈ f, B ≤ k ∧ k < w.heap.size
  | [], [], _, h, k, hk => by rw [h] at hk; simp at hk
  | [], _ :: _, _, h, _, _ => h.elim
  | _ :: _, [], _, h, _, _ => h.elim
  | _ :: _, _ :: _, _, h, k, hk => by
    obtain ⟨f1, f2, rfl, h1, h2⟩ := h
    rcases List.mem_append.1 hk with hk | hk
    · exact h1.lt k hk
    · exact Owns.lt h2 k hk
theorem Own0.ext {w w' : World} {B : Nat} {v : Value} {d : D0} {f : List Nat} (h : Own0 w B v d f) (he : Ext w w') : Own0 w' B v d f := by
  cases d <;> simp only [Own0] at h ⊢ <;> try exact h
  obtain ⟨p, n, c, hv, ho, hf⟩ := h
  exact ⟨p, n, c, hv, ho.ext he, hf⟩
theorem Owns.ext {w w' : World} {B : Nat} : ∀ {vs : List Value} {ds : List D0} {f : List Nat}, Owns w B vs ds f → Ext w w' → Owns w' B vs ds f
  | [], [], _, h, _ => h
  | [], _ :: _, _, h, _ => h.elim
  | _ :: _, [], _, h, _ => h.elim
  | _ :: _, _ :: _, _, h, he => by
    obtain ⟨f1, f2, rfl, h1, h2⟩ := h
    exact ⟨f1, f2, rfl, h1.ext he, Owns.ext h2 he⟩
theorem Own.chg {S : List Nat} {w w' : World} {B : Nat} {e : TypeId} {size : Nat} {p : Option Addr} {n c : Nat} {xs : List Value} (h : Own w B e size p n c xs) (he : Chg S w w') (hS : ∀ k, p.map (·.block) = some k → k ∉ S) : Own w' B e size p n c xs := by
  refine ⟨h.1, ?_⟩
  rcases h.2 with h1 | ⟨g, cap, cur, h1, h2, h3, h4⟩
  · exact .inl h1
  · refine .inr ⟨g, cap, cur, h1, h2, ?_, h4⟩
    simp only [Value.slice.injEq] at h1
    rw [he.block g (Array.getElem?_eq_some_iff.1 h3).1 (hS g (by rw [h1.1]; rfl))]
    exact h3
theorem Own0.chg {S : List Nat} {w w' : World} {B : Nat} {v : Value} {d : D0} {f : List Nat} (h : Own0 w B v d f) (he : Chg S w w') (hS : ∀ k ∈ f, k ∉ S) : Own0 w' B v d f := by
  cases d <;> simp only [Own0] at h ⊢ <;> try exact h
  obtain ⟨p, n, c, hv, ho, hf⟩ := h
  exact ⟨p, n, c, hv, ho.chg he (fun k hk => hS k (by rw [hf, hk]; simp)), hf⟩
theorem Owns.chg {S : List Nat} {w w' : World} {B : Nat} : ∀ {vs : List Value} {ds : List D0} {f : List Nat}, Owns w B vs ds f → Chg S w w' → (∀ k ∈ f, k ∉ S) → Owns w' B vs ds f
  | [], [], _, h, _, _ => h
  | [], _ :: _, _, h, _, _ => h.elim
  | _ :: _, [], _, h, _, _ => h.elim
  | _ :: _, _ :: _, _, h, he, hS => by
    obtain ⟨f1, f2, rfl, h1, h2⟩ := h
    exact ⟨f1, f2, rfl, h1.chg he (fun k hk => hS k (by simp [hk])), Owns.chg h2 he (fun k hk => hS k (by simp [hk]))⟩
/-- blocks from B on are not touched where only older ones turn -/
theorem Owns.chg1 {r : Nat} {w w' : World} {B : Nat} {vs : List Value} {ds : List D0} {f : List Nat} (h : Owns w B vs ds f) (he : Chg [r] w w') (hr : r < B) : Owns w' B vs ds f :=
  h.chg he fun k hk hm => by
    have := (h.lt k hk).1
    simp at hm; omega
theorem Own0.mono {w : World} {B B' : Nat} {v : Value} {d : D0} {f : List Nat} (h : Own0 w B v d f) (hb : B' ≤ B) : Own0 w B' v d f := by
  cases d <;> simp only [Own0] at h ⊢ <;> try exact h
  obtain ⟨p, n, c, hv, ho, hf⟩ := h
  exact ⟨p, n, c, hv, ho.mono hb, hf⟩
theorem Owns.mono {w : World} {B B' : Nat} (hb : B' ≤ B) : ∀ {vs : List Value} {ds : List D0} {f : List Nat}, Owns w B vs ds f → Owns w B' vs ds f
  | [], [], _, h => h
  | [], _ :: _, _, h => h.elim
  | _ :: _, [], _, h => h.elim
  | _ :: _, _ :: _, _, h => by
    obtain ⟨f1, f2, rfl, h1, h2⟩ := h
    exact ⟨f1, f2, rfl, h1.mono hb, Owns.mono hb h2⟩
theorem Owns.append {w : World} {B : Nat} : ∀ {vs us : List Value} {ds es : List D0} {f g : List Nat}, Owns w B vs ds f → Owns w B us es g → Owns w B (vs ++ us) (ds ++ es) (f ++ g)
  | [], _, [], _, f, g, h, k => by rw [show f = [] from h]; exact k
  | [], _, _ :: _, _, _, _, h, _ => h.elim
  | _ :: _, _, [], _, _, _, h, _ => h.elim
  | _ :: _, _, _ :: _, _, _, g, h, k => by
    obtain ⟨f1, f2, rfl, h1, h2⟩ := h
    exact ⟨f1, f2 ++ g, by simp, h1, Owns.append h2 k⟩
theorem Owns.nil (w : World) (B : Nat) : Owns w B [] [] [] := rfl
theorem Owns.bool (w : World) (B : Nat) (b : Bool) : Owns w B [.bool b] [.bool b] [] := ⟨[], [], rfl, ⟨rfl, rfl⟩, rfl⟩
theorem Owns.int (w : World) (B : Nat) (n : Int) : Owns w B [.int .i64 n] [.int n] [] := ⟨[], [], rfl, ⟨rfl, rfl⟩, rfl⟩
theorem Owns.str (w : World) (B : Nat) (s : ByteArray) : Owns w B [.string s] [.str s] [] := ⟨[], [], rfl, ⟨rfl, rfl⟩, rfl⟩
theorem Owns.ints {w : World} {B : Nat} {p : Option Addr} {n c : Nat} {zs : List Int} (h : Own w B T_int 1 p n c (zs.map (Value.int .i64))) : Owns w B [.slice p n c] [.ints zs] (p.map (·.block)).toList :=
  ⟨_, [], by simp, ⟨p, n, c, rfl, h, rfl⟩, rfl⟩
/-- what is older ahead of what is newer: no block twice -/
theorem nodup_append {f g : List Nat} {m : Nat} (hf : f.Nodup) (hg : g.Nodup) (h1 : ∀ k ∈ f, k < m) (h2 : ∀ k ∈ g, m ≤ k) : (f ++ g).Nodup := by
  rw [List.nodup_append]
  exact ⟨hf, hg, fun a ha b hb e => by have := h1 a ha; have := h2 b hb; omega⟩
/-- a load at an address in whatever form -/
theorem Blk.loadAt {P : Program} {w : World} {t : TypeId} {b : Nat} {e : TypeId} {cs : List Value} {v : Value} {a : Addr} (k : Nat) (h : Blk w b e cs) (ha : a = ⟨b, k, none⟩) (ht : cellT P t = true) (hx : cs[k]? = some v) : Loads P t a v w := by
  subst ha; exact h.load0 ht hx
theorem Blk.loadAAt {P : Program} {w : World} {t : TypeId} {b : Nat} {e : TypeId} {cs : List Value} {a : Addr} (k : Nat) (xs : List Value) (h : Blk w b e cs) (ha : a = ⟨b, k, none⟩) (ht : aggT P t xs.length = true) (hx : (cs.drop k).take xs.length = xs) : Loads P t a (.agg ⟨xs⟩) w := by
  subst ha
  have := h.loadA (P := P) (k := k) ht hx
  rwa [addr_add, Nat.zero_add] at this
theorem Seg.loadAt {P : Program} {w : World} {t : TypeId} {b o : Nat} {cs : List Value} {v : Value} {a : Addr} (k : Nat) (h : Seg w b o cs) (ha : a = ⟨b, o + k, none⟩) (ht : cellT P t = true) (hx : cs[k]? = some v) : Loads P t a v w := by
  subst ha; exact loads1 ht (h _ _ hx)
theorem Seg.loadAAt {P : Program} {w : World} {t : TypeId} {b o : Nat} {cs : List Value} {a : Addr} (k : Nat) (xs : List Value) (h : Seg w b o cs) (ha : a = ⟨b, o + k, none⟩) (ht : aggT P t xs.length = true) (hx : (cs.drop k).take xs.length = xs) : Loads P t a (.agg ⟨xs⟩) w := by
  subst ha
  have := h.loadA (P := P) (k := k) ht hx
  rwa [addr_add] at this
/-- a new variable, filled at once -/
theorem New.fill {P : Program} {w w1 : World} {zs : List Value} {e : TypeId} {r : Nat} (hn : New w (.cells ⟨zs⟩ e (0, 0)) r w1) {t : TypeId} {xs : List Value} (hv : ∀ v ∈ xs, v.oneCell' = true) (ht : aggT P t xs.length = true) (hl : xs.length = zs.length) :
    ∃ w2, Stores P t ⟨r, 0, none⟩ (.agg ⟨xs⟩) w1 w2 ∧ Blk w2 r e xs ∧ Ext w w2 := by
  obtain ⟨w2, st, hb, ch, sz⟩ := hn.blk.storeA0 (P := P) (t := t) ht hl hv
  exact ⟨w2, st, hb, hn.ext.chg ch (by have := hn.r_eq; simp; omega)⟩
def AllO (w : World) (B k : Nat) : List (List Value) → List (List D0) → List (List Nat) → Prop
  | [], [], [] => True
  | cs :: css, x :: l, f :: fs => cs.length = k ∧ Owns w B cs x f ∧ AllO w B k css l fs
  | _, _, _ => False
theorem AllO.ext {w w' : World} {B k : Nat} : ∀ {css : List (List Value)} {l : List (List D0)} {fs : List (List Nat)}, AllO w B k css l fs → Ext w w' → AllO w' B k css l fs
  | [], [], [], _, _ => trivial
  | _ :: _, _ :: _, _ :: _, h, he => ⟨h.1, h.2.1.ext he, AllO.ext h.2.2 he⟩
  | [], [], _ :: _, h, _ => h.elim
  | [], _ :: _, _, h, _ => h.elim
  | _ :: _, [], _, h, _ => h.elim
  | _ :: _, _ :: _, [], h, _ => h.elim
theorem AllO.chg {S : List Nat} {w w' : World} {B k : Nat} : ∀ {css : List (List Value)} {l : List (List D0)} {fs : List (List Nat)}, AllO w B k css l fs → Chg S w w' → (∀ x ∈ fs.flatten, x ∉ S) → AllO w' B k css l fs
  | [], [], [], _, _, _ => trivial
  | _ :: _, _ :: _, _ :: _, h, he, hS => ⟨h.1, h.2.1.chg he (fun x hx => hS x (by simp [hx])), AllO.chg h.2.2 he (fun x hx => hS x (by rw [List.flatten_cons]; exact List.mem_append_right _ hx))⟩
  | [], [], _ :: _, h, _, _ => h.elim
  | [], _ :: _, _, h, _, _ => h.elim
  | _ :: _, [], _, h, _, _ => h.elim
  | _ :: _, _ :: _, [], h, _, _ => h.elim
theorem AllO.mono {w : World} {B B' k : Nat} (hb : B' ≤ B) : ∀ {css : List (List Value)} {l : List (List D0)} {fs : List (List Nat)}, AllO w B k css l fs → AllO w B' k css l fs
  | [], [], [], _ => trivial
  | _ :: _, _ :: _, _ :: _, h => ⟨h.1, h.2.1.mono hb, AllO.mono hb h.2.2⟩
  | [], [], _ :: _, h => h.elim
  | [], _ :: _, _, h => h.elim
  | _ :: _, [], _, h => h.elim
  | _ :: _, _ :: _, [], h => h.elim
theorem AllO.lt {w : World} {B k : Nat} : ∀ {css : List (List Value)} {l : List (List D0)} {fs : List (List Nat)}, AllO w B k css l fs → ∀ x ∈ fs.flatten, B ≤ x ∧ x < w.heap.size
  | [], [], [], _, x, hx => by simp at hx
  | _ :: _, _ :: _, _ :: _, h, x, hx => by
    rw [List.flatten_cons, List.mem_append] at hx
    rcases hx with hx | hx
    · exact h.2.1.lt x hx
    · exact AllO.lt h.2.2 x hx
  | [], [], _ :: _, h, _, _ => h.elim
  | [], _ :: _, _, h, _, _ => h.elim
  | _ :: _, [], _, h, _, _ => h.elim
  | _ :: _, _ :: _, [], h, _, _ => h.elim
theorem AllO.snoc {w : World} {B k : Nat} {cs : List Value} {x : List D0} {f : List Nat} (hk : cs.length = k) (ho : Owns w B cs x f) : ∀ {css : List (List Value)} {l : List (List D0)} {fs : List (List Nat)}, AllO w B k css l fs → AllO w B k (css ++ [cs]) (l ++ [x]) (fs ++ [f])
  | [], [], [], _ => ⟨hk, ho, trivial⟩
  | _ :: _, _ :: _, _ :: _, h => ⟨h.1, h.2.1, AllO.snoc hk ho h.2.2⟩
  | [], [], _ :: _, h => h.elim
  | [], _ :: _, _, h => h.elim
  | _ :: _, [], _, h => h.elim
  | _ :: _, _ :: _, [], h => h.elim
theorem AllO.len {w : World} {B k : Nat} : ∀ {css : List (List Value)} {l : List (List D0)} {fs : List (List Nat)}, AllO w B k css l fs → css.length = l.length ∧ css.flatten.length = l.length * k
  | [], [], [], _ => ⟨rfl, by simp⟩
  | cs :: css, x :: l, _ :: _, h => by
    have := AllO.len h.2.2
    refine ⟨by simp [this.1], ?_⟩
    rw [List.flatten_cons, List.length_append, this.2, h.1, List.length_cons, Nat.succ_mul, Nat.add_comm]
  | [], [], _ :: _, h => h.elim
  | [], _ :: _, _, h => h.elim
  | _ :: _, [], _, h => h.elim
  | _ :: _, _ :: _, [], h => h.elim
theorem AllO.cells1 {w : World} {B k : Nat} : ∀ {css : List (List Value)} {l : List (List D0)} {fs : List (List Nat)}, AllO w B k css l fs → ∀ v ∈ css.flatten, v.oneCell' = true
  | [], [], [], _, v, hv => by simp at hv
  | _ :: _, _ :: _, _ :: _, h, v, hv => by
    rw [List.flatten_cons, List.mem_append] at hv
    rcases hv with hv | hv
    · exact h.2.1.reps.cells1 v hv
    · exact AllO.cells1 h.2.2 v hv
  | [], [], _ :: _, h, _, _ => h.elim
  | [], _ :: _, _, h, _, _ => h.elim
  | _ :: _, [], _, h, _, _ => h.elim
  | _ :: _, _ :: _, [], h, _, _ => h.elim
theorem AllO.at {w : World} {B k : Nat} : ∀ {css : List (List Value)} {l : List (List D0)} {fs : List (List Nat)}, AllO w B k css l fs → ∀ i x, l[i]? = some x → ∃ cs, cs.length = k ∧ Reps w cs x ∧ (css.flatten.drop (i * k)).take k = cs
  | [], [], [], _, i, x, hx => by simp at hx
  | cs :: css, y :: l, _ :: _, h, i, x, hx => by
    cases i with
    | zero =>
      simp only [List.getElem?_cons_zero, Option.some.injEq] at hx
      subst hx
      refine ⟨cs, h.1, h.2.1.reps, ?_⟩
      rw [Nat.zero_mul, List.drop_zero, List.flatten_cons, ← h.1, List.take_left]
    | succ i =>
      simp only [List.getElem?_cons_succ] at hx
      obtain ⟨c, h1, h2, h3⟩ := AllO.at h.2.2 i x hx
      refine ⟨c, h1, h2, ?_⟩
      rw [List.flatten_cons, Nat.succ_mul, Nat.add_comm, ← List.drop_drop, ← h.1, List.drop_left, h.1]
      exact h3
  | [], [], _ :: _, h, _, _, _ => h.elim
  | [], _ :: _, _, h, _, _, _ => h.elim
  | _ :: _, [], _, h, _, _, _ => h.elim
  | _ :: _, _ :: _, [], h, _, _, _ => h.elim
/-- a slice of structs that is one's own, and the blocks that it takes -/
def OwnRows (w : World) (B : Nat) (e : TypeId) (k : Nat) (p : Option Addr) (n c : Nat) (l : List (List D0)) (f : List Nat) : Prop :=
  l.length = n ∧ ∃ css fs, AllO w B k css l fs ∧ Own w B e k p n c css.flatten ∧ f = (p.map (·.block)).toList ++ fs.flatten ∧ f.Nodup
theorem OwnRows.rows {w : World} {B : Nat} {e : TypeId} {k : Nat} {p : Option Addr} {n c : Nat} {l : List (List D0)} {f : List Nat} (h : OwnRows w B e k p n c l f) : RowsR w k p n c l := by
  obtain ⟨hl, css, fs, ha, ho, _, _⟩ := h
  refine ⟨hl, ho.le, ho.capLe, fun hn => ?_⟩
  obtain ⟨b, hp, _, hs⟩ := ho.seg hn
  refine ⟨b, 0, hp, fun i x hx => ?_⟩
  obtain ⟨cs, h1, h2, h3⟩ := ha.at i x hx
  exact ⟨cs, h1, h2, by rw [← h3]; exact (hs.drop (i * k)).take k⟩
theorem OwnRows.lt {w : World} {B : Nat} {e : TypeId} {k : Nat} {p : Option Addr} {n c : Nat} {l : List (List D0)} {f : List Nat} (h : OwnRows w B e k p n c l f) : ∀ x ∈ f, B ≤ x ∧ x < w.heap.size := by
  obtain ⟨hl, css, fs, ha, ho, rfl, _⟩ := h
  intro x hx
  rcases List.mem_append.1 hx with hx | hx
  · exact World.ownsRow.lt ho x (by cases p <;> simp_all [Value.ownBlock])
  · exact ha.lt x hx
theorem OwnRows.ext {w w' : World} {B : Nat} {e : TypeId} {k : Nat} {p : Option Addr} {n c : Nat} {l : List (List D0)} {f : List Nat} (h : OwnRows w B e k p n c l f) (he : Ext w w') : OwnRows w' B e k p n c l f := by
  obtain ⟨hl, css, fs, ha, ho, hf, hn⟩ := h
  exact ⟨hl, css, fs, ha.ext he, ho.ext he, hf, hn⟩
theorem OwnRows.mono {w : World} {B B' : Nat} {e : TypeId} {k : Nat} {p : Option Addr} {n c : Nat} {l : List (List D0)} {f : List Nat} (h : OwnRows w B e k p n c l f) (hb : B' ≤ B) : OwnRows w B' e k p n c l f := by
  obtain ⟨hl, css, fs, ha, ho, hf, hn⟩ := h
  exact ⟨hl, css, fs, ha.mono hb, ho.mono hb, hf, hn⟩
theorem OwnRows.chg {S : List Nat} {w w' : World} {B : Nat} {e : TypeId} {k : Nat} {p : Option Addr} {n c : Nat} {l : List (List D0)} {f : List Nat} (h : OwnRows w B e k p n c l f) (he : Chg S w w') (hS : ∀ x ∈ f, x ∉ S) : OwnRows w' B e k p n c l f := by
  obtain ⟨hl, css, fs, ha, ho, rfl, hn⟩ := h
  exact ⟨hl, css, fs, ha.chg he (fun x hx => hS x (List.mem_append_right _ hx)), ho.chg he (fun x hx => hS x (List.mem_append_left _ (by rw [hx]; simp))), rfl, hn⟩
/-- the row of a slice of structs while it is filled -/
theorem fill_row {xs cs : List Value} {css : List (List Value)} {j k n : Nat} (hl : xs.length = n * k) (ht : xs.take (j * k) = css.flatten) (hk : cs.length = k) (hj : j < n) :
    j * k + cs.length ≤ xs.length ∧ (xs.take (j * k) ++ cs ++ xs.drop (j * k + cs.length)).length = n * k ∧ (xs.take (j * k) ++ cs ++ xs.drop (j * k + cs.length)).take ((j + 1) * k) = (css ++ [cs]).flatten := by
  have h1 : (j + 1) * k ≤ n * k := Nat.mul_le_mul_right _ (by omega)
  have h2 : (j + 1) * k = j * k + k := Nat.succ_mul j k
  refine ⟨by omega, by simp; omega, ?_⟩
  have h3 : (xs.take (j * k) ++ cs).length = (j + 1) * k := by simp; omega
  rw [List.take_left' h3, ht]
  simp
theorem dec_no {p : Prop} [Decidable p] (h : ¬ p) : Value.bool false = Value.bool (decide p) := by simp [h]
theorem dec_yes {p : Prop} [Decidable p] (h : p) : Value.bool true = Value.bool (decide p) := by simp [h]
end Go.Proofs.Ytfemmmbkhhemaaa.Sx

namespace Go.Proofs.Ytfemmmbkhhemaaa
open Go Go.Proofs.Ytfemmmbkhhemaaa.Sx
set_option linter.unusedVariables false
set_option linter.unusedSimpArgs false
theorem take_set {α : Type} (l : List α) (d v : α) (k : Nat) (hk : k < l.length) (n : Nat) (hn : 0 < n) (h : l[k]? = some v) :
    (l.take k ++ List.replicate n d).set k v = l.take (k + 1) ++ List.replicate (n - 1) d := by
  have hlen : (l.take k).length = k := by simp; omega
  rw [List.set_append_right _ _ (by omega), hlen, Nat.sub_self]
  obtain ⟨m, rfl⟩ : ∃ m, n = m + 1 := ⟨n - 1, by omega⟩
  rw [List.replicate_succ, List.set_cons_zero, List.take_add_one, h]
  simp
theorem laws_toIntS_c {w : World} {p : Option Addr} {n c : Nat} {zs : List Int} (h : IntsR w p n c zs) (hn : n ≤ 1048576) :
    Ret P n_laws_toIntS [.slice p n c] w fun v w' => ∃ r, v = .slice (some ⟨r, 0, none⟩) n n ∧ Own w' w.heap.size T_int 1 (some ⟨r, 0, none⟩) n n (zs.map (Value.int .i64)) ∧ Ext w w' := by
  refine laws_toIntS_ret ?_
  unfold laws_toIntS
  refine ⟨⟨by omega, by omega, by omega⟩, fun r w1 hnew => ?_⟩
  have hlen := h.1
  refine ⟨fun i wr => ∃ k : Nat, i = k ∧ k ≤ n ∧ Ext w wr ∧ Blk wr r T_int ((zs.map (Value.int .i64)).take k ++ List.replicate (n - k) (Value.int .i64 0)), fun i _ => n - i.toNat, ⟨0, rfl, by omega, hnew.ext, ?_⟩, ?_⟩
  · have := hnew.blk
    rw [zeroRow_int, Nat.mul_one] at this
    simpa using this
  · intro junk wr i ⟨k, hik, hk, hx, hb⟩
    subst hik
    refine ifD (fun hlt => ?_) (fun hge => ?_)
    · have hlt' : k < n := by omega
      obtain ⟨a, rfl, hl⟩ := (h.ext hx).at (P := P) (t := T_int) (by kernel_rfl) hlt'
      have hl2 : ((zs.map (Value.int .i64)).take k ++ List.replicate (n - k) (Value.int .i64 0)).length = n := by simp; omega
      obtain ⟨w2, hst, hb2, hc, hs⟩ := hb.store (P := P) (t := T_int) (k := k) (v := .int .i64 (zs[k]'(by omega))) (by kernel_rfl) (by omega) rfl
      refine ⟨⟨by omega, by omega⟩, zs[k]'(by omega), by simpa using hl, ⟨by omega, by omega⟩, w2, by simpa using hst, exW ⟨by omega, by omega⟩ ⟨⟨k + 1, by omega, by omega, hx.chg hc (by simp; have := hnew.r_eq; omega), ?_⟩, by simp; omega⟩⟩
      rw [take_set _ _ _ _ (by simp; omega) _ (by omega) (by simp [show k < zs.length by omega])] at hb2
      rwa [show n - (k + 1) = n - k - 1 by omega]
    · have hkn : k = n := by omega
      subst hkn
      refine ⟨r, rfl, ?_, hx⟩
      rw [Nat.sub_self, List.replicate_zero, List.append_nil, List.take_of_length_le (by simp; omega)] at hb
      exact Own.of_blk hb (by have := hnew.r_eq; omega) (by simp; omega) (by simp only [maxLen]; omega)
theorem laws_szIntS_c {w : World} {p : Option Addr} {n c : Nat} {left : Int} (h0 : 0 ≤ left) (h1 : left ≤ 1048576) (hn : n ≤ 9223372036854775807) :
    Ret P n_laws_szIntS [.slice p n c, .int .i64 left] w fun v w' => ∃ r : Int, v = .int .i64 r ∧ (0 ≤ r → r + n ≤ left) ∧ r ≤ 1048576 ∧ Ext w w' := by
  refine laws_szIntS_ret ?_
  unfold laws_szIntS
  refine exW ⟨by omega, by omega⟩ (ifD (fun h => ⟨_, rfl, by omega, by omega, Ext.refl _⟩) (fun h => ⟨_, rfl, by omega, by omega, Ext.refl _⟩))
theorem laws_eqIntS_c {w : World} {p q : Option Addr} {n c m d : Nat} {zs ys : List Int} (h : IntsR w p n c zs) (k : IntsR w q m d ys) :
    Ret P n_laws_eqIntS [.slice p n c, .slice q m d] w fun v w' => v = .bool (decide (zs = ys)) ∧ Ext w w' := by
  refine laws_eqIntS_ret ?_
  unfold laws_eqIntS
  have hn : n ≤ 9223372036854775807 := Nat.le_trans h.2.1 h.2.2.1
  have hz := h.1
  have hy := k.1
  refine ifD (fun hne => ⟨?_, Ext.refl _⟩) (fun heq => ?_)
  · have : zs ≠ ys := fun e => hne (by rw [← hz, ← hy, e])
    simp [this]
  · have hnm : n = m := by omega
    refine ⟨fun i wr => ∃ j : Nat, i = j ∧ j ≤ n ∧ Ext w wr ∧ zs.take j = ys.take j, fun i _ => n - i.toNat, ⟨0, rfl, by omega, Ext.refl _, by simp⟩, ?_⟩
    intro junk wr i ⟨j, hij, hj, hx, he⟩
    subst hij
    refine ifD (fun hlt => ?_) (fun hge => ⟨?_, hx⟩)
    · have hjn : j < n := by omega
      have hx' := hx.trans (Ext.drew wr)
      obtain ⟨a, hpa, _⟩ := (h.ext hx').at (P := P) (t := T_int) (by kernel_rfl) hjn
      obtain ⟨b, hqb, _⟩ := (k.ext hx').at (P := P) (t := T_int) (by kernel_rfl) (show j < m by omega)
      subst hpa
      subst hqb
      have l1 : ∀ w', Ext wr.drew w' → Loads P T_int (a.add ((j : Int).toNat * 1)) (.int .i64 (zs[j]'(by omega))) w' := fun w' hw => by
        obtain ⟨a', ha, hl⟩ := ((h.ext hx').ext hw).at (P := P) (t := T_int) (by kernel_rfl) hjn
        cases ha
        simpa using hl
      have l2 : ∀ w', Ext wr.drew w' → Loads P T_int (b.add ((j : Int).toNat * 1)) (.int .i64 (ys[j]'(by omega))) w' := fun w' hw => by
        obtain ⟨a', ha, hl⟩ := ((k.ext hx').ext hw).at (P := P) (t := T_int) (by kernel_rfl) (show j < m by omega)
        cases ha
        simpa using hl
      refine ⟨⟨by omega, by omega⟩, _, l1, ⟨by omega, by omega⟩, _, l2, ifD (fun hne => ⟨?_, hx'⟩) (fun heq2 => ?_)⟩
      · have : zs ≠ ys := fun e => hne (by subst e; rfl)
        simp [this]
      · refine exW ⟨by omega, by omega⟩ ⟨⟨j + 1, by omega, by omega, hx', ?_⟩, by simp; omega⟩
        have e2 : zs[j]'(by omega) = ys[j]'(by omega) := by simpa using heq2
        rw [List.take_add_one, List.take_add_one, he, List.getElem?_eq_getElem (by omega), List.getElem?_eq_getElem (by omega), e2]
    · have hjn : j = n := by omega
      subst hjn
      rw [List.take_of_length_le (by omega), List.take_of_length_le (by omega)] at he
      simp [he]
end Go.Proofs.Ytfemmmbkhhemaaa
