/-
  The frame-free forms of some Go functions, printed by a program of mine; each with the theorem that it is sound.
-/
import Derived.Test.YtoacnglkliioaaaP
namespace Go.Proofs.Ytoacnglkliioaaa
open Go Go.Proofs.Ytoacnglkliioaaa.Sx
set_option linter.unusedVariables false
set_option maxRecDepth 100000

def laws_FnExactRestsSame (aL_p : Option Addr) (aL_n : Nat) (aL_c : Nat) (aO_p : Option Addr) (aO_n : Nat) (aO_c : Nat) (w : World) (R : Value → World → Prop) : Prop :=
  Calls P 11 ⟨[(.slice aL_p aL_n aL_c), (.int .i64 1048576)]⟩ w fun e wv =>
  ∃ (t12 : Int), e = .returned (.int .i64 t12) ∧
  ((decide ((t12 : Int) < 0)) = true →
    R (.bool true) wv) ∧
  ((decide ((t12 : Int) < 0)) = false →
    Calls P 11 ⟨[(.slice aO_p aO_n aO_c), (.int .i64 t12)]⟩ wv fun e_1 wv_1 =>
    ∃ (t17 : Int), e_1 = .returned (.int .i64 t17) ∧
    ((decide ((t17 : Int) < 0)) = true →
      R (.bool true) wv_1) ∧
    ((decide ((t17 : Int) < 0)) = false →
      Calls P 13 ⟨[(.slice aL_p aL_n aL_c)]⟩ wv_1 fun e_2 wv_2 =>
      ∃ (t21_p : Option Addr) (t21_n : Nat) (t21_c : Nat), e_2 = .returned (.slice t21_p t21_n t21_c) ∧
      Calls P 13 ⟨[(.slice aO_p aO_n aO_c)]⟩ wv_2 fun e_3 wv_3 =>
      ∃ (t23_p : Option Addr) (t23_n : Nat) (t23_c : Nat), e_3 = .returned (.slice t23_p t23_n t23_c) ∧
      Calls P 12 ⟨[(.slice t21_p t21_n t21_c), (.slice t23_p t23_n t23_c)]⟩ wv_3 fun e_4 wv_4 =>
      ∃ (t24 : Bool), e_4 = .returned (.bool t24) ∧
      Calls P 13 ⟨[(.slice aL_p aL_n aL_c)]⟩ wv_4 fun e_5 wv_5 =>
      ∃ (t26_p : Option Addr) (t26_n : Nat) (t26_c : Nat), e_5 = .returned (.slice t26_p t26_n t26_c) ∧
      Calls P 13 ⟨[(.slice aO_p aO_n aO_c)]⟩ wv_5 fun e_6 wv_6 =>
      ∃ (t28_p : Option Addr) (t28_n : Nat) (t28_c : Nat), e_6 = .returned (.slice t28_p t28_n t28_c) ∧
      Calls P 14 ⟨[(.slice t26_p t26_n t26_c), (.slice t28_p t28_n t28_c)]⟩ wv_6 fun e_7 wv_7 =>
      ∃ (t31 : Bool), e_7 = .returned (.bool t31) ∧
      ((!(t31 == t24)) = true →
        R (.bool false) wv_7) ∧
      ((!(t31 == t24)) = false →
        Calls P 13 ⟨[(.slice aL_p aL_n aL_c)]⟩ wv_7 fun e_8 wv_8 =>
        ∃ (t37_p : Option Addr) (t37_n : Nat) (t37_c : Nat), e_8 = .returned (.slice t37_p t37_n t37_c) ∧
        Calls P 15 ⟨[(.slice t26_p t26_n t26_c), (.slice t37_p t37_n t37_c)]⟩ wv_8 fun e_9 wv_9 =>
        ∃ (t38 : Bool), e_9 = .returned (.bool t38) ∧
        ((!t38) = true →
          R (.bool false) wv_9) ∧
        ((!t38) = false →
          Calls P 13 ⟨[(.slice aO_p aO_n aO_c)]⟩ wv_9 fun e_10 wv_10 =>
          ∃ (t42_p : Option Addr) (t42_n : Nat) (t42_c : Nat), e_10 = .returned (.slice t42_p t42_n t42_c) ∧
          Calls P 15 ⟨[(.slice t28_p t28_n t28_c), (.slice t42_p t42_n t42_c)]⟩ wv_10 fun e_11 wv_11 =>
          ∃ (t43 : Bool), e_11 = .returned (.bool t43) ∧
          ((!t43) = true →
            R (.bool false) wv_11) ∧
          ((!t43) = false →
            R (.bool true) wv_11)))))
theorem laws_FnExactRestsSame_eq (aL_p : Option Addr) (aL_n : Nat) (aL_c : Nat) (aO_p : Option Addr) (aO_n : Nat) (aO_c : Nat) (w : World) (R : Value → World → Prop) : laws_FnExactRestsSame aL_p aL_n aL_c aO_p aO_n aO_c w R = fsem P Try.f3 (fun k => []) [(.slice aL_p aL_n aL_c), (.slice aO_p aO_n aO_c)] R w := by kernel_rfl
theorem laws_FnExactRestsSame_ret {aL_p : Option Addr} {aL_n : Nat} {aL_c : Nat} {aO_p : Option Addr} {aO_n : Nat} {aO_c : Nat} {w : World} {R : Value → World → Prop} (h : laws_FnExactRestsSame aL_p aL_n aL_c aO_p aO_n aO_c w R) : Ret P 3 [(.slice aL_p aL_n aL_c), (.slice aO_p aO_n aO_c)] w R :=
  Ret.of_fsem Try.func3 rfl (Eq.mp (laws_FnExactRestsSame_eq aL_p aL_n aL_c aO_p aO_n aO_c w R) h)

def laws_FnExactPlanDone (aL_p : Option Addr) (aL_n : Nat) (aL_c : Nat) (w : World) (R : Value → World → Prop) : Prop :=
  Calls P 16 ⟨[(.slice aL_p aL_n aL_c), (.int .i64 1048576)]⟩ w fun e wv =>
  ∃ (t9 : Int), e = .returned (.int .i64 t9) ∧
  ((decide ((t9 : Int) < 0)) = true →
    R (.bool true) wv) ∧
  ((decide ((t9 : Int) < 0)) = false →
    Calls P 18 ⟨[(.slice aL_p aL_n aL_c)]⟩ wv fun e_1 wv_1 =>
    ∃ (t13_p : Option Addr) (t13_n : Nat) (t13_c : Nat), e_1 = .returned (.slice t13_p t13_n t13_c) ∧
    Calls P 17 ⟨[(.slice t13_p t13_n t13_c)]⟩ wv_1 fun e_2 wv_2 =>
    ∃ (t14 : Bool), e_2 = .returned (.bool t14) ∧
    Calls P 18 ⟨[(.slice aL_p aL_n aL_c)]⟩ wv_2 fun e_3 wv_3 =>
    ∃ (t16_p : Option Addr) (t16_n : Nat) (t16_c : Nat), e_3 = .returned (.slice t16_p t16_n t16_c) ∧
    Calls P 19 ⟨[(.slice t16_p t16_n t16_c)]⟩ wv_3 fun e_4 wv_4 =>
    ∃ (t18 : Bool), e_4 = .returned (.bool t18) ∧
    ((!(t18 == t14)) = true →
      R (.bool false) wv_4) ∧
    ((!(t18 == t14)) = false →
      Calls P 18 ⟨[(.slice aL_p aL_n aL_c)]⟩ wv_4 fun e_5 wv_5 =>
      ∃ (t24_p : Option Addr) (t24_n : Nat) (t24_c : Nat), e_5 = .returned (.slice t24_p t24_n t24_c) ∧
      Calls P 20 ⟨[(.slice t16_p t16_n t16_c), (.slice t24_p t24_n t24_c)]⟩ wv_5 fun e_6 wv_6 =>
      ∃ (t25 : Bool), e_6 = .returned (.bool t25) ∧
      ((!t25) = true →
        R (.bool false) wv_6) ∧
      ((!t25) = false →
        R (.bool true) wv_6)))
theorem laws_FnExactPlanDone_eq (aL_p : Option Addr) (aL_n : Nat) (aL_c : Nat) (w : World) (R : Value → World → Prop) : laws_FnExactPlanDone aL_p aL_n aL_c w R = fsem P Try.f4 (fun k => []) [(.slice aL_p aL_n aL_c)] R w := by kernel_rfl
theorem laws_FnExactPlanDone_ret {aL_p : Option Addr} {aL_n : Nat} {aL_c : Nat} {w : World} {R : Value → World → Prop} (h : laws_FnExactPlanDone aL_p aL_n aL_c w R) : Ret P 4 [(.slice aL_p aL_n aL_c)] w R :=
  Ret.of_fsem Try.func4 rfl (Eq.mp (laws_FnExactPlanDone_eq aL_p aL_n aL_c w R) h)

def laws_FnExactBookSame (aB0_p : Option Addr) (aB0_n : Nat) (aB0_c : Nat) (aO0_p : Option Addr) (aO0_n : Nat) (aO0_c : Nat) (w : World) (R : Value → World → Prop) : Prop :=
  ∀ (r : Nat) (wv : World), New w (.cells ⟨[(.slice aB0_p aB0_n aB0_c)]⟩ 37 (0, 0)) r wv →
  ∀ (r_1 : Nat) (wv_1 : World), New wv (.cells ⟨[(.slice aO0_p aO0_n aO0_c)]⟩ 37 (0, 0)) r_1 wv_1 →
  ∃ (t100_p : Option Addr) (t100_n : Nat) (t100_c : Nat), Loads P 37 ⟨r, 0, none⟩ (.agg #[(.slice t100_p t100_n t100_c)]) wv_1 ∧ Calls P 21 ⟨[(.agg #[(.slice t100_p t100_n t100_c)]), (.int .i64 1048576)]⟩ wv_1 fun e wv_2 =>
  ∃ (t12 : Int), e = .returned (.int .i64 t12) ∧
  ((decide ((t12 : Int) < 0)) = true →
    R (.bool true) wv_2) ∧
  ((decide ((t12 : Int) < 0)) = false →
    ∃ (t150_p : Option Addr) (t150_n : Nat) (t150_c : Nat), Loads P 37 ⟨r_1, 0, none⟩ (.agg #[(.slice t150_p t150_n t150_c)]) wv_2 ∧ Calls P 21 ⟨[(.agg #[(.slice t150_p t150_n t150_c)]), (.int .i64 t12)]⟩ wv_2 fun e_1 wv_3 =>
    ∃ (t17 : Int), e_1 = .returned (.int .i64 t17) ∧
    ((decide ((t17 : Int) < 0)) = true →
      R (.bool true) wv_3) ∧
    ((decide ((t17 : Int) < 0)) = false →
      ∃ (t200_p : Option Addr) (t200_n : Nat) (t200_c : Nat), (∀ wv_4, Ext wv_3.drew wv_4 → Loads P 37 ⟨r, 0, none⟩ (.agg #[(.slice t200_p t200_n t200_c)]) wv_4) ∧ Calls P 23 ⟨[(.agg #[(.slice t200_p t200_n t200_c)])]⟩ wv_3.drew fun e_2 wv_5 =>
      ∃ (t210_p : Option Addr) (t210_n : Nat) (t210_c : Nat), e_2 = .returned (.agg #[(.slice t210_p t210_n t210_c)]) ∧
      Ext wv_3.drew wv_5 ∧ ∃ (t220_p : Option Addr) (t220_n : Nat) (t220_c : Nat), (∀ wv_6, Ext wv_3.drew wv_6 → Loads P 37 ⟨r_1, 0, none⟩ (.agg #[(.slice t220_p t220_n t220_c)]) wv_6) ∧ Calls P 23 ⟨[(.agg #[(.slice t220_p t220_n t220_c)])]⟩ wv_5 fun e_3 wv_7 =>
      ∃ (t230_p : Option Addr) (t230_n : Nat) (t230_c : Nat), e_3 = .returned (.agg #[(.slice t230_p t230_n t230_c)]) ∧
      Calls P 22 ⟨[(.agg #[(.slice t210_p t210_n t210_c)]), (.agg #[(.slice t230_p t230_n t230_c)])]⟩ wv_7 fun e_4 wv_8 =>
      ∃ (t24 : Bool), e_4 = .returned (.bool t24) ∧
      ∃ (t250_p : Option Addr) (t250_n : Nat) (t250_c : Nat), Loads P 37 ⟨r, 0, none⟩ (.agg #[(.slice t250_p t250_n t250_c)]) wv_8 ∧ Calls P 23 ⟨[(.agg #[(.slice t250_p t250_n t250_c)])]⟩ wv_8 fun e_5 wv_9 =>
      ∃ (t260_p : Option Addr) (t260_n : Nat) (t260_c : Nat), e_5 = .returned (.agg #[(.slice t260_p t260_n t260_c)]) ∧
      ∀ (r_2 : Nat) (wv_10 : World), New wv_9 (.cells ⟨[(.slice none 0 0)]⟩ 42 (0, 0)) r_2 wv_10 →
      ∃ wv_11, Stores P 42 ⟨r_2, 0, none⟩ (.agg #[(.slice t260_p t260_n t260_c)]) wv_10 wv_11 ∧
      ∃ (t270_p : Option Addr) (t270_n : Nat) (t270_c : Nat), Loads P 37 ⟨r_1, 0, none⟩ (.agg #[(.slice t270_p t270_n t270_c)]) wv_11 ∧ Calls P 23 ⟨[(.agg #[(.slice t270_p t270_n t270_c)])]⟩ wv_11 fun e_6 wv_12 =>
      ∃ (t280_p : Option Addr) (t280_n : Nat) (t280_c : Nat), e_6 = .returned (.agg #[(.slice t280_p t280_n t280_c)]) ∧
      ∀ (r_3 : Nat) (wv_13 : World), New wv_12 (.cells ⟨[(.slice none 0 0)]⟩ 42 (0, 0)) r_3 wv_13 →
      ∃ wv_14, Stores P 42 ⟨r_3, 0, none⟩ (.agg #[(.slice t280_p t280_n t280_c)]) wv_13 wv_14 ∧
      ∃ (t290_p : Option Addr) (t290_n : Nat) (t290_c : Nat), Loads P 42 ⟨r_2, 0, none⟩ (.agg #[(.slice t290_p t290_n t290_c)]) wv_14 ∧ ∃ (t300_p : Option Addr) (t300_n : Nat) (t300_c : Nat), Loads P 42 ⟨r_3, 0, none⟩ (.agg #[(.slice t300_p t300_n t300_c)]) wv_14 ∧ Calls P 24 ⟨[(.agg #[(.slice t290_p t290_n t290_c)]), (.agg #[(.slice t300_p t300_n t300_c)])]⟩ wv_14 fun e_7 wv_15 =>
      ∃ (t31 : Bool), e_7 = .returned (.bool t31) ∧
      ((!(t31 == t24)) = true →
        R (.bool false) wv_15) ∧
      ((!(t31 == t24)) = false →
        ∃ (t350_p : Option Addr) (t350_n : Nat) (t350_c : Nat), (∀ wv_16, Ext wv_15.drew wv_16 → Loads P 42 ⟨r_2, 0, none⟩ (.agg #[(.slice t350_p t350_n t350_c)]) wv_16) ∧ ∃ (t360_p : Option Addr) (t360_n : Nat) (t360_c : Nat), (∀ wv_17, Ext wv_15.drew wv_17 → Loads P 37 ⟨r, 0, none⟩ (.agg #[(.slice t360_p t360_n t360_c)]) wv_17) ∧ Calls P 23 ⟨[(.agg #[(.slice t360_p t360_n t360_c)])]⟩ wv_15.drew fun e_8 wv_18 =>
        ∃ (t370_p : Option Addr) (t370_n : Nat) (t370_c : Nat), e_8 = .returned (.agg #[(.slice t370_p t370_n t370_c)]) ∧
        Ext wv_15.drew wv_18 ∧ Calls P 25 ⟨[(.agg #[(.slice t350_p t350_n t350_c)]), (.agg #[(.slice t370_p t370_n t370_c)])]⟩ wv_18 fun e_9 wv_19 =>
        ∃ (t38 : Bool), e_9 = .returned (.bool t38) ∧
        ((!t38) = true →
          R (.bool false) wv_19) ∧
        ((!t38) = false →
          ∃ (t400_p : Option Addr) (t400_n : Nat) (t400_c : Nat), (∀ wv_20, Ext wv_19.drew wv_20 → Loads P 42 ⟨r_3, 0, none⟩ (.agg #[(.slice t400_p t400_n t400_c)]) wv_20) ∧ ∃ (t410_p : Option Addr) (t410_n : Nat) (t410_c : Nat), (∀ wv_21, Ext wv_19.drew wv_21 → Loads P 37 ⟨r_1, 0, none⟩ (.agg #[(.slice t410_p t410_n t410_c)]) wv_21) ∧ Calls P 23 ⟨[(.agg #[(.slice t410_p t410_n t410_c)])]⟩ wv_19.drew fun e_10 wv_22 =>
          ∃ (t420_p : Option Addr) (t420_n : Nat) (t420_c : Nat), e_10 = .returned (.agg #[(.slice t420_p t420_n t420_c)]) ∧
          Ext wv_19.drew wv_22 ∧ Calls P 25 ⟨[(.agg #[(.slice t400_p t400_n t400_c)]), (.agg #[(.slice t420_p t420_n t420_c)])]⟩ wv_22 fun e_11 wv_23 =>
          ∃ (t43 : Bool), e_11 = .returned (.bool t43) ∧
          ((!t43) = true →
            R (.bool false) wv_23) ∧
          ((!t43) = false →
            R (.bool true) wv_23)))))
theorem laws_FnExactBookSame_eq (aB0_p : Option Addr) (aB0_n : Nat) (aB0_c : Nat) (aO0_p : Option Addr) (aO0_n : Nat) (aO0_c : Nat) (w : World) (R : Value → World → Prop) : laws_FnExactBookSame aB0_p aB0_n aB0_c aO0_p aO0_n aO0_c w R = fsem P Try.f5 (fun k => []) [(.agg #[(.slice aB0_p aB0_n aB0_c)]), (.agg #[(.slice aO0_p aO0_n aO0_c)])] R w := by kernel_rfl
theorem laws_FnExactBookSame_ret {aB0_p : Option Addr} {aB0_n : Nat} {aB0_c : Nat} {aO0_p : Option Addr} {aO0_n : Nat} {aO0_c : Nat} {w : World} {R : Value → World → Prop} (h : laws_FnExactBookSame aB0_p aB0_n aB0_c aO0_p aO0_n aO0_c w R) : Ret P 5 [(.agg #[(.slice aB0_p aB0_n aB0_c)]), (.agg #[(.slice aO0_p aO0_n aO0_c)])] w R :=
  Ret.of_fsem Try.func5 rfl (Eq.mp (laws_FnExactBookSame_eq aB0_p aB0_n aB0_c aO0_p aO0_n aO0_c w R) h)

def laws_FnExactRestOf_j0 (aL_p : Option Addr) (aL_n : Nat) (aL_c : Nat) (aCur : ByteArray) (r : Nat) (r_1 : Nat) (W : World) (R : Value → World → Prop) : Prop :=
  ∃ (t500 : Bool) (t501_p : Option Addr) (t501_n : Nat) (t501_c : Nat) (t502_p : Option Addr) (t502_n : Nat) (t502_c : Nat), Loads P 49 ⟨r_1, 0, none⟩ (.agg #[(.bool t500), (.slice t501_p t501_n t501_c), (.slice t502_p t502_n t502_c)]) W ∧ Calls P 30 ⟨[(.agg #[(.bool t500), (.slice t501_p t501_n t501_c), (.slice t502_p t502_n t502_c)]), (.int .i64 1)]⟩ W fun e_9 wv_13 =>
  ∃ (t52 : Int), e_9 = .returned (.int .i64 t52) ∧
  ∃ (t530 : Bool) (t531_p : Option Addr) (t531_n : Nat) (t531_c : Nat) (t532_p : Option Addr) (t532_n : Nat) (t532_c : Nat), Loads P 49 ⟨r_1, 0, none⟩ (.agg #[(.bool t530), (.slice t531_p t531_n t531_c), (.slice t532_p t532_n t532_c)]) wv_13 ∧ Calls P 31 ⟨[(.agg #[(.bool t530), (.slice t531_p t531_n t531_c), (.slice t532_p t532_n t532_c)]), (.int .i64 1)]⟩ wv_13 fun e_10 wv_14 =>
  ∃ (t55 : Int), e_10 = .returned (.int .i64 t55) ∧
  ((decide ((t55 : Int) < 0)) = true →
    R (.bool false) wv_14) ∧
  ((decide ((t55 : Int) < 0)) = false →
    ((decide ((t55 : Int) ≠ t52)) = true →
      R (.bool false) wv_14) ∧
    ((decide ((t55 : Int) ≠ t52)) = false →
      Calls P 13 ⟨[(.slice aL_p aL_n aL_c)]⟩ wv_14 fun e_11 wv_15 =>
      ∃ (t62_p : Option Addr) (t62_n : Nat) (t62_c : Nat), e_11 = .returned (.slice t62_p t62_n t62_c) ∧
      Calls P 27 ⟨[(.slice t62_p t62_n t62_c), (.string aCur)]⟩ wv_15 fun e_12 wv_16 =>
      ∃ (t640 : Bool) (t641_p : Option Addr) (t641_n : Nat) (t641_c : Nat) (t642_p : Option Addr) (t642_n : Nat) (t642_c : Nat), e_12 = .returned (.agg #[(.bool t640), (.slice t641_p t641_n t641_c), (.slice t642_p t642_n t642_c)]) ∧
      ∀ (r_2 : Nat) (wv_17 : World), New wv_16 (.cells ⟨[(.bool false), (.slice none 0 0), (.slice none 0 0)]⟩ 49 (0, 0)) r_2 wv_17 →
      ∃ wv_18, Stores P 49 ⟨r_2, 0, none⟩ (.agg #[(.bool t640), (.slice t641_p t641_n t641_c), (.slice t642_p t642_n t642_c)]) wv_17 wv_18 ∧
      ∃ (t650 : Bool) (t651_p : Option Addr) (t651_n : Nat) (t651_c : Nat) (t652_p : Option Addr) (t652_n : Nat) (t652_c : Nat), Loads P 49 ⟨r_2, 0, none⟩ (.agg #[(.bool t650), (.slice t651_p t651_n t651_c), (.slice t652_p t652_n t652_c)]) wv_18 ∧ ∃ (t660 : Bool) (t661_p : Option Addr) (t661_n : Nat) (t661_c : Nat) (t662_p : Option Addr) (t662_n : Nat) (t662_c : Nat), Loads P 49 ⟨r, 0, none⟩ (.agg #[(.bool t660), (.slice t661_p t661_n t661_c), (.slice t662_p t662_n t662_c)]) wv_18 ∧ Calls P 28 ⟨[(.agg #[(.bool t650), (.slice t651_p t651_n t651_c), (.slice t652_p t652_n t652_c)]), (.agg #[(.bool t660), (.slice t661_p t661_n t661_c), (.slice t662_p t662_n t662_c)])]⟩ wv_18 fun e_13 wv_19 =>
      ∃ (t67 : Bool), e_13 = .returned (.bool t67) ∧
      ((!t67) = true →
        R (.bool false) wv_19) ∧
      ((!t67) = false →
        ∃ (t690 : Bool) (t691_p : Option Addr) (t691_n : Nat) (t691_c : Nat) (t692_p : Option Addr) (t692_n : Nat) (t692_c : Nat), Loads P 49 ⟨r_1, 0, none⟩ (.agg #[(.bool t690), (.slice t691_p t691_n t691_c), (.slice t692_p t692_n t692_c)]) wv_19 ∧ Calls P 31 ⟨[(.agg #[(.bool t690), (.slice t691_p t691_n t691_c), (.slice t692_p t692_n t692_c)]), (.int .i64 1)]⟩ wv_19 fun e_14 wv_20 =>
        ∃ (t71 : Int), e_14 = .returned (.int .i64 t71) ∧
        ((decide ((t71 : Int) < 0)) = true →
          R (.bool false) wv_20) ∧
        ((decide ((t71 : Int) < 0)) = false →
          ((decide ((t71 : Int) ≠ t52)) = true →
            R (.bool false) wv_20) ∧
          ((decide ((t71 : Int) ≠ t52)) = false →
            R (.bool true) wv_20)))))
def laws_FnExactRestOf (aL_p : Option Addr) (aL_n : Nat) (aL_c : Nat) (aCur : ByteArray) (w : World) (R : Value → World → Prop) : Prop :=
  ((decide ((1048576 : Int) < ((aCur.size : Nat) : Int))) = true →
    R (.bool true) w) ∧
  ((decide ((1048576 : Int) < ((aCur.size : Nat) : Int))) = false →
    Calls P 11 ⟨[(.slice aL_p aL_n aL_c), (.int .i64 1048576)]⟩ w fun e wv =>
    ∃ (t18 : Int), e = .returned (.int .i64 t18) ∧
    ((decide ((t18 : Int) < 0)) = true →
      R (.bool true) wv) ∧
    ((decide ((t18 : Int) < 0)) = false →
      Calls P 13 ⟨[(.slice aL_p aL_n aL_c)]⟩ wv fun e_1 wv_1 =>
      ∃ (t22_p : Option Addr) (t22_n : Nat) (t22_c : Nat), e_1 = .returned (.slice t22_p t22_n t22_c) ∧
      Calls P 26 ⟨[(.slice t22_p t22_n t22_c), (.string aCur)]⟩ wv_1 fun e_2 wv_2 =>
      ∃ (t240 : Bool) (t241_p : Option Addr) (t241_n : Nat) (t241_c : Nat) (t242_p : Option Addr) (t242_n : Nat) (t242_c : Nat), e_2 = .returned (.agg #[(.bool t240), (.slice t241_p t241_n t241_c), (.slice t242_p t242_n t242_c)]) ∧
      ∀ (r : Nat) (wv_3 : World), New wv_2 (.cells ⟨[(.bool false), (.slice none 0 0), (.slice none 0 0)]⟩ 49 (0, 0)) r wv_3 →
      ∃ wv_4, Stores P 49 ⟨r, 0, none⟩ (.agg #[(.bool t240), (.slice t241_p t241_n t241_c), (.slice t242_p t242_n t242_c)]) wv_3 wv_4 ∧
      Calls P 13 ⟨[(.slice aL_p aL_n aL_c)]⟩ wv_4 fun e_3 wv_5 =>
      ∃ (t26_p : Option Addr) (t26_n : Nat) (t26_c : Nat), e_3 = .returned (.slice t26_p t26_n t26_c) ∧
      Calls P 27 ⟨[(.slice t26_p t26_n t26_c), (.string aCur)]⟩ wv_5 fun e_4 wv_6 =>
      ∃ (t290 : Bool) (t291_p : Option Addr) (t291_n : Nat) (t291_c : Nat) (t292_p : Option Addr) (t292_n : Nat) (t292_c : Nat), e_4 = .returned (.agg #[(.bool t290), (.slice t291_p t291_n t291_c), (.slice t292_p t292_n t292_c)]) ∧
      ∀ (r_1 : Nat) (wv_7 : World), New wv_6 (.cells ⟨[(.bool false), (.slice none 0 0), (.slice none 0 0)]⟩ 49 (0, 0)) r_1 wv_7 →
      ∃ wv_8, Stores P 49 ⟨r_1, 0, none⟩ (.agg #[(.bool t290), (.slice t291_p t291_n t291_c), (.slice t292_p t292_n t292_c)]) wv_7 wv_8 ∧
      ∃ (t300 : Bool) (t301_p : Option Addr) (t301_n : Nat) (t301_c : Nat) (t302_p : Option Addr) (t302_n : Nat) (t302_c : Nat), Loads P 49 ⟨r_1, 0, none⟩ (.agg #[(.bool t300), (.slice t301_p t301_n t301_c), (.slice t302_p t302_n t302_c)]) wv_8 ∧ ∃ (t310 : Bool) (t311_p : Option Addr) (t311_n : Nat) (t311_c : Nat) (t312_p : Option Addr) (t312_n : Nat) (t312_c : Nat), Loads P 49 ⟨r, 0, none⟩ (.agg #[(.bool t310), (.slice t311_p t311_n t311_c), (.slice t312_p t312_n t312_c)]) wv_8 ∧ Calls P 28 ⟨[(.agg #[(.bool t300), (.slice t301_p t301_n t301_c), (.slice t302_p t302_n t302_c)]), (.agg #[(.bool t310), (.slice t311_p t311_n t311_c), (.slice t312_p t312_n t312_c)])]⟩ wv_8 fun e_5 wv_9 =>
      ∃ (t32 : Bool), e_5 = .returned (.bool t32) ∧
      ((!t32) = true →
        R (.bool false) wv_9) ∧
      ((!t32) = false →
        Calls P 13 ⟨[(.slice aL_p aL_n aL_c)]⟩ wv_9 fun e_6 wv_10 =>
        ∃ (t36_p : Option Addr) (t36_n : Nat) (t36_c : Nat), e_6 = .returned (.slice t36_p t36_n t36_c) ∧
        Calls P 15 ⟨[(.slice t26_p t26_n t26_c), (.slice t36_p t36_n t36_c)]⟩ wv_10 fun e_7 wv_11 =>
        ∃ (t37 : Bool), e_7 = .returned (.bool t37) ∧
        ((!t37) = true →
          R (.bool false) wv_11) ∧
        ((!t37) = false →
          Calls P 29 ⟨[(.slice t26_p t26_n t26_c), (.int .i64 1)]⟩ wv_11 fun e_8 wv_12 =>
          ∃ (t41 : Int), e_8 = .returned (.int .i64 t41) ∧
          ((decide ((t41 : Int) < 0)) = true →
            (true = true →
              R (.bool false) wv_12) ∧
            (true = false →
              laws_FnExactRestOf_j0 aL_p aL_n aL_c aCur r r_1 wv_12 R)) ∧
          ((decide ((t41 : Int) < 0)) = false →
            ∃ (t450 : Bool) (t451_p : Option Addr) (t451_n : Nat) (t451_c : Nat) (t452_p : Option Addr) (t452_n : Nat) (t452_c : Nat), Loads P 49 ⟨r_1, 0, none⟩ (.agg #[(.bool t450), (.slice t451_p t451_n t451_c), (.slice t452_p t452_n t452_c)]) wv_12 ∧ ∃ (t460 : Bool) (t461_p : Option Addr) (t461_n : Nat) (t461_c : Nat) (t462_p : Option Addr) (t462_n : Nat) (t462_c : Nat), Loads P 49 ⟨r, 0, none⟩ (.agg #[(.bool t460), (.slice t461_p t461_n t461_c), (.slice t462_p t462_n t462_c)]) wv_12 ∧ Calls P 28 ⟨[(.agg #[(.bool t450), (.slice t451_p t451_n t451_c), (.slice t452_p t452_n t452_c)]), (.agg #[(.bool t460), (.slice t461_p t461_n t461_c), (.slice t462_p t462_n t462_c)])]⟩ wv_12 fun e_15 wv_21 =>
            ∃ (t47 : Bool), e_15 = .returned (.bool t47) ∧
            ((!t47) = true →
              R (.bool false) wv_21) ∧
            ((!t47) = false →
              laws_FnExactRestOf_j0 aL_p aL_n aL_c aCur r r_1 wv_21 R))))))
theorem laws_FnExactRestOf_eq (aL_p : Option Addr) (aL_n : Nat) (aL_c : Nat) (aCur : ByteArray) (w : World) (R : Value → World → Prop) : laws_FnExactRestOf aL_p aL_n aL_c aCur w R = fsem P Try.f6 (fun k => []) [(.slice aL_p aL_n aL_c), (.string aCur)] R w := by kernel_rfl
theorem laws_FnExactRestOf_ret {aL_p : Option Addr} {aL_n : Nat} {aL_c : Nat} {aCur : ByteArray} {w : World} {R : Value → World → Prop} (h : laws_FnExactRestOf aL_p aL_n aL_c aCur w R) : Ret P 6 [(.slice aL_p aL_n aL_c), (.string aCur)] w R :=
  Ret.of_fsem Try.func6 rfl (Eq.mp (laws_FnExactRestOf_eq aL_p aL_n aL_c aCur w R) h)

def laws_FnExactBalanceOf_j2 (r_3 : Nat) (t71 : Int) (W_2 : World) (R : Value → World → Prop) : Prop :=
  ∃ (t960 : ByteArray) (t961 : Bool) (t962_p : Option Addr) (t962_n : Nat) (t962_c : Nat), Loads P 56 ⟨r_3, 0, none⟩ (.agg #[(.string t960), (.bool t961), (.slice t962_p t962_n t962_c)]) W_2 ∧ Calls P 37 ⟨[(.agg #[(.string t960), (.bool t961), (.slice t962_p t962_n t962_c)]), (.int .i64 1)]⟩ W_2 fun e_14 wv_25 =>
  ∃ (t98 : Int), e_14 = .returned (.int .i64 t98) ∧
  ((decide ((t98 : Int) < 0)) = true →
    R (.bool false) wv_25) ∧
  ((decide ((t98 : Int) < 0)) = false →
    ((decide ((t98 : Int) ≠ t71)) = true →
      R (.bool false) wv_25) ∧
    ((decide ((t98 : Int) ≠ t71)) = false →
      R (.bool true) wv_25))
def laws_FnExactBalanceOf_j1 (aName : ByteArray) (r : Nat) (t28 : Bool) (r_1 : Nat) (r_3 : Nat) (W_1 : World) (R : Value → World → Prop) : Prop :=
  ∃ (t690 : ByteArray) (t691 : Bool) (t692_p : Option Addr) (t692_n : Nat) (t692_c : Nat), Loads P 56 ⟨r_3, 0, none⟩ (.agg #[(.string t690), (.bool t691), (.slice t692_p t692_n t692_c)]) W_1 ∧ Calls P 36 ⟨[(.agg #[(.string t690), (.bool t691), (.slice t692_p t692_n t692_c)]), (.int .i64 1)]⟩ W_1 fun e_9 wv_18 =>
  ∃ (t71 : Int), e_9 = .returned (.int .i64 t71) ∧
  ∃ (t720 : ByteArray) (t721 : Bool) (t722_p : Option Addr) (t722_n : Nat) (t722_c : Nat), Loads P 56 ⟨r_3, 0, none⟩ (.agg #[(.string t720), (.bool t721), (.slice t722_p t722_n t722_c)]) wv_18 ∧ Calls P 37 ⟨[(.agg #[(.string t720), (.bool t721), (.slice t722_p t722_n t722_c)]), (.int .i64 1)]⟩ wv_18 fun e_10 wv_19 =>
  ∃ (t74 : Int), e_10 = .returned (.int .i64 t74) ∧
  ((decide ((t74 : Int) < 0)) = true →
    R (.bool false) wv_19) ∧
  ((decide ((t74 : Int) < 0)) = false →
    ((decide ((t74 : Int) ≠ t71)) = true →
      R (.bool false) wv_19) ∧
    ((decide ((t74 : Int) ≠ t71)) = false →
      ∃ (t810_p : Option Addr) (t810_n : Nat) (t810_c : Nat), Loads P 37 ⟨r, 0, none⟩ (.agg #[(.slice t810_p t810_n t810_c)]) wv_19 ∧ Calls P 23 ⟨[(.agg #[(.slice t810_p t810_n t810_c)])]⟩ wv_19 fun e_11 wv_20 =>
      ∃ (t820_p : Option Addr) (t820_n : Nat) (t820_c : Nat), e_11 = .returned (.agg #[(.slice t820_p t820_n t820_c)]) ∧
      Calls P 33 ⟨[(.agg #[(.slice t820_p t820_n t820_c)]), (.string aName)]⟩ wv_20 fun e_12 wv_21 =>
      ∃ (t840 : ByteArray) (t841 : Bool) (t842_p : Option Addr) (t842_n : Nat) (t842_c : Nat) (t84 : Bool), e_12 = .returned (.tuple #[(.agg #[(.string t840), (.bool t841), (.slice t842_p t842_n t842_c)]), (.bool t84)]) ∧
      ∀ (r_4 : Nat) (wv_22 : World), New wv_21 (.cells ⟨[(.string ByteArray.empty), (.bool false), (.slice none 0 0)]⟩ 56 (0, 0)) r_4 wv_22 →
      ∃ wv_23, Stores P 56 ⟨r_4, 0, none⟩ (.agg #[(.string t840), (.bool t841), (.slice t842_p t842_n t842_c)]) wv_22 wv_23 ∧
      ∃ (t870 : ByteArray) (t871 : Bool) (t872_p : Option Addr) (t872_n : Nat) (t872_c : Nat), Loads P 56 ⟨r_4, 0, none⟩ (.agg #[(.string t870), (.bool t871), (.slice t872_p t872_n t872_c)]) wv_23 ∧ ∃ (t880 : ByteArray) (t881 : Bool) (t882_p : Option Addr) (t882_n : Nat) (t882_c : Nat), Loads P 56 ⟨r_1, 0, none⟩ (.agg #[(.string t880), (.bool t881), (.slice t882_p t882_n t882_c)]) wv_23 ∧ Calls P 34 ⟨[(.agg #[(.string t870), (.bool t871), (.slice t872_p t872_n t872_c)]), (.agg #[(.string t880), (.bool t881), (.slice t882_p t882_n t882_c)])]⟩ wv_23 fun e_13 wv_24 =>
      ∃ (t89 : Bool), e_13 = .returned (.bool t89) ∧
      ((!t89) = true →
        (true = true →
          R (.bool false) wv_24) ∧
        (true = false →
          laws_FnExactBalanceOf_j2 r_3 t71 wv_24 R)) ∧
      ((!t89) = false →
        ((!(t84 == t28)) = true →
          R (.bool false) wv_24) ∧
        ((!(t84 == t28)) = false →
          laws_FnExactBalanceOf_j2 r_3 t71 wv_24 R))))
def laws_FnExactBalanceOf_j0 (aName : ByteArray) (r : Nat) (t28 : Bool) (r_1 : Nat) (r_2 : Nat) (t36 : Bool) (r_3 : Nat) (W : World) (R : Value → World → Prop) : Prop :=
  ∃ (t480_p : Option Addr) (t480_n : Nat) (t480_c : Nat), (∀ wv_13, Ext W.drew wv_13 → Loads P 42 ⟨r_2, 0, none⟩ (.agg #[(.slice t480_p t480_n t480_c)]) wv_13) ∧ ∃ (t490_p : Option Addr) (t490_n : Nat) (t490_c : Nat), (∀ wv_14, Ext W.drew wv_14 → Loads P 37 ⟨r, 0, none⟩ (.agg #[(.slice t490_p t490_n t490_c)]) wv_14) ∧ Calls P 23 ⟨[(.agg #[(.slice t490_p t490_n t490_c)])]⟩ W.drew fun e_6 wv_15 =>
  ∃ (t500_p : Option Addr) (t500_n : Nat) (t500_c : Nat), e_6 = .returned (.agg #[(.slice t500_p t500_n t500_c)]) ∧
  Ext W.drew wv_15 ∧ Calls P 25 ⟨[(.agg #[(.slice t480_p t480_n t480_c)]), (.agg #[(.slice t500_p t500_n t500_c)])]⟩ wv_15 fun e_7 wv_16 =>
  ∃ (t51 : Bool), e_7 = .returned (.bool t51) ∧
  ((!t51) = true →
    R (.bool false) wv_16) ∧
  ((!t51) = false →
    ∃ (t530_p : Option Addr) (t530_n : Nat) (t530_c : Nat), Loads P 42 ⟨r_2, 0, none⟩ (.agg #[(.slice t530_p t530_n t530_c)]) wv_16 ∧ Calls P 35 ⟨[(.agg #[(.slice t530_p t530_n t530_c)]), (.int .i64 1)]⟩ wv_16 fun e_8 wv_17 =>
    ∃ (t55 : Int), e_8 = .returned (.int .i64 t55) ∧
    ((decide ((t55 : Int) < 0)) = true →
      (true = true →
        (true = true →
          R (.bool false) wv_17) ∧
        (true = false →
          laws_FnExactBalanceOf_j1 aName r t28 r_1 r_3 wv_17 R)) ∧
      (true = false →
        ((!(t36 == t28)) = true →
          R (.bool false) wv_17) ∧
        ((!(t36 == t28)) = false →
          laws_FnExactBalanceOf_j1 aName r t28 r_1 r_3 wv_17 R))) ∧
    ((decide ((t55 : Int) < 0)) = false →
      ∃ (t590 : ByteArray) (t591 : Bool) (t592_p : Option Addr) (t592_n : Nat) (t592_c : Nat), Loads P 56 ⟨r_3, 0, none⟩ (.agg #[(.string t590), (.bool t591), (.slice t592_p t592_n t592_c)]) wv_17 ∧ ∃ (t600 : ByteArray) (t601 : Bool) (t602_p : Option Addr) (t602_n : Nat) (t602_c : Nat), Loads P 56 ⟨r_1, 0, none⟩ (.agg #[(.string t600), (.bool t601), (.slice t602_p t602_n t602_c)]) wv_17 ∧ Calls P 34 ⟨[(.agg #[(.string t590), (.bool t591), (.slice t592_p t592_n t592_c)]), (.agg #[(.string t600), (.bool t601), (.slice t602_p t602_n t602_c)])]⟩ wv_17 fun e_15 wv_26 =>
      ∃ (t61 : Bool), e_15 = .returned (.bool t61) ∧
      ((!t61) = true →
        (true = true →
          R (.bool false) wv_26) ∧
        (true = false →
          laws_FnExactBalanceOf_j1 aName r t28 r_1 r_3 wv_26 R)) ∧
      ((!t61) = false →
        ((!(t36 == t28)) = true →
          R (.bool false) wv_26) ∧
        ((!(t36 == t28)) = false →
          laws_FnExactBalanceOf_j1 aName r t28 r_1 r_3 wv_26 R))))
def laws_FnExactBalanceOf (aB0_p : Option Addr) (aB0_n : Nat) (aB0_c : Nat) (aName : ByteArray) (w : World) (R : Value → World → Prop) : Prop :=
  ∀ (r : Nat) (wv : World), New w (.cells ⟨[(.slice aB0_p aB0_n aB0_c)]⟩ 37 (0, 0)) r wv →
  ((decide ((1048576 : Int) < ((aName.size : Nat) : Int))) = true →
    R (.bool true) wv) ∧
  ((decide ((1048576 : Int) < ((aName.size : Nat) : Int))) = false →
    ∃ (t190_p : Option Addr) (t190_n : Nat) (t190_c : Nat), Loads P 37 ⟨r, 0, none⟩ (.agg #[(.slice t190_p t190_n t190_c)]) wv ∧ Calls P 21 ⟨[(.agg #[(.slice t190_p t190_n t190_c)]), (.int .i64 1048576)]⟩ wv fun e wv_1 =>
    ∃ (t21 : Int), e = .returned (.int .i64 t21) ∧
    ((decide ((t21 : Int) < 0)) = true →
      R (.bool true) wv_1) ∧
    ((decide ((t21 : Int) < 0)) = false →
      ∃ (t250_p : Option Addr) (t250_n : Nat) (t250_c : Nat), Loads P 37 ⟨r, 0, none⟩ (.agg #[(.slice t250_p t250_n t250_c)]) wv_1 ∧ Calls P 23 ⟨[(.agg #[(.slice t250_p t250_n t250_c)])]⟩ wv_1 fun e_1 wv_2 =>
      ∃ (t260_p : Option Addr) (t260_n : Nat) (t260_c : Nat), e_1 = .returned (.agg #[(.slice t260_p t260_n t260_c)]) ∧
      Calls P 32 ⟨[(.agg #[(.slice t260_p t260_n t260_c)]), (.string aName)]⟩ wv_2 fun e_2 wv_3 =>
      ∃ (t280 : ByteArray) (t281 : Bool) (t282_p : Option Addr) (t282_n : Nat) (t282_c : Nat) (t28 : Bool), e_2 = .returned (.tuple #[(.agg #[(.string t280), (.bool t281), (.slice t282_p t282_n t282_c)]), (.bool t28)]) ∧
      ∀ (r_1 : Nat) (wv_4 : World), New wv_3 (.cells ⟨[(.string ByteArray.empty), (.bool false), (.slice none 0 0)]⟩ 56 (0, 0)) r_1 wv_4 →
      ∃ wv_5, Stores P 56 ⟨r_1, 0, none⟩ (.agg #[(.string t280), (.bool t281), (.slice t282_p t282_n t282_c)]) wv_4 wv_5 ∧
      ∃ (t310_p : Option Addr) (t310_n : Nat) (t310_c : Nat), Loads P 37 ⟨r, 0, none⟩ (.agg #[(.slice t310_p t310_n t310_c)]) wv_5 ∧ Calls P 23 ⟨[(.agg #[(.slice t310_p t310_n t310_c)])]⟩ wv_5 fun e_3 wv_6 =>
      ∃ (t320_p : Option Addr) (t320_n : Nat) (t320_c : Nat), e_3 = .returned (.agg #[(.slice t320_p t320_n t320_c)]) ∧
      ∀ (r_2 : Nat) (wv_7 : World), New wv_6 (.cells ⟨[(.slice none 0 0)]⟩ 42 (0, 0)) r_2 wv_7 →
      ∃ wv_8, Stores P 42 ⟨r_2, 0, none⟩ (.agg #[(.slice t320_p t320_n t320_c)]) wv_7 wv_8 ∧
      ∃ (t340_p : Option Addr) (t340_n : Nat) (t340_c : Nat), Loads P 42 ⟨r_2, 0, none⟩ (.agg #[(.slice t340_p t340_n t340_c)]) wv_8 ∧ Calls P 33 ⟨[(.agg #[(.slice t340_p t340_n t340_c)]), (.string aName)]⟩ wv_8 fun e_4 wv_9 =>
      ∃ (t360 : ByteArray) (t361 : Bool) (t362_p : Option Addr) (t362_n : Nat) (t362_c : Nat) (t36 : Bool), e_4 = .returned (.tuple #[(.agg #[(.string t360), (.bool t361), (.slice t362_p t362_n t362_c)]), (.bool t36)]) ∧
      ∀ (r_3 : Nat) (wv_10 : World), New wv_9 (.cells ⟨[(.string ByteArray.empty), (.bool false), (.slice none 0 0)]⟩ 56 (0, 0)) r_3 wv_10 →
      ∃ wv_11, Stores P 56 ⟨r_3, 0, none⟩ (.agg #[(.string t360), (.bool t361), (.slice t362_p t362_n t362_c)]) wv_10 wv_11 ∧
      ∃ (t390 : ByteArray) (t391 : Bool) (t392_p : Option Addr) (t392_n : Nat) (t392_c : Nat), Loads P 56 ⟨r_3, 0, none⟩ (.agg #[(.string t390), (.bool t391), (.slice t392_p t392_n t392_c)]) wv_11 ∧ ∃ (t400 : ByteArray) (t401 : Bool) (t402_p : Option Addr) (t402_n : Nat) (t402_c : Nat), Loads P 56 ⟨r_1, 0, none⟩ (.agg #[(.string t400), (.bool t401), (.slice t402_p t402_n t402_c)]) wv_11 ∧ Calls P 34 ⟨[(.agg #[(.string t390), (.bool t391), (.slice t392_p t392_n t392_c)]), (.agg #[(.string t400), (.bool t401), (.slice t402_p t402_n t402_c)])]⟩ wv_11 fun e_5 wv_12 =>
      ∃ (t41 : Bool), e_5 = .returned (.bool t41) ∧
      ((!t41) = true →
        (true = true →
          R (.bool false) wv_12) ∧
        (true = false →
          laws_FnExactBalanceOf_j0 aName r t28 r_1 r_2 t36 r_3 wv_12 R)) ∧
      ((!t41) = false →
        ((!(t36 == t28)) = true →
          R (.bool false) wv_12) ∧
        ((!(t36 == t28)) = false →
          laws_FnExactBalanceOf_j0 aName r t28 r_1 r_2 t36 r_3 wv_12 R))))
theorem laws_FnExactBalanceOf_eq (aB0_p : Option Addr) (aB0_n : Nat) (aB0_c : Nat) (aName : ByteArray) (w : World) (R : Value → World → Prop) : laws_FnExactBalanceOf aB0_p aB0_n aB0_c aName w R = fsem P Try.f7 (fun k => []) [(.agg #[(.slice aB0_p aB0_n aB0_c)]), (.string aName)] R w := by kernel_rfl
theorem laws_FnExactBalanceOf_ret {aB0_p : Option Addr} {aB0_n : Nat} {aB0_c : Nat} {aName : ByteArray} {w : World} {R : Value → World → Prop} (h : laws_FnExactBalanceOf aB0_p aB0_n aB0_c aName w R) : Ret P 7 [(.agg #[(.slice aB0_p aB0_n aB0_c)]), (.string aName)] w R :=
  Ret.of_fsem Try.func7 rfl (Eq.mp (laws_FnExactBalanceOf_eq aB0_p aB0_n aB0_c aName w R) h)

def laws_FnExactTaxRateOk (aR0 : Bool) (aR1_p : Option Addr) (aR1_n : Nat) (aR1_c : Nat) (aR2 : Int) (w : World) (R : Value → World → Prop) : Prop :=
  ∀ (r : Nat) (wv : World), New w (.cells ⟨[(.bool aR0), (.slice aR1_p aR1_n aR1_c), (.int .i64 aR2)]⟩ 65 (0, 0)) r wv →
  ∃ (t70 : Bool) (t71_p : Option Addr) (t71_n : Nat) (t71_c : Nat) (t72 : Int), Loads P 65 ⟨r, 0, none⟩ (.agg #[(.bool t70), (.slice t71_p t71_n t71_c), (.int .i64 t72)]) wv ∧ Calls P 38 ⟨[(.agg #[(.bool t70), (.slice t71_p t71_n t71_c), (.int .i64 t72)]), (.int .i64 1048576)]⟩ wv fun e wv_1 =>
  ∃ (t9 : Int), e = .returned (.int .i64 t9) ∧
  ((decide ((t9 : Int) < 0)) = true →
    R (.bool true) wv_1) ∧
  ((decide ((t9 : Int) < 0)) = false →
    ∃ (t120 : Bool) (t121_p : Option Addr) (t121_n : Nat) (t121_c : Nat) (t122 : Int), Loads P 65 ⟨r, 0, none⟩ (.agg #[(.bool t120), (.slice t121_p t121_n t121_c), (.int .i64 t122)]) wv_1 ∧ Calls P 40 ⟨[(.agg #[(.bool t120), (.slice t121_p t121_n t121_c), (.int .i64 t122)])]⟩ wv_1 fun e_1 wv_2 =>
    ∃ (t130 : Bool) (t131_p : Option Addr) (t131_n : Nat) (t131_c : Nat) (t132 : Int), e_1 = .returned (.agg #[(.bool t130), (.slice t131_p t131_n t131_c), (.int .i64 t132)]) ∧
    Calls P 39 ⟨[(.agg #[(.bool t130), (.slice t131_p t131_n t131_c), (.int .i64 t132)])]⟩ wv_2 fun e_2 wv_3 =>
    ∃ (t14 : Bool), e_2 = .returned (.bool t14) ∧
    ∃ (t150 : Bool) (t151_p : Option Addr) (t151_n : Nat) (t151_c : Nat) (t152 : Int), Loads P 65 ⟨r, 0, none⟩ (.agg #[(.bool t150), (.slice t151_p t151_n t151_c), (.int .i64 t152)]) wv_3 ∧ Calls P 40 ⟨[(.agg #[(.bool t150), (.slice t151_p t151_n t151_c), (.int .i64 t152)])]⟩ wv_3 fun e_3 wv_4 =>
    ∃ (t160 : Bool) (t161_p : Option Addr) (t161_n : Nat) (t161_c : Nat) (t162 : Int), e_3 = .returned (.agg #[(.bool t160), (.slice t161_p t161_n t161_c), (.int .i64 t162)]) ∧
    ∀ (r_1 : Nat) (wv_5 : World), New wv_4 (.cells ⟨[(.bool false), (.slice none 0 0), (.int .i64 0)]⟩ 69 (0, 0)) r_1 wv_5 →
    ∃ wv_6, Stores P 69 ⟨r_1, 0, none⟩ (.agg #[(.bool t160), (.slice t161_p t161_n t161_c), (.int .i64 t162)]) wv_5 wv_6 ∧
    ∃ (t170 : Bool) (t171_p : Option Addr) (t171_n : Nat) (t171_c : Nat) (t172 : Int), Loads P 69 ⟨r_1, 0, none⟩ (.agg #[(.bool t170), (.slice t171_p t171_n t171_c), (.int .i64 t172)]) wv_6 ∧ Calls P 41 ⟨[(.agg #[(.bool t170), (.slice t171_p t171_n t171_c), (.int .i64 t172)])]⟩ wv_6 fun e_4 wv_7 =>
    ∃ (t18 : Bool), e_4 = .returned (.bool t18) ∧
    ((!(t18 == t14)) = true →
      R (.bool false) wv_7) ∧
    ((!(t18 == t14)) = false →
      ∃ (t220 : Bool) (t221_p : Option Addr) (t221_n : Nat) (t221_c : Nat) (t222 : Int), (∀ wv_8, Ext wv_7.drew wv_8 → Loads P 69 ⟨r_1, 0, none⟩ (.agg #[(.bool t220), (.slice t221_p t221_n t221_c), (.int .i64 t222)]) wv_8) ∧ ∃ (t230 : Bool) (t231_p : Option Addr) (t231_n : Nat) (t231_c : Nat) (t232 : Int), (∀ wv_9, Ext wv_7.drew wv_9 → Loads P 65 ⟨r, 0, none⟩ (.agg #[(.bool t230), (.slice t231_p t231_n t231_c), (.int .i64 t232)]) wv_9) ∧ Calls P 40 ⟨[(.agg #[(.bool t230), (.slice t231_p t231_n t231_c), (.int .i64 t232)])]⟩ wv_7.drew fun e_5 wv_10 =>
      ∃ (t240 : Bool) (t241_p : Option Addr) (t241_n : Nat) (t241_c : Nat) (t242 : Int), e_5 = .returned (.agg #[(.bool t240), (.slice t241_p t241_n t241_c), (.int .i64 t242)]) ∧
      Ext wv_7.drew wv_10 ∧ Calls P 42 ⟨[(.agg #[(.bool t220), (.slice t221_p t221_n t221_c), (.int .i64 t222)]), (.agg #[(.bool t240), (.slice t241_p t241_n t241_c), (.int .i64 t242)])]⟩ wv_10 fun e_6 wv_11 =>
      ∃ (t25 : Bool), e_6 = .returned (.bool t25) ∧
      ((!t25) = true →
        R (.bool false) wv_11) ∧
      ((!t25) = false →
        R (.bool true) wv_11)))
theorem laws_FnExactTaxRateOk_eq (aR0 : Bool) (aR1_p : Option Addr) (aR1_n : Nat) (aR1_c : Nat) (aR2 : Int) (w : World) (R : Value → World → Prop) : laws_FnExactTaxRateOk aR0 aR1_p aR1_n aR1_c aR2 w R = fsem P Try.f8 (fun k => []) [(.agg #[(.bool aR0), (.slice aR1_p aR1_n aR1_c), (.int .i64 aR2)])] R w := by kernel_rfl
theorem laws_FnExactTaxRateOk_ret {aR0 : Bool} {aR1_p : Option Addr} {aR1_n : Nat} {aR1_c : Nat} {aR2 : Int} {w : World} {R : Value → World → Prop} (h : laws_FnExactTaxRateOk aR0 aR1_p aR1_n aR1_c aR2 w R) : Ret P 8 [(.agg #[(.bool aR0), (.slice aR1_p aR1_n aR1_c), (.int .i64 aR2)])] w R :=
  Ret.of_fsem Try.func8 rfl (Eq.mp (laws_FnExactTaxRateOk_eq aR0 aR1_p aR1_n aR1_c aR2 w R) h)

def laws_FnExactFlat (aL_p : Option Addr) (aL_n : Nat) (aL_c : Nat) (w : World) (R : Value → World → Prop) : Prop :=
  Calls P 43 ⟨[(.slice aL_p aL_n aL_c), (.int .i64 1048576)]⟩ w fun e wv =>
  ∃ (t9 : Int), e = .returned (.int .i64 t9) ∧
  ((decide ((t9 : Int) < 0)) = true →
    R (.bool true) wv) ∧
  ((decide ((t9 : Int) < 0)) = false →
    Calls P 45 ⟨[(.slice aL_p aL_n aL_c)]⟩ wv fun e_1 wv_1 =>
    ∃ (t13_p : Option Addr) (t13_n : Nat) (t13_c : Nat), e_1 = .returned (.slice t13_p t13_n t13_c) ∧
    Calls P 44 ⟨[(.slice t13_p t13_n t13_c)]⟩ wv_1 fun e_2 wv_2 =>
    ∃ (t14 : Bool), e_2 = .returned (.bool t14) ∧
    Calls P 45 ⟨[(.slice aL_p aL_n aL_c)]⟩ wv_2 fun e_3 wv_3 =>
    ∃ (t16_p : Option Addr) (t16_n : Nat) (t16_c : Nat), e_3 = .returned (.slice t16_p t16_n t16_c) ∧
    Calls P 46 ⟨[(.slice t16_p t16_n t16_c)]⟩ wv_3 fun e_4 wv_4 =>
    ∃ (t18 : Bool), e_4 = .returned (.bool t18) ∧
    ((!(t18 == t14)) = true →
      R (.bool false) wv_4) ∧
    ((!(t18 == t14)) = false →
      Calls P 45 ⟨[(.slice aL_p aL_n aL_c)]⟩ wv_4 fun e_5 wv_5 =>
      ∃ (t24_p : Option Addr) (t24_n : Nat) (t24_c : Nat), e_5 = .returned (.slice t24_p t24_n t24_c) ∧
      Calls P 47 ⟨[(.slice t16_p t16_n t16_c), (.slice t24_p t24_n t24_c)]⟩ wv_5 fun e_6 wv_6 =>
      ∃ (t25 : Bool), e_6 = .returned (.bool t25) ∧
      ((!t25) = true →
        R (.bool false) wv_6) ∧
      ((!t25) = false →
        R (.bool true) wv_6)))
theorem laws_FnExactFlat_eq (aL_p : Option Addr) (aL_n : Nat) (aL_c : Nat) (w : World) (R : Value → World → Prop) : laws_FnExactFlat aL_p aL_n aL_c w R = fsem P Try.f9 (fun k => []) [(.slice aL_p aL_n aL_c)] R w := by kernel_rfl
theorem laws_FnExactFlat_ret {aL_p : Option Addr} {aL_n : Nat} {aL_c : Nat} {w : World} {R : Value → World → Prop} (h : laws_FnExactFlat aL_p aL_n aL_c w R) : Ret P 9 [(.slice aL_p aL_n aL_c)] w R :=
  Ret.of_fsem Try.func9 rfl (Eq.mp (laws_FnExactFlat_eq aL_p aL_n aL_c w R) h)

def laws_FnExactStepsOk (aL_p : Option Addr) (aL_n : Nat) (aL_c : Nat) (w : World) (R : Value → World → Prop) : Prop :=
  Calls P 48 ⟨[(.slice aL_p aL_n aL_c), (.int .i64 1048576)]⟩ w fun e wv =>
  ∃ (t9 : Int), e = .returned (.int .i64 t9) ∧
  ((decide ((t9 : Int) < 0)) = true →
    R (.bool true) wv) ∧
  ((decide ((t9 : Int) < 0)) = false →
    Calls P 50 ⟨[(.slice aL_p aL_n aL_c)]⟩ wv fun e_1 wv_1 =>
    ∃ (t13_p : Option Addr) (t13_n : Nat) (t13_c : Nat), e_1 = .returned (.slice t13_p t13_n t13_c) ∧
    Calls P 49 ⟨[(.slice t13_p t13_n t13_c)]⟩ wv_1 fun e_2 wv_2 =>
    ∃ (t14 : Bool), e_2 = .returned (.bool t14) ∧
    Calls P 50 ⟨[(.slice aL_p aL_n aL_c)]⟩ wv_2 fun e_3 wv_3 =>
    ∃ (t16_p : Option Addr) (t16_n : Nat) (t16_c : Nat), e_3 = .returned (.slice t16_p t16_n t16_c) ∧
    Calls P 51 ⟨[(.slice t16_p t16_n t16_c)]⟩ wv_3 fun e_4 wv_4 =>
    ∃ (t18 : Bool), e_4 = .returned (.bool t18) ∧
    ((!(t18 == t14)) = true →
      R (.bool false) wv_4) ∧
    ((!(t18 == t14)) = false →
      Calls P 50 ⟨[(.slice aL_p aL_n aL_c)]⟩ wv_4 fun e_5 wv_5 =>
      ∃ (t24_p : Option Addr) (t24_n : Nat) (t24_c : Nat), e_5 = .returned (.slice t24_p t24_n t24_c) ∧
      Calls P 52 ⟨[(.slice t16_p t16_n t16_c), (.slice t24_p t24_n t24_c)]⟩ wv_5 fun e_6 wv_6 =>
      ∃ (t25 : Bool), e_6 = .returned (.bool t25) ∧
      ((!t25) = true →
        R (.bool false) wv_6) ∧
      ((!t25) = false →
        R (.bool true) wv_6)))
theorem laws_FnExactStepsOk_eq (aL_p : Option Addr) (aL_n : Nat) (aL_c : Nat) (w : World) (R : Value → World → Prop) : laws_FnExactStepsOk aL_p aL_n aL_c w R = fsem P Try.f10 (fun k => []) [(.slice aL_p aL_n aL_c)] R w := by kernel_rfl
theorem laws_FnExactStepsOk_ret {aL_p : Option Addr} {aL_n : Nat} {aL_c : Nat} {w : World} {R : Value → World → Prop} (h : laws_FnExactStepsOk aL_p aL_n aL_c w R) : Ret P 10 [(.slice aL_p aL_n aL_c)] w R :=
  Ret.of_fsem Try.func10 rfl (Eq.mp (laws_FnExactStepsOk_eq aL_p aL_n aL_c w R) h)

def spec_RestsSame (l_p : Option Addr) (l_n : Nat) (l_c : Nat) (o_p : Option Addr) (o_n : Nat) (o_c : Nat) (w : World) (R : Value → World → Prop) : Prop :=
  ((decide ((((l_n : Nat) : Int) : Int) ≠ ((o_n : Nat) : Int))) = true →
    R (.bool false) w) ∧
  ((decide ((((l_n : Nat) : Int) : Int) ≠ ((o_n : Nat) : Int))) = false →
    ∃ (Inv : Int → World → Prop) (mu : Int → World → Nat), Inv 0 w ∧
    ∀ (junk : Fr) (wv : World) (t15 : Int), Inv t15 wv →
      ((decide ((t15 : Int) < ((l_n : Nat) : Int))) = true →
        (0 ≤ (t15 : Int) ∧ (t15 : Int) < (l_n : Nat)) ∧ ptrS l_p fun ad => ∃ (t190 : ByteArray) (t191 : Bool) (t192_p : Option Addr) (t192_n : Nat) (t192_c : Nat) (t193_p : Option Addr) (t193_n : Nat) (t193_c : Nat), Loads P 93 (ad.add (t15.toNat * 4)) (.agg #[(.string t190), (.bool t191), (.slice t192_p t192_n t192_c), (.slice t193_p t193_n t193_c)]) wv ∧ ∀ (r : Nat) (wv_1 : World), New wv (.cells ⟨[(.string ByteArray.empty), (.bool false), (.slice none 0 0), (.slice none 0 0)]⟩ 93 (0, 0)) r wv_1 →
        ∃ wv_2, Stores P 93 ⟨r, 0, none⟩ (.agg #[(.string t190), (.bool t191), (.slice t192_p t192_n t192_c), (.slice t193_p t193_n t193_c)]) wv_1 wv_2 ∧
        (0 ≤ (t15 : Int) ∧ (t15 : Int) < (o_n : Nat)) ∧ ptrS o_p fun ad_1 => ∃ (t230 : ByteArray) (t231 : Bool) (t232_p : Option Addr) (t232_n : Nat) (t232_c : Nat) (t233_p : Option Addr) (t233_n : Nat) (t233_c : Nat), Loads P 93 (ad_1.add (t15.toNat * 4)) (.agg #[(.string t230), (.bool t231), (.slice t232_p t232_n t232_c), (.slice t233_p t233_n t233_c)]) wv_2 ∧ ∀ (r_1 : Nat) (wv_3 : World), New wv_2 (.cells ⟨[(.string ByteArray.empty), (.bool false), (.slice none 0 0), (.slice none 0 0)]⟩ 93 (0, 0)) r_1 wv_3 →
        ∃ wv_4, Stores P 93 ⟨r_1, 0, none⟩ (.agg #[(.string t230), (.bool t231), (.slice t232_p t232_n t232_c), (.slice t233_p t233_n t233_c)]) wv_3 wv_4 ∧
        ∃ (t25 : ByteArray), Loads P 9 ((⟨r, 0, none⟩ : Addr).add 0) (.string t25) wv_4 ∧ ∃ (t27 : ByteArray), Loads P 9 ((⟨r_1, 0, none⟩ : Addr).add 0) (.string t27) wv_4 ∧ ((decide (t25 ≠ t27)) = true →
          (true = true →
            (true = true →
              R (.bool false) wv_4) ∧
            (true = false →
              ∃ t49 : Int, t49 = IntKind.wrap .i64 (t15 + 1) ∧ Inv t49 wv_4 ∧ mu t49 wv_4 < mu t15 wv)) ∧
          (true = false →
            ∃ (t42_p : Option Addr) (t42_n : Nat) (t42_c : Nat), Loads P 45 (((⟨r, 0, none⟩ : Addr).add 1).add 2) (.slice t42_p t42_n t42_c) wv_4 ∧ ∃ (t45_p : Option Addr) (t45_n : Nat) (t45_c : Nat), Loads P 45 (((⟨r_1, 0, none⟩ : Addr).add 1).add 2) (.slice t45_p t45_n t45_c) wv_4 ∧ Calls P 55 ⟨[(.slice t42_p t42_n t42_c), (.slice t45_p t45_n t45_c)]⟩ wv_4 fun e wv_5 =>
            ∃ (t46 : Int), e = .returned (.int .i64 t46) ∧
            ((decide ((t46 : Int) ≠ 0)) = true →
              R (.bool false) wv_5) ∧
            ((decide ((t46 : Int) ≠ 0)) = false →
              ∃ t49_1 : Int, t49_1 = IntKind.wrap .i64 (t15 + 1) ∧ Inv t49_1 wv_5 ∧ mu t49_1 wv_5 < mu t15 wv))) ∧
        ((decide (t25 ≠ t27)) = false →
          ∃ (t320 : Bool) (t321_p : Option Addr) (t321_n : Nat) (t321_c : Nat), Loads P 47 (((⟨r, 0, none⟩ : Addr).add 1).add 0) (.agg #[(.bool t320), (.slice t321_p t321_n t321_c)]) wv_4 ∧ ∃ (t350 : Bool) (t351_p : Option Addr) (t351_n : Nat) (t351_c : Nat), Loads P 47 (((⟨r_1, 0, none⟩ : Addr).add 1).add 0) (.agg #[(.bool t350), (.slice t351_p t351_n t351_c)]) wv_4 ∧ Calls P 54 ⟨[(.agg #[(.bool t320), (.slice t321_p t321_n t321_c)]), (.agg #[(.bool t350), (.slice t351_p t351_n t351_c)])]⟩ wv_4 fun e_1 wv_6 =>
          ∃ (t36 : Bool), e_1 = .returned (.bool t36) ∧
          ((!t36) = true →
            (true = true →
              R (.bool false) wv_6) ∧
            (true = false →
              ∃ t49_2 : Int, t49_2 = IntKind.wrap .i64 (t15 + 1) ∧ Inv t49_2 wv_6 ∧ mu t49_2 wv_6 < mu t15 wv)) ∧
          ((!t36) = false →
            ∃ (t42_p_1 : Option Addr) (t42_n_1 : Nat) (t42_c_1 : Nat), Loads P 45 (((⟨r, 0, none⟩ : Addr).add 1).add 2) (.slice t42_p_1 t42_n_1 t42_c_1) wv_6 ∧ ∃ (t45_p_1 : Option Addr) (t45_n_1 : Nat) (t45_c_1 : Nat), Loads P 45 (((⟨r_1, 0, none⟩ : Addr).add 1).add 2) (.slice t45_p_1 t45_n_1 t45_c_1) wv_6 ∧ Calls P 55 ⟨[(.slice t42_p_1 t42_n_1 t42_c_1), (.slice t45_p_1 t45_n_1 t45_c_1)]⟩ wv_6 fun e_2 wv_7 =>
            ∃ (t46_1 : Int), e_2 = .returned (.int .i64 t46_1) ∧
            ((decide ((t46_1 : Int) ≠ 0)) = true →
              R (.bool false) wv_7) ∧
            ((decide ((t46_1 : Int) ≠ 0)) = false →
              ∃ t49_3 : Int, t49_3 = IntKind.wrap .i64 (t15 + 1) ∧ Inv t49_3 wv_7 ∧ mu t49_3 wv_7 < mu t15 wv)))) ∧
      ((decide ((t15 : Int) < ((l_n : Nat) : Int))) = false →
        R (.bool true) wv))
theorem spec_RestsSame_eq (l_p : Option Addr) (l_n : Nat) (l_c : Nat) (o_p : Option Addr) (o_n : Nat) (o_c : Nat) (w : World) (R : Value → World → Prop) : spec_RestsSame l_p l_n l_c o_p o_n o_c w R = fsem P Try.f12 (fun k => cond (Nat.beq k 5) [(15, .one (.int .i64))] ([])) [(.slice l_p l_n l_c), (.slice o_p o_n o_c)] R w := by kernel_rfl
theorem spec_RestsSame_ret {l_p : Option Addr} {l_n : Nat} {l_c : Nat} {o_p : Option Addr} {o_n : Nat} {o_c : Nat} {w : World} {R : Value → World → Prop} (h : spec_RestsSame l_p l_n l_c o_p o_n o_c w R) : Ret P 12 [(.slice l_p l_n l_c), (.slice o_p o_n o_c)] w R :=
  Ret.of_fsem Try.func12 rfl (Eq.mp (spec_RestsSame_eq l_p l_n l_c o_p o_n o_c w R) h)

def impl_RestsSame (l_p : Option Addr) (l_n : Nat) (l_c : Nat) (o_p : Option Addr) (o_n : Nat) (o_c : Nat) (w : World) (R : Value → World → Prop) : Prop :=
  Calls P 57 ⟨[(.slice l_p l_n l_c), (.slice o_p o_n o_c), (.func (.func 58) #[] #[])]⟩ w fun e wv =>
  ∃ (t7 : Bool), e = .returned (.bool t7) ∧
  R (.bool t7) wv
theorem impl_RestsSame_eq (l_p : Option Addr) (l_n : Nat) (l_c : Nat) (o_p : Option Addr) (o_n : Nat) (o_c : Nat) (w : World) (R : Value → World → Prop) : impl_RestsSame l_p l_n l_c o_p o_n o_c w R = fsem P Try.f14 (fun k => []) [(.slice l_p l_n l_c), (.slice o_p o_n o_c)] R w := by kernel_rfl
theorem impl_RestsSame_ret {l_p : Option Addr} {l_n : Nat} {l_c : Nat} {o_p : Option Addr} {o_n : Nat} {o_c : Nat} {w : World} {R : Value → World → Prop} (h : impl_RestsSame l_p l_n l_c o_p o_n o_c w R) : Ret P 14 [(.slice l_p l_n l_c), (.slice o_p o_n o_c)] w R :=
  Ret.of_fsem Try.func14 rfl (Eq.mp (impl_RestsSame_eq l_p l_n l_c o_p o_n o_c w R) h)

def spec_PlanDone (l_p : Option Addr) (l_n : Nat) (l_c : Nat) (w : World) (R : Value → World → Prop) : Prop :=
  ((decide ((0 : Int) < ((l_n : Nat) : Int))) = true →
    ∃ t10 : Int, t10 = IntKind.wrap .i64 (((l_n : Nat) : Int) - 1) ∧ (0 ≤ (t10 : Int) ∧ (t10 : Int) < (l_n : Nat)) ∧ ptrS l_p fun ad => ∃ (t140 : Bool) (t141_p : Option Addr) (t141_n : Nat) (t141_c : Nat), Loads P 47 (((ad.add (t10.toNat * 9)).add 6).add 1) (.agg #[(.bool t140), (.slice t141_p t141_n t141_c)]) w ∧ Calls P 62 ⟨[(.agg #[(.bool t140), (.slice t141_p t141_n t141_c)])]⟩ w fun e wv =>
    ∃ (t15 : Bool), e = .returned (.bool t15) ∧
    (t15 = true →
      ∃ t21 : Int, t21 = IntKind.wrap .i64 (((l_n : Nat) : Int) - 1) ∧ (0 ≤ (t21 : Int) ∧ (t21 : Int) < (l_n : Nat)) ∧ ptrS l_p fun ad_1 => ∃ (t250 : Bool) (t251_p : Option Addr) (t251_n : Nat) (t251_c : Nat), Loads P 47 (((ad_1.add (t21.toNat * 9)).add 6).add 1) (.agg #[(.bool t250), (.slice t251_p t251_n t251_c)]) wv ∧ Calls P 63 ⟨[(.agg #[(.bool t250), (.slice t251_p t251_n t251_c)])]⟩ wv fun e_1 wv_1 =>
      ∃ (t26 : Int), e_1 = .returned (.int .i64 t26) ∧
      R (.bool (decide ((t26 : Int) = 0))) wv_1) ∧
    (t15 = false →
      R (.bool false) wv)) ∧
  ((decide ((0 : Int) < ((l_n : Nat) : Int))) = false →
    (false = true →
      ∃ t21_1 : Int, t21_1 = IntKind.wrap .i64 (((l_n : Nat) : Int) - 1) ∧ (0 ≤ (t21_1 : Int) ∧ (t21_1 : Int) < (l_n : Nat)) ∧ ptrS l_p fun ad_2 => ∃ (t250_1 : Bool) (t251_p_1 : Option Addr) (t251_n_1 : Nat) (t251_c_1 : Nat), Loads P 47 (((ad_2.add (t21_1.toNat * 9)).add 6).add 1) (.agg #[(.bool t250_1), (.slice t251_p_1 t251_n_1 t251_c_1)]) w ∧ Calls P 63 ⟨[(.agg #[(.bool t250_1), (.slice t251_p_1 t251_n_1 t251_c_1)])]⟩ w fun e_2 wv_2 =>
      ∃ (t26_1 : Int), e_2 = .returned (.int .i64 t26_1) ∧
      R (.bool (decide ((t26_1 : Int) = 0))) wv_2) ∧
    (false = false →
      R (.bool false) w))
theorem spec_PlanDone_eq (l_p : Option Addr) (l_n : Nat) (l_c : Nat) (w : World) (R : Value → World → Prop) : spec_PlanDone l_p l_n l_c w R = fsem P Try.f17 (fun k => []) [(.slice l_p l_n l_c)] R w := by kernel_rfl
theorem spec_PlanDone_ret {l_p : Option Addr} {l_n : Nat} {l_c : Nat} {w : World} {R : Value → World → Prop} (h : spec_PlanDone l_p l_n l_c w R) : Ret P 17 [(.slice l_p l_n l_c)] w R :=
  Ret.of_fsem Try.func17 rfl (Eq.mp (spec_PlanDone_eq l_p l_n l_c w R) h)

def impl_PlanDone (l_p : Option Addr) (l_n : Nat) (l_c : Nat) (w : World) (R : Value → World → Prop) : Prop :=
  ((decide ((0 : Int) < ((l_n : Nat) : Int))) = true →
    ∃ t10 : Int, t10 = IntKind.wrap .i64 (((l_n : Nat) : Int) - 1) ∧ (0 ≤ (t10 : Int) ∧ (t10 : Int) < (l_n : Nat)) ∧ ptrS l_p fun ad => ∃ (t130 : ByteArray) (t131 : Bool) (t132_p : Option Addr) (t132_n : Nat) (t132_c : Nat), Loads P 56 ((ad.add (t10.toNat * 9)).add 6) (.agg #[(.string t130), (.bool t131), (.slice t132_p t132_n t132_c)]) w ∧ Calls P 65 ⟨[(.agg #[(.string t130), (.bool t131), (.slice t132_p t132_n t132_c)])]⟩ w fun e wv =>
    ∃ (t14 : Bool), e = .returned (.bool t14) ∧
    R (.bool t14) wv) ∧
  ((decide ((0 : Int) < ((l_n : Nat) : Int))) = false →
    R (.bool false) w)
theorem impl_PlanDone_eq (l_p : Option Addr) (l_n : Nat) (l_c : Nat) (w : World) (R : Value → World → Prop) : impl_PlanDone l_p l_n l_c w R = fsem P Try.f19 (fun k => []) [(.slice l_p l_n l_c)] R w := by kernel_rfl
theorem impl_PlanDone_ret {l_p : Option Addr} {l_n : Nat} {l_c : Nat} {w : World} {R : Value → World → Prop} (h : impl_PlanDone l_p l_n l_c w R) : Ret P 19 [(.slice l_p l_n l_c)] w R :=
  Ret.of_fsem Try.func19 rfl (Eq.mp (impl_PlanDone_eq l_p l_n l_c w R) h)

def spec_BookSame (b0_p : Option Addr) (b0_n : Nat) (b0_c : Nat) (o0_p : Option Addr) (o0_n : Nat) (o0_c : Nat) (w : World) (R : Value → World → Prop) : Prop :=
  ∀ (r : Nat) (wv : World), New w (.cells ⟨[(.slice b0_p b0_n b0_c)]⟩ 42 (0, 0)) r wv →
  ∀ (r_1 : Nat) (wv_1 : World), New wv (.cells ⟨[(.slice o0_p o0_n o0_c)]⟩ 42 (0, 0)) r_1 wv_1 →
  ∃ (t8_p : Option Addr) (t8_n : Nat) (t8_c : Nat), Loads P 40 ((⟨r, 0, none⟩ : Addr).add 0) (.slice t8_p t8_n t8_c) wv_1 ∧ ∃ (t11_p : Option Addr) (t11_n : Nat) (t11_c : Nat), Loads P 40 ((⟨r_1, 0, none⟩ : Addr).add 0) (.slice t11_p t11_n t11_c) wv_1 ∧ ((decide ((((t8_n : Nat) : Int) : Int) ≠ ((t11_n : Nat) : Int))) = true →
    R (.bool false) wv_1) ∧
  ((decide ((((t8_n : Nat) : Int) : Int) ≠ ((t11_n : Nat) : Int))) = false →
    ∃ (t15_p : Option Addr) (t15_n : Nat) (t15_c : Nat), Loads P 40 ((⟨r, 0, none⟩ : Addr).add 0) (.slice t15_p t15_n t15_c) wv_1 ∧ ∃ (Inv : Int → World → Prop) (mu : Int → World → Nat), Inv 0 wv_1 ∧
    ∀ (junk : Fr) (wv_2 : World) (t17 : Int), Inv t17 wv_2 →
      ((decide ((t17 : Int) < ((t15_n : Nat) : Int))) = true →
        (0 ≤ (t17 : Int) ∧ (t17 : Int) < (t15_n : Nat)) ∧ ptrS t15_p fun ad => ∃ (t210 : ByteArray) (t211 : ByteArray) (t212 : Bool) (t213_p : Option Addr) (t213_n : Nat) (t213_c : Nat), Loads P 113 (ad.add (t17.toNat * 4)) (.agg #[(.string t210), (.string t211), (.bool t212), (.slice t213_p t213_n t213_c)]) wv_2 ∧ ∀ (r_2 : Nat) (wv_3 : World), New wv_2 (.cells ⟨[(.string ByteArray.empty), (.string ByteArray.empty), (.bool false), (.slice none 0 0)]⟩ 113 (0, 0)) r_2 wv_3 →
        ∃ wv_4, Stores P 113 ⟨r_2, 0, none⟩ (.agg #[(.string t210), (.string t211), (.bool t212), (.slice t213_p t213_n t213_c)]) wv_3 wv_4 ∧
        ∃ (t23 : ByteArray), (∀ wv_5, Ext wv_4.drew wv_5 → Loads P 9 ((⟨r_2, 0, none⟩ : Addr).add 0) (.string t23) wv_5) ∧ ∃ (t25_p : Option Addr) (t25_n : Nat) (t25_c : Nat), (∀ wv_6, Ext wv_4.drew wv_6 → Loads P 40 ((⟨r_1, 0, none⟩ : Addr).add 0) (.slice t25_p t25_n t25_c) wv_6) ∧ (0 ≤ (t17 : Int) ∧ (t17 : Int) < (t25_n : Nat)) ∧ ptrS t25_p fun ad_1 => ∃ (t29 : ByteArray), (∀ wv_7, Ext wv_4.drew wv_7 → Loads P 9 ((ad_1.add (t17.toNat * 4)).add 0) (.string t29) wv_7) ∧ ((decide (t23 ≠ t29)) = true →
          (true = true →
            R (.bool false) wv_4.drew) ∧
          (true = false →
            ∃ t43 : Int, t43 = IntKind.wrap .i64 (t17 + 1) ∧ Inv t43 wv_4.drew ∧ mu t43 wv_4.drew < mu t17 wv_2)) ∧
        ((decide (t23 ≠ t29)) = false →
          ∃ (t330 : ByteArray) (t331 : Bool) (t332_p : Option Addr) (t332_n : Nat) (t332_c : Nat), (∀ wv_8, Ext wv_4.drew wv_8 → Loads P 56 ((⟨r_2, 0, none⟩ : Addr).add 1) (.agg #[(.string t330), (.bool t331), (.slice t332_p t332_n t332_c)]) wv_8) ∧ ∃ (t35_p : Option Addr) (t35_n : Nat) (t35_c : Nat), (∀ wv_9, Ext wv_4.drew wv_9 → Loads P 40 ((⟨r_1, 0, none⟩ : Addr).add 0) (.slice t35_p t35_n t35_c) wv_9) ∧ (0 ≤ (t17 : Int) ∧ (t17 : Int) < (t35_n : Nat)) ∧ ptrS t35_p fun ad_2 => ∃ (t390 : ByteArray) (t391 : Bool) (t392_p : Option Addr) (t392_n : Nat) (t392_c : Nat), (∀ wv_10, Ext wv_4.drew wv_10 → Loads P 56 ((ad_2.add (t17.toNat * 4)).add 1) (.agg #[(.string t390), (.bool t391), (.slice t392_p t392_n t392_c)]) wv_10) ∧ Calls P 68 ⟨[(.agg #[(.string t330), (.bool t331), (.slice t332_p t332_n t332_c)]), (.agg #[(.string t390), (.bool t391), (.slice t392_p t392_n t392_c)])]⟩ wv_4.drew fun e wv_11 =>
          ∃ (t40 : Bool), e = .returned (.bool t40) ∧
          ((!t40) = true →
            R (.bool false) wv_11) ∧
          ((!t40) = false →
            ∃ t43_1 : Int, t43_1 = IntKind.wrap .i64 (t17 + 1) ∧ Inv t43_1 wv_11 ∧ mu t43_1 wv_11 < mu t17 wv_2))) ∧
      ((decide ((t17 : Int) < ((t15_n : Nat) : Int))) = false →
        R (.bool true) wv_2))
theorem spec_BookSame_eq (b0_p : Option Addr) (b0_n : Nat) (b0_c : Nat) (o0_p : Option Addr) (o0_n : Nat) (o0_c : Nat) (w : World) (R : Value → World → Prop) : spec_BookSame b0_p b0_n b0_c o0_p o0_n o0_c w R = fsem P Try.f22 (fun k => cond (Nat.beq k 5) [(17, .one (.int .i64))] ([])) [(.agg #[(.slice b0_p b0_n b0_c)]), (.agg #[(.slice o0_p o0_n o0_c)])] R w := by kernel_rfl
theorem spec_BookSame_ret {b0_p : Option Addr} {b0_n : Nat} {b0_c : Nat} {o0_p : Option Addr} {o0_n : Nat} {o0_c : Nat} {w : World} {R : Value → World → Prop} (h : spec_BookSame b0_p b0_n b0_c o0_p o0_n o0_c w R) : Ret P 22 [(.agg #[(.slice b0_p b0_n b0_c)]), (.agg #[(.slice o0_p o0_n o0_c)])] w R :=
  Ret.of_fsem Try.func22 rfl (Eq.mp (spec_BookSame_eq b0_p b0_n b0_c o0_p o0_n o0_c w R) h)

def impl_BookSame (b0_p : Option Addr) (b0_n : Nat) (b0_c : Nat) (o0_p : Option Addr) (o0_n : Nat) (o0_c : Nat) (w : World) (R : Value → World → Prop) : Prop :=
  ∀ (r : Nat) (wv : World), New w (.cells ⟨[(.slice b0_p b0_n b0_c)]⟩ 42 (0, 0)) r wv →
  ∀ (r_1 : Nat) (wv_1 : World), New wv (.cells ⟨[(.slice o0_p o0_n o0_c)]⟩ 42 (0, 0)) r_1 wv_1 →
  ∃ (t6_p : Option Addr) (t6_n : Nat) (t6_c : Nat), Loads P 40 ((⟨r, 0, none⟩ : Addr).add 0) (.slice t6_p t6_n t6_c) wv_1 ∧ ∃ (t8_p : Option Addr) (t8_n : Nat) (t8_c : Nat), Loads P 40 ((⟨r_1, 0, none⟩ : Addr).add 0) (.slice t8_p t8_n t8_c) wv_1 ∧ Calls P 70 ⟨[(.slice t6_p t6_n t6_c), (.slice t8_p t8_n t8_c), (.func (.func 71) #[] #[])]⟩ wv_1 fun e wv_2 =>
  ∃ (t9 : Bool), e = .returned (.bool t9) ∧
  R (.bool t9) wv_2
theorem impl_BookSame_eq (b0_p : Option Addr) (b0_n : Nat) (b0_c : Nat) (o0_p : Option Addr) (o0_n : Nat) (o0_c : Nat) (w : World) (R : Value → World → Prop) : impl_BookSame b0_p b0_n b0_c o0_p o0_n o0_c w R = fsem P Try.f24 (fun k => []) [(.agg #[(.slice b0_p b0_n b0_c)]), (.agg #[(.slice o0_p o0_n o0_c)])] R w := by kernel_rfl
theorem impl_BookSame_ret {b0_p : Option Addr} {b0_n : Nat} {b0_c : Nat} {o0_p : Option Addr} {o0_n : Nat} {o0_c : Nat} {w : World} {R : Value → World → Prop} (h : impl_BookSame b0_p b0_n b0_c o0_p o0_n o0_c w R) : Ret P 24 [(.agg #[(.slice b0_p b0_n b0_c)]), (.agg #[(.slice o0_p o0_n o0_c)])] w R :=
  Ret.of_fsem Try.func24 rfl (Eq.mp (impl_BookSame_eq b0_p b0_n b0_c o0_p o0_n o0_c w R) h)

def spec_RestOf (l_p : Option Addr) (l_n : Nat) (l_c : Nat) (cur : ByteArray) (w : World) (R : Value → World → Prop) : Prop :=
  ∀ (r : Nat) (wv : World), New w (.cells ⟨[(.bool false), (.slice none 0 0), (.slice none 0 0)]⟩ 49 (0, 0)) r wv →
  ∃ (Inv : Int → World → Prop) (mu : Int → World → Nat), Inv 0 wv ∧
  ∀ (junk : Fr) (wv_1 : World) (t9 : Int), Inv t9 wv_1 →
    ((decide ((t9 : Int) < ((l_n : Nat) : Int))) = true →
      (0 ≤ (t9 : Int) ∧ (t9 : Int) < (l_n : Nat)) ∧ ptrS l_p fun ad => ∃ (t120 : ByteArray) (t121 : Bool) (t122_p : Option Addr) (t122_n : Nat) (t122_c : Nat) (t123_p : Option Addr) (t123_n : Nat) (t123_c : Nat), Loads P 93 (ad.add (t9.toNat * 4)) (.agg #[(.string t120), (.bool t121), (.slice t122_p t122_n t122_c), (.slice t123_p t123_n t123_c)]) wv_1 ∧ ∀ (r_1 : Nat) (wv_2 : World), New wv_1 (.cells ⟨[(.string ByteArray.empty), (.bool false), (.slice none 0 0), (.slice none 0 0)]⟩ 93 (0, 0)) r_1 wv_2 →
      ∃ wv_3, Stores P 93 ⟨r_1, 0, none⟩ (.agg #[(.string t120), (.bool t121), (.slice t122_p t122_n t122_c), (.slice t123_p t123_n t123_c)]) wv_2 wv_3 ∧
      ∃ (t14 : ByteArray), Loads P 9 ((⟨r_1, 0, none⟩ : Addr).add 0) (.string t14) wv_3 ∧ ((decide (t14 = cur)) = true →
        ∃ (t180 : Bool) (t181_p : Option Addr) (t181_n : Nat) (t181_c : Nat) (t182_p : Option Addr) (t182_n : Nat) (t182_c : Nat), Loads P 49 ((⟨r_1, 0, none⟩ : Addr).add 1) (.agg #[(.bool t180), (.slice t181_p t181_n t181_c), (.slice t182_p t182_n t182_c)]) wv_3 ∧ Calls P 74 ⟨[(.agg #[(.bool t180), (.slice t181_p t181_n t181_c), (.slice t182_p t182_n t182_c)])]⟩ wv_3 fun e wv_4 =>
        ∃ (t190 : Bool) (t191_p : Option Addr) (t191_n : Nat) (t191_c : Nat) (t192_p : Option Addr) (t192_n : Nat) (t192_c : Nat), e = .returned (.agg #[(.bool t190), (.slice t191_p t191_n t191_c), (.slice t192_p t192_n t192_c)]) ∧
        ∃ wv_5, Stores P 49 ⟨r, 0, none⟩ (.agg #[(.bool t190), (.slice t191_p t191_n t191_c), (.slice t192_p t192_n t192_c)]) wv_4 wv_5 ∧
        ∃ (r0 : Bool) (r1_p : Option Addr) (r1_n : Nat) (r1_c : Nat) (r2_p : Option Addr) (r2_n : Nat) (r2_c : Nat), Loads P 49 ⟨r, 0, none⟩ (.agg #[(.bool r0), (.slice r1_p r1_n r1_c), (.slice r2_p r2_n r2_c)]) wv_5 ∧ R (.agg #[(.bool r0), (.slice r1_p r1_n r1_c), (.slice r2_p r2_n r2_c)]) wv_5) ∧
      ((decide (t14 = cur)) = false →
        ∃ t20 : Int, t20 = IntKind.wrap .i64 (t9 + 1) ∧ Inv t20 wv_3 ∧ mu t20 wv_3 < mu t9 wv_1)) ∧
    ((decide ((t9 : Int) < ((l_n : Nat) : Int))) = false →
      Calls P 75 ⟨[]⟩ wv_1 fun e_1 wv_6 =>
      ∃ (t210 : Bool) (t211_p : Option Addr) (t211_n : Nat) (t211_c : Nat) (t212_p : Option Addr) (t212_n : Nat) (t212_c : Nat), e_1 = .returned (.agg #[(.bool t210), (.slice t211_p t211_n t211_c), (.slice t212_p t212_n t212_c)]) ∧
      ∃ wv_7, Stores P 49 ⟨r, 0, none⟩ (.agg #[(.bool t210), (.slice t211_p t211_n t211_c), (.slice t212_p t212_n t212_c)]) wv_6 wv_7 ∧
      ∃ (r0_1 : Bool) (r1_p_1 : Option Addr) (r1_n_1 : Nat) (r1_c_1 : Nat) (r2_p_1 : Option Addr) (r2_n_1 : Nat) (r2_c_1 : Nat), Loads P 49 ⟨r, 0, none⟩ (.agg #[(.bool r0_1), (.slice r1_p_1 r1_n_1 r1_c_1), (.slice r2_p_1 r2_n_1 r2_c_1)]) wv_7 ∧ R (.agg #[(.bool r0_1), (.slice r1_p_1 r1_n_1 r1_c_1), (.slice r2_p_1 r2_n_1 r2_c_1)]) wv_7)
theorem spec_RestOf_eq (l_p : Option Addr) (l_n : Nat) (l_c : Nat) (cur : ByteArray) (w : World) (R : Value → World → Prop) : spec_RestOf l_p l_n l_c cur w R = fsem P Try.f26 (fun k => cond (Nat.beq k 3) [(9, .one (.int .i64))] ([])) [(.slice l_p l_n l_c), (.string cur)] R w := by kernel_rfl
theorem spec_RestOf_ret {l_p : Option Addr} {l_n : Nat} {l_c : Nat} {cur : ByteArray} {w : World} {R : Value → World → Prop} (h : spec_RestOf l_p l_n l_c cur w R) : Ret P 26 [(.slice l_p l_n l_c), (.string cur)] w R :=
  Ret.of_fsem Try.func26 rfl (Eq.mp (spec_RestOf_eq l_p l_n l_c cur w R) h)

def impl_RestOf (l_p : Option Addr) (l_n : Nat) (l_c : Nat) (cur : ByteArray) (w : World) (R : Value → World → Prop) : Prop :=
  ∀ (r : Nat) (wv : World), New w (.cells ⟨[(.bool false), (.slice none 0 0), (.slice none 0 0)]⟩ 49 (0, 0)) r wv →
  ∃ (Inv : Int → World → Prop) (mu : Int → World → Nat), Inv 0 wv ∧
  ∀ (junk : Fr) (wv_1 : World) (t9 : Int), Inv t9 wv_1 →
    ((decide ((t9 : Int) < ((l_n : Nat) : Int))) = true →
      (0 ≤ (t9 : Int) ∧ (t9 : Int) < (l_n : Nat)) ∧ ptrS l_p fun ad => ∃ (t120 : ByteArray) (t121 : Bool) (t122_p : Option Addr) (t122_n : Nat) (t122_c : Nat) (t123_p : Option Addr) (t123_n : Nat) (t123_c : Nat), Loads P 93 (ad.add (t9.toNat * 4)) (.agg #[(.string t120), (.bool t121), (.slice t122_p t122_n t122_c), (.slice t123_p t123_n t123_c)]) wv_1 ∧ ∀ (r_1 : Nat) (wv_2 : World), New wv_1 (.cells ⟨[(.string ByteArray.empty), (.bool false), (.slice none 0 0), (.slice none 0 0)]⟩ 93 (0, 0)) r_1 wv_2 →
      ∃ wv_3, Stores P 93 ⟨r_1, 0, none⟩ (.agg #[(.string t120), (.bool t121), (.slice t122_p t122_n t122_c), (.slice t123_p t123_n t123_c)]) wv_2 wv_3 ∧
      ∃ (t14 : ByteArray), Loads P 9 ((⟨r_1, 0, none⟩ : Addr).add 0) (.string t14) wv_3 ∧ ((decide (t14 = cur)) = true →
        ∃ (t180 : Bool) (t181_p : Option Addr) (t181_n : Nat) (t181_c : Nat) (t182_p : Option Addr) (t182_n : Nat) (t182_c : Nat), Loads P 49 ((⟨r_1, 0, none⟩ : Addr).add 1) (.agg #[(.bool t180), (.slice t181_p t181_n t181_c), (.slice t182_p t182_n t182_c)]) wv_3 ∧ Calls P 76 ⟨[(.agg #[(.bool t180), (.slice t181_p t181_n t181_c), (.slice t182_p t182_n t182_c)])]⟩ wv_3 fun e wv_4 =>
        ∃ (t190 : Bool) (t191_p : Option Addr) (t191_n : Nat) (t191_c : Nat) (t192_p : Option Addr) (t192_n : Nat) (t192_c : Nat), e = .returned (.agg #[(.bool t190), (.slice t191_p t191_n t191_c), (.slice t192_p t192_n t192_c)]) ∧
        ∃ wv_5, Stores P 49 ⟨r, 0, none⟩ (.agg #[(.bool t190), (.slice t191_p t191_n t191_c), (.slice t192_p t192_n t192_c)]) wv_4 wv_5 ∧
        ∃ (r0 : Bool) (r1_p : Option Addr) (r1_n : Nat) (r1_c : Nat) (r2_p : Option Addr) (r2_n : Nat) (r2_c : Nat), Loads P 49 ⟨r, 0, none⟩ (.agg #[(.bool r0), (.slice r1_p r1_n r1_c), (.slice r2_p r2_n r2_c)]) wv_5 ∧ R (.agg #[(.bool r0), (.slice r1_p r1_n r1_c), (.slice r2_p r2_n r2_c)]) wv_5) ∧
      ((decide (t14 = cur)) = false →
        ∃ t20 : Int, t20 = IntKind.wrap .i64 (t9 + 1) ∧ Inv t20 wv_3 ∧ mu t20 wv_3 < mu t9 wv_1)) ∧
    ((decide ((t9 : Int) < ((l_n : Nat) : Int))) = false →
      Calls P 77 ⟨[]⟩ wv_1 fun e_1 wv_6 =>
      ∃ (t210 : Bool) (t211_p : Option Addr) (t211_n : Nat) (t211_c : Nat) (t212_p : Option Addr) (t212_n : Nat) (t212_c : Nat), e_1 = .returned (.agg #[(.bool t210), (.slice t211_p t211_n t211_c), (.slice t212_p t212_n t212_c)]) ∧
      ∃ wv_7, Stores P 49 ⟨r, 0, none⟩ (.agg #[(.bool t210), (.slice t211_p t211_n t211_c), (.slice t212_p t212_n t212_c)]) wv_6 wv_7 ∧
      ∃ (r0_1 : Bool) (r1_p_1 : Option Addr) (r1_n_1 : Nat) (r1_c_1 : Nat) (r2_p_1 : Option Addr) (r2_n_1 : Nat) (r2_c_1 : Nat), Loads P 49 ⟨r, 0, none⟩ (.agg #[(.bool r0_1), (.slice r1_p_1 r1_n_1 r1_c_1), (.slice r2_p_1 r2_n_1 r2_c_1)]) wv_7 ∧ R (.agg #[(.bool r0_1), (.slice r1_p_1 r1_n_1 r1_c_1), (.slice r2_p_1 r2_n_1 r2_c_1)]) wv_7)
theorem impl_RestOf_eq (l_p : Option Addr) (l_n : Nat) (l_c : Nat) (cur : ByteArray) (w : World) (R : Value → World → Prop) : impl_RestOf l_p l_n l_c cur w R = fsem P Try.f27 (fun k => cond (Nat.beq k 3) [(9, .one (.int .i64))] ([])) [(.slice l_p l_n l_c), (.string cur)] R w := by kernel_rfl
theorem impl_RestOf_ret {l_p : Option Addr} {l_n : Nat} {l_c : Nat} {cur : ByteArray} {w : World} {R : Value → World → Prop} (h : impl_RestOf l_p l_n l_c cur w R) : Ret P 27 [(.slice l_p l_n l_c), (.string cur)] w R :=
  Ret.of_fsem Try.func27 rfl (Eq.mp (impl_RestOf_eq l_p l_n l_c cur w R) h)

def spec_BalanceOf (b0_p : Option Addr) (b0_n : Nat) (b0_c : Nat) (name : ByteArray) (w : World) (R : Value → World → Prop) : Prop :=
  ∀ (r : Nat) (wv : World), New w (.cells ⟨[(.slice b0_p b0_n b0_c)]⟩ 42 (0, 0)) r wv →
  ∀ (r_1 : Nat) (wv_1 : World), New wv (.cells ⟨[(.string ByteArray.empty), (.bool false), (.slice none 0 0)]⟩ 56 (0, 0)) r_1 wv_1 →
  ∃ (t70_p : Option Addr) (t70_n : Nat) (t70_c : Nat), Loads P 42 ⟨r, 0, none⟩ (.agg #[(.slice t70_p t70_n t70_c)]) wv_1 ∧ Calls P 85 ⟨[(.agg #[(.slice t70_p t70_n t70_c)]), (.string name)]⟩ wv_1 fun e wv_2 =>
  ∃ (t9 : Int), e = .returned (.int .i64 t9) ∧
  ((decide ((t9 : Int) < 0)) = true →
    ∃ wv_3, Stores P 56 ⟨r_1, 0, none⟩ (.agg #[(.string ByteArray.empty), (.bool false), (.slice none 0 0)]) wv_2 wv_3 ∧
    ∃ (r0 : ByteArray) (r1 : Bool) (r2_p : Option Addr) (r2_n : Nat) (r2_c : Nat), Loads P 56 ⟨r_1, 0, none⟩ (.agg #[(.string r0), (.bool r1), (.slice r2_p r2_n r2_c)]) wv_3 ∧ R (.tuple #[(.agg #[(.string r0), (.bool r1), (.slice r2_p r2_n r2_c)]), (.bool false)]) wv_3) ∧
  ((decide ((t9 : Int) < 0)) = false →
    ∃ (t14_p : Option Addr) (t14_n : Nat) (t14_c : Nat), Loads P 40 ((⟨r, 0, none⟩ : Addr).add 0) (.slice t14_p t14_n t14_c) wv_2 ∧ (0 ≤ (t9 : Int) ∧ (t9 : Int) < (t14_n : Nat)) ∧ ptrS t14_p fun ad => ∃ (t180 : ByteArray) (t181 : Bool) (t182_p : Option Addr) (t182_n : Nat) (t182_c : Nat), Loads P 56 ((ad.add (t9.toNat * 4)).add 1) (.agg #[(.string t180), (.bool t181), (.slice t182_p t182_n t182_c)]) wv_2 ∧ Calls P 86 ⟨[(.agg #[(.string t180), (.bool t181), (.slice t182_p t182_n t182_c)])]⟩ wv_2 fun e_1 wv_4 =>
    ∃ (t190 : ByteArray) (t191 : Bool) (t192_p : Option Addr) (t192_n : Nat) (t192_c : Nat), e_1 = .returned (.agg #[(.string t190), (.bool t191), (.slice t192_p t192_n t192_c)]) ∧
    ∃ wv_5, Stores P 56 ⟨r_1, 0, none⟩ (.agg #[(.string t190), (.bool t191), (.slice t192_p t192_n t192_c)]) wv_4 wv_5 ∧
    ∃ (r0_1 : ByteArray) (r1_1 : Bool) (r2_p_1 : Option Addr) (r2_n_1 : Nat) (r2_c_1 : Nat), Loads P 56 ⟨r_1, 0, none⟩ (.agg #[(.string r0_1), (.bool r1_1), (.slice r2_p_1 r2_n_1 r2_c_1)]) wv_5 ∧ R (.tuple #[(.agg #[(.string r0_1), (.bool r1_1), (.slice r2_p_1 r2_n_1 r2_c_1)]), (.bool true)]) wv_5)
theorem spec_BalanceOf_eq (b0_p : Option Addr) (b0_n : Nat) (b0_c : Nat) (name : ByteArray) (w : World) (R : Value → World → Prop) : spec_BalanceOf b0_p b0_n b0_c name w R = fsem P Try.f32 (fun k => []) [(.agg #[(.slice b0_p b0_n b0_c)]), (.string name)] R w := by kernel_rfl
theorem spec_BalanceOf_ret {b0_p : Option Addr} {b0_n : Nat} {b0_c : Nat} {name : ByteArray} {w : World} {R : Value → World → Prop} (h : spec_BalanceOf b0_p b0_n b0_c name w R) : Ret P 32 [(.agg #[(.slice b0_p b0_n b0_c)]), (.string name)] w R :=
  Ret.of_fsem Try.func32 rfl (Eq.mp (spec_BalanceOf_eq b0_p b0_n b0_c name w R) h)

def impl_BalanceOf (b0_p : Option Addr) (b0_n : Nat) (b0_c : Nat) (name : ByteArray) (w : World) (R : Value → World → Prop) : Prop :=
  ∀ (r : Nat) (wv : World), New w (.cells ⟨[(.slice b0_p b0_n b0_c)]⟩ 42 (0, 0)) r wv →
  ∀ (r_1 : Nat) (wv_1 : World), New wv (.cells ⟨[(.string ByteArray.empty), (.bool false), (.slice none 0 0)]⟩ 56 (0, 0)) r_1 wv_1 →
  ∃ (t70_p : Option Addr) (t70_n : Nat) (t70_c : Nat), Loads P 42 ⟨r, 0, none⟩ (.agg #[(.slice t70_p t70_n t70_c)]) wv_1 ∧ Calls P 87 ⟨[(.agg #[(.slice t70_p t70_n t70_c)]), (.string name)]⟩ wv_1 fun e wv_2 =>
  ∃ (t9 : Int), e = .returned (.int .i64 t9) ∧
  ((decide ((t9 : Int) < 0)) = true →
    ∃ wv_3, Stores P 56 ⟨r_1, 0, none⟩ (.agg #[(.string ByteArray.empty), (.bool false), (.slice none 0 0)]) wv_2 wv_3 ∧
    ∃ (r0 : ByteArray) (r1 : Bool) (r2_p : Option Addr) (r2_n : Nat) (r2_c : Nat), Loads P 56 ⟨r_1, 0, none⟩ (.agg #[(.string r0), (.bool r1), (.slice r2_p r2_n r2_c)]) wv_3 ∧ R (.tuple #[(.agg #[(.string r0), (.bool r1), (.slice r2_p r2_n r2_c)]), (.bool false)]) wv_3) ∧
  ((decide ((t9 : Int) < 0)) = false →
    ∃ (t14_p : Option Addr) (t14_n : Nat) (t14_c : Nat), Loads P 40 ((⟨r, 0, none⟩ : Addr).add 0) (.slice t14_p t14_n t14_c) wv_2 ∧ (0 ≤ (t9 : Int) ∧ (t9 : Int) < (t14_n : Nat)) ∧ ptrS t14_p fun ad => ∃ (t180 : ByteArray) (t181 : Bool) (t182_p : Option Addr) (t182_n : Nat) (t182_c : Nat), Loads P 56 ((ad.add (t9.toNat * 4)).add 1) (.agg #[(.string t180), (.bool t181), (.slice t182_p t182_n t182_c)]) wv_2 ∧ Calls P 88 ⟨[(.agg #[(.string t180), (.bool t181), (.slice t182_p t182_n t182_c)])]⟩ wv_2 fun e_1 wv_4 =>
    ∃ (t190 : ByteArray) (t191 : Bool) (t192_p : Option Addr) (t192_n : Nat) (t192_c : Nat), e_1 = .returned (.agg #[(.string t190), (.bool t191), (.slice t192_p t192_n t192_c)]) ∧
    ∃ wv_5, Stores P 56 ⟨r_1, 0, none⟩ (.agg #[(.string t190), (.bool t191), (.slice t192_p t192_n t192_c)]) wv_4 wv_5 ∧
    ∃ (r0_1 : ByteArray) (r1_1 : Bool) (r2_p_1 : Option Addr) (r2_n_1 : Nat) (r2_c_1 : Nat), Loads P 56 ⟨r_1, 0, none⟩ (.agg #[(.string r0_1), (.bool r1_1), (.slice r2_p_1 r2_n_1 r2_c_1)]) wv_5 ∧ R (.tuple #[(.agg #[(.string r0_1), (.bool r1_1), (.slice r2_p_1 r2_n_1 r2_c_1)]), (.bool true)]) wv_5)
theorem impl_BalanceOf_eq (b0_p : Option Addr) (b0_n : Nat) (b0_c : Nat) (name : ByteArray) (w : World) (R : Value → World → Prop) : impl_BalanceOf b0_p b0_n b0_c name w R = fsem P Try.f33 (fun k => []) [(.agg #[(.slice b0_p b0_n b0_c)]), (.string name)] R w := by kernel_rfl
theorem impl_BalanceOf_ret {b0_p : Option Addr} {b0_n : Nat} {b0_c : Nat} {name : ByteArray} {w : World} {R : Value → World → Prop} (h : impl_BalanceOf b0_p b0_n b0_c name w R) : Ret P 33 [(.agg #[(.slice b0_p b0_n b0_c)]), (.string name)] w R :=
  Ret.of_fsem Try.func33 rfl (Eq.mp (impl_BalanceOf_eq b0_p b0_n b0_c name w R) h)

def spec_TaxRateOk (r0 : Bool) (r1_p : Option Addr) (r1_n : Nat) (r1_c : Nat) (r2 : Int) (w : World) (R : Value → World → Prop) : Prop :=
  ∀ (r : Nat) (wv : World), New w (.cells ⟨[(.bool r0), (.slice r1_p r1_n r1_c), (.int .i64 r2)]⟩ 69 (0, 0)) r wv →
  ∃ (t30 : Bool) (t31_p : Option Addr) (t31_n : Nat) (t31_c : Nat) (t32 : Int), (∀ wv_1, Ext wv.drew wv_1 → Loads P 69 ⟨r, 0, none⟩ (.agg #[(.bool t30), (.slice t31_p t31_n t31_c), (.int .i64 t32)]) wv_1) ∧ Calls P 91 ⟨[(.agg #[(.bool t30), (.slice t31_p t31_n t31_c), (.int .i64 t32)])]⟩ wv.drew fun e wv_2 =>
  ∃ (t4 : Bool), e = .returned (.bool t4) ∧
  (t4 = true →
    ∃ (t8 : Bool), (∀ wv_3, Ext wv_2 wv_3 → Loads P 4 (((⟨r, 0, none⟩ : Addr).add 0).add 0) (.bool t8) wv_3) ∧ ((!t8) = true →
      ∃ (t14_p : Option Addr) (t14_n : Nat) (t14_c : Nat), (∀ wv_4, Ext wv_2 wv_4 → Loads P 45 (((⟨r, 0, none⟩ : Addr).add 0).add 1) (.slice t14_p t14_n t14_c) wv_4) ∧ ((decide ((((t14_n : Nat) : Int) : Int) ≤ 1)) = true →
        ∃ (t190 : Bool) (t191_p : Option Addr) (t191_n : Nat) (t191_c : Nat) (t192 : Int), (∀ wv_5, Ext wv_2 wv_5 → Loads P 69 ⟨r, 0, none⟩ (.agg #[(.bool t190), (.slice t191_p t191_n t191_c), (.int .i64 t192)]) wv_5) ∧ Calls P 93 ⟨[(.int .i64 1)]⟩ wv_2 fun e_1 wv_6 =>
        ∃ (t200 : Bool) (t201_p : Option Addr) (t201_n : Nat) (t201_c : Nat), e_1 = .returned (.agg #[(.bool t200), (.slice t201_p t201_n t201_c)]) ∧
        Ext wv_2 wv_6 ∧ Calls P 92 ⟨[(.agg #[(.bool t190), (.slice t191_p t191_n t191_c), (.int .i64 t192)]), (.agg #[(.bool t200), (.slice t201_p t201_n t201_c), (.int .i64 0)])]⟩ wv_6 fun e_2 wv_7 =>
        ∃ (t22 : Int), e_2 = .returned (.int .i64 t22) ∧
        R (.bool (decide ((t22 : Int) ≤ 0))) wv_7) ∧
      ((decide ((((t14_n : Nat) : Int) : Int) ≤ 1)) = false →
        R (.bool false) wv_2)) ∧
    ((!t8) = false →
      (false = true →
        ∃ (t190_1 : Bool) (t191_p_1 : Option Addr) (t191_n_1 : Nat) (t191_c_1 : Nat) (t192_1 : Int), (∀ wv_8, Ext wv_2 wv_8 → Loads P 69 ⟨r, 0, none⟩ (.agg #[(.bool t190_1), (.slice t191_p_1 t191_n_1 t191_c_1), (.int .i64 t192_1)]) wv_8) ∧ Calls P 93 ⟨[(.int .i64 1)]⟩ wv_2 fun e_3 wv_9 =>
        ∃ (t200_1 : Bool) (t201_p_1 : Option Addr) (t201_n_1 : Nat) (t201_c_1 : Nat), e_3 = .returned (.agg #[(.bool t200_1), (.slice t201_p_1 t201_n_1 t201_c_1)]) ∧
        Ext wv_2 wv_9 ∧ Calls P 92 ⟨[(.agg #[(.bool t190_1), (.slice t191_p_1 t191_n_1 t191_c_1), (.int .i64 t192_1)]), (.agg #[(.bool t200_1), (.slice t201_p_1 t201_n_1 t201_c_1), (.int .i64 0)])]⟩ wv_9 fun e_4 wv_10 =>
        ∃ (t22_1 : Int), e_4 = .returned (.int .i64 t22_1) ∧
        R (.bool (decide ((t22_1 : Int) ≤ 0))) wv_10) ∧
      (false = false →
        R (.bool false) wv_2))) ∧
  (t4 = false →
    (false = true →
      ∃ (t14_p_1 : Option Addr) (t14_n_1 : Nat) (t14_c_1 : Nat), (∀ wv_11, Ext wv_2 wv_11 → Loads P 45 (((⟨r, 0, none⟩ : Addr).add 0).add 1) (.slice t14_p_1 t14_n_1 t14_c_1) wv_11) ∧ ((decide ((((t14_n_1 : Nat) : Int) : Int) ≤ 1)) = true →
        ∃ (t190_2 : Bool) (t191_p_2 : Option Addr) (t191_n_2 : Nat) (t191_c_2 : Nat) (t192_2 : Int), (∀ wv_12, Ext wv_2 wv_12 → Loads P 69 ⟨r, 0, none⟩ (.agg #[(.bool t190_2), (.slice t191_p_2 t191_n_2 t191_c_2), (.int .i64 t192_2)]) wv_12) ∧ Calls P 93 ⟨[(.int .i64 1)]⟩ wv_2 fun e_5 wv_13 =>
        ∃ (t200_2 : Bool) (t201_p_2 : Option Addr) (t201_n_2 : Nat) (t201_c_2 : Nat), e_5 = .returned (.agg #[(.bool t200_2), (.slice t201_p_2 t201_n_2 t201_c_2)]) ∧
        Ext wv_2 wv_13 ∧ Calls P 92 ⟨[(.agg #[(.bool t190_2), (.slice t191_p_2 t191_n_2 t191_c_2), (.int .i64 t192_2)]), (.agg #[(.bool t200_2), (.slice t201_p_2 t201_n_2 t201_c_2), (.int .i64 0)])]⟩ wv_13 fun e_6 wv_14 =>
        ∃ (t22_2 : Int), e_6 = .returned (.int .i64 t22_2) ∧
        R (.bool (decide ((t22_2 : Int) ≤ 0))) wv_14) ∧
      ((decide ((((t14_n_1 : Nat) : Int) : Int) ≤ 1)) = false →
        R (.bool false) wv_2)) ∧
    (false = false →
      (false = true →
        ∃ (t190_3 : Bool) (t191_p_3 : Option Addr) (t191_n_3 : Nat) (t191_c_3 : Nat) (t192_3 : Int), (∀ wv_15, Ext wv_2 wv_15 → Loads P 69 ⟨r, 0, none⟩ (.agg #[(.bool t190_3), (.slice t191_p_3 t191_n_3 t191_c_3), (.int .i64 t192_3)]) wv_15) ∧ Calls P 93 ⟨[(.int .i64 1)]⟩ wv_2 fun e_7 wv_16 =>
        ∃ (t200_3 : Bool) (t201_p_3 : Option Addr) (t201_n_3 : Nat) (t201_c_3 : Nat), e_7 = .returned (.agg #[(.bool t200_3), (.slice t201_p_3 t201_n_3 t201_c_3)]) ∧
        Ext wv_2 wv_16 ∧ Calls P 92 ⟨[(.agg #[(.bool t190_3), (.slice t191_p_3 t191_n_3 t191_c_3), (.int .i64 t192_3)]), (.agg #[(.bool t200_3), (.slice t201_p_3 t201_n_3 t201_c_3), (.int .i64 0)])]⟩ wv_16 fun e_8 wv_17 =>
        ∃ (t22_3 : Int), e_8 = .returned (.int .i64 t22_3) ∧
        R (.bool (decide ((t22_3 : Int) ≤ 0))) wv_17) ∧
      (false = false →
        R (.bool false) wv_2)))
theorem spec_TaxRateOk_eq (r0 : Bool) (r1_p : Option Addr) (r1_n : Nat) (r1_c : Nat) (r2 : Int) (w : World) (R : Value → World → Prop) : spec_TaxRateOk r0 r1_p r1_n r1_c r2 w R = fsem P Try.f39 (fun k => []) [(.agg #[(.bool r0), (.slice r1_p r1_n r1_c), (.int .i64 r2)])] R w := by kernel_rfl
theorem spec_TaxRateOk_ret {r0 : Bool} {r1_p : Option Addr} {r1_n : Nat} {r1_c : Nat} {r2 : Int} {w : World} {R : Value → World → Prop} (h : spec_TaxRateOk r0 r1_p r1_n r1_c r2 w R) : Ret P 39 [(.agg #[(.bool r0), (.slice r1_p r1_n r1_c), (.int .i64 r2)])] w R :=
  Ret.of_fsem Try.func39 rfl (Eq.mp (spec_TaxRateOk_eq r0 r1_p r1_n r1_c r2 w R) h)

def impl_TaxRateOk (r0 : Bool) (r1_p : Option Addr) (r1_n : Nat) (r1_c : Nat) (r2 : Int) (w : World) (R : Value → World → Prop) : Prop :=
  ∀ (r : Nat) (wv : World), New w (.cells ⟨[(.bool r0), (.slice r1_p r1_n r1_c), (.int .i64 r2)]⟩ 69 (0, 0)) r wv →
  ∃ (t30 : Bool) (t31_p : Option Addr) (t31_n : Nat) (t31_c : Nat) (t32 : Int), (∀ wv_1, Ext wv.drew wv_1 → Loads P 69 ⟨r, 0, none⟩ (.agg #[(.bool t30), (.slice t31_p t31_n t31_c), (.int .i64 t32)]) wv_1) ∧ Calls P 95 ⟨[(.agg #[(.bool t30), (.slice t31_p t31_n t31_c), (.int .i64 t32)])]⟩ wv.drew fun e wv_2 =>
  ∃ (t4 : Bool), e = .returned (.bool t4) ∧
  (t4 = true →
    ∃ (t8_p : Option Addr) (t8_n : Nat) (t8_c : Nat), (∀ wv_3, Ext wv_2 wv_3 → Loads P 45 (((⟨r, 0, none⟩ : Addr).add 0).add 1) (.slice t8_p t8_n t8_c) wv_3) ∧ ((decide ((((t8_n : Nat) : Int) : Int) ≤ 1)) = true →
      ∃ (t15 : Bool), (∀ wv_4, Ext wv_2 wv_4 → Loads P 4 (((⟨r, 0, none⟩ : Addr).add 0).add 0) (.bool t15) wv_4) ∧ ((!t15) = true →
        ∃ (t190 : Bool) (t191_p : Option Addr) (t191_n : Nat) (t191_c : Nat) (t192 : Int), (∀ wv_5, Ext wv_2 wv_5 → Loads P 69 ⟨r, 0, none⟩ (.agg #[(.bool t190), (.slice t191_p t191_n t191_c), (.int .i64 t192)]) wv_5) ∧ Calls P 97 ⟨[(.int .i64 1)]⟩ wv_2 fun e_1 wv_6 =>
        ∃ (t200 : Bool) (t201_p : Option Addr) (t201_n : Nat) (t201_c : Nat), e_1 = .returned (.agg #[(.bool t200), (.slice t201_p t201_n t201_c)]) ∧
        Ext wv_2 wv_6 ∧ Calls P 96 ⟨[(.agg #[(.bool t190), (.slice t191_p t191_n t191_c), (.int .i64 t192)]), (.agg #[(.bool t200), (.slice t201_p t201_n t201_c), (.int .i64 0)])]⟩ wv_6 fun e_2 wv_7 =>
        ∃ (t22 : Int), e_2 = .returned (.int .i64 t22) ∧
        R (.bool (decide ((t22 : Int) ≤ 0))) wv_7) ∧
      ((!t15) = false →
        R (.bool false) wv_2)) ∧
    ((decide ((((t8_n : Nat) : Int) : Int) ≤ 1)) = false →
      (false = true →
        ∃ (t190_1 : Bool) (t191_p_1 : Option Addr) (t191_n_1 : Nat) (t191_c_1 : Nat) (t192_1 : Int), (∀ wv_8, Ext wv_2 wv_8 → Loads P 69 ⟨r, 0, none⟩ (.agg #[(.bool t190_1), (.slice t191_p_1 t191_n_1 t191_c_1), (.int .i64 t192_1)]) wv_8) ∧ Calls P 97 ⟨[(.int .i64 1)]⟩ wv_2 fun e_3 wv_9 =>
        ∃ (t200_1 : Bool) (t201_p_1 : Option Addr) (t201_n_1 : Nat) (t201_c_1 : Nat), e_3 = .returned (.agg #[(.bool t200_1), (.slice t201_p_1 t201_n_1 t201_c_1)]) ∧
        Ext wv_2 wv_9 ∧ Calls P 96 ⟨[(.agg #[(.bool t190_1), (.slice t191_p_1 t191_n_1 t191_c_1), (.int .i64 t192_1)]), (.agg #[(.bool t200_1), (.slice t201_p_1 t201_n_1 t201_c_1), (.int .i64 0)])]⟩ wv_9 fun e_4 wv_10 =>
        ∃ (t22_1 : Int), e_4 = .returned (.int .i64 t22_1) ∧
        R (.bool (decide ((t22_1 : Int) ≤ 0))) wv_10) ∧
      (false = false →
        R (.bool false) wv_2))) ∧
  (t4 = false →
    (false = true →
      ∃ (t15_1 : Bool), (∀ wv_11, Ext wv_2 wv_11 → Loads P 4 (((⟨r, 0, none⟩ : Addr).add 0).add 0) (.bool t15_1) wv_11) ∧ ((!t15_1) = true →
        ∃ (t190_2 : Bool) (t191_p_2 : Option Addr) (t191_n_2 : Nat) (t191_c_2 : Nat) (t192_2 : Int), (∀ wv_12, Ext wv_2 wv_12 → Loads P 69 ⟨r, 0, none⟩ (.agg #[(.bool t190_2), (.slice t191_p_2 t191_n_2 t191_c_2), (.int .i64 t192_2)]) wv_12) ∧ Calls P 97 ⟨[(.int .i64 1)]⟩ wv_2 fun e_5 wv_13 =>
        ∃ (t200_2 : Bool) (t201_p_2 : Option Addr) (t201_n_2 : Nat) (t201_c_2 : Nat), e_5 = .returned (.agg #[(.bool t200_2), (.slice t201_p_2 t201_n_2 t201_c_2)]) ∧
        Ext wv_2 wv_13 ∧ Calls P 96 ⟨[(.agg #[(.bool t190_2), (.slice t191_p_2 t191_n_2 t191_c_2), (.int .i64 t192_2)]), (.agg #[(.bool t200_2), (.slice t201_p_2 t201_n_2 t201_c_2), (.int .i64 0)])]⟩ wv_13 fun e_6 wv_14 =>
        ∃ (t22_2 : Int), e_6 = .returned (.int .i64 t22_2) ∧
        R (.bool (decide ((t22_2 : Int) ≤ 0))) wv_14) ∧
      ((!t15_1) = false →
        R (.bool false) wv_2)) ∧
    (false = false →
      (false = true →
        ∃ (t190_3 : Bool) (t191_p_3 : Option Addr) (t191_n_3 : Nat) (t191_c_3 : Nat) (t192_3 : Int), (∀ wv_15, Ext wv_2 wv_15 → Loads P 69 ⟨r, 0, none⟩ (.agg #[(.bool t190_3), (.slice t191_p_3 t191_n_3 t191_c_3), (.int .i64 t192_3)]) wv_15) ∧ Calls P 97 ⟨[(.int .i64 1)]⟩ wv_2 fun e_7 wv_16 =>
        ∃ (t200_3 : Bool) (t201_p_3 : Option Addr) (t201_n_3 : Nat) (t201_c_3 : Nat), e_7 = .returned (.agg #[(.bool t200_3), (.slice t201_p_3 t201_n_3 t201_c_3)]) ∧
        Ext wv_2 wv_16 ∧ Calls P 96 ⟨[(.agg #[(.bool t190_3), (.slice t191_p_3 t191_n_3 t191_c_3), (.int .i64 t192_3)]), (.agg #[(.bool t200_3), (.slice t201_p_3 t201_n_3 t201_c_3), (.int .i64 0)])]⟩ wv_16 fun e_8 wv_17 =>
        ∃ (t22_3 : Int), e_8 = .returned (.int .i64 t22_3) ∧
        R (.bool (decide ((t22_3 : Int) ≤ 0))) wv_17) ∧
      (false = false →
        R (.bool false) wv_2)))
theorem impl_TaxRateOk_eq (r0 : Bool) (r1_p : Option Addr) (r1_n : Nat) (r1_c : Nat) (r2 : Int) (w : World) (R : Value → World → Prop) : impl_TaxRateOk r0 r1_p r1_n r1_c r2 w R = fsem P Try.f41 (fun k => []) [(.agg #[(.bool r0), (.slice r1_p r1_n r1_c), (.int .i64 r2)])] R w := by kernel_rfl
theorem impl_TaxRateOk_ret {r0 : Bool} {r1_p : Option Addr} {r1_n : Nat} {r1_c : Nat} {r2 : Int} {w : World} {R : Value → World → Prop} (h : impl_TaxRateOk r0 r1_p r1_n r1_c r2 w R) : Ret P 41 [(.agg #[(.bool r0), (.slice r1_p r1_n r1_c), (.int .i64 r2)])] w R :=
  Ret.of_fsem Try.func41 rfl (Eq.mp (impl_TaxRateOk_eq r0 r1_p r1_n r1_c r2 w R) h)

def spec_Flat (l_p : Option Addr) (l_n : Nat) (l_c : Nat) (w : World) (R : Value → World → Prop) : Prop :=
  ∀ (r : Nat) (wv : World), New w (.cells ⟨[(.bool false), (.slice none 0 0)]⟩ 47 (0, 0)) r wv →
  ∃ wv_1, Stores P 47 ⟨r, 0, none⟩ (.agg #[(.bool false), (.slice none 0 0)]) wv wv_1 ∧
  ∃ (Inv : Int → World → Prop) (mu : Int → World → Nat), Inv 0 wv_1 ∧
  ∀ (junk : Fr) (wv_2 : World) (t9 : Int), Inv t9 wv_2 →
    ((decide ((t9 : Int) < ((l_n : Nat) : Int))) = true →
      (0 ≤ (t9 : Int) ∧ (t9 : Int) < (l_n : Nat)) ∧ ptrS l_p fun ad => ∃ (t120 : ByteArray) (t121 : Bool) (t122_p : Option Addr) (t122_n : Nat) (t122_c : Nat), Loads P 135 (ad.add (t9.toNat * 3)) (.agg #[(.string t120), (.bool t121), (.slice t122_p t122_n t122_c)]) wv_2 ∧ ∀ (r_1 : Nat) (wv_3 : World), New wv_2 (.cells ⟨[(.string ByteArray.empty), (.bool false), (.slice none 0 0)]⟩ 135 (0, 0)) r_1 wv_3 →
      ∃ wv_4, Stores P 135 ⟨r_1, 0, none⟩ (.agg #[(.string t120), (.bool t121), (.slice t122_p t122_n t122_c)]) wv_3 wv_4 ∧
      ∃ (t140 : Bool) (t141_p : Option Addr) (t141_n : Nat) (t141_c : Nat), Loads P 47 ((⟨r_1, 0, none⟩ : Addr).add 1) (.agg #[(.bool t140), (.slice t141_p t141_n t141_c)]) wv_4 ∧ Calls P 62 ⟨[(.agg #[(.bool t140), (.slice t141_p t141_n t141_c)])]⟩ wv_4 fun e wv_5 =>
      ∃ (t15 : Bool), e = .returned (.bool t15) ∧
      ((!t15) = true →
        R (.bool false) wv_5) ∧
      ((!t15) = false →
        ∃ (t170 : Bool) (t171_p : Option Addr) (t171_n : Nat) (t171_c : Nat), Loads P 47 ⟨r, 0, none⟩ (.agg #[(.bool t170), (.slice t171_p t171_n t171_c)]) wv_5 ∧ ∃ (t190 : Bool) (t191_p : Option Addr) (t191_n : Nat) (t191_c : Nat), Loads P 47 ((⟨r_1, 0, none⟩ : Addr).add 1) (.agg #[(.bool t190), (.slice t191_p t191_n t191_c)]) wv_5 ∧ Calls P 99 ⟨[(.agg #[(.bool t170), (.slice t171_p t171_n t171_c)]), (.agg #[(.bool t190), (.slice t191_p t191_n t191_c)])]⟩ wv_5 fun e_1 wv_6 =>
        ∃ (t200 : Bool) (t201_p : Option Addr) (t201_n : Nat) (t201_c : Nat), e_1 = .returned (.agg #[(.bool t200), (.slice t201_p t201_n t201_c)]) ∧
        ∃ wv_7, Stores P 47 ⟨r, 0, none⟩ (.agg #[(.bool t200), (.slice t201_p t201_n t201_c)]) wv_6 wv_7 ∧
        ∃ t21 : Int, t21 = IntKind.wrap .i64 (t9 + 1) ∧ Inv t21 wv_7 ∧ mu t21 wv_7 < mu t9 wv_2)) ∧
    ((decide ((t9 : Int) < ((l_n : Nat) : Int))) = false →
      ∃ (t220 : Bool) (t221_p : Option Addr) (t221_n : Nat) (t221_c : Nat), Loads P 47 ⟨r, 0, none⟩ (.agg #[(.bool t220), (.slice t221_p t221_n t221_c)]) wv_2 ∧ Calls P 63 ⟨[(.agg #[(.bool t220), (.slice t221_p t221_n t221_c)])]⟩ wv_2 fun e_2 wv_8 =>
      ∃ (t23 : Int), e_2 = .returned (.int .i64 t23) ∧
      R (.bool (decide ((t23 : Int) = 0))) wv_8)
theorem spec_Flat_eq (l_p : Option Addr) (l_n : Nat) (l_c : Nat) (w : World) (R : Value → World → Prop) : spec_Flat l_p l_n l_c w R = fsem P Try.f44 (fun k => cond (Nat.beq k 4) [(9, .one (.int .i64))] ([])) [(.slice l_p l_n l_c)] R w := by kernel_rfl
theorem spec_Flat_ret {l_p : Option Addr} {l_n : Nat} {l_c : Nat} {w : World} {R : Value → World → Prop} (h : spec_Flat l_p l_n l_c w R) : Ret P 44 [(.slice l_p l_n l_c)] w R :=
  Ret.of_fsem Try.func44 rfl (Eq.mp (spec_Flat_eq l_p l_n l_c w R) h)

def impl_Flat (l_p : Option Addr) (l_n : Nat) (l_c : Nat) (w : World) (R : Value → World → Prop) : Prop :=
  ∀ (r : Nat) (wv : World), New w (.cells ⟨[]⟩ 47 (0, 0)) r wv →
  ∃ (Inv : Option Addr → Nat → Nat → Int → World → Prop) (mu : Option Addr → Nat → Nat → Int → World → Nat), Inv (some ⟨r, 0, none⟩) 0 0 0 wv ∧
  ∀ (junk : Fr) (wv_1 : World) (units_p : Option Addr) (units_n : Nat) (units_c : Nat) (t9 : Int), Inv units_p units_n units_c t9 wv_1 →
    ((decide ((t9 : Int) < ((l_n : Nat) : Int))) = true →
      (0 ≤ (t9 : Int) ∧ (t9 : Int) < (l_n : Nat)) ∧ ptrS l_p fun ad => ∃ (t120 : ByteArray) (t121 : Bool) (t122_p : Option Addr) (t122_n : Nat) (t122_c : Nat), Loads P 135 (ad.add (t9.toNat * 3)) (.agg #[(.string t120), (.bool t121), (.slice t122_p t122_n t122_c)]) wv_1 ∧ ∀ (r_1 : Nat) (wv_2 : World), New wv_1 (.cells ⟨[(.string ByteArray.empty), (.bool false), (.slice none 0 0)]⟩ 135 (0, 0)) r_1 wv_2 →
      ∃ wv_3, Stores P 135 ⟨r_1, 0, none⟩ (.agg #[(.string t120), (.bool t121), (.slice t122_p t122_n t122_c)]) wv_2 wv_3 ∧
      ∃ (t150 : Bool) (t151_p : Option Addr) (t151_n : Nat) (t151_c : Nat), Loads P 47 ((⟨r_1, 0, none⟩ : Addr).add 1) (.agg #[(.bool t150), (.slice t151_p t151_n t151_c)]) wv_3 ∧ ∀ (r_2 : Nat) (wv_4 : World), New wv_3 (.cells ⟨[(.bool t150), (.slice t151_p t151_n t151_c)]⟩ 47 (0, 0)) r_2 wv_4 →
      ∃ (t17_p : Option Addr) (t17_n : Nat) (t17_c : Nat) (wv_5 : World), Appends P [138, 138] [(.slice units_p units_n units_c), (.slice (some ⟨r_2, 0, none⟩) 1 1)] (.slice t17_p t17_n t17_c) wv_4 wv_5 ∧
      ∃ t18 : Int, t18 = IntKind.wrap .i64 (t9 + 1) ∧ Inv t17_p t17_n t17_c t18 wv_5 ∧ mu t17_p t17_n t17_c t18 wv_5 < mu units_p units_n units_c t9 wv_1) ∧
    ((decide ((t9 : Int) < ((l_n : Nat) : Int))) = false →
      Calls P 101 ⟨[(.slice units_p units_n units_c), (.func (.func 102) #[] #[])]⟩ wv_1 fun e wv_6 =>
      ∃ (t20 : Bool), e = .returned (.bool t20) ∧
      (t20 = true →
        R (.bool false) wv_6) ∧
      (t20 = false →
        Calls P 104 ⟨[(.slice units_p units_n units_c)]⟩ wv_6 fun e_1 wv_7 =>
        ∃ (t220 : Bool) (t221_p : Option Addr) (t221_n : Nat) (t221_c : Nat), e_1 = .returned (.agg #[(.bool t220), (.slice t221_p t221_n t221_c)]) ∧
        R (.bool (decide ((((t221_n : Nat) : Int) : Int) = 0))) wv_7))
theorem impl_Flat_eq (l_p : Option Addr) (l_n : Nat) (l_c : Nat) (w : World) (R : Value → World → Prop) : impl_Flat l_p l_n l_c w R = fsem P Try.f46 (fun k => cond (Nat.beq k 4) [(3, .one .slice), (9, .one (.int .i64))] ([])) [(.slice l_p l_n l_c)] R w := by kernel_rfl
theorem impl_Flat_ret {l_p : Option Addr} {l_n : Nat} {l_c : Nat} {w : World} {R : Value → World → Prop} (h : impl_Flat l_p l_n l_c w R) : Ret P 46 [(.slice l_p l_n l_c)] w R :=
  Ret.of_fsem Try.func46 rfl (Eq.mp (impl_Flat_eq l_p l_n l_c w R) h)

def spec_StepsOk_j0 (l_p : Option Addr) (l_n : Nat) (W : World) (R : Value → World → Prop) : Prop :=
  ∃ (Inv : Int → World → Prop) (mu : Int → World → Nat), Inv 0 W ∧
  ∀ (junk : Fr) (wv_1 : World) (t18 : Int), Inv t18 wv_1 →
    ((decide ((t18 : Int) < ((l_n : Nat) : Int))) = true →
      (0 ≤ (t18 : Int) ∧ (t18 : Int) < (l_n : Nat)) ∧ ptrS l_p fun ad => ∃ (t220 : Int) (t221 : Bool) (t222_p : Option Addr) (t222_n : Nat) (t222_c : Nat) (t223 : Int), Loads P 147 (ad.add (t18.toNat * 4)) (.agg #[(.int .i64 t220), (.bool t221), (.slice t222_p t222_n t222_c), (.int .i64 t223)]) wv_1 ∧ ∀ (r : Nat) (wv_2 : World), New wv_1 (.cells ⟨[(.int .i64 0), (.bool false), (.slice none 0 0), (.int .i64 0)]⟩ 147 (0, 0)) r wv_2 →
      ∃ wv_3, Stores P 147 ⟨r, 0, none⟩ (.agg #[(.int .i64 t220), (.bool t221), (.slice t222_p t222_n t222_c), (.int .i64 t223)]) wv_2 wv_3 ∧
      ∃ (t24 : Int), (∀ wv_4, Ext wv_3.drew wv_4 → Loads P 3 ((⟨r, 0, none⟩ : Addr).add 0) (.int .i64 t24) wv_4) ∧ Calls P 107 ⟨[(.int .i64 t24), (.int .i64 0), (.int .i64 1000000000)]⟩ wv_3.drew fun e_1 wv_5 =>
      ∃ (t25 : Bool), e_1 = .returned (.bool t25) ∧
      ((!t25) = true →
        (true = true →
          (true = true →
            R (.bool false) wv_5) ∧
          (true = false →
            ∃ t48 : Int, t48 = IntKind.wrap .i64 (t18 + 1) ∧ Inv t48 wv_5 ∧ mu t48 wv_5 < mu t18 wv_1)) ∧
        (true = false →
          ((decide ((0 : Int) < t18)) = true →
            ∃ t39 : Int, t39 = IntKind.wrap .i64 (t18 - 1) ∧ (0 ≤ (t39 : Int) ∧ (t39 : Int) < (l_n : Nat)) ∧ ptrS l_p fun ad_1 => ∃ (t42 : Int), (∀ wv_6, Ext wv_5 wv_6 → Loads P 3 ((ad_1.add (t39.toNat * 4)).add 0) (.int .i64 t42) wv_6) ∧ ∃ (t44 : Int), (∀ wv_7, Ext wv_5 wv_7 → Loads P 3 ((⟨r, 0, none⟩ : Addr).add 0) (.int .i64 t44) wv_7) ∧ ((decide ((t44 : Int) ≤ t42)) = true →
              R (.bool false) wv_5) ∧
            ((decide ((t44 : Int) ≤ t42)) = false →
              ∃ t48_1 : Int, t48_1 = IntKind.wrap .i64 (t18 + 1) ∧ Inv t48_1 wv_5 ∧ mu t48_1 wv_5 < mu t18 wv_1)) ∧
          ((decide ((0 : Int) < t18)) = false →
            (false = true →
              R (.bool false) wv_5) ∧
            (false = false →
              ∃ t48_2 : Int, t48_2 = IntKind.wrap .i64 (t18 + 1) ∧ Inv t48_2 wv_5 ∧ mu t48_2 wv_5 < mu t18 wv_1)))) ∧
      ((!t25) = false →
        ∃ (t290 : Bool) (t291_p : Option Addr) (t291_n : Nat) (t291_c : Nat) (t292 : Int), (∀ wv_8, Ext wv_5 wv_8 → Loads P 69 ((⟨r, 0, none⟩ : Addr).add 1) (.agg #[(.bool t290), (.slice t291_p t291_n t291_c), (.int .i64 t292)]) wv_8) ∧ Calls P 39 ⟨[(.agg #[(.bool t290), (.slice t291_p t291_n t291_c), (.int .i64 t292)])]⟩ wv_5 fun e_2 wv_9 =>
        ∃ (t30 : Bool), e_2 = .returned (.bool t30) ∧
        ((!t30) = true →
          (true = true →
            R (.bool false) wv_9) ∧
          (true = false →
            ∃ t48_3 : Int, t48_3 = IntKind.wrap .i64 (t18 + 1) ∧ Inv t48_3 wv_9 ∧ mu t48_3 wv_9 < mu t18 wv_1)) ∧
        ((!t30) = false →
          ((decide ((0 : Int) < t18)) = true →
            ∃ t39_1 : Int, t39_1 = IntKind.wrap .i64 (t18 - 1) ∧ (0 ≤ (t39_1 : Int) ∧ (t39_1 : Int) < (l_n : Nat)) ∧ ptrS l_p fun ad_2 => ∃ (t42_1 : Int), (∀ wv_10, Ext wv_9 wv_10 → Loads P 3 ((ad_2.add (t39_1.toNat * 4)).add 0) (.int .i64 t42_1) wv_10) ∧ ∃ (t44_1 : Int), (∀ wv_11, Ext wv_9 wv_11 → Loads P 3 ((⟨r, 0, none⟩ : Addr).add 0) (.int .i64 t44_1) wv_11) ∧ ((decide ((t44_1 : Int) ≤ t42_1)) = true →
              R (.bool false) wv_9) ∧
            ((decide ((t44_1 : Int) ≤ t42_1)) = false →
              ∃ t48_4 : Int, t48_4 = IntKind.wrap .i64 (t18 + 1) ∧ Inv t48_4 wv_9 ∧ mu t48_4 wv_9 < mu t18 wv_1)) ∧
          ((decide ((0 : Int) < t18)) = false →
            (false = true →
              R (.bool false) wv_9) ∧
            (false = false →
              ∃ t48_5 : Int, t48_5 = IntKind.wrap .i64 (t18 + 1) ∧ Inv t48_5 wv_9 ∧ mu t48_5 wv_9 < mu t18 wv_1))))) ∧
    ((decide ((t18 : Int) < ((l_n : Nat) : Int))) = false →
      R (.bool true) wv_1)
def spec_StepsOk (l_p : Option Addr) (l_n : Nat) (l_c : Nat) (w : World) (R : Value → World → Prop) : Prop :=
  Calls P 107 ⟨[(.int .i64 ((l_n : Nat) : Int)), (.int .i64 1), (.int .i64 8)]⟩ w fun e wv =>
  ∃ (t7 : Bool), e = .returned (.bool t7) ∧
  ((!t7) = true →
    (true = true →
      R (.bool false) wv) ∧
    (true = false →
      spec_StepsOk_j0 l_p l_n wv R)) ∧
  ((!t7) = false →
    (0 ≤ (0 : Int) ∧ (0 : Int) < (l_n : Nat)) ∧ ptrS l_p fun ad_3 => ∃ (t13 : Int), Loads P 3 ((ad_3.add (0 * 4)).add 0) (.int .i64 t13) wv ∧ ((decide ((t13 : Int) ≠ 0)) = true →
      R (.bool false) wv) ∧
    ((decide ((t13 : Int) ≠ 0)) = false →
      spec_StepsOk_j0 l_p l_n wv R))
theorem spec_StepsOk_eq (l_p : Option Addr) (l_n : Nat) (l_c : Nat) (w : World) (R : Value → World → Prop) : spec_StepsOk l_p l_n l_c w R = fsem P Try.f49 (fun k => cond (Nat.beq k 5) [(18, .one (.int .i64))] ([])) [(.slice l_p l_n l_c)] R w := by kernel_rfl
theorem spec_StepsOk_ret {l_p : Option Addr} {l_n : Nat} {l_c : Nat} {w : World} {R : Value → World → Prop} (h : spec_StepsOk l_p l_n l_c w R) : Ret P 49 [(.slice l_p l_n l_c)] w R :=
  Ret.of_fsem Try.func49 rfl (Eq.mp (spec_StepsOk_eq l_p l_n l_c w R) h)

def impl_StepsOk_j0 (l_p : Option Addr) (l_n : Nat) (W : World) (R : Value → World → Prop) : Prop :=
  ∃ (Inv : Int → World → Prop) (mu : Int → World → Nat), Inv 0 W ∧
  ∀ (junk : Fr) (wv : World) (t22 : Int), Inv t22 wv →
    ((decide ((t22 : Int) < ((l_n : Nat) : Int))) = true →
      (0 ≤ (t22 : Int) ∧ (t22 : Int) < (l_n : Nat)) ∧ ptrS l_p fun ad => ∃ (t260 : Int) (t261 : Bool) (t262_p : Option Addr) (t262_n : Nat) (t262_c : Nat) (t263 : Int), Loads P 147 (ad.add (t22.toNat * 4)) (.agg #[(.int .i64 t260), (.bool t261), (.slice t262_p t262_n t262_c), (.int .i64 t263)]) wv ∧ ∀ (r : Nat) (wv_1 : World), New wv (.cells ⟨[(.int .i64 0), (.bool false), (.slice none 0 0), (.int .i64 0)]⟩ 147 (0, 0)) r wv_1 →
      ∃ wv_2, Stores P 147 ⟨r, 0, none⟩ (.agg #[(.int .i64 t260), (.bool t261), (.slice t262_p t262_n t262_c), (.int .i64 t263)]) wv_1 wv_2 ∧
      ∃ (t28 : Int), (∀ wv_3, Ext wv_2.drew wv_3 → Loads P 3 ((⟨r, 0, none⟩ : Addr).add 0) (.int .i64 t28) wv_3) ∧ ((decide ((1000000000 : Int) < t28)) = true →
        (true = true →
          (true = true →
            R (.bool false) wv_2.drew) ∧
          (true = false →
            ∃ t51 : Int, t51 = IntKind.wrap .i64 (t22 + 1) ∧ Inv t51 wv_2.drew ∧ mu t51 wv_2.drew < mu t22 wv)) ∧
        (true = false →
          ∃ (t470 : Bool) (t471_p : Option Addr) (t471_n : Nat) (t471_c : Nat) (t472 : Int), (∀ wv_4, Ext wv_2.drew wv_4 → Loads P 69 ((⟨r, 0, none⟩ : Addr).add 1) (.agg #[(.bool t470), (.slice t471_p t471_n t471_c), (.int .i64 t472)]) wv_4) ∧ Calls P 41 ⟨[(.agg #[(.bool t470), (.slice t471_p t471_n t471_c), (.int .i64 t472)])]⟩ wv_2.drew fun e wv_5 =>
          ∃ (t48 : Bool), e = .returned (.bool t48) ∧
          ((!t48) = true →
            R (.bool false) wv_5) ∧
          ((!t48) = false →
            ∃ t51_1 : Int, t51_1 = IntKind.wrap .i64 (t22 + 1) ∧ Inv t51_1 wv_5 ∧ mu t51_1 wv_5 < mu t22 wv))) ∧
      ((decide ((1000000000 : Int) < t28)) = false →
        ((decide ((0 : Int) < t22)) = true →
          ∃ t36 : Int, t36 = IntKind.wrap .i64 (t22 - 1) ∧ (0 ≤ (t36 : Int) ∧ (t36 : Int) < (l_n : Nat)) ∧ ptrS l_p fun ad_1 => ∃ (t39 : Int), (∀ wv_6, Ext wv_2.drew wv_6 → Loads P 3 ((ad_1.add (t36.toNat * 4)).add 0) (.int .i64 t39) wv_6) ∧ ∃ (t41 : Int), (∀ wv_7, Ext wv_2.drew wv_7 → Loads P 3 ((⟨r, 0, none⟩ : Addr).add 0) (.int .i64 t41) wv_7) ∧ ((decide ((t41 : Int) ≤ t39)) = true →
            (true = true →
              R (.bool false) wv_2.drew) ∧
            (true = false →
              ∃ t51_2 : Int, t51_2 = IntKind.wrap .i64 (t22 + 1) ∧ Inv t51_2 wv_2.drew ∧ mu t51_2 wv_2.drew < mu t22 wv)) ∧
          ((decide ((t41 : Int) ≤ t39)) = false →
            ∃ (t470_1 : Bool) (t471_p_1 : Option Addr) (t471_n_1 : Nat) (t471_c_1 : Nat) (t472_1 : Int), (∀ wv_8, Ext wv_2.drew wv_8 → Loads P 69 ((⟨r, 0, none⟩ : Addr).add 1) (.agg #[(.bool t470_1), (.slice t471_p_1 t471_n_1 t471_c_1), (.int .i64 t472_1)]) wv_8) ∧ Calls P 41 ⟨[(.agg #[(.bool t470_1), (.slice t471_p_1 t471_n_1 t471_c_1), (.int .i64 t472_1)])]⟩ wv_2.drew fun e_1 wv_9 =>
            ∃ (t48_1 : Bool), e_1 = .returned (.bool t48_1) ∧
            ((!t48_1) = true →
              R (.bool false) wv_9) ∧
            ((!t48_1) = false →
              ∃ t51_3 : Int, t51_3 = IntKind.wrap .i64 (t22 + 1) ∧ Inv t51_3 wv_9 ∧ mu t51_3 wv_9 < mu t22 wv))) ∧
        ((decide ((0 : Int) < t22)) = false →
          (false = true →
            (true = true →
              R (.bool false) wv_2.drew) ∧
            (true = false →
              ∃ t51_4 : Int, t51_4 = IntKind.wrap .i64 (t22 + 1) ∧ Inv t51_4 wv_2.drew ∧ mu t51_4 wv_2.drew < mu t22 wv)) ∧
          (false = false →
            ∃ (t470_2 : Bool) (t471_p_2 : Option Addr) (t471_n_2 : Nat) (t471_c_2 : Nat) (t472_2 : Int), (∀ wv_10, Ext wv_2.drew wv_10 → Loads P 69 ((⟨r, 0, none⟩ : Addr).add 1) (.agg #[(.bool t470_2), (.slice t471_p_2 t471_n_2 t471_c_2), (.int .i64 t472_2)]) wv_10) ∧ Calls P 41 ⟨[(.agg #[(.bool t470_2), (.slice t471_p_2 t471_n_2 t471_c_2), (.int .i64 t472_2)])]⟩ wv_2.drew fun e_2 wv_11 =>
            ∃ (t48_2 : Bool), e_2 = .returned (.bool t48_2) ∧
            ((!t48_2) = true →
              R (.bool false) wv_11) ∧
            ((!t48_2) = false →
              ∃ t51_5 : Int, t51_5 = IntKind.wrap .i64 (t22 + 1) ∧ Inv t51_5 wv_11 ∧ mu t51_5 wv_11 < mu t22 wv))))) ∧
    ((decide ((t22 : Int) < ((l_n : Nat) : Int))) = false →
      R (.bool true) wv)
def impl_StepsOk (l_p : Option Addr) (l_n : Nat) (l_c : Nat) (w : World) (R : Value → World → Prop) : Prop :=
  ((decide ((((l_n : Nat) : Int) : Int) < 1)) = true →
    (true = true →
      (true = true →
        R (.bool false) w) ∧
      (true = false →
        impl_StepsOk_j0 l_p l_n w R)) ∧
    (true = false →
      (0 ≤ (0 : Int) ∧ (0 : Int) < (l_n : Nat)) ∧ ptrS l_p fun ad_2 => ∃ (t17 : Int), Loads P 3 ((ad_2.add (0 * 4)).add 0) (.int .i64 t17) w ∧ ((decide ((t17 : Int) ≠ 0)) = true →
        R (.bool false) w) ∧
      ((decide ((t17 : Int) ≠ 0)) = false →
        impl_StepsOk_j0 l_p l_n w R))) ∧
  ((decide ((((l_n : Nat) : Int) : Int) < 1)) = false →
    ((decide ((8 : Int) < ((l_n : Nat) : Int))) = true →
      (true = true →
        R (.bool false) w) ∧
      (true = false →
        impl_StepsOk_j0 l_p l_n w R)) ∧
    ((decide ((8 : Int) < ((l_n : Nat) : Int))) = false →
      (0 ≤ (0 : Int) ∧ (0 : Int) < (l_n : Nat)) ∧ ptrS l_p fun ad_3 => ∃ (t17_1 : Int), Loads P 3 ((ad_3.add (0 * 4)).add 0) (.int .i64 t17_1) w ∧ ((decide ((t17_1 : Int) ≠ 0)) = true →
        R (.bool false) w) ∧
      ((decide ((t17_1 : Int) ≠ 0)) = false →
        impl_StepsOk_j0 l_p l_n w R)))
theorem impl_StepsOk_eq (l_p : Option Addr) (l_n : Nat) (l_c : Nat) (w : World) (R : Value → World → Prop) : impl_StepsOk l_p l_n l_c w R = fsem P Try.f51 (fun k => cond (Nat.beq k 5) [(22, .one (.int .i64))] ([])) [(.slice l_p l_n l_c)] R w := by kernel_rfl
theorem impl_StepsOk_ret {l_p : Option Addr} {l_n : Nat} {l_c : Nat} {w : World} {R : Value → World → Prop} (h : impl_StepsOk l_p l_n l_c w R) : Ret P 51 [(.slice l_p l_n l_c)] w R :=
  Ret.of_fsem Try.func51 rfl (Eq.mp (impl_StepsOk_eq l_p l_n l_c w R) h)

def spec_l09Same (x0 : Bool) (x1_p : Option Addr) (x1_n : Nat) (x1_c : Nat) (y0 : Bool) (y1_p : Option Addr) (y1_n : Nat) (y1_c : Nat) (w : World) (R : Value → World → Prop) : Prop :=
  ∀ (r : Nat) (wv : World), New w (.cells ⟨[(.bool x0), (.slice x1_p x1_n x1_c)]⟩ 47 (0, 0)) r wv →
  ∀ (r_1 : Nat) (wv_1 : World), New wv (.cells ⟨[(.bool y0), (.slice y1_p y1_n y1_c)]⟩ 47 (0, 0)) r_1 wv_1 →
  ∃ (t6 : Bool), Loads P 4 ((⟨r, 0, none⟩ : Addr).add 0) (.bool t6) wv_1 ∧ ∃ (t8 : Bool), Loads P 4 ((⟨r_1, 0, none⟩ : Addr).add 0) (.bool t8) wv_1 ∧ ((t6 == t8) = true →
    ∃ (t12_p : Option Addr) (t12_n : Nat) (t12_c : Nat), Loads P 45 ((⟨r, 0, none⟩ : Addr).add 1) (.slice t12_p t12_n t12_c) wv_1 ∧ ∃ (t14_p : Option Addr) (t14_n : Nat) (t14_c : Nat), Loads P 45 ((⟨r_1, 0, none⟩ : Addr).add 1) (.slice t14_p t14_n t14_c) wv_1 ∧ Calls P 55 ⟨[(.slice t12_p t12_n t12_c), (.slice t14_p t14_n t14_c)]⟩ wv_1 fun e wv_2 =>
    ∃ (t15 : Int), e = .returned (.int .i64 t15) ∧
    R (.bool (decide ((t15 : Int) = 0))) wv_2) ∧
  ((t6 == t8) = false →
    R (.bool false) wv_1)
theorem spec_l09Same_eq (x0 : Bool) (x1_p : Option Addr) (x1_n : Nat) (x1_c : Nat) (y0 : Bool) (y1_p : Option Addr) (y1_n : Nat) (y1_c : Nat) (w : World) (R : Value → World → Prop) : spec_l09Same x0 x1_p x1_n x1_c y0 y1_p y1_n y1_c w R = fsem P Try.f54 (fun k => []) [(.agg #[(.bool x0), (.slice x1_p x1_n x1_c)]), (.agg #[(.bool y0), (.slice y1_p y1_n y1_c)])] R w := by kernel_rfl
theorem spec_l09Same_ret {x0 : Bool} {x1_p : Option Addr} {x1_n : Nat} {x1_c : Nat} {y0 : Bool} {y1_p : Option Addr} {y1_n : Nat} {y1_c : Nat} {w : World} {R : Value → World → Prop} (h : spec_l09Same x0 x1_p x1_n x1_c y0 y1_p y1_n y1_c w R) : Ret P 54 [(.agg #[(.bool x0), (.slice x1_p x1_n x1_c)]), (.agg #[(.bool y0), (.slice y1_p y1_n y1_c)])] w R :=
  Ret.of_fsem Try.func54 rfl (Eq.mp (spec_l09Same_eq x0 x1_p x1_n x1_c y0 y1_p y1_n y1_c w R) h)

def spec_l02Cmp (a_p : Option Addr) (a_n : Nat) (a_c : Nat) (b_p : Option Addr) (b_n : Nat) (b_c : Nat) (w : World) (R : Value → World → Prop) : Prop :=
  ((decide ((((a_n : Nat) : Int) : Int) ≠ ((b_n : Nat) : Int))) = true →
    ((decide ((((a_n : Nat) : Int) : Int) < ((b_n : Nat) : Int))) = true →
      R (.int .i64 (-1)) w) ∧
    ((decide ((((a_n : Nat) : Int) : Int) < ((b_n : Nat) : Int))) = false →
      R (.int .i64 1) w)) ∧
  ((decide ((((a_n : Nat) : Int) : Int) ≠ ((b_n : Nat) : Int))) = false →
    ∃ t18 : Int, t18 = IntKind.wrap .i64 (((a_n : Nat) : Int) - 1) ∧ ∃ (Inv : Int → World → Prop) (mu : Int → World → Nat), Inv t18 w ∧
    ∀ (junk : Fr) (wv : World) (i : Int), Inv i wv →
      ((decide ((0 : Int) ≤ i)) = true →
        (0 ≤ (i : Int) ∧ (i : Int) < (a_n : Nat)) ∧ ptrS a_p fun ad => ∃ (t26 : Int), (∀ wv_1, Ext wv.drew wv_1 → Loads P 3 (ad.add (i.toNat * 1)) (.int .i64 t26) wv_1) ∧ (0 ≤ (i : Int) ∧ (i : Int) < (b_n : Nat)) ∧ ptrS b_p fun ad_1 => ∃ (t30 : Int), (∀ wv_2, Ext wv.drew wv_2 → Loads P 3 (ad_1.add (i.toNat * 1)) (.int .i64 t30) wv_2) ∧ ((decide ((t26 : Int) < t30)) = true →
          R (.int .i64 (-1)) wv.drew) ∧
        ((decide ((t26 : Int) < t30)) = false →
          (0 ≤ (i : Int) ∧ (i : Int) < (a_n : Nat)) ∧ ptrS a_p fun ad_2 => ∃ (t35 : Int), (∀ wv_3, Ext wv.drew.drew wv_3 → Loads P 3 (ad_2.add (i.toNat * 1)) (.int .i64 t35) wv_3) ∧ (0 ≤ (i : Int) ∧ (i : Int) < (b_n : Nat)) ∧ ptrS b_p fun ad_3 => ∃ (t39 : Int), (∀ wv_4, Ext wv.drew.drew wv_4 → Loads P 3 (ad_3.add (i.toNat * 1)) (.int .i64 t39) wv_4) ∧ ((decide ((t39 : Int) < t35)) = true →
            R (.int .i64 1) wv.drew.drew) ∧
          ((decide ((t39 : Int) < t35)) = false →
            ∃ t22 : Int, t22 = IntKind.wrap .i64 (i - 1) ∧ Inv t22 wv.drew.drew ∧ mu t22 wv.drew.drew < mu i wv))) ∧
      ((decide ((0 : Int) ≤ i)) = false →
        R (.int .i64 0) wv))
theorem spec_l02Cmp_eq (a_p : Option Addr) (a_n : Nat) (a_c : Nat) (b_p : Option Addr) (b_n : Nat) (b_c : Nat) (w : World) (R : Value → World → Prop) : spec_l02Cmp a_p a_n a_c b_p b_n b_c w R = fsem P Try.f55 (fun k => cond (Nat.beq k 7) [(5, .one (.int .i64))] ([])) [(.slice a_p a_n a_c), (.slice b_p b_n b_c)] R w := by kernel_rfl
theorem spec_l02Cmp_ret {a_p : Option Addr} {a_n : Nat} {a_c : Nat} {b_p : Option Addr} {b_n : Nat} {b_c : Nat} {w : World} {R : Value → World → Prop} (h : spec_l02Cmp a_p a_n a_c b_p b_n b_c w R) : Ret P 55 [(.slice a_p a_n a_c), (.slice b_p b_n b_c)] w R :=
  Ret.of_fsem Try.func55 rfl (Eq.mp (spec_l02Cmp_eq a_p a_n a_c b_p b_n b_c w R) h)

def slices_EqualFunc_impl_Rest_impl_Rest_impl_Rest_impl_Rest (s1_p : Option Addr) (s1_n : Nat) (s1_c : Nat) (s2_p : Option Addr) (s2_n : Nat) (s2_c : Nat) (eq : Value) (w : World) (R : Value → World → Prop) : Prop :=
  ((decide ((((s1_n : Nat) : Int) : Int) ≠ ((s2_n : Nat) : Int))) = true →
    R (.bool false) w) ∧
  ((decide ((((s1_n : Nat) : Int) : Int) ≠ ((s2_n : Nat) : Int))) = false →
    ∃ (Inv : Int → World → Prop) (mu : Int → World → Nat), Inv 0 w ∧
    ∀ (junk : Fr) (wv : World) (t17 : Int), Inv t17 wv →
      ((decide ((t17 : Int) < ((s1_n : Nat) : Int))) = true →
        (0 ≤ (t17 : Int) ∧ (t17 : Int) < (s1_n : Nat)) ∧ ptrS s1_p fun ad => ∃ (t210 : ByteArray) (t211 : Bool) (t212_p : Option Addr) (t212_n : Nat) (t212_c : Nat) (t213_p : Option Addr) (t213_n : Nat) (t213_c : Nat), Loads P 93 (ad.add (t17.toNat * 4)) (.agg #[(.string t210), (.bool t211), (.slice t212_p t212_n t212_c), (.slice t213_p t213_n t213_c)]) wv ∧ ∀ (r : Nat) (wv_1 : World), New wv (.cells ⟨[(.string ByteArray.empty), (.bool false), (.slice none 0 0), (.slice none 0 0)]⟩ 93 (0, 0)) r wv_1 →
        ∃ wv_2, Stores P 93 ⟨r, 0, none⟩ (.agg #[(.string t210), (.bool t211), (.slice t212_p t212_n t212_c), (.slice t213_p t213_n t213_c)]) wv_1 wv_2 ∧
        (0 ≤ (t17 : Int) ∧ (t17 : Int) < (s2_n : Nat)) ∧ ptrS s2_p fun ad_1 => ∃ (t250 : ByteArray) (t251 : Bool) (t252_p : Option Addr) (t252_n : Nat) (t252_c : Nat) (t253_p : Option Addr) (t253_n : Nat) (t253_c : Nat), Loads P 93 (ad_1.add (t17.toNat * 4)) (.agg #[(.string t250), (.bool t251), (.slice t252_p t252_n t252_c), (.slice t253_p t253_n t253_c)]) wv_2 ∧ ∀ (r_1 : Nat) (wv_3 : World), New wv_2 (.cells ⟨[(.string ByteArray.empty), (.bool false), (.slice none 0 0), (.slice none 0 0)]⟩ 93 (0, 0)) r_1 wv_3 →
        ∃ wv_4, Stores P 93 ⟨r_1, 0, none⟩ (.agg #[(.string t250), (.bool t251), (.slice t252_p t252_n t252_c), (.slice t253_p t253_n t253_c)]) wv_3 wv_4 ∧
        ∃ (t270 : ByteArray) (t271 : Bool) (t272_p : Option Addr) (t272_n : Nat) (t272_c : Nat) (t273_p : Option Addr) (t273_n : Nat) (t273_c : Nat), Loads P 93 ⟨r, 0, none⟩ (.agg #[(.string t270), (.bool t271), (.slice t272_p t272_n t272_c), (.slice t273_p t273_n t273_c)]) wv_4 ∧ ∃ (t280 : ByteArray) (t281 : Bool) (t282_p : Option Addr) (t282_n : Nat) (t282_c : Nat) (t283_p : Option Addr) (t283_n : Nat) (t283_c : Nat), Loads P 93 ⟨r_1, 0, none⟩ (.agg #[(.string t280), (.bool t281), (.slice t282_p t282_n t282_c), (.slice t283_p t283_n t283_c)]) wv_4 ∧ CallW P eq [(.agg #[(.string t270), (.bool t271), (.slice t272_p t272_n t272_c), (.slice t273_p t273_n t273_c)]), (.agg #[(.string t280), (.bool t281), (.slice t282_p t282_n t282_c), (.slice t283_p t283_n t283_c)])] wv_4 fun e wv_5 =>
        ∃ (t29 : Bool), e = .returned (.bool t29) ∧
        ((!t29) = true →
          R (.bool false) wv_5) ∧
        ((!t29) = false →
          ∃ t31 : Int, t31 = IntKind.wrap .i64 (t17 + 1) ∧ Inv t31 wv_5 ∧ mu t31 wv_5 < mu t17 wv)) ∧
      ((decide ((t17 : Int) < ((s1_n : Nat) : Int))) = false →
        R (.bool true) wv))
theorem slices_EqualFunc_impl_Rest_impl_Rest_impl_Rest_impl_Rest_eq (s1_p : Option Addr) (s1_n : Nat) (s1_c : Nat) (s2_p : Option Addr) (s2_n : Nat) (s2_c : Nat) (eq : Value) (w : World) (R : Value → World → Prop) : slices_EqualFunc_impl_Rest_impl_Rest_impl_Rest_impl_Rest s1_p s1_n s1_c s2_p s2_n s2_c eq w R = fsem P Try.f57 (fun k => cond (Nat.beq k 5) [(17, .one (.int .i64))] ([])) [(.slice s1_p s1_n s1_c), (.slice s2_p s2_n s2_c), eq] R w := by kernel_rfl
theorem slices_EqualFunc_impl_Rest_impl_Rest_impl_Rest_impl_Rest_ret {s1_p : Option Addr} {s1_n : Nat} {s1_c : Nat} {s2_p : Option Addr} {s2_n : Nat} {s2_c : Nat} {eq : Value} {w : World} {R : Value → World → Prop} (h : slices_EqualFunc_impl_Rest_impl_Rest_impl_Rest_impl_Rest s1_p s1_n s1_c s2_p s2_n s2_c eq w R) : Ret P 57 [(.slice s1_p s1_n s1_c), (.slice s2_p s2_n s2_c), eq] w R :=
  Ret.of_fsem Try.func57 rfl (Eq.mp (slices_EqualFunc_impl_Rest_impl_Rest_impl_Rest_impl_Rest_eq s1_p s1_n s1_c s2_p s2_n s2_c eq w R) h)

end Go.Proofs.Ytoacnglkliioaaa
