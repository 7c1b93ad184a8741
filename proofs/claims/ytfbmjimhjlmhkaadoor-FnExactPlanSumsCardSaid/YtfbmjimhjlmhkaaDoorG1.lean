/-
  The frame-free forms of some Go functions, printed by a program of mine; each with the theorem that it is sound.
-/
import Derived.Test.YtfbmjimhjlmhkaaDoorP
namespace Go.Proofs.YtfbmjimhjlmhkaaDoor
open Go Go.Proofs.YtfbmjimhjlmhkaaDoor.Sx
set_option linter.unusedVariables false
set_option maxRecDepth 100000

def laws_FnExactLegsOk (aL_p : Option Addr) (aL_n : Nat) (aL_c : Nat) (w : World) (R : Value → World → Prop) : Prop :=
  Calls P 10 ⟨[(.slice aL_p aL_n aL_c), (.int .i64 1048576)]⟩ w fun e wv =>
  ∃ (t9 : Int), e = .returned (.int .i64 t9) ∧
  ((decide ((t9 : Int) < 0)) = true →
    R (.bool true) wv) ∧
  ((decide ((t9 : Int) < 0)) = false →
    Calls P 12 ⟨[(.slice aL_p aL_n aL_c)]⟩ wv fun e_1 wv_1 =>
    ∃ (t13_p : Option Addr) (t13_n : Nat) (t13_c : Nat), e_1 = .returned (.slice t13_p t13_n t13_c) ∧
    Calls P 11 ⟨[(.slice t13_p t13_n t13_c)]⟩ wv_1 fun e_2 wv_2 =>
    ∃ (t14 : Bool), e_2 = .returned (.bool t14) ∧
    Calls P 12 ⟨[(.slice aL_p aL_n aL_c)]⟩ wv_2 fun e_3 wv_3 =>
    ∃ (t16_p : Option Addr) (t16_n : Nat) (t16_c : Nat), e_3 = .returned (.slice t16_p t16_n t16_c) ∧
    Calls P 13 ⟨[(.slice t16_p t16_n t16_c)]⟩ wv_3 fun e_4 wv_4 =>
    ∃ (t18 : Bool), e_4 = .returned (.bool t18) ∧
    ((!(t18 == t14)) = true →
      R (.bool false) wv_4) ∧
    ((!(t18 == t14)) = false →
      Calls P 12 ⟨[(.slice aL_p aL_n aL_c)]⟩ wv_4 fun e_5 wv_5 =>
      ∃ (t24_p : Option Addr) (t24_n : Nat) (t24_c : Nat), e_5 = .returned (.slice t24_p t24_n t24_c) ∧
      Calls P 14 ⟨[(.slice t16_p t16_n t16_c), (.slice t24_p t24_n t24_c)]⟩ wv_5 fun e_6 wv_6 =>
      ∃ (t25 : Bool), e_6 = .returned (.bool t25) ∧
      ((!t25) = true →
        R (.bool false) wv_6) ∧
      ((!t25) = false →
        R (.bool true) wv_6)))
theorem laws_FnExactLegsOk_eq (aL_p : Option Addr) (aL_n : Nat) (aL_c : Nat) (w : World) (R : Value → World → Prop) : laws_FnExactLegsOk aL_p aL_n aL_c w R = fsem P Tryd.f3 (fun k => []) [(.slice aL_p aL_n aL_c)] R w := by kernel_rfl
theorem laws_FnExactLegsOk_ret {aL_p : Option Addr} {aL_n : Nat} {aL_c : Nat} {w : World} {R : Value → World → Prop} (h : laws_FnExactLegsOk aL_p aL_n aL_c w R) : Ret P 3 [(.slice aL_p aL_n aL_c)] w R :=
  Ret.of_fsem Tryd.func3 rfl (Eq.mp (laws_FnExactLegsOk_eq aL_p aL_n aL_c w R) h)

def laws_FnExactBookOk (aB0_p : Option Addr) (aB0_n : Nat) (aB0_c : Nat) (w : World) (R : Value → World → Prop) : Prop :=
  ∀ (r : Nat) (wv : World), New w (.cells ⟨[(.slice aB0_p aB0_n aB0_c)]⟩ 31 (0, 0)) r wv →
  ∃ (t70_p : Option Addr) (t70_n : Nat) (t70_c : Nat), Loads P 31 ⟨r, 0, none⟩ (.agg #[(.slice t70_p t70_n t70_c)]) wv ∧ Calls P 15 ⟨[(.agg #[(.slice t70_p t70_n t70_c)]), (.int .i64 1048576)]⟩ wv fun e wv_1 =>
  ∃ (t9 : Int), e = .returned (.int .i64 t9) ∧
  ((decide ((t9 : Int) < 0)) = true →
    R (.bool true) wv_1) ∧
  ((decide ((t9 : Int) < 0)) = false →
    ∃ (t120_p : Option Addr) (t120_n : Nat) (t120_c : Nat), Loads P 31 ⟨r, 0, none⟩ (.agg #[(.slice t120_p t120_n t120_c)]) wv_1 ∧ Calls P 17 ⟨[(.agg #[(.slice t120_p t120_n t120_c)])]⟩ wv_1 fun e_1 wv_2 =>
    ∃ (t130_p : Option Addr) (t130_n : Nat) (t130_c : Nat), e_1 = .returned (.agg #[(.slice t130_p t130_n t130_c)]) ∧
    Calls P 16 ⟨[(.agg #[(.slice t130_p t130_n t130_c)])]⟩ wv_2 fun e_2 wv_3 =>
    ∃ (t14 : Bool), e_2 = .returned (.bool t14) ∧
    ∃ (t150_p : Option Addr) (t150_n : Nat) (t150_c : Nat), Loads P 31 ⟨r, 0, none⟩ (.agg #[(.slice t150_p t150_n t150_c)]) wv_3 ∧ Calls P 17 ⟨[(.agg #[(.slice t150_p t150_n t150_c)])]⟩ wv_3 fun e_3 wv_4 =>
    ∃ (t160_p : Option Addr) (t160_n : Nat) (t160_c : Nat), e_3 = .returned (.agg #[(.slice t160_p t160_n t160_c)]) ∧
    ∀ (r_1 : Nat) (wv_5 : World), New wv_4 (.cells ⟨[(.slice none 0 0)]⟩ 36 (0, 0)) r_1 wv_5 →
    ∃ wv_6, Stores P 36 ⟨r_1, 0, none⟩ (.agg #[(.slice t160_p t160_n t160_c)]) wv_5 wv_6 ∧
    ∃ (t170_p : Option Addr) (t170_n : Nat) (t170_c : Nat), Loads P 36 ⟨r_1, 0, none⟩ (.agg #[(.slice t170_p t170_n t170_c)]) wv_6 ∧ Calls P 18 ⟨[(.agg #[(.slice t170_p t170_n t170_c)])]⟩ wv_6 fun e_4 wv_7 =>
    ∃ (t18 : Bool), e_4 = .returned (.bool t18) ∧
    ((!(t18 == t14)) = true →
      R (.bool false) wv_7) ∧
    ((!(t18 == t14)) = false →
      ∃ (t220_p : Option Addr) (t220_n : Nat) (t220_c : Nat), (∀ wv_8, Ext wv_7.drew wv_8 → Loads P 36 ⟨r_1, 0, none⟩ (.agg #[(.slice t220_p t220_n t220_c)]) wv_8) ∧ ∃ (t230_p : Option Addr) (t230_n : Nat) (t230_c : Nat), (∀ wv_9, Ext wv_7.drew wv_9 → Loads P 31 ⟨r, 0, none⟩ (.agg #[(.slice t230_p t230_n t230_c)]) wv_9) ∧ Calls P 17 ⟨[(.agg #[(.slice t230_p t230_n t230_c)])]⟩ wv_7.drew fun e_5 wv_10 =>
      ∃ (t240_p : Option Addr) (t240_n : Nat) (t240_c : Nat), e_5 = .returned (.agg #[(.slice t240_p t240_n t240_c)]) ∧
      Ext wv_7.drew wv_10 ∧ Calls P 19 ⟨[(.agg #[(.slice t220_p t220_n t220_c)]), (.agg #[(.slice t240_p t240_n t240_c)])]⟩ wv_10 fun e_6 wv_11 =>
      ∃ (t25 : Bool), e_6 = .returned (.bool t25) ∧
      ((!t25) = true →
        R (.bool false) wv_11) ∧
      ((!t25) = false →
        R (.bool true) wv_11)))
theorem laws_FnExactBookOk_eq (aB0_p : Option Addr) (aB0_n : Nat) (aB0_c : Nat) (w : World) (R : Value → World → Prop) : laws_FnExactBookOk aB0_p aB0_n aB0_c w R = fsem P Tryd.f4 (fun k => []) [(.agg #[(.slice aB0_p aB0_n aB0_c)])] R w := by kernel_rfl
theorem laws_FnExactBookOk_ret {aB0_p : Option Addr} {aB0_n : Nat} {aB0_c : Nat} {w : World} {R : Value → World → Prop} (h : laws_FnExactBookOk aB0_p aB0_n aB0_c w R) : Ret P 4 [(.agg #[(.slice aB0_p aB0_n aB0_c)])] w R :=
  Ret.of_fsem Tryd.func4 rfl (Eq.mp (laws_FnExactBookOk_eq aB0_p aB0_n aB0_c w R) h)

def laws_FnExactDebtsOk (aCur : ByteArray) (aL_p : Option Addr) (aL_n : Nat) (aL_c : Nat) (w : World) (R : Value → World → Prop) : Prop :=
  ((decide ((1048576 : Int) < ((aCur.size : Nat) : Int))) = true →
    R (.bool true) w) ∧
  ((decide ((1048576 : Int) < ((aCur.size : Nat) : Int))) = false →
    Calls P 20 ⟨[(.slice aL_p aL_n aL_c), (.int .i64 1048576)]⟩ w fun e wv =>
    ∃ (t14 : Int), e = .returned (.int .i64 t14) ∧
    ((decide ((t14 : Int) < 0)) = true →
      R (.bool true) wv) ∧
    ((decide ((t14 : Int) < 0)) = false →
      Calls P 22 ⟨[(.slice aL_p aL_n aL_c)]⟩ wv fun e_1 wv_1 =>
      ∃ (t19_p : Option Addr) (t19_n : Nat) (t19_c : Nat), e_1 = .returned (.slice t19_p t19_n t19_c) ∧
      Calls P 21 ⟨[(.string aCur), (.slice t19_p t19_n t19_c)]⟩ wv_1 fun e_2 wv_2 =>
      ∃ (t20 : Bool), e_2 = .returned (.bool t20) ∧
      Calls P 22 ⟨[(.slice aL_p aL_n aL_c)]⟩ wv_2 fun e_3 wv_3 =>
      ∃ (t22_p : Option Addr) (t22_n : Nat) (t22_c : Nat), e_3 = .returned (.slice t22_p t22_n t22_c) ∧
      Calls P 23 ⟨[(.string aCur), (.slice t22_p t22_n t22_c)]⟩ wv_3 fun e_4 wv_4 =>
      ∃ (t25 : Bool), e_4 = .returned (.bool t25) ∧
      ((!(t25 == t20)) = true →
        R (.bool false) wv_4) ∧
      ((!(t25 == t20)) = false →
        Calls P 22 ⟨[(.slice aL_p aL_n aL_c)]⟩ wv_4 fun e_5 wv_5 =>
        ∃ (t31_p : Option Addr) (t31_n : Nat) (t31_c : Nat), e_5 = .returned (.slice t31_p t31_n t31_c) ∧
        Calls P 24 ⟨[(.slice t22_p t22_n t22_c), (.slice t31_p t31_n t31_c)]⟩ wv_5 fun e_6 wv_6 =>
        ∃ (t32 : Bool), e_6 = .returned (.bool t32) ∧
        ((!t32) = true →
          R (.bool false) wv_6) ∧
        ((!t32) = false →
          R (.bool true) wv_6))))
theorem laws_FnExactDebtsOk_eq (aCur : ByteArray) (aL_p : Option Addr) (aL_n : Nat) (aL_c : Nat) (w : World) (R : Value → World → Prop) : laws_FnExactDebtsOk aCur aL_p aL_n aL_c w R = fsem P Tryd.f5 (fun k => []) [(.string aCur), (.slice aL_p aL_n aL_c)] R w := by kernel_rfl
theorem laws_FnExactDebtsOk_ret {aCur : ByteArray} {aL_p : Option Addr} {aL_n : Nat} {aL_c : Nat} {w : World} {R : Value → World → Prop} (h : laws_FnExactDebtsOk aCur aL_p aL_n aL_c w R) : Ret P 5 [(.string aCur), (.slice aL_p aL_n aL_c)] w R :=
  Ret.of_fsem Tryd.func5 rfl (Eq.mp (laws_FnExactDebtsOk_eq aCur aL_p aL_n aL_c w R) h)

def laws_FnExactUndo_j2 (t29_p : Option Addr) (t29_n : Nat) (t29_c : Nat) (t64 : Int) (W_2 : World) (R : Value → World → Prop) : Prop :=
  Calls P 28 ⟨[(.slice t29_p t29_n t29_c), (.int .i64 1)]⟩ W_2 fun e_14 wv_14 =>
  ∃ (t90 : Int), e_14 = .returned (.int .i64 t90) ∧
  ((decide ((t90 : Int) < 0)) = true →
    R (.bool false) wv_14) ∧
  ((decide ((t90 : Int) < 0)) = false →
    ((decide ((t90 : Int) ≠ t64)) = true →
      R (.bool false) wv_14) ∧
    ((decide ((t90 : Int) ≠ t64)) = false →
      R (.bool true) wv_14))
def laws_FnExactUndo_j1 (aL_p : Option Addr) (aL_n : Nat) (aL_c : Nat) (t22_p : Option Addr) (t22_n : Nat) (t22_c : Nat) (t22 : Bool) (t29_p : Option Addr) (t29_n : Nat) (t29_c : Nat) (W_1 : World) (R : Value → World → Prop) : Prop :=
  Calls P 27 ⟨[(.slice t29_p t29_n t29_c), (.int .i64 1)]⟩ W_1 fun e_9 wv_9 =>
  ∃ (t64 : Int), e_9 = .returned (.int .i64 t64) ∧
  Calls P 28 ⟨[(.slice t29_p t29_n t29_c), (.int .i64 1)]⟩ wv_9 fun e_10 wv_10 =>
  ∃ (t67 : Int), e_10 = .returned (.int .i64 t67) ∧
  ((decide ((t67 : Int) < 0)) = true →
    R (.bool false) wv_10) ∧
  ((decide ((t67 : Int) < 0)) = false →
    ((decide ((t67 : Int) ≠ t64)) = true →
      R (.bool false) wv_10) ∧
    ((decide ((t67 : Int) ≠ t64)) = false →
      Calls P 12 ⟨[(.slice aL_p aL_n aL_c)]⟩ wv_10 fun e_11 wv_11 =>
      ∃ (t75_p : Option Addr) (t75_n : Nat) (t75_c : Nat), e_11 = .returned (.slice t75_p t75_n t75_c) ∧
      Calls P 26 ⟨[(.slice t75_p t75_n t75_c)]⟩ wv_11 fun e_12 wv_12 =>
      ∃ (t76_p : Option Addr) (t76_n : Nat) (t76_c : Nat) (t76 : Bool), e_12 = .returned (.tuple #[(.slice t76_p t76_n t76_c), (.bool t76)]) ∧
      Calls P 14 ⟨[(.slice t76_p t76_n t76_c), (.slice t22_p t22_n t22_c)]⟩ wv_12 fun e_13 wv_13 =>
      ∃ (t81 : Bool), e_13 = .returned (.bool t81) ∧
      ((!t81) = true →
        (true = true →
          R (.bool false) wv_13) ∧
        (true = false →
          laws_FnExactUndo_j2 t29_p t29_n t29_c t64 wv_13 R)) ∧
      ((!t81) = false →
        ((!(t76 == t22)) = true →
          R (.bool false) wv_13) ∧
        ((!(t76 == t22)) = false →
          laws_FnExactUndo_j2 t29_p t29_n t29_c t64 wv_13 R))))
def laws_FnExactUndo_j0 (aL_p : Option Addr) (aL_n : Nat) (aL_c : Nat) (t22_p : Option Addr) (t22_n : Nat) (t22_c : Nat) (t22 : Bool) (t26_p : Option Addr) (t26_n : Nat) (t26_c : Nat) (t29_p : Option Addr) (t29_n : Nat) (t29_c : Nat) (t29 : Bool) (W : World) (R : Value → World → Prop) : Prop :=
  Calls P 12 ⟨[(.slice aL_p aL_n aL_c)]⟩ W fun e_6 wv_6 =>
  ∃ (t43_p : Option Addr) (t43_n : Nat) (t43_c : Nat), e_6 = .returned (.slice t43_p t43_n t43_c) ∧
  Calls P 14 ⟨[(.slice t26_p t26_n t26_c), (.slice t43_p t43_n t43_c)]⟩ wv_6 fun e_7 wv_7 =>
  ∃ (t44 : Bool), e_7 = .returned (.bool t44) ∧
  ((!t44) = true →
    R (.bool false) wv_7) ∧
  ((!t44) = false →
    Calls P 27 ⟨[(.slice t26_p t26_n t26_c), (.int .i64 1)]⟩ wv_7 fun e_8 wv_8 =>
    ∃ (t48 : Int), e_8 = .returned (.int .i64 t48) ∧
    ((decide ((t48 : Int) < 0)) = true →
      (true = true →
        (true = true →
          R (.bool false) wv_8) ∧
        (true = false →
          laws_FnExactUndo_j1 aL_p aL_n aL_c t22_p t22_n t22_c t22 t29_p t29_n t29_c wv_8 R)) ∧
      (true = false →
        ((!(t29 == t22)) = true →
          R (.bool false) wv_8) ∧
        ((!(t29 == t22)) = false →
          laws_FnExactUndo_j1 aL_p aL_n aL_c t22_p t22_n t22_c t22 t29_p t29_n t29_c wv_8 R))) ∧
    ((decide ((t48 : Int) < 0)) = false →
      Calls P 14 ⟨[(.slice t29_p t29_n t29_c), (.slice t22_p t22_n t22_c)]⟩ wv_8 fun e_15 wv_15 =>
      ∃ (t54 : Bool), e_15 = .returned (.bool t54) ∧
      ((!t54) = true →
        (true = true →
          R (.bool false) wv_15) ∧
        (true = false →
          laws_FnExactUndo_j1 aL_p aL_n aL_c t22_p t22_n t22_c t22 t29_p t29_n t29_c wv_15 R)) ∧
      ((!t54) = false →
        ((!(t29 == t22)) = true →
          R (.bool false) wv_15) ∧
        ((!(t29 == t22)) = false →
          laws_FnExactUndo_j1 aL_p aL_n aL_c t22_p t22_n t22_c t22 t29_p t29_n t29_c wv_15 R))))
def laws_FnExactUndo (aL_p : Option Addr) (aL_n : Nat) (aL_c : Nat) (w : World) (R : Value → World → Prop) : Prop :=
  Calls P 10 ⟨[(.slice aL_p aL_n aL_c), (.int .i64 1048576)]⟩ w fun e wv =>
  ∃ (t16 : Int), e = .returned (.int .i64 t16) ∧
  ((decide ((t16 : Int) < 0)) = true →
    R (.bool true) wv) ∧
  ((decide ((t16 : Int) < 0)) = false →
    Calls P 12 ⟨[(.slice aL_p aL_n aL_c)]⟩ wv fun e_1 wv_1 =>
    ∃ (t21_p : Option Addr) (t21_n : Nat) (t21_c : Nat), e_1 = .returned (.slice t21_p t21_n t21_c) ∧
    Calls P 25 ⟨[(.slice t21_p t21_n t21_c)]⟩ wv_1 fun e_2 wv_2 =>
    ∃ (t22_p : Option Addr) (t22_n : Nat) (t22_c : Nat) (t22 : Bool), e_2 = .returned (.tuple #[(.slice t22_p t22_n t22_c), (.bool t22)]) ∧
    Calls P 12 ⟨[(.slice aL_p aL_n aL_c)]⟩ wv_2 fun e_3 wv_3 =>
    ∃ (t26_p : Option Addr) (t26_n : Nat) (t26_c : Nat), e_3 = .returned (.slice t26_p t26_n t26_c) ∧
    Calls P 26 ⟨[(.slice t26_p t26_n t26_c)]⟩ wv_3 fun e_4 wv_4 =>
    ∃ (t29_p : Option Addr) (t29_n : Nat) (t29_c : Nat) (t29 : Bool), e_4 = .returned (.tuple #[(.slice t29_p t29_n t29_c), (.bool t29)]) ∧
    Calls P 14 ⟨[(.slice t29_p t29_n t29_c), (.slice t22_p t22_n t22_c)]⟩ wv_4 fun e_5 wv_5 =>
    ∃ (t34 : Bool), e_5 = .returned (.bool t34) ∧
    ((!t34) = true →
      (true = true →
        R (.bool false) wv_5) ∧
      (true = false →
        laws_FnExactUndo_j0 aL_p aL_n aL_c t22_p t22_n t22_c t22 t26_p t26_n t26_c t29_p t29_n t29_c t29 wv_5 R)) ∧
    ((!t34) = false →
      ((!(t29 == t22)) = true →
        R (.bool false) wv_5) ∧
      ((!(t29 == t22)) = false →
        laws_FnExactUndo_j0 aL_p aL_n aL_c t22_p t22_n t22_c t22 t26_p t26_n t26_c t29_p t29_n t29_c t29 wv_5 R)))
theorem laws_FnExactUndo_eq (aL_p : Option Addr) (aL_n : Nat) (aL_c : Nat) (w : World) (R : Value → World → Prop) : laws_FnExactUndo aL_p aL_n aL_c w R = fsem P Tryd.f6 (fun k => []) [(.slice aL_p aL_n aL_c)] R w := by kernel_rfl
theorem laws_FnExactUndo_ret {aL_p : Option Addr} {aL_n : Nat} {aL_c : Nat} {w : World} {R : Value → World → Prop} (h : laws_FnExactUndo aL_p aL_n aL_c w R) : Ret P 6 [(.slice aL_p aL_n aL_c)] w R :=
  Ret.of_fsem Tryd.func6 rfl (Eq.mp (laws_FnExactUndo_eq aL_p aL_n aL_c w R) h)

def laws_FnExactPlanSums_j2 (r_2 : Nat) (r_3 : Nat) (t91 : Int) (W_2 : World) (R : Value → World → Prop) : Prop :=
  ∃ (t1280 : ByteArray) (t1281 : Bool) (t1282_p : Option Addr) (t1282_n : Nat) (t1282_c : Nat), Loads P 56 ⟨r_2, 0, none⟩ (.agg #[(.string t1280), (.bool t1281), (.slice t1282_p t1282_n t1282_c)]) W_2 ∧ Calls P 37 ⟨[(.agg #[(.string t1280), (.bool t1281), (.slice t1282_p t1282_n t1282_c)]), (.int .i64 1)]⟩ W_2 fun e_16 wv_28 =>
  ∃ (t130 : Int), e_16 = .returned (.int .i64 t130) ∧
  ((decide ((t130 : Int) < 0)) = true →
    R (.bool false) wv_28) ∧
  ((decide ((t130 : Int) < 0)) = false →
    ∃ (t1330 : ByteArray) (t1331 : Bool) (t1332_p : Option Addr) (t1332_n : Nat) (t1332_c : Nat), Loads P 56 ⟨r_3, 0, none⟩ (.agg #[(.string t1330), (.bool t1331), (.slice t1332_p t1332_n t1332_c)]) wv_28 ∧ Calls P 37 ⟨[(.agg #[(.string t1330), (.bool t1331), (.slice t1332_p t1332_n t1332_c)]), (.int .i64 t130)]⟩ wv_28 fun e_17 wv_29 =>
    ∃ (t135 : Int), e_17 = .returned (.int .i64 t135) ∧
    ((decide ((t135 : Int) < 0)) = true →
      R (.bool false) wv_29) ∧
    ((decide ((t135 : Int) < 0)) = false →
      ((decide ((t135 : Int) ≠ t91)) = true →
        R (.bool false) wv_29) ∧
      ((decide ((t135 : Int) ≠ t91)) = false →
        R (.bool true) wv_29)))
def laws_FnExactPlanSums_j1 (aCur : ByteArray) (aL_p : Option Addr) (aL_n : Nat) (aL_c : Nat) (t31 : Bool) (r : Nat) (r_1 : Nat) (r_2 : Nat) (r_3 : Nat) (W_1 : World) (R : Value → World → Prop) : Prop :=
  ∃ (t860 : ByteArray) (t861 : Bool) (t862_p : Option Addr) (t862_n : Nat) (t862_c : Nat), Loads P 56 ⟨r_2, 0, none⟩ (.agg #[(.string t860), (.bool t861), (.slice t862_p t862_n t862_c)]) W_1 ∧ Calls P 36 ⟨[(.agg #[(.string t860), (.bool t861), (.slice t862_p t862_n t862_c)]), (.int .i64 1)]⟩ W_1 fun e_9 wv_17 =>
  ∃ (t88 : Int), e_9 = .returned (.int .i64 t88) ∧
  ∃ (t890 : ByteArray) (t891 : Bool) (t892_p : Option Addr) (t892_n : Nat) (t892_c : Nat), Loads P 56 ⟨r_3, 0, none⟩ (.agg #[(.string t890), (.bool t891), (.slice t892_p t892_n t892_c)]) wv_17 ∧ Calls P 36 ⟨[(.agg #[(.string t890), (.bool t891), (.slice t892_p t892_n t892_c)]), (.int .i64 t88)]⟩ wv_17 fun e_10 wv_18 =>
  ∃ (t91 : Int), e_10 = .returned (.int .i64 t91) ∧
  ∃ (t920 : ByteArray) (t921 : Bool) (t922_p : Option Addr) (t922_n : Nat) (t922_c : Nat), Loads P 56 ⟨r_2, 0, none⟩ (.agg #[(.string t920), (.bool t921), (.slice t922_p t922_n t922_c)]) wv_18 ∧ Calls P 37 ⟨[(.agg #[(.string t920), (.bool t921), (.slice t922_p t922_n t922_c)]), (.int .i64 1)]⟩ wv_18 fun e_11 wv_19 =>
  ∃ (t94 : Int), e_11 = .returned (.int .i64 t94) ∧
  ((decide ((t94 : Int) < 0)) = true →
    R (.bool false) wv_19) ∧
  ((decide ((t94 : Int) < 0)) = false →
    ∃ (t970 : ByteArray) (t971 : Bool) (t972_p : Option Addr) (t972_n : Nat) (t972_c : Nat), Loads P 56 ⟨r_3, 0, none⟩ (.agg #[(.string t970), (.bool t971), (.slice t972_p t972_n t972_c)]) wv_19 ∧ Calls P 37 ⟨[(.agg #[(.string t970), (.bool t971), (.slice t972_p t972_n t972_c)]), (.int .i64 t94)]⟩ wv_19 fun e_12 wv_20 =>
    ∃ (t99 : Int), e_12 = .returned (.int .i64 t99) ∧
    ((decide ((t99 : Int) < 0)) = true →
      R (.bool false) wv_20) ∧
    ((decide ((t99 : Int) < 0)) = false →
      ((decide ((t99 : Int) ≠ t91)) = true →
        R (.bool false) wv_20) ∧
      ((decide ((t99 : Int) ≠ t91)) = false →
        Calls P 31 ⟨[(.slice aL_p aL_n aL_c)]⟩ wv_20 fun e_13 wv_21 =>
        ∃ (t108_p : Option Addr) (t108_n : Nat) (t108_c : Nat), e_13 = .returned (.slice t108_p t108_n t108_c) ∧
        Calls P 32 ⟨[(.string aCur), (.slice t108_p t108_n t108_c)]⟩ wv_21 fun e_14 wv_22 =>
        ∃ (t1090 : ByteArray) (t1091 : Bool) (t1092_p : Option Addr) (t1092_n : Nat) (t1092_c : Nat) (t1090_1 : ByteArray) (t1091_1 : Bool) (t1092_p_1 : Option Addr) (t1092_n_1 : Nat) (t1092_c_1 : Nat) (t109 : Bool), e_14 = .returned (.tuple #[(.agg #[(.string t1090), (.bool t1091), (.slice t1092_p t1092_n t1092_c)]), (.agg #[(.string t1090_1), (.bool t1091_1), (.slice t1092_p_1 t1092_n_1 t1092_c_1)]), (.bool t109)]) ∧
        ∀ (r_4 : Nat) (wv_23 : World), New wv_22 (.cells ⟨[(.string ByteArray.empty), (.bool false), (.slice none 0 0)]⟩ 56 (0, 0)) r_4 wv_23 →
        ∀ (r_5 : Nat) (wv_24 : World), New wv_23 (.cells ⟨[(.string ByteArray.empty), (.bool false), (.slice none 0 0)]⟩ 56 (0, 0)) r_5 wv_24 →
        ∃ wv_25, Stores P 56 ⟨r_4, 0, none⟩ (.agg #[(.string t1090), (.bool t1091), (.slice t1092_p t1092_n t1092_c)]) wv_24 wv_25 ∧
        ∃ wv_26, Stores P 56 ⟨r_5, 0, none⟩ (.agg #[(.string t1090_1), (.bool t1091_1), (.slice t1092_p_1 t1092_n_1 t1092_c_1)]) wv_25 wv_26 ∧
        ∃ (t1130 : ByteArray) (t1131 : Bool) (t1132_p : Option Addr) (t1132_n : Nat) (t1132_c : Nat), Loads P 56 ⟨r_4, 0, none⟩ (.agg #[(.string t1130), (.bool t1131), (.slice t1132_p t1132_n t1132_c)]) wv_26 ∧ ∃ (t1140 : ByteArray) (t1141 : Bool) (t1142_p : Option Addr) (t1142_n : Nat) (t1142_c : Nat), Loads P 56 ⟨r, 0, none⟩ (.agg #[(.string t1140), (.bool t1141), (.slice t1142_p t1142_n t1142_c)]) wv_26 ∧ Calls P 33 ⟨[(.agg #[(.string t1130), (.bool t1131), (.slice t1132_p t1132_n t1132_c)]), (.agg #[(.string t1140), (.bool t1141), (.slice t1142_p t1142_n t1142_c)])]⟩ wv_26 fun e_15 wv_27 =>
        ∃ (t115 : Bool), e_15 = .returned (.bool t115) ∧
        ((!t115) = true →
          (true = true →
            (true = true →
              R (.bool false) wv_27) ∧
            (true = false →
              laws_FnExactPlanSums_j2 r_2 r_3 t91 wv_27 R)) ∧
          (true = false →
            ((!(t109 == t31)) = true →
              R (.bool false) wv_27) ∧
            ((!(t109 == t31)) = false →
              laws_FnExactPlanSums_j2 r_2 r_3 t91 wv_27 R))) ∧
        ((!t115) = false →
          ∃ (t1180 : ByteArray) (t1181 : Bool) (t1182_p : Option Addr) (t1182_n : Nat) (t1182_c : Nat), Loads P 56 ⟨r_5, 0, none⟩ (.agg #[(.string t1180), (.bool t1181), (.slice t1182_p t1182_n t1182_c)]) wv_27 ∧ ∃ (t1190 : ByteArray) (t1191 : Bool) (t1192_p : Option Addr) (t1192_n : Nat) (t1192_c : Nat), Loads P 56 ⟨r_1, 0, none⟩ (.agg #[(.string t1190), (.bool t1191), (.slice t1192_p t1192_n t1192_c)]) wv_27 ∧ Calls P 33 ⟨[(.agg #[(.string t1180), (.bool t1181), (.slice t1182_p t1182_n t1182_c)]), (.agg #[(.string t1190), (.bool t1191), (.slice t1192_p t1192_n t1192_c)])]⟩ wv_27 fun e_18 wv_30 =>
          ∃ (t120 : Bool), e_18 = .returned (.bool t120) ∧
          ((!t120) = true →
            (true = true →
              R (.bool false) wv_30) ∧
            (true = false →
              laws_FnExactPlanSums_j2 r_2 r_3 t91 wv_30 R)) ∧
          ((!t120) = false →
            ((!(t109 == t31)) = true →
              R (.bool false) wv_30) ∧
            ((!(t109 == t31)) = false →
              laws_FnExactPlanSums_j2 r_2 r_3 t91 wv_30 R))))))
def laws_FnExactPlanSums_j0 (aCur : ByteArray) (aL_p : Option Addr) (aL_n : Nat) (aL_c : Nat) (t31 : Bool) (r : Nat) (r_1 : Nat) (t36_p : Option Addr) (t36_n : Nat) (t36_c : Nat) (t40 : Bool) (r_2 : Nat) (r_3 : Nat) (W : World) (R : Value → World → Prop) : Prop :=
  Calls P 31 ⟨[(.slice aL_p aL_n aL_c)]⟩ W fun e_6 wv_14 =>
  ∃ (t61_p : Option Addr) (t61_n : Nat) (t61_c : Nat), e_6 = .returned (.slice t61_p t61_n t61_c) ∧
  Calls P 34 ⟨[(.slice t36_p t36_n t36_c), (.slice t61_p t61_n t61_c)]⟩ wv_14 fun e_7 wv_15 =>
  ∃ (t62 : Bool), e_7 = .returned (.bool t62) ∧
  ((!t62) = true →
    R (.bool false) wv_15) ∧
  ((!t62) = false →
    Calls P 35 ⟨[(.slice t36_p t36_n t36_c), (.int .i64 1)]⟩ wv_15 fun e_8 wv_16 =>
    ∃ (t66 : Int), e_8 = .returned (.int .i64 t66) ∧
    ((decide ((t66 : Int) < 0)) = true →
      (true = true →
        (true = true →
          (true = true →
            R (.bool false) wv_16) ∧
          (true = false →
            laws_FnExactPlanSums_j1 aCur aL_p aL_n aL_c t31 r r_1 r_2 r_3 wv_16 R)) ∧
        (true = false →
          ((!(t40 == t31)) = true →
            R (.bool false) wv_16) ∧
          ((!(t40 == t31)) = false →
            laws_FnExactPlanSums_j1 aCur aL_p aL_n aL_c t31 r r_1 r_2 r_3 wv_16 R))) ∧
      (true = false →
        ∃ (t760 : ByteArray) (t761 : Bool) (t762_p : Option Addr) (t762_n : Nat) (t762_c : Nat), Loads P 56 ⟨r_3, 0, none⟩ (.agg #[(.string t760), (.bool t761), (.slice t762_p t762_n t762_c)]) wv_16 ∧ ∃ (t770 : ByteArray) (t771 : Bool) (t772_p : Option Addr) (t772_n : Nat) (t772_c : Nat), Loads P 56 ⟨r_1, 0, none⟩ (.agg #[(.string t770), (.bool t771), (.slice t772_p t772_n t772_c)]) wv_16 ∧ Calls P 33 ⟨[(.agg #[(.string t760), (.bool t761), (.slice t762_p t762_n t762_c)]), (.agg #[(.string t770), (.bool t771), (.slice t772_p t772_n t772_c)])]⟩ wv_16 fun e_19 wv_31 =>
        ∃ (t78 : Bool), e_19 = .returned (.bool t78) ∧
        ((!t78) = true →
          (true = true →
            R (.bool false) wv_31) ∧
          (true = false →
            laws_FnExactPlanSums_j1 aCur aL_p aL_n aL_c t31 r r_1 r_2 r_3 wv_31 R)) ∧
        ((!t78) = false →
          ((!(t40 == t31)) = true →
            R (.bool false) wv_31) ∧
          ((!(t40 == t31)) = false →
            laws_FnExactPlanSums_j1 aCur aL_p aL_n aL_c t31 r r_1 r_2 r_3 wv_31 R)))) ∧
    ((decide ((t66 : Int) < 0)) = false →
      ∃ (t700 : ByteArray) (t701 : Bool) (t702_p : Option Addr) (t702_n : Nat) (t702_c : Nat), Loads P 56 ⟨r_2, 0, none⟩ (.agg #[(.string t700), (.bool t701), (.slice t702_p t702_n t702_c)]) wv_16 ∧ ∃ (t710 : ByteArray) (t711 : Bool) (t712_p : Option Addr) (t712_n : Nat) (t712_c : Nat), Loads P 56 ⟨r, 0, none⟩ (.agg #[(.string t710), (.bool t711), (.slice t712_p t712_n t712_c)]) wv_16 ∧ Calls P 33 ⟨[(.agg #[(.string t700), (.bool t701), (.slice t702_p t702_n t702_c)]), (.agg #[(.string t710), (.bool t711), (.slice t712_p t712_n t712_c)])]⟩ wv_16 fun e_20 wv_32 =>
      ∃ (t72 : Bool), e_20 = .returned (.bool t72) ∧
      ((!t72) = true →
        (true = true →
          (true = true →
            R (.bool false) wv_32) ∧
          (true = false →
            laws_FnExactPlanSums_j1 aCur aL_p aL_n aL_c t31 r r_1 r_2 r_3 wv_32 R)) ∧
        (true = false →
          ((!(t40 == t31)) = true →
            R (.bool false) wv_32) ∧
          ((!(t40 == t31)) = false →
            laws_FnExactPlanSums_j1 aCur aL_p aL_n aL_c t31 r r_1 r_2 r_3 wv_32 R))) ∧
      ((!t72) = false →
        ∃ (t760_1 : ByteArray) (t761_1 : Bool) (t762_p_1 : Option Addr) (t762_n_1 : Nat) (t762_c_1 : Nat), Loads P 56 ⟨r_3, 0, none⟩ (.agg #[(.string t760_1), (.bool t761_1), (.slice t762_p_1 t762_n_1 t762_c_1)]) wv_32 ∧ ∃ (t770_1 : ByteArray) (t771_1 : Bool) (t772_p_1 : Option Addr) (t772_n_1 : Nat) (t772_c_1 : Nat), Loads P 56 ⟨r_1, 0, none⟩ (.agg #[(.string t770_1), (.bool t771_1), (.slice t772_p_1 t772_n_1 t772_c_1)]) wv_32 ∧ Calls P 33 ⟨[(.agg #[(.string t760_1), (.bool t761_1), (.slice t762_p_1 t762_n_1 t762_c_1)]), (.agg #[(.string t770_1), (.bool t771_1), (.slice t772_p_1 t772_n_1 t772_c_1)])]⟩ wv_32 fun e_21 wv_33 =>
        ∃ (t78_1 : Bool), e_21 = .returned (.bool t78_1) ∧
        ((!t78_1) = true →
          (true = true →
            R (.bool false) wv_33) ∧
          (true = false →
            laws_FnExactPlanSums_j1 aCur aL_p aL_n aL_c t31 r r_1 r_2 r_3 wv_33 R)) ∧
        ((!t78_1) = false →
          ((!(t40 == t31)) = true →
            R (.bool false) wv_33) ∧
          ((!(t40 == t31)) = false →
            laws_FnExactPlanSums_j1 aCur aL_p aL_n aL_c t31 r r_1 r_2 r_3 wv_33 R)))))
def laws_FnExactPlanSums (aCur : ByteArray) (aL_p : Option Addr) (aL_n : Nat) (aL_c : Nat) (w : World) (R : Value → World → Prop) : Prop :=
  ((decide ((1048576 : Int) < ((aCur.size : Nat) : Int))) = true →
    R (.bool true) w) ∧
  ((decide ((1048576 : Int) < ((aCur.size : Nat) : Int))) = false →
    Calls P 29 ⟨[(.slice aL_p aL_n aL_c), (.int .i64 1048576)]⟩ w fun e wv =>
    ∃ (t24 : Int), e = .returned (.int .i64 t24) ∧
    ((decide ((t24 : Int) < 0)) = true →
      R (.bool true) wv) ∧
    ((decide ((t24 : Int) < 0)) = false →
      Calls P 31 ⟨[(.slice aL_p aL_n aL_c)]⟩ wv fun e_1 wv_1 =>
      ∃ (t30_p : Option Addr) (t30_n : Nat) (t30_c : Nat), e_1 = .returned (.slice t30_p t30_n t30_c) ∧
      Calls P 30 ⟨[(.string aCur), (.slice t30_p t30_n t30_c)]⟩ wv_1 fun e_2 wv_2 =>
      ∃ (t310 : ByteArray) (t311 : Bool) (t312_p : Option Addr) (t312_n : Nat) (t312_c : Nat) (t310_1 : ByteArray) (t311_1 : Bool) (t312_p_1 : Option Addr) (t312_n_1 : Nat) (t312_c_1 : Nat) (t31 : Bool), e_2 = .returned (.tuple #[(.agg #[(.string t310), (.bool t311), (.slice t312_p t312_n t312_c)]), (.agg #[(.string t310_1), (.bool t311_1), (.slice t312_p_1 t312_n_1 t312_c_1)]), (.bool t31)]) ∧
      ∀ (r : Nat) (wv_3 : World), New wv_2 (.cells ⟨[(.string ByteArray.empty), (.bool false), (.slice none 0 0)]⟩ 56 (0, 0)) r wv_3 →
      ∀ (r_1 : Nat) (wv_4 : World), New wv_3 (.cells ⟨[(.string ByteArray.empty), (.bool false), (.slice none 0 0)]⟩ 56 (0, 0)) r_1 wv_4 →
      ∃ wv_5, Stores P 56 ⟨r, 0, none⟩ (.agg #[(.string t310), (.bool t311), (.slice t312_p t312_n t312_c)]) wv_4 wv_5 ∧
      ∃ wv_6, Stores P 56 ⟨r_1, 0, none⟩ (.agg #[(.string t310_1), (.bool t311_1), (.slice t312_p_1 t312_n_1 t312_c_1)]) wv_5 wv_6 ∧
      Calls P 31 ⟨[(.slice aL_p aL_n aL_c)]⟩ wv_6 fun e_3 wv_7 =>
      ∃ (t36_p : Option Addr) (t36_n : Nat) (t36_c : Nat), e_3 = .returned (.slice t36_p t36_n t36_c) ∧
      Calls P 32 ⟨[(.string aCur), (.slice t36_p t36_n t36_c)]⟩ wv_7 fun e_4 wv_8 =>
      ∃ (t400 : ByteArray) (t401 : Bool) (t402_p : Option Addr) (t402_n : Nat) (t402_c : Nat) (t400_1 : ByteArray) (t401_1 : Bool) (t402_p_1 : Option Addr) (t402_n_1 : Nat) (t402_c_1 : Nat) (t40 : Bool), e_4 = .returned (.tuple #[(.agg #[(.string t400), (.bool t401), (.slice t402_p t402_n t402_c)]), (.agg #[(.string t400_1), (.bool t401_1), (.slice t402_p_1 t402_n_1 t402_c_1)]), (.bool t40)]) ∧
      ∀ (r_2 : Nat) (wv_9 : World), New wv_8 (.cells ⟨[(.string ByteArray.empty), (.bool false), (.slice none 0 0)]⟩ 56 (0, 0)) r_2 wv_9 →
      ∀ (r_3 : Nat) (wv_10 : World), New wv_9 (.cells ⟨[(.string ByteArray.empty), (.bool false), (.slice none 0 0)]⟩ 56 (0, 0)) r_3 wv_10 →
      ∃ wv_11, Stores P 56 ⟨r_2, 0, none⟩ (.agg #[(.string t400), (.bool t401), (.slice t402_p t402_n t402_c)]) wv_10 wv_11 ∧
      ∃ wv_12, Stores P 56 ⟨r_3, 0, none⟩ (.agg #[(.string t400_1), (.bool t401_1), (.slice t402_p_1 t402_n_1 t402_c_1)]) wv_11 wv_12 ∧
      ∃ (t440 : ByteArray) (t441 : Bool) (t442_p : Option Addr) (t442_n : Nat) (t442_c : Nat), Loads P 56 ⟨r_2, 0, none⟩ (.agg #[(.string t440), (.bool t441), (.slice t442_p t442_n t442_c)]) wv_12 ∧ ∃ (t450 : ByteArray) (t451 : Bool) (t452_p : Option Addr) (t452_n : Nat) (t452_c : Nat), Loads P 56 ⟨r, 0, none⟩ (.agg #[(.string t450), (.bool t451), (.slice t452_p t452_n t452_c)]) wv_12 ∧ Calls P 33 ⟨[(.agg #[(.string t440), (.bool t441), (.slice t442_p t442_n t442_c)]), (.agg #[(.string t450), (.bool t451), (.slice t452_p t452_n t452_c)])]⟩ wv_12 fun e_5 wv_13 =>
      ∃ (t46 : Bool), e_5 = .returned (.bool t46) ∧
      ((!t46) = true →
        (true = true →
          (true = true →
            R (.bool false) wv_13) ∧
          (true = false →
            laws_FnExactPlanSums_j0 aCur aL_p aL_n aL_c t31 r r_1 t36_p t36_n t36_c t40 r_2 r_3 wv_13 R)) ∧
        (true = false →
          ((!(t40 == t31)) = true →
            R (.bool false) wv_13) ∧
          ((!(t40 == t31)) = false →
            laws_FnExactPlanSums_j0 aCur aL_p aL_n aL_c t31 r r_1 t36_p t36_n t36_c t40 r_2 r_3 wv_13 R))) ∧
      ((!t46) = false →
        ∃ (t490 : ByteArray) (t491 : Bool) (t492_p : Option Addr) (t492_n : Nat) (t492_c : Nat), Loads P 56 ⟨r_3, 0, none⟩ (.agg #[(.string t490), (.bool t491), (.slice t492_p t492_n t492_c)]) wv_13 ∧ ∃ (t500 : ByteArray) (t501 : Bool) (t502_p : Option Addr) (t502_n : Nat) (t502_c : Nat), Loads P 56 ⟨r_1, 0, none⟩ (.agg #[(.string t500), (.bool t501), (.slice t502_p t502_n t502_c)]) wv_13 ∧ Calls P 33 ⟨[(.agg #[(.string t490), (.bool t491), (.slice t492_p t492_n t492_c)]), (.agg #[(.string t500), (.bool t501), (.slice t502_p t502_n t502_c)])]⟩ wv_13 fun e_22 wv_34 =>
        ∃ (t51 : Bool), e_22 = .returned (.bool t51) ∧
        ((!t51) = true →
          (true = true →
            R (.bool false) wv_34) ∧
          (true = false →
            laws_FnExactPlanSums_j0 aCur aL_p aL_n aL_c t31 r r_1 t36_p t36_n t36_c t40 r_2 r_3 wv_34 R)) ∧
        ((!t51) = false →
          ((!(t40 == t31)) = true →
            R (.bool false) wv_34) ∧
          ((!(t40 == t31)) = false →
            laws_FnExactPlanSums_j0 aCur aL_p aL_n aL_c t31 r r_1 t36_p t36_n t36_c t40 r_2 r_3 wv_34 R)))))
theorem laws_FnExactPlanSums_eq (aCur : ByteArray) (aL_p : Option Addr) (aL_n : Nat) (aL_c : Nat) (w : World) (R : Value → World → Prop) : laws_FnExactPlanSums aCur aL_p aL_n aL_c w R = fsem P Tryd.f7 (fun k => []) [(.string aCur), (.slice aL_p aL_n aL_c)] R w := by kernel_rfl
theorem laws_FnExactPlanSums_ret {aCur : ByteArray} {aL_p : Option Addr} {aL_n : Nat} {aL_c : Nat} {w : World} {R : Value → World → Prop} (h : laws_FnExactPlanSums aCur aL_p aL_n aL_c w R) : Ret P 7 [(.string aCur), (.slice aL_p aL_n aL_c)] w R :=
  Ret.of_fsem Tryd.func7 rfl (Eq.mp (laws_FnExactPlanSums_eq aCur aL_p aL_n aL_c w R) h)

def laws_FnExactBookSum_j0 (aCur : ByteArray) (r : Nat) (r_1 : Nat) (r_3 : Nat) (W : World) (R : Value → World → Prop) : Prop :=
  ∃ (t500 : Bool) (t501_p : Option Addr) (t501_n : Nat) (t501_c : Nat), Loads P 54 ⟨r_3, 0, none⟩ (.agg #[(.bool t500), (.slice t501_p t501_n t501_c)]) W ∧ Calls P 42 ⟨[(.agg #[(.bool t500), (.slice t501_p t501_n t501_c)]), (.int .i64 1)]⟩ W fun e_9 wv_18 =>
  ∃ (t52 : Int), e_9 = .returned (.int .i64 t52) ∧
  ∃ (t530 : Bool) (t531_p : Option Addr) (t531_n : Nat) (t531_c : Nat), Loads P 54 ⟨r_3, 0, none⟩ (.agg #[(.bool t530), (.slice t531_p t531_n t531_c)]) wv_18 ∧ Calls P 43 ⟨[(.agg #[(.bool t530), (.slice t531_p t531_n t531_c)]), (.int .i64 1)]⟩ wv_18 fun e_10 wv_19 =>
  ∃ (t55 : Int), e_10 = .returned (.int .i64 t55) ∧
  ((decide ((t55 : Int) < 0)) = true →
    R (.bool false) wv_19) ∧
  ((decide ((t55 : Int) < 0)) = false →
    ((decide ((t55 : Int) ≠ t52)) = true →
      R (.bool false) wv_19) ∧
    ((decide ((t55 : Int) ≠ t52)) = false →
      ∃ (t610_p : Option Addr) (t610_n : Nat) (t610_c : Nat), Loads P 31 ⟨r, 0, none⟩ (.agg #[(.slice t610_p t610_n t610_c)]) wv_19 ∧ Calls P 17 ⟨[(.agg #[(.slice t610_p t610_n t610_c)])]⟩ wv_19 fun e_11 wv_20 =>
      ∃ (t620_p : Option Addr) (t620_n : Nat) (t620_c : Nat), e_11 = .returned (.agg #[(.slice t620_p t620_n t620_c)]) ∧
      Calls P 39 ⟨[(.agg #[(.slice t620_p t620_n t620_c)]), (.string aCur)]⟩ wv_20 fun e_12 wv_21 =>
      ∃ (t640 : Bool) (t641_p : Option Addr) (t641_n : Nat) (t641_c : Nat), e_12 = .returned (.agg #[(.bool t640), (.slice t641_p t641_n t641_c)]) ∧
      ∀ (r_4 : Nat) (wv_22 : World), New wv_21 (.cells ⟨[(.bool false), (.slice none 0 0)]⟩ 54 (0, 0)) r_4 wv_22 →
      ∃ wv_23, Stores P 54 ⟨r_4, 0, none⟩ (.agg #[(.bool t640), (.slice t641_p t641_n t641_c)]) wv_22 wv_23 ∧
      ∃ (t650 : Bool) (t651_p : Option Addr) (t651_n : Nat) (t651_c : Nat), Loads P 54 ⟨r_4, 0, none⟩ (.agg #[(.bool t650), (.slice t651_p t651_n t651_c)]) wv_23 ∧ ∃ (t660 : Bool) (t661_p : Option Addr) (t661_n : Nat) (t661_c : Nat), Loads P 54 ⟨r_1, 0, none⟩ (.agg #[(.bool t660), (.slice t661_p t661_n t661_c)]) wv_23 ∧ Calls P 40 ⟨[(.agg #[(.bool t650), (.slice t651_p t651_n t651_c)]), (.agg #[(.bool t660), (.slice t661_p t661_n t661_c)])]⟩ wv_23 fun e_13 wv_24 =>
      ∃ (t67 : Bool), e_13 = .returned (.bool t67) ∧
      ((!t67) = true →
        R (.bool false) wv_24) ∧
      ((!t67) = false →
        ∃ (t690 : Bool) (t691_p : Option Addr) (t691_n : Nat) (t691_c : Nat), Loads P 54 ⟨r_3, 0, none⟩ (.agg #[(.bool t690), (.slice t691_p t691_n t691_c)]) wv_24 ∧ Calls P 43 ⟨[(.agg #[(.bool t690), (.slice t691_p t691_n t691_c)]), (.int .i64 1)]⟩ wv_24 fun e_14 wv_25 =>
        ∃ (t71 : Int), e_14 = .returned (.int .i64 t71) ∧
        ((decide ((t71 : Int) < 0)) = true →
          R (.bool false) wv_25) ∧
        ((decide ((t71 : Int) < 0)) = false →
          ((decide ((t71 : Int) ≠ t52)) = true →
            R (.bool false) wv_25) ∧
          ((decide ((t71 : Int) ≠ t52)) = false →
            R (.bool true) wv_25)))))
def laws_FnExactBookSum (aB0_p : Option Addr) (aB0_n : Nat) (aB0_c : Nat) (aCur : ByteArray) (w : World) (R : Value → World → Prop) : Prop :=
  ∀ (r : Nat) (wv : World), New w (.cells ⟨[(.slice aB0_p aB0_n aB0_c)]⟩ 31 (0, 0)) r wv →
  ((decide ((1048576 : Int) < ((aCur.size : Nat) : Int))) = true →
    R (.bool true) wv) ∧
  ((decide ((1048576 : Int) < ((aCur.size : Nat) : Int))) = false →
    ∃ (t160_p : Option Addr) (t160_n : Nat) (t160_c : Nat), Loads P 31 ⟨r, 0, none⟩ (.agg #[(.slice t160_p t160_n t160_c)]) wv ∧ Calls P 15 ⟨[(.agg #[(.slice t160_p t160_n t160_c)]), (.int .i64 1048576)]⟩ wv fun e wv_1 =>
    ∃ (t18 : Int), e = .returned (.int .i64 t18) ∧
    ((decide ((t18 : Int) < 0)) = true →
      R (.bool true) wv_1) ∧
    ((decide ((t18 : Int) < 0)) = false →
      ∃ (t210_p : Option Addr) (t210_n : Nat) (t210_c : Nat), Loads P 31 ⟨r, 0, none⟩ (.agg #[(.slice t210_p t210_n t210_c)]) wv_1 ∧ Calls P 17 ⟨[(.agg #[(.slice t210_p t210_n t210_c)])]⟩ wv_1 fun e_1 wv_2 =>
      ∃ (t220_p : Option Addr) (t220_n : Nat) (t220_c : Nat), e_1 = .returned (.agg #[(.slice t220_p t220_n t220_c)]) ∧
      Calls P 38 ⟨[(.agg #[(.slice t220_p t220_n t220_c)]), (.string aCur)]⟩ wv_2 fun e_2 wv_3 =>
      ∃ (t240 : Bool) (t241_p : Option Addr) (t241_n : Nat) (t241_c : Nat), e_2 = .returned (.agg #[(.bool t240), (.slice t241_p t241_n t241_c)]) ∧
      ∀ (r_1 : Nat) (wv_4 : World), New wv_3 (.cells ⟨[(.bool false), (.slice none 0 0)]⟩ 54 (0, 0)) r_1 wv_4 →
      ∃ wv_5, Stores P 54 ⟨r_1, 0, none⟩ (.agg #[(.bool t240), (.slice t241_p t241_n t241_c)]) wv_4 wv_5 ∧
      ∃ (t250_p : Option Addr) (t250_n : Nat) (t250_c : Nat), Loads P 31 ⟨r, 0, none⟩ (.agg #[(.slice t250_p t250_n t250_c)]) wv_5 ∧ Calls P 17 ⟨[(.agg #[(.slice t250_p t250_n t250_c)])]⟩ wv_5 fun e_3 wv_6 =>
      ∃ (t260_p : Option Addr) (t260_n : Nat) (t260_c : Nat), e_3 = .returned (.agg #[(.slice t260_p t260_n t260_c)]) ∧
      ∀ (r_2 : Nat) (wv_7 : World), New wv_6 (.cells ⟨[(.slice none 0 0)]⟩ 36 (0, 0)) r_2 wv_7 →
      ∃ wv_8, Stores P 36 ⟨r_2, 0, none⟩ (.agg #[(.slice t260_p t260_n t260_c)]) wv_7 wv_8 ∧
      ∃ (t270_p : Option Addr) (t270_n : Nat) (t270_c : Nat), Loads P 36 ⟨r_2, 0, none⟩ (.agg #[(.slice t270_p t270_n t270_c)]) wv_8 ∧ Calls P 39 ⟨[(.agg #[(.slice t270_p t270_n t270_c)]), (.string aCur)]⟩ wv_8 fun e_4 wv_9 =>
      ∃ (t290 : Bool) (t291_p : Option Addr) (t291_n : Nat) (t291_c : Nat), e_4 = .returned (.agg #[(.bool t290), (.slice t291_p t291_n t291_c)]) ∧
      ∀ (r_3 : Nat) (wv_10 : World), New wv_9 (.cells ⟨[(.bool false), (.slice none 0 0)]⟩ 54 (0, 0)) r_3 wv_10 →
      ∃ wv_11, Stores P 54 ⟨r_3, 0, none⟩ (.agg #[(.bool t290), (.slice t291_p t291_n t291_c)]) wv_10 wv_11 ∧
      ∃ (t300 : Bool) (t301_p : Option Addr) (t301_n : Nat) (t301_c : Nat), Loads P 54 ⟨r_3, 0, none⟩ (.agg #[(.bool t300), (.slice t301_p t301_n t301_c)]) wv_11 ∧ ∃ (t310 : Bool) (t311_p : Option Addr) (t311_n : Nat) (t311_c : Nat), Loads P 54 ⟨r_1, 0, none⟩ (.agg #[(.bool t310), (.slice t311_p t311_n t311_c)]) wv_11 ∧ Calls P 40 ⟨[(.agg #[(.bool t300), (.slice t301_p t301_n t301_c)]), (.agg #[(.bool t310), (.slice t311_p t311_n t311_c)])]⟩ wv_11 fun e_5 wv_12 =>
      ∃ (t32 : Bool), e_5 = .returned (.bool t32) ∧
      ((!t32) = true →
        R (.bool false) wv_12) ∧
      ((!t32) = false →
        ∃ (t340_p : Option Addr) (t340_n : Nat) (t340_c : Nat), (∀ wv_13, Ext wv_12.drew wv_13 → Loads P 36 ⟨r_2, 0, none⟩ (.agg #[(.slice t340_p t340_n t340_c)]) wv_13) ∧ ∃ (t350_p : Option Addr) (t350_n : Nat) (t350_c : Nat), (∀ wv_14, Ext wv_12.drew wv_14 → Loads P 31 ⟨r, 0, none⟩ (.agg #[(.slice t350_p t350_n t350_c)]) wv_14) ∧ Calls P 17 ⟨[(.agg #[(.slice t350_p t350_n t350_c)])]⟩ wv_12.drew fun e_6 wv_15 =>
        ∃ (t360_p : Option Addr) (t360_n : Nat) (t360_c : Nat), e_6 = .returned (.agg #[(.slice t360_p t360_n t360_c)]) ∧
        Ext wv_12.drew wv_15 ∧ Calls P 19 ⟨[(.agg #[(.slice t340_p t340_n t340_c)]), (.agg #[(.slice t360_p t360_n t360_c)])]⟩ wv_15 fun e_7 wv_16 =>
        ∃ (t37 : Bool), e_7 = .returned (.bool t37) ∧
        ((!t37) = true →
          R (.bool false) wv_16) ∧
        ((!t37) = false →
          ∃ (t390_p : Option Addr) (t390_n : Nat) (t390_c : Nat), Loads P 36 ⟨r_2, 0, none⟩ (.agg #[(.slice t390_p t390_n t390_c)]) wv_16 ∧ Calls P 41 ⟨[(.agg #[(.slice t390_p t390_n t390_c)]), (.int .i64 1)]⟩ wv_16 fun e_8 wv_17 =>
          ∃ (t41 : Int), e_8 = .returned (.int .i64 t41) ∧
          ((decide ((t41 : Int) < 0)) = true →
            (true = true →
              R (.bool false) wv_17) ∧
            (true = false →
              laws_FnExactBookSum_j0 aCur r r_1 r_3 wv_17 R)) ∧
          ((decide ((t41 : Int) < 0)) = false →
            ∃ (t450 : Bool) (t451_p : Option Addr) (t451_n : Nat) (t451_c : Nat), Loads P 54 ⟨r_3, 0, none⟩ (.agg #[(.bool t450), (.slice t451_p t451_n t451_c)]) wv_17 ∧ ∃ (t460 : Bool) (t461_p : Option Addr) (t461_n : Nat) (t461_c : Nat), Loads P 54 ⟨r_1, 0, none⟩ (.agg #[(.bool t460), (.slice t461_p t461_n t461_c)]) wv_17 ∧ Calls P 40 ⟨[(.agg #[(.bool t450), (.slice t451_p t451_n t451_c)]), (.agg #[(.bool t460), (.slice t461_p t461_n t461_c)])]⟩ wv_17 fun e_15 wv_26 =>
            ∃ (t47 : Bool), e_15 = .returned (.bool t47) ∧
            ((!t47) = true →
              R (.bool false) wv_26) ∧
            ((!t47) = false →
              laws_FnExactBookSum_j0 aCur r r_1 r_3 wv_26 R))))))
theorem laws_FnExactBookSum_eq (aB0_p : Option Addr) (aB0_n : Nat) (aB0_c : Nat) (aCur : ByteArray) (w : World) (R : Value → World → Prop) : laws_FnExactBookSum aB0_p aB0_n aB0_c aCur w R = fsem P Tryd.f8 (fun k => []) [(.agg #[(.slice aB0_p aB0_n aB0_c)]), (.string aCur)] R w := by kernel_rfl
theorem laws_FnExactBookSum_ret {aB0_p : Option Addr} {aB0_n : Nat} {aB0_c : Nat} {aCur : ByteArray} {w : World} {R : Value → World → Prop} (h : laws_FnExactBookSum aB0_p aB0_n aB0_c aCur w R) : Ret P 8 [(.agg #[(.slice aB0_p aB0_n aB0_c)]), (.string aCur)] w R :=
  Ret.of_fsem Tryd.func8 rfl (Eq.mp (laws_FnExactBookSum_eq aB0_p aB0_n aB0_c aCur w R) h)

def laws_FnExactTaxTotal_j2 (r_2 : Nat) (r_3 : Nat) (t84 : Int) (W_2 : World) (R : Value → World → Prop) : Prop :=
  ∃ (t1200 : ByteArray) (t1201 : Bool) (t1202_p : Option Addr) (t1202_n : Nat) (t1202_c : Nat), Loads P 56 ⟨r_2, 0, none⟩ (.agg #[(.string t1200), (.bool t1201), (.slice t1202_p t1202_n t1202_c)]) W_2 ∧ Calls P 37 ⟨[(.agg #[(.string t1200), (.bool t1201), (.slice t1202_p t1202_n t1202_c)]), (.int .i64 1)]⟩ W_2 fun e_16 wv_28 =>
  ∃ (t122 : Int), e_16 = .returned (.int .i64 t122) ∧
  ((decide ((t122 : Int) < 0)) = true →
    R (.bool false) wv_28) ∧
  ((decide ((t122 : Int) < 0)) = false →
    ∃ (t1250 : ByteArray) (t1251 : Bool) (t1252_p : Option Addr) (t1252_n : Nat) (t1252_c : Nat), Loads P 56 ⟨r_3, 0, none⟩ (.agg #[(.string t1250), (.bool t1251), (.slice t1252_p t1252_n t1252_c)]) wv_28 ∧ Calls P 37 ⟨[(.agg #[(.string t1250), (.bool t1251), (.slice t1252_p t1252_n t1252_c)]), (.int .i64 t122)]⟩ wv_28 fun e_17 wv_29 =>
    ∃ (t127 : Int), e_17 = .returned (.int .i64 t127) ∧
    ((decide ((t127 : Int) < 0)) = true →
      R (.bool false) wv_29) ∧
    ((decide ((t127 : Int) < 0)) = false →
      ((decide ((t127 : Int) ≠ t84)) = true →
        R (.bool false) wv_29) ∧
      ((decide ((t127 : Int) ≠ t84)) = false →
        R (.bool true) wv_29)))
def laws_FnExactTaxTotal_j1 (aL_p : Option Addr) (aL_n : Nat) (aL_c : Nat) (t25 : Bool) (r : Nat) (r_1 : Nat) (r_2 : Nat) (r_3 : Nat) (W_1 : World) (R : Value → World → Prop) : Prop :=
  ∃ (t790 : ByteArray) (t791 : Bool) (t792_p : Option Addr) (t792_n : Nat) (t792_c : Nat), Loads P 56 ⟨r_2, 0, none⟩ (.agg #[(.string t790), (.bool t791), (.slice t792_p t792_n t792_c)]) W_1 ∧ Calls P 36 ⟨[(.agg #[(.string t790), (.bool t791), (.slice t792_p t792_n t792_c)]), (.int .i64 1)]⟩ W_1 fun e_9 wv_17 =>
  ∃ (t81 : Int), e_9 = .returned (.int .i64 t81) ∧
  ∃ (t820 : ByteArray) (t821 : Bool) (t822_p : Option Addr) (t822_n : Nat) (t822_c : Nat), Loads P 56 ⟨r_3, 0, none⟩ (.agg #[(.string t820), (.bool t821), (.slice t822_p t822_n t822_c)]) wv_17 ∧ Calls P 36 ⟨[(.agg #[(.string t820), (.bool t821), (.slice t822_p t822_n t822_c)]), (.int .i64 t81)]⟩ wv_17 fun e_10 wv_18 =>
  ∃ (t84 : Int), e_10 = .returned (.int .i64 t84) ∧
  ∃ (t850 : ByteArray) (t851 : Bool) (t852_p : Option Addr) (t852_n : Nat) (t852_c : Nat), Loads P 56 ⟨r_2, 0, none⟩ (.agg #[(.string t850), (.bool t851), (.slice t852_p t852_n t852_c)]) wv_18 ∧ Calls P 37 ⟨[(.agg #[(.string t850), (.bool t851), (.slice t852_p t852_n t852_c)]), (.int .i64 1)]⟩ wv_18 fun e_11 wv_19 =>
  ∃ (t87 : Int), e_11 = .returned (.int .i64 t87) ∧
  ((decide ((t87 : Int) < 0)) = true →
    R (.bool false) wv_19) ∧
  ((decide ((t87 : Int) < 0)) = false →
    ∃ (t900 : ByteArray) (t901 : Bool) (t902_p : Option Addr) (t902_n : Nat) (t902_c : Nat), Loads P 56 ⟨r_3, 0, none⟩ (.agg #[(.string t900), (.bool t901), (.slice t902_p t902_n t902_c)]) wv_19 ∧ Calls P 37 ⟨[(.agg #[(.string t900), (.bool t901), (.slice t902_p t902_n t902_c)]), (.int .i64 t87)]⟩ wv_19 fun e_12 wv_20 =>
    ∃ (t92 : Int), e_12 = .returned (.int .i64 t92) ∧
    ((decide ((t92 : Int) < 0)) = true →
      R (.bool false) wv_20) ∧
    ((decide ((t92 : Int) < 0)) = false →
      ((decide ((t92 : Int) ≠ t84)) = true →
        R (.bool false) wv_20) ∧
      ((decide ((t92 : Int) ≠ t84)) = false →
        Calls P 46 ⟨[(.slice aL_p aL_n aL_c)]⟩ wv_20 fun e_13 wv_21 =>
        ∃ (t100_p : Option Addr) (t100_n : Nat) (t100_c : Nat), e_13 = .returned (.slice t100_p t100_n t100_c) ∧
        Calls P 47 ⟨[(.slice t100_p t100_n t100_c)]⟩ wv_21 fun e_14 wv_22 =>
        ∃ (t1010 : ByteArray) (t1011 : Bool) (t1012_p : Option Addr) (t1012_n : Nat) (t1012_c : Nat) (t1010_1 : ByteArray) (t1011_1 : Bool) (t1012_p_1 : Option Addr) (t1012_n_1 : Nat) (t1012_c_1 : Nat) (t101 : Bool), e_14 = .returned (.tuple #[(.agg #[(.string t1010), (.bool t1011), (.slice t1012_p t1012_n t1012_c)]), (.agg #[(.string t1010_1), (.bool t1011_1), (.slice t1012_p_1 t1012_n_1 t1012_c_1)]), (.bool t101)]) ∧
        ∀ (r_4 : Nat) (wv_23 : World), New wv_22 (.cells ⟨[(.string ByteArray.empty), (.bool false), (.slice none 0 0)]⟩ 56 (0, 0)) r_4 wv_23 →
        ∀ (r_5 : Nat) (wv_24 : World), New wv_23 (.cells ⟨[(.string ByteArray.empty), (.bool false), (.slice none 0 0)]⟩ 56 (0, 0)) r_5 wv_24 →
        ∃ wv_25, Stores P 56 ⟨r_4, 0, none⟩ (.agg #[(.string t1010), (.bool t1011), (.slice t1012_p t1012_n t1012_c)]) wv_24 wv_25 ∧
        ∃ wv_26, Stores P 56 ⟨r_5, 0, none⟩ (.agg #[(.string t1010_1), (.bool t1011_1), (.slice t1012_p_1 t1012_n_1 t1012_c_1)]) wv_25 wv_26 ∧
        ∃ (t1050 : ByteArray) (t1051 : Bool) (t1052_p : Option Addr) (t1052_n : Nat) (t1052_c : Nat), Loads P 56 ⟨r_4, 0, none⟩ (.agg #[(.string t1050), (.bool t1051), (.slice t1052_p t1052_n t1052_c)]) wv_26 ∧ ∃ (t1060 : ByteArray) (t1061 : Bool) (t1062_p : Option Addr) (t1062_n : Nat) (t1062_c : Nat), Loads P 56 ⟨r, 0, none⟩ (.agg #[(.string t1060), (.bool t1061), (.slice t1062_p t1062_n t1062_c)]) wv_26 ∧ Calls P 33 ⟨[(.agg #[(.string t1050), (.bool t1051), (.slice t1052_p t1052_n t1052_c)]), (.agg #[(.string t1060), (.bool t1061), (.slice t1062_p t1062_n t1062_c)])]⟩ wv_26 fun e_15 wv_27 =>
        ∃ (t107 : Bool), e_15 = .returned (.bool t107) ∧
        ((!t107) = true →
          (true = true →
            (true = true →
              R (.bool false) wv_27) ∧
            (true = false →
              laws_FnExactTaxTotal_j2 r_2 r_3 t84 wv_27 R)) ∧
          (true = false →
            ((!(t101 == t25)) = true →
              R (.bool false) wv_27) ∧
            ((!(t101 == t25)) = false →
              laws_FnExactTaxTotal_j2 r_2 r_3 t84 wv_27 R))) ∧
        ((!t107) = false →
          ∃ (t1100 : ByteArray) (t1101 : Bool) (t1102_p : Option Addr) (t1102_n : Nat) (t1102_c : Nat), Loads P 56 ⟨r_5, 0, none⟩ (.agg #[(.string t1100), (.bool t1101), (.slice t1102_p t1102_n t1102_c)]) wv_27 ∧ ∃ (t1110 : ByteArray) (t1111 : Bool) (t1112_p : Option Addr) (t1112_n : Nat) (t1112_c : Nat), Loads P 56 ⟨r_1, 0, none⟩ (.agg #[(.string t1110), (.bool t1111), (.slice t1112_p t1112_n t1112_c)]) wv_27 ∧ Calls P 33 ⟨[(.agg #[(.string t1100), (.bool t1101), (.slice t1102_p t1102_n t1102_c)]), (.agg #[(.string t1110), (.bool t1111), (.slice t1112_p t1112_n t1112_c)])]⟩ wv_27 fun e_18 wv_30 =>
          ∃ (t112 : Bool), e_18 = .returned (.bool t112) ∧
          ((!t112) = true →
            (true = true →
              R (.bool false) wv_30) ∧
            (true = false →
              laws_FnExactTaxTotal_j2 r_2 r_3 t84 wv_30 R)) ∧
          ((!t112) = false →
            ((!(t101 == t25)) = true →
              R (.bool false) wv_30) ∧
            ((!(t101 == t25)) = false →
              laws_FnExactTaxTotal_j2 r_2 r_3 t84 wv_30 R))))))
def laws_FnExactTaxTotal_j0 (aL_p : Option Addr) (aL_n : Nat) (aL_c : Nat) (t25 : Bool) (r : Nat) (r_1 : Nat) (t30_p : Option Addr) (t30_n : Nat) (t30_c : Nat) (t33 : Bool) (r_2 : Nat) (r_3 : Nat) (W : World) (R : Value → World → Prop) : Prop :=
  Calls P 46 ⟨[(.slice aL_p aL_n aL_c)]⟩ W fun e_6 wv_14 =>
  ∃ (t54_p : Option Addr) (t54_n : Nat) (t54_c : Nat), e_6 = .returned (.slice t54_p t54_n t54_c) ∧
  Calls P 48 ⟨[(.slice t30_p t30_n t30_c), (.slice t54_p t54_n t54_c)]⟩ wv_14 fun e_7 wv_15 =>
  ∃ (t55 : Bool), e_7 = .returned (.bool t55) ∧
  ((!t55) = true →
    R (.bool false) wv_15) ∧
  ((!t55) = false →
    Calls P 49 ⟨[(.slice t30_p t30_n t30_c), (.int .i64 1)]⟩ wv_15 fun e_8 wv_16 =>
    ∃ (t59 : Int), e_8 = .returned (.int .i64 t59) ∧
    ((decide ((t59 : Int) < 0)) = true →
      (true = true →
        (true = true →
          (true = true →
            R (.bool false) wv_16) ∧
          (true = false →
            laws_FnExactTaxTotal_j1 aL_p aL_n aL_c t25 r r_1 r_2 r_3 wv_16 R)) ∧
        (true = false →
          ((!(t33 == t25)) = true →
            R (.bool false) wv_16) ∧
          ((!(t33 == t25)) = false →
            laws_FnExactTaxTotal_j1 aL_p aL_n aL_c t25 r r_1 r_2 r_3 wv_16 R))) ∧
      (true = false →
        ∃ (t690 : ByteArray) (t691 : Bool) (t692_p : Option Addr) (t692_n : Nat) (t692_c : Nat), Loads P 56 ⟨r_3, 0, none⟩ (.agg #[(.string t690), (.bool t691), (.slice t692_p t692_n t692_c)]) wv_16 ∧ ∃ (t700 : ByteArray) (t701 : Bool) (t702_p : Option Addr) (t702_n : Nat) (t702_c : Nat), Loads P 56 ⟨r_1, 0, none⟩ (.agg #[(.string t700), (.bool t701), (.slice t702_p t702_n t702_c)]) wv_16 ∧ Calls P 33 ⟨[(.agg #[(.string t690), (.bool t691), (.slice t692_p t692_n t692_c)]), (.agg #[(.string t700), (.bool t701), (.slice t702_p t702_n t702_c)])]⟩ wv_16 fun e_19 wv_31 =>
        ∃ (t71 : Bool), e_19 = .returned (.bool t71) ∧
        ((!t71) = true →
          (true = true →
            R (.bool false) wv_31) ∧
          (true = false →
            laws_FnExactTaxTotal_j1 aL_p aL_n aL_c t25 r r_1 r_2 r_3 wv_31 R)) ∧
        ((!t71) = false →
          ((!(t33 == t25)) = true →
            R (.bool false) wv_31) ∧
          ((!(t33 == t25)) = false →
            laws_FnExactTaxTotal_j1 aL_p aL_n aL_c t25 r r_1 r_2 r_3 wv_31 R)))) ∧
    ((decide ((t59 : Int) < 0)) = false →
      ∃ (t630 : ByteArray) (t631 : Bool) (t632_p : Option Addr) (t632_n : Nat) (t632_c : Nat), Loads P 56 ⟨r_2, 0, none⟩ (.agg #[(.string t630), (.bool t631), (.slice t632_p t632_n t632_c)]) wv_16 ∧ ∃ (t640 : ByteArray) (t641 : Bool) (t642_p : Option Addr) (t642_n : Nat) (t642_c : Nat), Loads P 56 ⟨r, 0, none⟩ (.agg #[(.string t640), (.bool t641), (.slice t642_p t642_n t642_c)]) wv_16 ∧ Calls P 33 ⟨[(.agg #[(.string t630), (.bool t631), (.slice t632_p t632_n t632_c)]), (.agg #[(.string t640), (.bool t641), (.slice t642_p t642_n t642_c)])]⟩ wv_16 fun e_20 wv_32 =>
      ∃ (t65 : Bool), e_20 = .returned (.bool t65) ∧
      ((!t65) = true →
        (true = true →
          (true = true →
            R (.bool false) wv_32) ∧
          (true = false →
            laws_FnExactTaxTotal_j1 aL_p aL_n aL_c t25 r r_1 r_2 r_3 wv_32 R)) ∧
        (true = false →
          ((!(t33 == t25)) = true →
            R (.bool false) wv_32) ∧
          ((!(t33 == t25)) = false →
            laws_FnExactTaxTotal_j1 aL_p aL_n aL_c t25 r r_1 r_2 r_3 wv_32 R))) ∧
      ((!t65) = false →
        ∃ (t690_1 : ByteArray) (t691_1 : Bool) (t692_p_1 : Option Addr) (t692_n_1 : Nat) (t692_c_1 : Nat), Loads P 56 ⟨r_3, 0, none⟩ (.agg #[(.string t690_1), (.bool t691_1), (.slice t692_p_1 t692_n_1 t692_c_1)]) wv_32 ∧ ∃ (t700_1 : ByteArray) (t701_1 : Bool) (t702_p_1 : Option Addr) (t702_n_1 : Nat) (t702_c_1 : Nat), Loads P 56 ⟨r_1, 0, none⟩ (.agg #[(.string t700_1), (.bool t701_1), (.slice t702_p_1 t702_n_1 t702_c_1)]) wv_32 ∧ Calls P 33 ⟨[(.agg #[(.string t690_1), (.bool t691_1), (.slice t692_p_1 t692_n_1 t692_c_1)]), (.agg #[(.string t700_1), (.bool t701_1), (.slice t702_p_1 t702_n_1 t702_c_1)])]⟩ wv_32 fun e_21 wv_33 =>
        ∃ (t71_1 : Bool), e_21 = .returned (.bool t71_1) ∧
        ((!t71_1) = true →
          (true = true →
            R (.bool false) wv_33) ∧
          (true = false →
            laws_FnExactTaxTotal_j1 aL_p aL_n aL_c t25 r r_1 r_2 r_3 wv_33 R)) ∧
        ((!t71_1) = false →
          ((!(t33 == t25)) = true →
            R (.bool false) wv_33) ∧
          ((!(t33 == t25)) = false →
            laws_FnExactTaxTotal_j1 aL_p aL_n aL_c t25 r r_1 r_2 r_3 wv_33 R)))))
def laws_FnExactTaxTotal (aL_p : Option Addr) (aL_n : Nat) (aL_c : Nat) (w : World) (R : Value → World → Prop) : Prop :=
  Calls P 44 ⟨[(.slice aL_p aL_n aL_c), (.int .i64 1048576)]⟩ w fun e wv =>
  ∃ (t19 : Int), e = .returned (.int .i64 t19) ∧
  ((decide ((t19 : Int) < 0)) = true →
    R (.bool true) wv) ∧
  ((decide ((t19 : Int) < 0)) = false →
    Calls P 46 ⟨[(.slice aL_p aL_n aL_c)]⟩ wv fun e_1 wv_1 =>
    ∃ (t24_p : Option Addr) (t24_n : Nat) (t24_c : Nat), e_1 = .returned (.slice t24_p t24_n t24_c) ∧
    Calls P 45 ⟨[(.slice t24_p t24_n t24_c)]⟩ wv_1 fun e_2 wv_2 =>
    ∃ (t250 : ByteArray) (t251 : Bool) (t252_p : Option Addr) (t252_n : Nat) (t252_c : Nat) (t250_1 : ByteArray) (t251_1 : Bool) (t252_p_1 : Option Addr) (t252_n_1 : Nat) (t252_c_1 : Nat) (t25 : Bool), e_2 = .returned (.tuple #[(.agg #[(.string t250), (.bool t251), (.slice t252_p t252_n t252_c)]), (.agg #[(.string t250_1), (.bool t251_1), (.slice t252_p_1 t252_n_1 t252_c_1)]), (.bool t25)]) ∧
    ∀ (r : Nat) (wv_3 : World), New wv_2 (.cells ⟨[(.string ByteArray.empty), (.bool false), (.slice none 0 0)]⟩ 56 (0, 0)) r wv_3 →
    ∀ (r_1 : Nat) (wv_4 : World), New wv_3 (.cells ⟨[(.string ByteArray.empty), (.bool false), (.slice none 0 0)]⟩ 56 (0, 0)) r_1 wv_4 →
    ∃ wv_5, Stores P 56 ⟨r, 0, none⟩ (.agg #[(.string t250), (.bool t251), (.slice t252_p t252_n t252_c)]) wv_4 wv_5 ∧
    ∃ wv_6, Stores P 56 ⟨r_1, 0, none⟩ (.agg #[(.string t250_1), (.bool t251_1), (.slice t252_p_1 t252_n_1 t252_c_1)]) wv_5 wv_6 ∧
    Calls P 46 ⟨[(.slice aL_p aL_n aL_c)]⟩ wv_6 fun e_3 wv_7 =>
    ∃ (t30_p : Option Addr) (t30_n : Nat) (t30_c : Nat), e_3 = .returned (.slice t30_p t30_n t30_c) ∧
    Calls P 47 ⟨[(.slice t30_p t30_n t30_c)]⟩ wv_7 fun e_4 wv_8 =>
    ∃ (t330 : ByteArray) (t331 : Bool) (t332_p : Option Addr) (t332_n : Nat) (t332_c : Nat) (t330_1 : ByteArray) (t331_1 : Bool) (t332_p_1 : Option Addr) (t332_n_1 : Nat) (t332_c_1 : Nat) (t33 : Bool), e_4 = .returned (.tuple #[(.agg #[(.string t330), (.bool t331), (.slice t332_p t332_n t332_c)]), (.agg #[(.string t330_1), (.bool t331_1), (.slice t332_p_1 t332_n_1 t332_c_1)]), (.bool t33)]) ∧
    ∀ (r_2 : Nat) (wv_9 : World), New wv_8 (.cells ⟨[(.string ByteArray.empty), (.bool false), (.slice none 0 0)]⟩ 56 (0, 0)) r_2 wv_9 →
    ∀ (r_3 : Nat) (wv_10 : World), New wv_9 (.cells ⟨[(.string ByteArray.empty), (.bool false), (.slice none 0 0)]⟩ 56 (0, 0)) r_3 wv_10 →
    ∃ wv_11, Stores P 56 ⟨r_2, 0, none⟩ (.agg #[(.string t330), (.bool t331), (.slice t332_p t332_n t332_c)]) wv_10 wv_11 ∧
    ∃ wv_12, Stores P 56 ⟨r_3, 0, none⟩ (.agg #[(.string t330_1), (.bool t331_1), (.slice t332_p_1 t332_n_1 t332_c_1)]) wv_11 wv_12 ∧
    ∃ (t370 : ByteArray) (t371 : Bool) (t372_p : Option Addr) (t372_n : Nat) (t372_c : Nat), Loads P 56 ⟨r_2, 0, none⟩ (.agg #[(.string t370), (.bool t371), (.slice t372_p t372_n t372_c)]) wv_12 ∧ ∃ (t380 : ByteArray) (t381 : Bool) (t382_p : Option Addr) (t382_n : Nat) (t382_c : Nat), Loads P 56 ⟨r, 0, none⟩ (.agg #[(.string t380), (.bool t381), (.slice t382_p t382_n t382_c)]) wv_12 ∧ Calls P 33 ⟨[(.agg #[(.string t370), (.bool t371), (.slice t372_p t372_n t372_c)]), (.agg #[(.string t380), (.bool t381), (.slice t382_p t382_n t382_c)])]⟩ wv_12 fun e_5 wv_13 =>
    ∃ (t39 : Bool), e_5 = .returned (.bool t39) ∧
    ((!t39) = true →
      (true = true →
        (true = true →
          R (.bool false) wv_13) ∧
        (true = false →
          laws_FnExactTaxTotal_j0 aL_p aL_n aL_c t25 r r_1 t30_p t30_n t30_c t33 r_2 r_3 wv_13 R)) ∧
      (true = false →
        ((!(t33 == t25)) = true →
          R (.bool false) wv_13) ∧
        ((!(t33 == t25)) = false →
          laws_FnExactTaxTotal_j0 aL_p aL_n aL_c t25 r r_1 t30_p t30_n t30_c t33 r_2 r_3 wv_13 R))) ∧
    ((!t39) = false →
      ∃ (t420 : ByteArray) (t421 : Bool) (t422_p : Option Addr) (t422_n : Nat) (t422_c : Nat), Loads P 56 ⟨r_3, 0, none⟩ (.agg #[(.string t420), (.bool t421), (.slice t422_p t422_n t422_c)]) wv_13 ∧ ∃ (t430 : ByteArray) (t431 : Bool) (t432_p : Option Addr) (t432_n : Nat) (t432_c : Nat), Loads P 56 ⟨r_1, 0, none⟩ (.agg #[(.string t430), (.bool t431), (.slice t432_p t432_n t432_c)]) wv_13 ∧ Calls P 33 ⟨[(.agg #[(.string t420), (.bool t421), (.slice t422_p t422_n t422_c)]), (.agg #[(.string t430), (.bool t431), (.slice t432_p t432_n t432_c)])]⟩ wv_13 fun e_22 wv_34 =>
      ∃ (t44 : Bool), e_22 = .returned (.bool t44) ∧
      ((!t44) = true →
        (true = true →
          R (.bool false) wv_34) ∧
        (true = false →
          laws_FnExactTaxTotal_j0 aL_p aL_n aL_c t25 r r_1 t30_p t30_n t30_c t33 r_2 r_3 wv_34 R)) ∧
      ((!t44) = false →
        ((!(t33 == t25)) = true →
          R (.bool false) wv_34) ∧
        ((!(t33 == t25)) = false →
          laws_FnExactTaxTotal_j0 aL_p aL_n aL_c t25 r r_1 t30_p t30_n t30_c t33 r_2 r_3 wv_34 R))))
theorem laws_FnExactTaxTotal_eq (aL_p : Option Addr) (aL_n : Nat) (aL_c : Nat) (w : World) (R : Value → World → Prop) : laws_FnExactTaxTotal aL_p aL_n aL_c w R = fsem P Tryd.f9 (fun k => []) [(.slice aL_p aL_n aL_c)] R w := by kernel_rfl
theorem laws_FnExactTaxTotal_ret {aL_p : Option Addr} {aL_n : Nat} {aL_c : Nat} {w : World} {R : Value → World → Prop} (h : laws_FnExactTaxTotal aL_p aL_n aL_c w R) : Ret P 9 [(.slice aL_p aL_n aL_c)] w R :=
  Ret.of_fsem Tryd.func9 rfl (Eq.mp (laws_FnExactTaxTotal_eq aL_p aL_n aL_c w R) h)

def spec_LegsOk (l_p : Option Addr) (l_n : Nat) (l_c : Nat) (w : World) (R : Value → World → Prop) : Prop :=
  ∃ (Inv : Int → World → Prop) (mu : Int → World → Nat), Inv 0 w ∧
  ∀ (junk : Fr) (wv : World) (t7 : Int), Inv t7 wv →
    ((decide ((t7 : Int) < ((l_n : Nat) : Int))) = true →
      (0 ≤ (t7 : Int) ∧ (t7 : Int) < (l_n : Nat)) ∧ ptrS l_p fun ad => ∃ (t100 : ByteArray) (t101 : ByteArray) (t102 : Bool) (t103_p : Option Addr) (t103_n : Nat) (t103_c : Nat), Loads P 86 (ad.add (t7.toNat * 4)) (.agg #[(.string t100), (.string t101), (.bool t102), (.slice t103_p t103_n t103_c)]) wv ∧ ∀ (r : Nat) (wv_1 : World), New wv (.cells ⟨[(.string ByteArray.empty), (.string ByteArray.empty), (.bool false), (.slice none 0 0)]⟩ 86 (0, 0)) r wv_1 →
      ∃ wv_2, Stores P 86 ⟨r, 0, none⟩ (.agg #[(.string t100), (.string t101), (.bool t102), (.slice t103_p t103_n t103_c)]) wv_1 wv_2 ∧
      ∃ (t12 : ByteArray), Loads P 9 ((⟨r, 0, none⟩ : Addr).add 0) (.string t12) wv_2 ∧ Calls P 51 ⟨[(.string t12)]⟩ wv_2 fun e wv_3 =>
      ∃ (t13 : Bool), e = .returned (.bool t13) ∧
      ((!t13) = true →
        (true = true →
          R (.bool false) wv_3) ∧
        (true = false →
          ∃ t21 : Int, t21 = IntKind.wrap .i64 (t7 + 1) ∧ Inv t21 wv_3 ∧ mu t21 wv_3 < mu t7 wv)) ∧
      ((!t13) = false →
        ∃ (t170 : ByteArray) (t171 : Bool) (t172_p : Option Addr) (t172_n : Nat) (t172_c : Nat), Loads P 56 ((⟨r, 0, none⟩ : Addr).add 1) (.agg #[(.string t170), (.bool t171), (.slice t172_p t172_n t172_c)]) wv_3 ∧ Calls P 52 ⟨[(.agg #[(.string t170), (.bool t171), (.slice t172_p t172_n t172_c)])]⟩ wv_3 fun e_1 wv_4 =>
        ∃ (t18 : Bool), e_1 = .returned (.bool t18) ∧
        ((!t18) = true →
          R (.bool false) wv_4) ∧
        ((!t18) = false →
          ∃ t21_1 : Int, t21_1 = IntKind.wrap .i64 (t7 + 1) ∧ Inv t21_1 wv_4 ∧ mu t21_1 wv_4 < mu t7 wv))) ∧
    ((decide ((t7 : Int) < ((l_n : Nat) : Int))) = false →
      Calls P 53 ⟨[(.int .i64 ((l_n : Nat) : Int)), (.int .i64 1), (.int .i64 8)]⟩ wv fun e_2 wv_5 =>
      ∃ (t24 : Bool), e_2 = .returned (.bool t24) ∧
      R (.bool t24) wv_5)
theorem spec_LegsOk_eq (l_p : Option Addr) (l_n : Nat) (l_c : Nat) (w : World) (R : Value → World → Prop) : spec_LegsOk l_p l_n l_c w R = fsem P Tryd.f11 (fun k => cond (Nat.beq k 3) [(7, .one (.int .i64))] ([])) [(.slice l_p l_n l_c)] R w := by kernel_rfl
theorem spec_LegsOk_ret {l_p : Option Addr} {l_n : Nat} {l_c : Nat} {w : World} {R : Value → World → Prop} (h : spec_LegsOk l_p l_n l_c w R) : Ret P 11 [(.slice l_p l_n l_c)] w R :=
  Ret.of_fsem Tryd.func11 rfl (Eq.mp (spec_LegsOk_eq l_p l_n l_c w R) h)

def impl_LegsOk_j0 (l_p : Option Addr) (l_n : Nat) (W : World) (R : Value → World → Prop) : Prop :=
  ∃ (Inv : Int → World → Prop) (mu : Int → World → Nat), Inv 0 W ∧
  ∀ (junk : Fr) (wv : World) (t15 : Int), Inv t15 wv →
    ((decide ((t15 : Int) < ((l_n : Nat) : Int))) = true →
      (0 ≤ (t15 : Int) ∧ (t15 : Int) < (l_n : Nat)) ∧ ptrS l_p fun ad => ∃ (t180 : ByteArray) (t181 : ByteArray) (t182 : Bool) (t183_p : Option Addr) (t183_n : Nat) (t183_c : Nat), Loads P 86 (ad.add (t15.toNat * 4)) (.agg #[(.string t180), (.string t181), (.bool t182), (.slice t183_p t183_n t183_c)]) wv ∧ ∀ (r : Nat) (wv_1 : World), New wv (.cells ⟨[(.string ByteArray.empty), (.string ByteArray.empty), (.bool false), (.slice none 0 0)]⟩ 86 (0, 0)) r wv_1 →
      ∃ wv_2, Stores P 86 ⟨r, 0, none⟩ (.agg #[(.string t180), (.string t181), (.bool t182), (.slice t183_p t183_n t183_c)]) wv_1 wv_2 ∧
      ∃ (t20 : ByteArray), Loads P 9 ((⟨r, 0, none⟩ : Addr).add 0) (.string t20) wv_2 ∧ Calls P 55 ⟨[(.string t20)]⟩ wv_2 fun e wv_3 =>
      ∃ (t21 : Bool), e = .returned (.bool t21) ∧
      ((!t21) = true →
        (true = true →
          R (.bool false) wv_3) ∧
        (true = false →
          ∃ t29 : Int, t29 = IntKind.wrap .i64 (t15 + 1) ∧ Inv t29 wv_3 ∧ mu t29 wv_3 < mu t15 wv)) ∧
      ((!t21) = false →
        ∃ (t250 : ByteArray) (t251 : Bool) (t252_p : Option Addr) (t252_n : Nat) (t252_c : Nat), Loads P 56 ((⟨r, 0, none⟩ : Addr).add 1) (.agg #[(.string t250), (.bool t251), (.slice t252_p t252_n t252_c)]) wv_3 ∧ Calls P 56 ⟨[(.agg #[(.string t250), (.bool t251), (.slice t252_p t252_n t252_c)])]⟩ wv_3 fun e_1 wv_4 =>
        ∃ (t26 : Bool), e_1 = .returned (.bool t26) ∧
        ((!t26) = true →
          R (.bool false) wv_4) ∧
        ((!t26) = false →
          ∃ t29_1 : Int, t29_1 = IntKind.wrap .i64 (t15 + 1) ∧ Inv t29_1 wv_4 ∧ mu t29_1 wv_4 < mu t15 wv))) ∧
    ((decide ((t15 : Int) < ((l_n : Nat) : Int))) = false →
      R (.bool true) wv)
def impl_LegsOk (l_p : Option Addr) (l_n : Nat) (l_c : Nat) (w : World) (R : Value → World → Prop) : Prop :=
  ((decide ((((l_n : Nat) : Int) : Int) < 1)) = true →
    (true = true →
      R (.bool false) w) ∧
    (true = false →
      impl_LegsOk_j0 l_p l_n w R)) ∧
  ((decide ((((l_n : Nat) : Int) : Int) < 1)) = false →
    ((decide ((8 : Int) < ((l_n : Nat) : Int))) = true →
      R (.bool false) w) ∧
    ((decide ((8 : Int) < ((l_n : Nat) : Int))) = false →
      impl_LegsOk_j0 l_p l_n w R))
theorem impl_LegsOk_eq (l_p : Option Addr) (l_n : Nat) (l_c : Nat) (w : World) (R : Value → World → Prop) : impl_LegsOk l_p l_n l_c w R = fsem P Tryd.f13 (fun k => cond (Nat.beq k 5) [(15, .one (.int .i64))] ([])) [(.slice l_p l_n l_c)] R w := by kernel_rfl
theorem impl_LegsOk_ret {l_p : Option Addr} {l_n : Nat} {l_c : Nat} {w : World} {R : Value → World → Prop} (h : impl_LegsOk l_p l_n l_c w R) : Ret P 13 [(.slice l_p l_n l_c)] w R :=
  Ret.of_fsem Tryd.func13 rfl (Eq.mp (impl_LegsOk_eq l_p l_n l_c w R) h)

def spec_BookOk (b0_p : Option Addr) (b0_n : Nat) (b0_c : Nat) (w : World) (R : Value → World → Prop) : Prop :=
  ∀ (r : Nat) (wv : World), New w (.cells ⟨[(.slice b0_p b0_n b0_c)]⟩ 36 (0, 0)) r wv →
  ∃ (t6_p : Option Addr) (t6_n : Nat) (t6_c : Nat), Loads P 34 ((⟨r, 0, none⟩ : Addr).add 0) (.slice t6_p t6_n t6_c) wv ∧ ∃ (Inv : Int → World → Prop) (mu : Int → World → Nat), Inv 0 wv ∧
  ∀ (junk : Fr) (wv_1 : World) (t8 : Int), Inv t8 wv_1 →
    ((decide ((t8 : Int) < ((t6_n : Nat) : Int))) = true →
      (0 ≤ (t8 : Int) ∧ (t8 : Int) < (t6_n : Nat)) ∧ ptrS t6_p fun ad => ∃ (t120 : ByteArray) (t121 : ByteArray) (t122 : Bool) (t123_p : Option Addr) (t123_n : Nat) (t123_c : Nat), Loads P 93 (ad.add (t8.toNat * 4)) (.agg #[(.string t120), (.string t121), (.bool t122), (.slice t123_p t123_n t123_c)]) wv_1 ∧ ∀ (r_1 : Nat) (wv_2 : World), New wv_1 (.cells ⟨[(.string ByteArray.empty), (.string ByteArray.empty), (.bool false), (.slice none 0 0)]⟩ 93 (0, 0)) r_1 wv_2 →
      ∃ wv_3, Stores P 93 ⟨r_1, 0, none⟩ (.agg #[(.string t120), (.string t121), (.bool t122), (.slice t123_p t123_n t123_c)]) wv_2 wv_3 ∧
      ∃ (t14 : ByteArray), (∀ wv_4, Ext wv_3.drew wv_4 → Loads P 9 ((⟨r_1, 0, none⟩ : Addr).add 0) (.string t14) wv_4) ∧ Calls P 51 ⟨[(.string t14)]⟩ wv_3.drew fun e wv_5 =>
      ∃ (t15 : Bool), e = .returned (.bool t15) ∧
      ((!t15) = true →
        (true = true →
          (true = true →
            R (.bool false) wv_5) ∧
          (true = false →
            ∃ t39 : Int, t39 = IntKind.wrap .i64 (t8 + 1) ∧ Inv t39 wv_5 ∧ mu t39 wv_5 < mu t8 wv_1)) ∧
        (true = false →
          ((decide ((0 : Int) < t8)) = true →
            ∃ (t28_p : Option Addr) (t28_n : Nat) (t28_c : Nat), (∀ wv_6, Ext wv_5 wv_6 → Loads P 34 ((⟨r, 0, none⟩ : Addr).add 0) (.slice t28_p t28_n t28_c) wv_6) ∧ ∃ t30 : Int, t30 = IntKind.wrap .i64 (t8 - 1) ∧ (0 ≤ (t30 : Int) ∧ (t30 : Int) < (t28_n : Nat)) ∧ ptrS t28_p fun ad_1 => ∃ (t33 : ByteArray), (∀ wv_7, Ext wv_5 wv_7 → Loads P 9 ((ad_1.add (t30.toNat * 4)).add 0) (.string t33) wv_7) ∧ ∃ (t35 : ByteArray), (∀ wv_8, Ext wv_5 wv_8 → Loads P 9 ((⟨r_1, 0, none⟩ : Addr).add 0) (.string t35) wv_8) ∧ ((!(Op.bytesLess t33.toList t35.toList)) = true →
              R (.bool false) wv_5) ∧
            ((!(Op.bytesLess t33.toList t35.toList)) = false →
              ∃ t39_1 : Int, t39_1 = IntKind.wrap .i64 (t8 + 1) ∧ Inv t39_1 wv_5 ∧ mu t39_1 wv_5 < mu t8 wv_1)) ∧
          ((decide ((0 : Int) < t8)) = false →
            (false = true →
              R (.bool false) wv_5) ∧
            (false = false →
              ∃ t39_2 : Int, t39_2 = IntKind.wrap .i64 (t8 + 1) ∧ Inv t39_2 wv_5 ∧ mu t39_2 wv_5 < mu t8 wv_1)))) ∧
      ((!t15) = false →
        ∃ (t190 : ByteArray) (t191 : Bool) (t192_p : Option Addr) (t192_n : Nat) (t192_c : Nat), (∀ wv_9, Ext wv_5 wv_9 → Loads P 56 ((⟨r_1, 0, none⟩ : Addr).add 1) (.agg #[(.string t190), (.bool t191), (.slice t192_p t192_n t192_c)]) wv_9) ∧ Calls P 52 ⟨[(.agg #[(.string t190), (.bool t191), (.slice t192_p t192_n t192_c)])]⟩ wv_5 fun e_1 wv_10 =>
        ∃ (t20 : Bool), e_1 = .returned (.bool t20) ∧
        ((!t20) = true →
          (true = true →
            R (.bool false) wv_10) ∧
          (true = false →
            ∃ t39_3 : Int, t39_3 = IntKind.wrap .i64 (t8 + 1) ∧ Inv t39_3 wv_10 ∧ mu t39_3 wv_10 < mu t8 wv_1)) ∧
        ((!t20) = false →
          ((decide ((0 : Int) < t8)) = true →
            ∃ (t28_p_1 : Option Addr) (t28_n_1 : Nat) (t28_c_1 : Nat), (∀ wv_11, Ext wv_10 wv_11 → Loads P 34 ((⟨r, 0, none⟩ : Addr).add 0) (.slice t28_p_1 t28_n_1 t28_c_1) wv_11) ∧ ∃ t30_1 : Int, t30_1 = IntKind.wrap .i64 (t8 - 1) ∧ (0 ≤ (t30_1 : Int) ∧ (t30_1 : Int) < (t28_n_1 : Nat)) ∧ ptrS t28_p_1 fun ad_2 => ∃ (t33_1 : ByteArray), (∀ wv_12, Ext wv_10 wv_12 → Loads P 9 ((ad_2.add (t30_1.toNat * 4)).add 0) (.string t33_1) wv_12) ∧ ∃ (t35_1 : ByteArray), (∀ wv_13, Ext wv_10 wv_13 → Loads P 9 ((⟨r_1, 0, none⟩ : Addr).add 0) (.string t35_1) wv_13) ∧ ((!(Op.bytesLess t33_1.toList t35_1.toList)) = true →
              R (.bool false) wv_10) ∧
            ((!(Op.bytesLess t33_1.toList t35_1.toList)) = false →
              ∃ t39_4 : Int, t39_4 = IntKind.wrap .i64 (t8 + 1) ∧ Inv t39_4 wv_10 ∧ mu t39_4 wv_10 < mu t8 wv_1)) ∧
          ((decide ((0 : Int) < t8)) = false →
            (false = true →
              R (.bool false) wv_10) ∧
            (false = false →
              ∃ t39_5 : Int, t39_5 = IntKind.wrap .i64 (t8 + 1) ∧ Inv t39_5 wv_10 ∧ mu t39_5 wv_10 < mu t8 wv_1))))) ∧
    ((decide ((t8 : Int) < ((t6_n : Nat) : Int))) = false →
      ∃ (t41_p : Option Addr) (t41_n : Nat) (t41_c : Nat), Loads P 34 ((⟨r, 0, none⟩ : Addr).add 0) (.slice t41_p t41_n t41_c) wv_1 ∧ R (.bool (decide ((((t41_n : Nat) : Int) : Int) ≤ 12))) wv_1)
theorem spec_BookOk_eq (b0_p : Option Addr) (b0_n : Nat) (b0_c : Nat) (w : World) (R : Value → World → Prop) : spec_BookOk b0_p b0_n b0_c w R = fsem P Tryd.f16 (fun k => cond (Nat.beq k 3) [(8, .one (.int .i64))] ([])) [(.agg #[(.slice b0_p b0_n b0_c)])] R w := by kernel_rfl
theorem spec_BookOk_ret {b0_p : Option Addr} {b0_n : Nat} {b0_c : Nat} {w : World} {R : Value → World → Prop} (h : spec_BookOk b0_p b0_n b0_c w R) : Ret P 16 [(.agg #[(.slice b0_p b0_n b0_c)])] w R :=
  Ret.of_fsem Tryd.func16 rfl (Eq.mp (spec_BookOk_eq b0_p b0_n b0_c w R) h)

def impl_BookOk (b0_p : Option Addr) (b0_n : Nat) (b0_c : Nat) (w : World) (R : Value → World → Prop) : Prop :=
  ∀ (r : Nat) (wv : World), New w (.cells ⟨[(.slice b0_p b0_n b0_c)]⟩ 36 (0, 0)) r wv →
  ∃ (t6_p : Option Addr) (t6_n : Nat) (t6_c : Nat), Loads P 34 ((⟨r, 0, none⟩ : Addr).add 0) (.slice t6_p t6_n t6_c) wv ∧ ((decide ((12 : Int) < ((t6_n : Nat) : Int))) = true →
    R (.bool false) wv) ∧
  ((decide ((12 : Int) < ((t6_n : Nat) : Int))) = false →
    ∃ (t10_p : Option Addr) (t10_n : Nat) (t10_c : Nat), Loads P 34 ((⟨r, 0, none⟩ : Addr).add 0) (.slice t10_p t10_n t10_c) wv ∧ ∃ (Inv : Int → World → Prop) (mu : Int → World → Nat), Inv 0 wv ∧
    ∀ (junk : Fr) (wv_1 : World) (t12 : Int), Inv t12 wv_1 →
      ((decide ((t12 : Int) < ((t10_n : Nat) : Int))) = true →
        (0 ≤ (t12 : Int) ∧ (t12 : Int) < (t10_n : Nat)) ∧ ptrS t10_p fun ad => ∃ (t160 : ByteArray) (t161 : ByteArray) (t162 : Bool) (t163_p : Option Addr) (t163_n : Nat) (t163_c : Nat), Loads P 93 (ad.add (t12.toNat * 4)) (.agg #[(.string t160), (.string t161), (.bool t162), (.slice t163_p t163_n t163_c)]) wv_1 ∧ ∀ (r_1 : Nat) (wv_2 : World), New wv_1 (.cells ⟨[(.string ByteArray.empty), (.string ByteArray.empty), (.bool false), (.slice none 0 0)]⟩ 93 (0, 0)) r_1 wv_2 →
        ∃ wv_3, Stores P 93 ⟨r_1, 0, none⟩ (.agg #[(.string t160), (.string t161), (.bool t162), (.slice t163_p t163_n t163_c)]) wv_2 wv_3 ∧
        ∃ (t18 : ByteArray), (∀ wv_4, Ext wv_3.drew wv_4 → Loads P 9 ((⟨r_1, 0, none⟩ : Addr).add 0) (.string t18) wv_4) ∧ Calls P 55 ⟨[(.string t18)]⟩ wv_3.drew fun e wv_5 =>
        ∃ (t19 : Bool), e = .returned (.bool t19) ∧
        ((!t19) = true →
          (true = true →
            (true = true →
              R (.bool false) wv_5) ∧
            (true = false →
              ∃ t43 : Int, t43 = IntKind.wrap .i64 (t12 + 1) ∧ Inv t43 wv_5 ∧ mu t43 wv_5 < mu t12 wv_1)) ∧
          (true = false →
            ((decide ((0 : Int) < t12)) = true →
              ∃ (t32_p : Option Addr) (t32_n : Nat) (t32_c : Nat), (∀ wv_6, Ext wv_5 wv_6 → Loads P 34 ((⟨r, 0, none⟩ : Addr).add 0) (.slice t32_p t32_n t32_c) wv_6) ∧ ∃ t34 : Int, t34 = IntKind.wrap .i64 (t12 - 1) ∧ (0 ≤ (t34 : Int) ∧ (t34 : Int) < (t32_n : Nat)) ∧ ptrS t32_p fun ad_1 => ∃ (t37 : ByteArray), (∀ wv_7, Ext wv_5 wv_7 → Loads P 9 ((ad_1.add (t34.toNat * 4)).add 0) (.string t37) wv_7) ∧ ∃ (t39 : ByteArray), (∀ wv_8, Ext wv_5 wv_8 → Loads P 9 ((⟨r_1, 0, none⟩ : Addr).add 0) (.string t39) wv_8) ∧ ((!(Op.bytesLess t37.toList t39.toList)) = true →
                R (.bool false) wv_5) ∧
              ((!(Op.bytesLess t37.toList t39.toList)) = false →
                ∃ t43_1 : Int, t43_1 = IntKind.wrap .i64 (t12 + 1) ∧ Inv t43_1 wv_5 ∧ mu t43_1 wv_5 < mu t12 wv_1)) ∧
            ((decide ((0 : Int) < t12)) = false →
              (false = true →
                R (.bool false) wv_5) ∧
              (false = false →
                ∃ t43_2 : Int, t43_2 = IntKind.wrap .i64 (t12 + 1) ∧ Inv t43_2 wv_5 ∧ mu t43_2 wv_5 < mu t12 wv_1)))) ∧
        ((!t19) = false →
          ∃ (t230 : ByteArray) (t231 : Bool) (t232_p : Option Addr) (t232_n : Nat) (t232_c : Nat), (∀ wv_9, Ext wv_5 wv_9 → Loads P 56 ((⟨r_1, 0, none⟩ : Addr).add 1) (.agg #[(.string t230), (.bool t231), (.slice t232_p t232_n t232_c)]) wv_9) ∧ Calls P 56 ⟨[(.agg #[(.string t230), (.bool t231), (.slice t232_p t232_n t232_c)])]⟩ wv_5 fun e_1 wv_10 =>
          ∃ (t24 : Bool), e_1 = .returned (.bool t24) ∧
          ((!t24) = true →
            (true = true →
              R (.bool false) wv_10) ∧
            (true = false →
              ∃ t43_3 : Int, t43_3 = IntKind.wrap .i64 (t12 + 1) ∧ Inv t43_3 wv_10 ∧ mu t43_3 wv_10 < mu t12 wv_1)) ∧
          ((!t24) = false →
            ((decide ((0 : Int) < t12)) = true →
              ∃ (t32_p_1 : Option Addr) (t32_n_1 : Nat) (t32_c_1 : Nat), (∀ wv_11, Ext wv_10 wv_11 → Loads P 34 ((⟨r, 0, none⟩ : Addr).add 0) (.slice t32_p_1 t32_n_1 t32_c_1) wv_11) ∧ ∃ t34_1 : Int, t34_1 = IntKind.wrap .i64 (t12 - 1) ∧ (0 ≤ (t34_1 : Int) ∧ (t34_1 : Int) < (t32_n_1 : Nat)) ∧ ptrS t32_p_1 fun ad_2 => ∃ (t37_1 : ByteArray), (∀ wv_12, Ext wv_10 wv_12 → Loads P 9 ((ad_2.add (t34_1.toNat * 4)).add 0) (.string t37_1) wv_12) ∧ ∃ (t39_1 : ByteArray), (∀ wv_13, Ext wv_10 wv_13 → Loads P 9 ((⟨r_1, 0, none⟩ : Addr).add 0) (.string t39_1) wv_13) ∧ ((!(Op.bytesLess t37_1.toList t39_1.toList)) = true →
                R (.bool false) wv_10) ∧
              ((!(Op.bytesLess t37_1.toList t39_1.toList)) = false →
                ∃ t43_4 : Int, t43_4 = IntKind.wrap .i64 (t12 + 1) ∧ Inv t43_4 wv_10 ∧ mu t43_4 wv_10 < mu t12 wv_1)) ∧
            ((decide ((0 : Int) < t12)) = false →
              (false = true →
                R (.bool false) wv_10) ∧
              (false = false →
                ∃ t43_5 : Int, t43_5 = IntKind.wrap .i64 (t12 + 1) ∧ Inv t43_5 wv_10 ∧ mu t43_5 wv_10 < mu t12 wv_1))))) ∧
      ((decide ((t12 : Int) < ((t10_n : Nat) : Int))) = false →
        R (.bool true) wv_1))
theorem impl_BookOk_eq (b0_p : Option Addr) (b0_n : Nat) (b0_c : Nat) (w : World) (R : Value → World → Prop) : impl_BookOk b0_p b0_n b0_c w R = fsem P Tryd.f18 (fun k => cond (Nat.beq k 5) [(12, .one (.int .i64))] ([])) [(.agg #[(.slice b0_p b0_n b0_c)])] R w := by kernel_rfl
theorem impl_BookOk_ret {b0_p : Option Addr} {b0_n : Nat} {b0_c : Nat} {w : World} {R : Value → World → Prop} (h : impl_BookOk b0_p b0_n b0_c w R) : Ret P 18 [(.agg #[(.slice b0_p b0_n b0_c)])] w R :=
  Ret.of_fsem Tryd.func18 rfl (Eq.mp (impl_BookOk_eq b0_p b0_n b0_c w R) h)

def spec_DebtsOk (cur : ByteArray) (l_p : Option Addr) (l_n : Nat) (l_c : Nat) (w : World) (R : Value → World → Prop) : Prop :=
  ∃ (Inv : Int → World → Prop) (mu : Int → World → Nat), Inv 0 w ∧
  ∀ (junk : Fr) (wv : World) (t9 : Int), Inv t9 wv →
    ((decide ((t9 : Int) < ((l_n : Nat) : Int))) = true →
      (0 ≤ (t9 : Int) ∧ (t9 : Int) < (l_n : Nat)) ∧ ptrS l_p fun ad => ∃ (t120 : ByteArray) (t121 : ByteArray) (t122 : ByteArray) (t123 : Bool) (t124_p : Option Addr) (t124_n : Nat) (t124_c : Nat), Loads P 100 (ad.add (t9.toNat * 5)) (.agg #[(.string t120), (.string t121), (.string t122), (.bool t123), (.slice t124_p t124_n t124_c)]) wv ∧ ∀ (r : Nat) (wv_1 : World), New wv (.cells ⟨[(.string ByteArray.empty), (.string ByteArray.empty), (.string ByteArray.empty), (.bool false), (.slice none 0 0)]⟩ 100 (0, 0)) r wv_1 →
      ∃ wv_2, Stores P 100 ⟨r, 0, none⟩ (.agg #[(.string t120), (.string t121), (.string t122), (.bool t123), (.slice t124_p t124_n t124_c)]) wv_1 wv_2 ∧
      ∃ (t140 : ByteArray) (t141 : Bool) (t142_p : Option Addr) (t142_n : Nat) (t142_c : Nat), Loads P 56 ((⟨r, 0, none⟩ : Addr).add 2) (.agg #[(.string t140), (.bool t141), (.slice t142_p t142_n t142_c)]) wv_2 ∧ Calls P 52 ⟨[(.agg #[(.string t140), (.bool t141), (.slice t142_p t142_n t142_c)])]⟩ wv_2 fun e wv_3 =>
      ∃ (t15 : Bool), e = .returned (.bool t15) ∧
      ((!t15) = true →
        (true = true →
          (true = true →
            (true = true →
              (true = true →
                (true = true →
                  R (.bool false) wv_3) ∧
                (true = false →
                  ∃ t50 : Int, t50 = IntKind.wrap .i64 (t9 + 1) ∧ Inv t50 wv_3 ∧ mu t50 wv_3 < mu t9 wv)) ∧
              (true = false →
                ∃ (t45 : ByteArray), Loads P 9 ((⟨r, 0, none⟩ : Addr).add 0) (.string t45) wv_3 ∧ ∃ (t47 : ByteArray), Loads P 9 ((⟨r, 0, none⟩ : Addr).add 1) (.string t47) wv_3 ∧ ((decide (t45 = t47)) = true →
                  R (.bool false) wv_3) ∧
                ((decide (t45 = t47)) = false →
                  ∃ t50_1 : Int, t50_1 = IntKind.wrap .i64 (t9 + 1) ∧ Inv t50_1 wv_3 ∧ mu t50_1 wv_3 < mu t9 wv))) ∧
            (true = false →
              ∃ (t39 : ByteArray), Loads P 9 ((⟨r, 0, none⟩ : Addr).add 1) (.string t39) wv_3 ∧ Calls P 51 ⟨[(.string t39)]⟩ wv_3 fun e_1 wv_4 =>
              ∃ (t40 : Bool), e_1 = .returned (.bool t40) ∧
              ((!t40) = true →
                (true = true →
                  R (.bool false) wv_4) ∧
                (true = false →
                  ∃ t50_2 : Int, t50_2 = IntKind.wrap .i64 (t9 + 1) ∧ Inv t50_2 wv_4 ∧ mu t50_2 wv_4 < mu t9 wv)) ∧
              ((!t40) = false →
                ∃ (t45_1 : ByteArray), Loads P 9 ((⟨r, 0, none⟩ : Addr).add 0) (.string t45_1) wv_4 ∧ ∃ (t47_1 : ByteArray), Loads P 9 ((⟨r, 0, none⟩ : Addr).add 1) (.string t47_1) wv_4 ∧ ((decide (t45_1 = t47_1)) = true →
                  R (.bool false) wv_4) ∧
                ((decide (t45_1 = t47_1)) = false →
                  ∃ t50_3 : Int, t50_3 = IntKind.wrap .i64 (t9 + 1) ∧ Inv t50_3 wv_4 ∧ mu t50_3 wv_4 < mu t9 wv)))) ∧
          (true = false →
            ∃ (t33 : ByteArray), Loads P 9 ((⟨r, 0, none⟩ : Addr).add 0) (.string t33) wv_3 ∧ Calls P 51 ⟨[(.string t33)]⟩ wv_3 fun e_2 wv_5 =>
            ∃ (t34 : Bool), e_2 = .returned (.bool t34) ∧
            ((!t34) = true →
              (true = true →
                (true = true →
                  R (.bool false) wv_5) ∧
                (true = false →
                  ∃ t50_4 : Int, t50_4 = IntKind.wrap .i64 (t9 + 1) ∧ Inv t50_4 wv_5 ∧ mu t50_4 wv_5 < mu t9 wv)) ∧
              (true = false →
                ∃ (t45_2 : ByteArray), Loads P 9 ((⟨r, 0, none⟩ : Addr).add 0) (.string t45_2) wv_5 ∧ ∃ (t47_2 : ByteArray), Loads P 9 ((⟨r, 0, none⟩ : Addr).add 1) (.string t47_2) wv_5 ∧ ((decide (t45_2 = t47_2)) = true →
                  R (.bool false) wv_5) ∧
                ((decide (t45_2 = t47_2)) = false →
                  ∃ t50_5 : Int, t50_5 = IntKind.wrap .i64 (t9 + 1) ∧ Inv t50_5 wv_5 ∧ mu t50_5 wv_5 < mu t9 wv))) ∧
            ((!t34) = false →
              ∃ (t39_1 : ByteArray), Loads P 9 ((⟨r, 0, none⟩ : Addr).add 1) (.string t39_1) wv_5 ∧ Calls P 51 ⟨[(.string t39_1)]⟩ wv_5 fun e_3 wv_6 =>
              ∃ (t40_1 : Bool), e_3 = .returned (.bool t40_1) ∧
              ((!t40_1) = true →
                (true = true →
                  R (.bool false) wv_6) ∧
                (true = false →
                  ∃ t50_6 : Int, t50_6 = IntKind.wrap .i64 (t9 + 1) ∧ Inv t50_6 wv_6 ∧ mu t50_6 wv_6 < mu t9 wv)) ∧
              ((!t40_1) = false →
                ∃ (t45_3 : ByteArray), Loads P 9 ((⟨r, 0, none⟩ : Addr).add 0) (.string t45_3) wv_6 ∧ ∃ (t47_3 : ByteArray), Loads P 9 ((⟨r, 0, none⟩ : Addr).add 1) (.string t47_3) wv_6 ∧ ((decide (t45_3 = t47_3)) = true →
                  R (.bool false) wv_6) ∧
                ((decide (t45_3 = t47_3)) = false →
                  ∃ t50_7 : Int, t50_7 = IntKind.wrap .i64 (t9 + 1) ∧ Inv t50_7 wv_6 ∧ mu t50_7 wv_6 < mu t9 wv))))) ∧
        (true = false →
          ∃ (t270 : Bool) (t271_p : Option Addr) (t271_n : Nat) (t271_c : Nat), Loads P 54 (((⟨r, 0, none⟩ : Addr).add 2).add 1) (.agg #[(.bool t270), (.slice t271_p t271_n t271_c)]) wv_3 ∧ Calls P 62 ⟨[(.agg #[(.bool t270), (.slice t271_p t271_n t271_c)])]⟩ wv_3 fun e_4 wv_7 =>
          ∃ (t28 : Int), e_4 = .returned (.int .i64 t28) ∧
          ((decide ((t28 : Int) ≤ 0)) = true →
            (true = true →
              (true = true →
                (true = true →
                  R (.bool false) wv_7) ∧
                (true = false →
                  ∃ t50_8 : Int, t50_8 = IntKind.wrap .i64 (t9 + 1) ∧ Inv t50_8 wv_7 ∧ mu t50_8 wv_7 < mu t9 wv)) ∧
              (true = false →
                ∃ (t45_4 : ByteArray), Loads P 9 ((⟨r, 0, none⟩ : Addr).add 0) (.string t45_4) wv_7 ∧ ∃ (t47_4 : ByteArray), Loads P 9 ((⟨r, 0, none⟩ : Addr).add 1) (.string t47_4) wv_7 ∧ ((decide (t45_4 = t47_4)) = true →
                  R (.bool false) wv_7) ∧
                ((decide (t45_4 = t47_4)) = false →
                  ∃ t50_9 : Int, t50_9 = IntKind.wrap .i64 (t9 + 1) ∧ Inv t50_9 wv_7 ∧ mu t50_9 wv_7 < mu t9 wv))) ∧
            (true = false →
              ∃ (t39_2 : ByteArray), Loads P 9 ((⟨r, 0, none⟩ : Addr).add 1) (.string t39_2) wv_7 ∧ Calls P 51 ⟨[(.string t39_2)]⟩ wv_7 fun e_5 wv_8 =>
              ∃ (t40_2 : Bool), e_5 = .returned (.bool t40_2) ∧
              ((!t40_2) = true →
                (true = true →
                  R (.bool false) wv_8) ∧
                (true = false →
                  ∃ t50_10 : Int, t50_10 = IntKind.wrap .i64 (t9 + 1) ∧ Inv t50_10 wv_8 ∧ mu t50_10 wv_8 < mu t9 wv)) ∧
              ((!t40_2) = false →
                ∃ (t45_5 : ByteArray), Loads P 9 ((⟨r, 0, none⟩ : Addr).add 0) (.string t45_5) wv_8 ∧ ∃ (t47_5 : ByteArray), Loads P 9 ((⟨r, 0, none⟩ : Addr).add 1) (.string t47_5) wv_8 ∧ ((decide (t45_5 = t47_5)) = true →
                  R (.bool false) wv_8) ∧
                ((decide (t45_5 = t47_5)) = false →
                  ∃ t50_11 : Int, t50_11 = IntKind.wrap .i64 (t9 + 1) ∧ Inv t50_11 wv_8 ∧ mu t50_11 wv_8 < mu t9 wv)))) ∧
          ((decide ((t28 : Int) ≤ 0)) = false →
            ∃ (t33_1 : ByteArray), Loads P 9 ((⟨r, 0, none⟩ : Addr).add 0) (.string t33_1) wv_7 ∧ Calls P 51 ⟨[(.string t33_1)]⟩ wv_7 fun e_6 wv_9 =>
            ∃ (t34_1 : Bool), e_6 = .returned (.bool t34_1) ∧
            ((!t34_1) = true →
              (true = true →
                (true = true →
                  R (.bool false) wv_9) ∧
                (true = false →
                  ∃ t50_12 : Int, t50_12 = IntKind.wrap .i64 (t9 + 1) ∧ Inv t50_12 wv_9 ∧ mu t50_12 wv_9 < mu t9 wv)) ∧
              (true = false →
                ∃ (t45_6 : ByteArray), Loads P 9 ((⟨r, 0, none⟩ : Addr).add 0) (.string t45_6) wv_9 ∧ ∃ (t47_6 : ByteArray), Loads P 9 ((⟨r, 0, none⟩ : Addr).add 1) (.string t47_6) wv_9 ∧ ((decide (t45_6 = t47_6)) = true →
                  R (.bool false) wv_9) ∧
                ((decide (t45_6 = t47_6)) = false →
                  ∃ t50_13 : Int, t50_13 = IntKind.wrap .i64 (t9 + 1) ∧ Inv t50_13 wv_9 ∧ mu t50_13 wv_9 < mu t9 wv))) ∧
            ((!t34_1) = false →
              ∃ (t39_3 : ByteArray), Loads P 9 ((⟨r, 0, none⟩ : Addr).add 1) (.string t39_3) wv_9 ∧ Calls P 51 ⟨[(.string t39_3)]⟩ wv_9 fun e_7 wv_10 =>
              ∃ (t40_3 : Bool), e_7 = .returned (.bool t40_3) ∧
              ((!t40_3) = true →
                (true = true →
                  R (.bool false) wv_10) ∧
                (true = false →
                  ∃ t50_14 : Int, t50_14 = IntKind.wrap .i64 (t9 + 1) ∧ Inv t50_14 wv_10 ∧ mu t50_14 wv_10 < mu t9 wv)) ∧
              ((!t40_3) = false →
                ∃ (t45_7 : ByteArray), Loads P 9 ((⟨r, 0, none⟩ : Addr).add 0) (.string t45_7) wv_10 ∧ ∃ (t47_7 : ByteArray), Loads P 9 ((⟨r, 0, none⟩ : Addr).add 1) (.string t47_7) wv_10 ∧ ((decide (t45_7 = t47_7)) = true →
                  R (.bool false) wv_10) ∧
                ((decide (t45_7 = t47_7)) = false →
                  ∃ t50_15 : Int, t50_15 = IntKind.wrap .i64 (t9 + 1) ∧ Inv t50_15 wv_10 ∧ mu t50_15 wv_10 < mu t9 wv)))))) ∧
      ((!t15) = false →
        ∃ (t20 : ByteArray), Loads P 9 (((⟨r, 0, none⟩ : Addr).add 2).add 0) (.string t20) wv_3 ∧ ((decide (t20 ≠ cur)) = true →
          (true = true →
            (true = true →
              (true = true →
                (true = true →
                  R (.bool false) wv_3) ∧
                (true = false →
                  ∃ t50_16 : Int, t50_16 = IntKind.wrap .i64 (t9 + 1) ∧ Inv t50_16 wv_3 ∧ mu t50_16 wv_3 < mu t9 wv)) ∧
              (true = false →
                ∃ (t45_8 : ByteArray), Loads P 9 ((⟨r, 0, none⟩ : Addr).add 0) (.string t45_8) wv_3 ∧ ∃ (t47_8 : ByteArray), Loads P 9 ((⟨r, 0, none⟩ : Addr).add 1) (.string t47_8) wv_3 ∧ ((decide (t45_8 = t47_8)) = true →
                  R (.bool false) wv_3) ∧
                ((decide (t45_8 = t47_8)) = false →
                  ∃ t50_17 : Int, t50_17 = IntKind.wrap .i64 (t9 + 1) ∧ Inv t50_17 wv_3 ∧ mu t50_17 wv_3 < mu t9 wv))) ∧
            (true = false →
              ∃ (t39_4 : ByteArray), Loads P 9 ((⟨r, 0, none⟩ : Addr).add 1) (.string t39_4) wv_3 ∧ Calls P 51 ⟨[(.string t39_4)]⟩ wv_3 fun e_8 wv_11 =>
              ∃ (t40_4 : Bool), e_8 = .returned (.bool t40_4) ∧
              ((!t40_4) = true →
                (true = true →
                  R (.bool false) wv_11) ∧
                (true = false →
                  ∃ t50_18 : Int, t50_18 = IntKind.wrap .i64 (t9 + 1) ∧ Inv t50_18 wv_11 ∧ mu t50_18 wv_11 < mu t9 wv)) ∧
              ((!t40_4) = false →
                ∃ (t45_9 : ByteArray), Loads P 9 ((⟨r, 0, none⟩ : Addr).add 0) (.string t45_9) wv_11 ∧ ∃ (t47_9 : ByteArray), Loads P 9 ((⟨r, 0, none⟩ : Addr).add 1) (.string t47_9) wv_11 ∧ ((decide (t45_9 = t47_9)) = true →
                  R (.bool false) wv_11) ∧
                ((decide (t45_9 = t47_9)) = false →
                  ∃ t50_19 : Int, t50_19 = IntKind.wrap .i64 (t9 + 1) ∧ Inv t50_19 wv_11 ∧ mu t50_19 wv_11 < mu t9 wv)))) ∧
          (true = false →
            ∃ (t33_2 : ByteArray), Loads P 9 ((⟨r, 0, none⟩ : Addr).add 0) (.string t33_2) wv_3 ∧ Calls P 51 ⟨[(.string t33_2)]⟩ wv_3 fun e_9 wv_12 =>
            ∃ (t34_2 : Bool), e_9 = .returned (.bool t34_2) ∧
            ((!t34_2) = true →
              (true = true →
                (true = true →
                  R (.bool false) wv_12) ∧
                (true = false →
                  ∃ t50_20 : Int, t50_20 = IntKind.wrap .i64 (t9 + 1) ∧ Inv t50_20 wv_12 ∧ mu t50_20 wv_12 < mu t9 wv)) ∧
              (true = false →
                ∃ (t45_10 : ByteArray), Loads P 9 ((⟨r, 0, none⟩ : Addr).add 0) (.string t45_10) wv_12 ∧ ∃ (t47_10 : ByteArray), Loads P 9 ((⟨r, 0, none⟩ : Addr).add 1) (.string t47_10) wv_12 ∧ ((decide (t45_10 = t47_10)) = true →
                  R (.bool false) wv_12) ∧
                ((decide (t45_10 = t47_10)) = false →
                  ∃ t50_21 : Int, t50_21 = IntKind.wrap .i64 (t9 + 1) ∧ Inv t50_21 wv_12 ∧ mu t50_21 wv_12 < mu t9 wv))) ∧
            ((!t34_2) = false →
              ∃ (t39_5 : ByteArray), Loads P 9 ((⟨r, 0, none⟩ : Addr).add 1) (.string t39_5) wv_12 ∧ Calls P 51 ⟨[(.string t39_5)]⟩ wv_12 fun e_10 wv_13 =>
              ∃ (t40_5 : Bool), e_10 = .returned (.bool t40_5) ∧
              ((!t40_5) = true →
                (true = true →
                  R (.bool false) wv_13) ∧
                (true = false →
                  ∃ t50_22 : Int, t50_22 = IntKind.wrap .i64 (t9 + 1) ∧ Inv t50_22 wv_13 ∧ mu t50_22 wv_13 < mu t9 wv)) ∧
              ((!t40_5) = false →
                ∃ (t45_11 : ByteArray), Loads P 9 ((⟨r, 0, none⟩ : Addr).add 0) (.string t45_11) wv_13 ∧ ∃ (t47_11 : ByteArray), Loads P 9 ((⟨r, 0, none⟩ : Addr).add 1) (.string t47_11) wv_13 ∧ ((decide (t45_11 = t47_11)) = true →
                  R (.bool false) wv_13) ∧
                ((decide (t45_11 = t47_11)) = false →
                  ∃ t50_23 : Int, t50_23 = IntKind.wrap .i64 (t9 + 1) ∧ Inv t50_23 wv_13 ∧ mu t50_23 wv_13 < mu t9 wv))))) ∧
        ((decide (t20 ≠ cur)) = false →
          ∃ (t270_1 : Bool) (t271_p_1 : Option Addr) (t271_n_1 : Nat) (t271_c_1 : Nat), Loads P 54 (((⟨r, 0, none⟩ : Addr).add 2).add 1) (.agg #[(.bool t270_1), (.slice t271_p_1 t271_n_1 t271_c_1)]) wv_3 ∧ Calls P 62 ⟨[(.agg #[(.bool t270_1), (.slice t271_p_1 t271_n_1 t271_c_1)])]⟩ wv_3 fun e_11 wv_14 =>
          ∃ (t28_1 : Int), e_11 = .returned (.int .i64 t28_1) ∧
          ((decide ((t28_1 : Int) ≤ 0)) = true →
            (true = true →
              (true = true →
                (true = true →
                  R (.bool false) wv_14) ∧
                (true = false →
                  ∃ t50_24 : Int, t50_24 = IntKind.wrap .i64 (t9 + 1) ∧ Inv t50_24 wv_14 ∧ mu t50_24 wv_14 < mu t9 wv)) ∧
              (true = false →
                ∃ (t45_12 : ByteArray), Loads P 9 ((⟨r, 0, none⟩ : Addr).add 0) (.string t45_12) wv_14 ∧ ∃ (t47_12 : ByteArray), Loads P 9 ((⟨r, 0, none⟩ : Addr).add 1) (.string t47_12) wv_14 ∧ ((decide (t45_12 = t47_12)) = true →
                  R (.bool false) wv_14) ∧
                ((decide (t45_12 = t47_12)) = false →
                  ∃ t50_25 : Int, t50_25 = IntKind.wrap .i64 (t9 + 1) ∧ Inv t50_25 wv_14 ∧ mu t50_25 wv_14 < mu t9 wv))) ∧
            (true = false →
              ∃ (t39_6 : ByteArray), Loads P 9 ((⟨r, 0, none⟩ : Addr).add 1) (.string t39_6) wv_14 ∧ Calls P 51 ⟨[(.string t39_6)]⟩ wv_14 fun e_12 wv_15 =>
              ∃ (t40_6 : Bool), e_12 = .returned (.bool t40_6) ∧
              ((!t40_6) = true →
                (true = true →
                  R (.bool false) wv_15) ∧
                (true = false →
                  ∃ t50_26 : Int, t50_26 = IntKind.wrap .i64 (t9 + 1) ∧ Inv t50_26 wv_15 ∧ mu t50_26 wv_15 < mu t9 wv)) ∧
              ((!t40_6) = false →
                ∃ (t45_13 : ByteArray), Loads P 9 ((⟨r, 0, none⟩ : Addr).add 0) (.string t45_13) wv_15 ∧ ∃ (t47_13 : ByteArray), Loads P 9 ((⟨r, 0, none⟩ : Addr).add 1) (.string t47_13) wv_15 ∧ ((decide (t45_13 = t47_13)) = true →
                  R (.bool false) wv_15) ∧
                ((decide (t45_13 = t47_13)) = false →
                  ∃ t50_27 : Int, t50_27 = IntKind.wrap .i64 (t9 + 1) ∧ Inv t50_27 wv_15 ∧ mu t50_27 wv_15 < mu t9 wv)))) ∧
          ((decide ((t28_1 : Int) ≤ 0)) = false →
            ∃ (t33_3 : ByteArray), Loads P 9 ((⟨r, 0, none⟩ : Addr).add 0) (.string t33_3) wv_14 ∧ Calls P 51 ⟨[(.string t33_3)]⟩ wv_14 fun e_13 wv_16 =>
            ∃ (t34_3 : Bool), e_13 = .returned (.bool t34_3) ∧
            ((!t34_3) = true →
              (true = true →
                (true = true →
                  R (.bool false) wv_16) ∧
                (true = false →
                  ∃ t50_28 : Int, t50_28 = IntKind.wrap .i64 (t9 + 1) ∧ Inv t50_28 wv_16 ∧ mu t50_28 wv_16 < mu t9 wv)) ∧
              (true = false →
                ∃ (t45_14 : ByteArray), Loads P 9 ((⟨r, 0, none⟩ : Addr).add 0) (.string t45_14) wv_16 ∧ ∃ (t47_14 : ByteArray), Loads P 9 ((⟨r, 0, none⟩ : Addr).add 1) (.string t47_14) wv_16 ∧ ((decide (t45_14 = t47_14)) = true →
                  R (.bool false) wv_16) ∧
                ((decide (t45_14 = t47_14)) = false →
                  ∃ t50_29 : Int, t50_29 = IntKind.wrap .i64 (t9 + 1) ∧ Inv t50_29 wv_16 ∧ mu t50_29 wv_16 < mu t9 wv))) ∧
            ((!t34_3) = false →
              ∃ (t39_7 : ByteArray), Loads P 9 ((⟨r, 0, none⟩ : Addr).add 1) (.string t39_7) wv_16 ∧ Calls P 51 ⟨[(.string t39_7)]⟩ wv_16 fun e_14 wv_17 =>
              ∃ (t40_7 : Bool), e_14 = .returned (.bool t40_7) ∧
              ((!t40_7) = true →
                (true = true →
                  R (.bool false) wv_17) ∧
                (true = false →
                  ∃ t50_30 : Int, t50_30 = IntKind.wrap .i64 (t9 + 1) ∧ Inv t50_30 wv_17 ∧ mu t50_30 wv_17 < mu t9 wv)) ∧
              ((!t40_7) = false →
                ∃ (t45_15 : ByteArray), Loads P 9 ((⟨r, 0, none⟩ : Addr).add 0) (.string t45_15) wv_17 ∧ ∃ (t47_15 : ByteArray), Loads P 9 ((⟨r, 0, none⟩ : Addr).add 1) (.string t47_15) wv_17 ∧ ((decide (t45_15 = t47_15)) = true →
                  R (.bool false) wv_17) ∧
                ((decide (t45_15 = t47_15)) = false →
                  ∃ t50_31 : Int, t50_31 = IntKind.wrap .i64 (t9 + 1) ∧ Inv t50_31 wv_17 ∧ mu t50_31 wv_17 < mu t9 wv))))))) ∧
    ((decide ((t9 : Int) < ((l_n : Nat) : Int))) = false →
      Calls P 63 ⟨[(.string cur)]⟩ wv fun e_15 wv_18 =>
      ∃ (t52 : Bool), e_15 = .returned (.bool t52) ∧
      (t52 = true →
        R (.bool (decide ((((l_n : Nat) : Int) : Int) ≤ 20))) wv_18) ∧
      (t52 = false →
        R (.bool false) wv_18))
theorem spec_DebtsOk_eq (cur : ByteArray) (l_p : Option Addr) (l_n : Nat) (l_c : Nat) (w : World) (R : Value → World → Prop) : spec_DebtsOk cur l_p l_n l_c w R = fsem P Tryd.f21 (fun k => cond (Nat.beq k 3) [(9, .one (.int .i64))] ([])) [(.string cur), (.slice l_p l_n l_c)] R w := by kernel_rfl
theorem spec_DebtsOk_ret {cur : ByteArray} {l_p : Option Addr} {l_n : Nat} {l_c : Nat} {w : World} {R : Value → World → Prop} (h : spec_DebtsOk cur l_p l_n l_c w R) : Ret P 21 [(.string cur), (.slice l_p l_n l_c)] w R :=
  Ret.of_fsem Tryd.func21 rfl (Eq.mp (spec_DebtsOk_eq cur l_p l_n l_c w R) h)

end Go.Proofs.YtfbmjimhjlmhkaaDoor
