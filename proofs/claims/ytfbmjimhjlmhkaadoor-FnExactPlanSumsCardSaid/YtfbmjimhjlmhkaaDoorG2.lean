/-
  The frame-free forms of some Go functions, printed by a program of mine; each with the theorem that it is sound.
-/
import Derived.Test.YtfbmjimhjlmhkaaDoorP
namespace Go.Proofs.YtfbmjimhjlmhkaaDoor
open Go Go.Proofs.YtfbmjimhjlmhkaaDoor.Sx
set_option linter.unusedVariables false
set_option maxRecDepth 100000

def impl_DebtsOk_j0 (cur : ByteArray) (l_p : Option Addr) (l_n : Nat) (W : World) (R : Value → World → Prop) : Prop :=
  ∃ (Inv : Int → World → Prop) (mu : Int → World → Nat), Inv 0 W ∧
  ∀ (junk : Fr) (wv_1 : World) (t17 : Int), Inv t17 wv_1 →
    ((decide ((t17 : Int) < ((l_n : Nat) : Int))) = true →
      (0 ≤ (t17 : Int) ∧ (t17 : Int) < (l_n : Nat)) ∧ ptrS l_p fun ad => ∃ (t200 : ByteArray) (t201 : ByteArray) (t202 : ByteArray) (t203 : Bool) (t204_p : Option Addr) (t204_n : Nat) (t204_c : Nat), Loads P 100 (ad.add (t17.toNat * 5)) (.agg #[(.string t200), (.string t201), (.string t202), (.bool t203), (.slice t204_p t204_n t204_c)]) wv_1 ∧ ∀ (r : Nat) (wv_2 : World), New wv_1 (.cells ⟨[(.string ByteArray.empty), (.string ByteArray.empty), (.string ByteArray.empty), (.bool false), (.slice none 0 0)]⟩ 100 (0, 0)) r wv_2 →
      ∃ wv_3, Stores P 100 ⟨r, 0, none⟩ (.agg #[(.string t200), (.string t201), (.string t202), (.bool t203), (.slice t204_p t204_n t204_c)]) wv_2 wv_3 ∧
      ∃ (t220 : ByteArray) (t221 : Bool) (t222_p : Option Addr) (t222_n : Nat) (t222_c : Nat), Loads P 56 ((⟨r, 0, none⟩ : Addr).add 2) (.agg #[(.string t220), (.bool t221), (.slice t222_p t222_n t222_c)]) wv_3 ∧ Calls P 56 ⟨[(.agg #[(.string t220), (.bool t221), (.slice t222_p t222_n t222_c)])]⟩ wv_3 fun e_1 wv_4 =>
      ∃ (t23 : Bool), e_1 = .returned (.bool t23) ∧
      ((!t23) = true →
        (true = true →
          (true = true →
            (true = true →
              (true = true →
                (true = true →
                  R (.bool false) wv_4) ∧
                (true = false →
                  ∃ t58 : Int, t58 = IntKind.wrap .i64 (t17 + 1) ∧ Inv t58 wv_4 ∧ mu t58 wv_4 < mu t17 wv_1)) ∧
              (true = false →
                ∃ (t53 : ByteArray), Loads P 9 ((⟨r, 0, none⟩ : Addr).add 0) (.string t53) wv_4 ∧ ∃ (t55 : ByteArray), Loads P 9 ((⟨r, 0, none⟩ : Addr).add 1) (.string t55) wv_4 ∧ ((decide (t53 = t55)) = true →
                  R (.bool false) wv_4) ∧
                ((decide (t53 = t55)) = false →
                  ∃ t58_1 : Int, t58_1 = IntKind.wrap .i64 (t17 + 1) ∧ Inv t58_1 wv_4 ∧ mu t58_1 wv_4 < mu t17 wv_1))) ∧
            (true = false →
              ∃ (t47 : ByteArray), Loads P 9 ((⟨r, 0, none⟩ : Addr).add 1) (.string t47) wv_4 ∧ Calls P 55 ⟨[(.string t47)]⟩ wv_4 fun e_2 wv_5 =>
              ∃ (t48 : Bool), e_2 = .returned (.bool t48) ∧
              ((!t48) = true →
                (true = true →
                  R (.bool false) wv_5) ∧
                (true = false →
                  ∃ t58_2 : Int, t58_2 = IntKind.wrap .i64 (t17 + 1) ∧ Inv t58_2 wv_5 ∧ mu t58_2 wv_5 < mu t17 wv_1)) ∧
              ((!t48) = false →
                ∃ (t53_1 : ByteArray), Loads P 9 ((⟨r, 0, none⟩ : Addr).add 0) (.string t53_1) wv_5 ∧ ∃ (t55_1 : ByteArray), Loads P 9 ((⟨r, 0, none⟩ : Addr).add 1) (.string t55_1) wv_5 ∧ ((decide (t53_1 = t55_1)) = true →
                  R (.bool false) wv_5) ∧
                ((decide (t53_1 = t55_1)) = false →
                  ∃ t58_3 : Int, t58_3 = IntKind.wrap .i64 (t17 + 1) ∧ Inv t58_3 wv_5 ∧ mu t58_3 wv_5 < mu t17 wv_1)))) ∧
          (true = false →
            ∃ (t41 : ByteArray), Loads P 9 ((⟨r, 0, none⟩ : Addr).add 0) (.string t41) wv_4 ∧ Calls P 55 ⟨[(.string t41)]⟩ wv_4 fun e_3 wv_6 =>
            ∃ (t42 : Bool), e_3 = .returned (.bool t42) ∧
            ((!t42) = true →
              (true = true →
                (true = true →
                  R (.bool false) wv_6) ∧
                (true = false →
                  ∃ t58_4 : Int, t58_4 = IntKind.wrap .i64 (t17 + 1) ∧ Inv t58_4 wv_6 ∧ mu t58_4 wv_6 < mu t17 wv_1)) ∧
              (true = false →
                ∃ (t53_2 : ByteArray), Loads P 9 ((⟨r, 0, none⟩ : Addr).add 0) (.string t53_2) wv_6 ∧ ∃ (t55_2 : ByteArray), Loads P 9 ((⟨r, 0, none⟩ : Addr).add 1) (.string t55_2) wv_6 ∧ ((decide (t53_2 = t55_2)) = true →
                  R (.bool false) wv_6) ∧
                ((decide (t53_2 = t55_2)) = false →
                  ∃ t58_5 : Int, t58_5 = IntKind.wrap .i64 (t17 + 1) ∧ Inv t58_5 wv_6 ∧ mu t58_5 wv_6 < mu t17 wv_1))) ∧
            ((!t42) = false →
              ∃ (t47_1 : ByteArray), Loads P 9 ((⟨r, 0, none⟩ : Addr).add 1) (.string t47_1) wv_6 ∧ Calls P 55 ⟨[(.string t47_1)]⟩ wv_6 fun e_4 wv_7 =>
              ∃ (t48_1 : Bool), e_4 = .returned (.bool t48_1) ∧
              ((!t48_1) = true →
                (true = true →
                  R (.bool false) wv_7) ∧
                (true = false →
                  ∃ t58_6 : Int, t58_6 = IntKind.wrap .i64 (t17 + 1) ∧ Inv t58_6 wv_7 ∧ mu t58_6 wv_7 < mu t17 wv_1)) ∧
              ((!t48_1) = false →
                ∃ (t53_3 : ByteArray), Loads P 9 ((⟨r, 0, none⟩ : Addr).add 0) (.string t53_3) wv_7 ∧ ∃ (t55_3 : ByteArray), Loads P 9 ((⟨r, 0, none⟩ : Addr).add 1) (.string t55_3) wv_7 ∧ ((decide (t53_3 = t55_3)) = true →
                  R (.bool false) wv_7) ∧
                ((decide (t53_3 = t55_3)) = false →
                  ∃ t58_7 : Int, t58_7 = IntKind.wrap .i64 (t17 + 1) ∧ Inv t58_7 wv_7 ∧ mu t58_7 wv_7 < mu t17 wv_1))))) ∧
        (true = false →
          ∃ (t350 : Bool) (t351_p : Option Addr) (t351_n : Nat) (t351_c : Nat), Loads P 54 (((⟨r, 0, none⟩ : Addr).add 2).add 1) (.agg #[(.bool t350), (.slice t351_p t351_n t351_c)]) wv_4 ∧ Calls P 66 ⟨[(.agg #[(.bool t350), (.slice t351_p t351_n t351_c)])]⟩ wv_4 fun e_5 wv_8 =>
          ∃ (t36 : Int), e_5 = .returned (.int .i64 t36) ∧
          ((decide ((t36 : Int) ≤ 0)) = true →
            (true = true →
              (true = true →
                (true = true →
                  R (.bool false) wv_8) ∧
                (true = false →
                  ∃ t58_8 : Int, t58_8 = IntKind.wrap .i64 (t17 + 1) ∧ Inv t58_8 wv_8 ∧ mu t58_8 wv_8 < mu t17 wv_1)) ∧
              (true = false →
                ∃ (t53_4 : ByteArray), Loads P 9 ((⟨r, 0, none⟩ : Addr).add 0) (.string t53_4) wv_8 ∧ ∃ (t55_4 : ByteArray), Loads P 9 ((⟨r, 0, none⟩ : Addr).add 1) (.string t55_4) wv_8 ∧ ((decide (t53_4 = t55_4)) = true →
                  R (.bool false) wv_8) ∧
                ((decide (t53_4 = t55_4)) = false →
                  ∃ t58_9 : Int, t58_9 = IntKind.wrap .i64 (t17 + 1) ∧ Inv t58_9 wv_8 ∧ mu t58_9 wv_8 < mu t17 wv_1))) ∧
            (true = false →
              ∃ (t47_2 : ByteArray), Loads P 9 ((⟨r, 0, none⟩ : Addr).add 1) (.string t47_2) wv_8 ∧ Calls P 55 ⟨[(.string t47_2)]⟩ wv_8 fun e_6 wv_9 =>
              ∃ (t48_2 : Bool), e_6 = .returned (.bool t48_2) ∧
              ((!t48_2) = true →
                (true = true →
                  R (.bool false) wv_9) ∧
                (true = false →
                  ∃ t58_10 : Int, t58_10 = IntKind.wrap .i64 (t17 + 1) ∧ Inv t58_10 wv_9 ∧ mu t58_10 wv_9 < mu t17 wv_1)) ∧
              ((!t48_2) = false →
                ∃ (t53_5 : ByteArray), Loads P 9 ((⟨r, 0, none⟩ : Addr).add 0) (.string t53_5) wv_9 ∧ ∃ (t55_5 : ByteArray), Loads P 9 ((⟨r, 0, none⟩ : Addr).add 1) (.string t55_5) wv_9 ∧ ((decide (t53_5 = t55_5)) = true →
                  R (.bool false) wv_9) ∧
                ((decide (t53_5 = t55_5)) = false →
                  ∃ t58_11 : Int, t58_11 = IntKind.wrap .i64 (t17 + 1) ∧ Inv t58_11 wv_9 ∧ mu t58_11 wv_9 < mu t17 wv_1)))) ∧
          ((decide ((t36 : Int) ≤ 0)) = false →
            ∃ (t41_1 : ByteArray), Loads P 9 ((⟨r, 0, none⟩ : Addr).add 0) (.string t41_1) wv_8 ∧ Calls P 55 ⟨[(.string t41_1)]⟩ wv_8 fun e_7 wv_10 =>
            ∃ (t42_1 : Bool), e_7 = .returned (.bool t42_1) ∧
            ((!t42_1) = true →
              (true = true →
                (true = true →
                  R (.bool false) wv_10) ∧
                (true = false →
                  ∃ t58_12 : Int, t58_12 = IntKind.wrap .i64 (t17 + 1) ∧ Inv t58_12 wv_10 ∧ mu t58_12 wv_10 < mu t17 wv_1)) ∧
              (true = false →
                ∃ (t53_6 : ByteArray), Loads P 9 ((⟨r, 0, none⟩ : Addr).add 0) (.string t53_6) wv_10 ∧ ∃ (t55_6 : ByteArray), Loads P 9 ((⟨r, 0, none⟩ : Addr).add 1) (.string t55_6) wv_10 ∧ ((decide (t53_6 = t55_6)) = true →
                  R (.bool false) wv_10) ∧
                ((decide (t53_6 = t55_6)) = false →
                  ∃ t58_13 : Int, t58_13 = IntKind.wrap .i64 (t17 + 1) ∧ Inv t58_13 wv_10 ∧ mu t58_13 wv_10 < mu t17 wv_1))) ∧
            ((!t42_1) = false →
              ∃ (t47_3 : ByteArray), Loads P 9 ((⟨r, 0, none⟩ : Addr).add 1) (.string t47_3) wv_10 ∧ Calls P 55 ⟨[(.string t47_3)]⟩ wv_10 fun e_8 wv_11 =>
              ∃ (t48_3 : Bool), e_8 = .returned (.bool t48_3) ∧
              ((!t48_3) = true →
                (true = true →
                  R (.bool false) wv_11) ∧
                (true = false →
                  ∃ t58_14 : Int, t58_14 = IntKind.wrap .i64 (t17 + 1) ∧ Inv t58_14 wv_11 ∧ mu t58_14 wv_11 < mu t17 wv_1)) ∧
              ((!t48_3) = false →
                ∃ (t53_7 : ByteArray), Loads P 9 ((⟨r, 0, none⟩ : Addr).add 0) (.string t53_7) wv_11 ∧ ∃ (t55_7 : ByteArray), Loads P 9 ((⟨r, 0, none⟩ : Addr).add 1) (.string t55_7) wv_11 ∧ ((decide (t53_7 = t55_7)) = true →
                  R (.bool false) wv_11) ∧
                ((decide (t53_7 = t55_7)) = false →
                  ∃ t58_15 : Int, t58_15 = IntKind.wrap .i64 (t17 + 1) ∧ Inv t58_15 wv_11 ∧ mu t58_15 wv_11 < mu t17 wv_1)))))) ∧
      ((!t23) = false →
        ∃ (t28 : ByteArray), Loads P 9 (((⟨r, 0, none⟩ : Addr).add 2).add 0) (.string t28) wv_4 ∧ ((decide (t28 ≠ cur)) = true →
          (true = true →
            (true = true →
              (true = true →
                (true = true →
                  R (.bool false) wv_4) ∧
                (true = false →
                  ∃ t58_16 : Int, t58_16 = IntKind.wrap .i64 (t17 + 1) ∧ Inv t58_16 wv_4 ∧ mu t58_16 wv_4 < mu t17 wv_1)) ∧
              (true = false →
                ∃ (t53_8 : ByteArray), Loads P 9 ((⟨r, 0, none⟩ : Addr).add 0) (.string t53_8) wv_4 ∧ ∃ (t55_8 : ByteArray), Loads P 9 ((⟨r, 0, none⟩ : Addr).add 1) (.string t55_8) wv_4 ∧ ((decide (t53_8 = t55_8)) = true →
                  R (.bool false) wv_4) ∧
                ((decide (t53_8 = t55_8)) = false →
                  ∃ t58_17 : Int, t58_17 = IntKind.wrap .i64 (t17 + 1) ∧ Inv t58_17 wv_4 ∧ mu t58_17 wv_4 < mu t17 wv_1))) ∧
            (true = false →
              ∃ (t47_4 : ByteArray), Loads P 9 ((⟨r, 0, none⟩ : Addr).add 1) (.string t47_4) wv_4 ∧ Calls P 55 ⟨[(.string t47_4)]⟩ wv_4 fun e_9 wv_12 =>
              ∃ (t48_4 : Bool), e_9 = .returned (.bool t48_4) ∧
              ((!t48_4) = true →
                (true = true →
                  R (.bool false) wv_12) ∧
                (true = false →
                  ∃ t58_18 : Int, t58_18 = IntKind.wrap .i64 (t17 + 1) ∧ Inv t58_18 wv_12 ∧ mu t58_18 wv_12 < mu t17 wv_1)) ∧
              ((!t48_4) = false →
                ∃ (t53_9 : ByteArray), Loads P 9 ((⟨r, 0, none⟩ : Addr).add 0) (.string t53_9) wv_12 ∧ ∃ (t55_9 : ByteArray), Loads P 9 ((⟨r, 0, none⟩ : Addr).add 1) (.string t55_9) wv_12 ∧ ((decide (t53_9 = t55_9)) = true →
                  R (.bool false) wv_12) ∧
                ((decide (t53_9 = t55_9)) = false →
                  ∃ t58_19 : Int, t58_19 = IntKind.wrap .i64 (t17 + 1) ∧ Inv t58_19 wv_12 ∧ mu t58_19 wv_12 < mu t17 wv_1)))) ∧
          (true = false →
            ∃ (t41_2 : ByteArray), Loads P 9 ((⟨r, 0, none⟩ : Addr).add 0) (.string t41_2) wv_4 ∧ Calls P 55 ⟨[(.string t41_2)]⟩ wv_4 fun e_10 wv_13 =>
            ∃ (t42_2 : Bool), e_10 = .returned (.bool t42_2) ∧
            ((!t42_2) = true →
              (true = true →
                (true = true →
                  R (.bool false) wv_13) ∧
                (true = false →
                  ∃ t58_20 : Int, t58_20 = IntKind.wrap .i64 (t17 + 1) ∧ Inv t58_20 wv_13 ∧ mu t58_20 wv_13 < mu t17 wv_1)) ∧
              (true = false →
                ∃ (t53_10 : ByteArray), Loads P 9 ((⟨r, 0, none⟩ : Addr).add 0) (.string t53_10) wv_13 ∧ ∃ (t55_10 : ByteArray), Loads P 9 ((⟨r, 0, none⟩ : Addr).add 1) (.string t55_10) wv_13 ∧ ((decide (t53_10 = t55_10)) = true →
                  R (.bool false) wv_13) ∧
                ((decide (t53_10 = t55_10)) = false →
                  ∃ t58_21 : Int, t58_21 = IntKind.wrap .i64 (t17 + 1) ∧ Inv t58_21 wv_13 ∧ mu t58_21 wv_13 < mu t17 wv_1))) ∧
            ((!t42_2) = false →
              ∃ (t47_5 : ByteArray), Loads P 9 ((⟨r, 0, none⟩ : Addr).add 1) (.string t47_5) wv_13 ∧ Calls P 55 ⟨[(.string t47_5)]⟩ wv_13 fun e_11 wv_14 =>
              ∃ (t48_5 : Bool), e_11 = .returned (.bool t48_5) ∧
              ((!t48_5) = true →
                (true = true →
                  R (.bool false) wv_14) ∧
                (true = false →
                  ∃ t58_22 : Int, t58_22 = IntKind.wrap .i64 (t17 + 1) ∧ Inv t58_22 wv_14 ∧ mu t58_22 wv_14 < mu t17 wv_1)) ∧
              ((!t48_5) = false →
                ∃ (t53_11 : ByteArray), Loads P 9 ((⟨r, 0, none⟩ : Addr).add 0) (.string t53_11) wv_14 ∧ ∃ (t55_11 : ByteArray), Loads P 9 ((⟨r, 0, none⟩ : Addr).add 1) (.string t55_11) wv_14 ∧ ((decide (t53_11 = t55_11)) = true →
                  R (.bool false) wv_14) ∧
                ((decide (t53_11 = t55_11)) = false →
                  ∃ t58_23 : Int, t58_23 = IntKind.wrap .i64 (t17 + 1) ∧ Inv t58_23 wv_14 ∧ mu t58_23 wv_14 < mu t17 wv_1))))) ∧
        ((decide (t28 ≠ cur)) = false →
          ∃ (t350_1 : Bool) (t351_p_1 : Option Addr) (t351_n_1 : Nat) (t351_c_1 : Nat), Loads P 54 (((⟨r, 0, none⟩ : Addr).add 2).add 1) (.agg #[(.bool t350_1), (.slice t351_p_1 t351_n_1 t351_c_1)]) wv_4 ∧ Calls P 66 ⟨[(.agg #[(.bool t350_1), (.slice t351_p_1 t351_n_1 t351_c_1)])]⟩ wv_4 fun e_12 wv_15 =>
          ∃ (t36_1 : Int), e_12 = .returned (.int .i64 t36_1) ∧
          ((decide ((t36_1 : Int) ≤ 0)) = true →
            (true = true →
              (true = true →
                (true = true →
                  R (.bool false) wv_15) ∧
                (true = false →
                  ∃ t58_24 : Int, t58_24 = IntKind.wrap .i64 (t17 + 1) ∧ Inv t58_24 wv_15 ∧ mu t58_24 wv_15 < mu t17 wv_1)) ∧
              (true = false →
                ∃ (t53_12 : ByteArray), Loads P 9 ((⟨r, 0, none⟩ : Addr).add 0) (.string t53_12) wv_15 ∧ ∃ (t55_12 : ByteArray), Loads P 9 ((⟨r, 0, none⟩ : Addr).add 1) (.string t55_12) wv_15 ∧ ((decide (t53_12 = t55_12)) = true →
                  R (.bool false) wv_15) ∧
                ((decide (t53_12 = t55_12)) = false →
                  ∃ t58_25 : Int, t58_25 = IntKind.wrap .i64 (t17 + 1) ∧ Inv t58_25 wv_15 ∧ mu t58_25 wv_15 < mu t17 wv_1))) ∧
            (true = false →
              ∃ (t47_6 : ByteArray), Loads P 9 ((⟨r, 0, none⟩ : Addr).add 1) (.string t47_6) wv_15 ∧ Calls P 55 ⟨[(.string t47_6)]⟩ wv_15 fun e_13 wv_16 =>
              ∃ (t48_6 : Bool), e_13 = .returned (.bool t48_6) ∧
              ((!t48_6) = true →
                (true = true →
                  R (.bool false) wv_16) ∧
                (true = false →
                  ∃ t58_26 : Int, t58_26 = IntKind.wrap .i64 (t17 + 1) ∧ Inv t58_26 wv_16 ∧ mu t58_26 wv_16 < mu t17 wv_1)) ∧
              ((!t48_6) = false →
                ∃ (t53_13 : ByteArray), Loads P 9 ((⟨r, 0, none⟩ : Addr).add 0) (.string t53_13) wv_16 ∧ ∃ (t55_13 : ByteArray), Loads P 9 ((⟨r, 0, none⟩ : Addr).add 1) (.string t55_13) wv_16 ∧ ((decide (t53_13 = t55_13)) = true →
                  R (.bool false) wv_16) ∧
                ((decide (t53_13 = t55_13)) = false →
                  ∃ t58_27 : Int, t58_27 = IntKind.wrap .i64 (t17 + 1) ∧ Inv t58_27 wv_16 ∧ mu t58_27 wv_16 < mu t17 wv_1)))) ∧
          ((decide ((t36_1 : Int) ≤ 0)) = false →
            ∃ (t41_3 : ByteArray), Loads P 9 ((⟨r, 0, none⟩ : Addr).add 0) (.string t41_3) wv_15 ∧ Calls P 55 ⟨[(.string t41_3)]⟩ wv_15 fun e_14 wv_17 =>
            ∃ (t42_3 : Bool), e_14 = .returned (.bool t42_3) ∧
            ((!t42_3) = true →
              (true = true →
                (true = true →
                  R (.bool false) wv_17) ∧
                (true = false →
                  ∃ t58_28 : Int, t58_28 = IntKind.wrap .i64 (t17 + 1) ∧ Inv t58_28 wv_17 ∧ mu t58_28 wv_17 < mu t17 wv_1)) ∧
              (true = false →
                ∃ (t53_14 : ByteArray), Loads P 9 ((⟨r, 0, none⟩ : Addr).add 0) (.string t53_14) wv_17 ∧ ∃ (t55_14 : ByteArray), Loads P 9 ((⟨r, 0, none⟩ : Addr).add 1) (.string t55_14) wv_17 ∧ ((decide (t53_14 = t55_14)) = true →
                  R (.bool false) wv_17) ∧
                ((decide (t53_14 = t55_14)) = false →
                  ∃ t58_29 : Int, t58_29 = IntKind.wrap .i64 (t17 + 1) ∧ Inv t58_29 wv_17 ∧ mu t58_29 wv_17 < mu t17 wv_1))) ∧
            ((!t42_3) = false →
              ∃ (t47_7 : ByteArray), Loads P 9 ((⟨r, 0, none⟩ : Addr).add 1) (.string t47_7) wv_17 ∧ Calls P 55 ⟨[(.string t47_7)]⟩ wv_17 fun e_15 wv_18 =>
              ∃ (t48_7 : Bool), e_15 = .returned (.bool t48_7) ∧
              ((!t48_7) = true →
                (true = true →
                  R (.bool false) wv_18) ∧
                (true = false →
                  ∃ t58_30 : Int, t58_30 = IntKind.wrap .i64 (t17 + 1) ∧ Inv t58_30 wv_18 ∧ mu t58_30 wv_18 < mu t17 wv_1)) ∧
              ((!t48_7) = false →
                ∃ (t53_15 : ByteArray), Loads P 9 ((⟨r, 0, none⟩ : Addr).add 0) (.string t53_15) wv_18 ∧ ∃ (t55_15 : ByteArray), Loads P 9 ((⟨r, 0, none⟩ : Addr).add 1) (.string t55_15) wv_18 ∧ ((decide (t53_15 = t55_15)) = true →
                  R (.bool false) wv_18) ∧
                ((decide (t53_15 = t55_15)) = false →
                  ∃ t58_31 : Int, t58_31 = IntKind.wrap .i64 (t17 + 1) ∧ Inv t58_31 wv_18 ∧ mu t58_31 wv_18 < mu t17 wv_1))))))) ∧
    ((decide ((t17 : Int) < ((l_n : Nat) : Int))) = false →
      R (.bool true) wv_1)
def impl_DebtsOk (cur : ByteArray) (l_p : Option Addr) (l_n : Nat) (l_c : Nat) (w : World) (R : Value → World → Prop) : Prop :=
  Calls P 65 ⟨[(.string cur)]⟩ w fun e wv =>
  ∃ (t8 : Bool), e = .returned (.bool t8) ∧
  ((!t8) = true →
    (true = true →
      R (.bool false) wv) ∧
    (true = false →
      impl_DebtsOk_j0 cur l_p l_n wv R)) ∧
  ((!t8) = false →
    ((decide ((20 : Int) < ((l_n : Nat) : Int))) = true →
      R (.bool false) wv) ∧
    ((decide ((20 : Int) < ((l_n : Nat) : Int))) = false →
      impl_DebtsOk_j0 cur l_p l_n wv R))
theorem impl_DebtsOk_eq (cur : ByteArray) (l_p : Option Addr) (l_n : Nat) (l_c : Nat) (w : World) (R : Value → World → Prop) : impl_DebtsOk cur l_p l_n l_c w R = fsem P Tryd.f23 (fun k => cond (Nat.beq k 5) [(17, .one (.int .i64))] ([])) [(.string cur), (.slice l_p l_n l_c)] R w := by kernel_rfl
theorem impl_DebtsOk_ret {cur : ByteArray} {l_p : Option Addr} {l_n : Nat} {l_c : Nat} {w : World} {R : Value → World → Prop} (h : impl_DebtsOk cur l_p l_n l_c w R) : Ret P 23 [(.string cur), (.slice l_p l_n l_c)] w R :=
  Ret.of_fsem Tryd.func23 rfl (Eq.mp (impl_DebtsOk_eq cur l_p l_n l_c w R) h)

def spec_Undo (l_p : Option Addr) (l_n : Nat) (l_c : Nat) (w : World) (R : Value → World → Prop) : Prop :=
  Calls P 11 ⟨[(.slice l_p l_n l_c)]⟩ w fun e wv =>
  ∃ (t9 : Bool), e = .returned (.bool t9) ∧
  ((!t9) = true →
    R (.tuple #[(.slice none 0 0), (.bool false)]) wv) ∧
  ((!t9) = false →
    ∀ (r : Nat) (wv_1 : World), New wv (.cells ⟨[]⟩ 86 (0, 0)) r wv_1 →
    ∃ t14 : Int, t14 = IntKind.wrap .i64 (((l_n : Nat) : Int) - 1) ∧ ∃ (Inv : Option Addr → Nat → Nat → Int → World → Prop) (mu : Option Addr → Nat → Nat → Int → World → Nat), Inv (some ⟨r, 0, none⟩) 0 0 t14 wv_1 ∧
    ∀ (junk : Fr) (wv_2 : World) (out_p : Option Addr) (out_n : Nat) (out_c : Nat) (i : Int), Inv out_p out_n out_c i wv_2 →
      ((decide ((0 : Int) ≤ i)) = true →
        (0 ≤ (i : Int) ∧ (i : Int) < (l_n : Nat)) ∧ ptrS l_p fun ad => ∃ (t240 : ByteArray) (t241 : Bool) (t242_p : Option Addr) (t242_n : Nat) (t242_c : Nat), Loads P 56 ((ad.add (i.toNat * 4)).add 1) (.agg #[(.string t240), (.bool t241), (.slice t242_p t242_n t242_c)]) wv_2 ∧ Calls P 68 ⟨[(.agg #[(.string t240), (.bool t241), (.slice t242_p t242_n t242_c)])]⟩ wv_2 fun e_1 wv_3 =>
        ∃ (t250 : ByteArray) (t251 : Bool) (t252_p : Option Addr) (t252_n : Nat) (t252_c : Nat) (t25 : Bool), e_1 = .returned (.tuple #[(.agg #[(.string t250), (.bool t251), (.slice t252_p t252_n t252_c)]), (.bool t25)]) ∧
        ∀ (r_1 : Nat) (wv_4 : World), New wv_3 (.cells ⟨[(.string ByteArray.empty), (.bool false), (.slice none 0 0)]⟩ 56 (0, 0)) r_1 wv_4 →
        ∃ wv_5, Stores P 56 ⟨r_1, 0, none⟩ (.agg #[(.string t250), (.bool t251), (.slice t252_p t252_n t252_c)]) wv_4 wv_5 ∧
        (0 ≤ (i : Int) ∧ (i : Int) < (l_n : Nat)) ∧ ptrS l_p fun ad_1 => ∃ (t33 : ByteArray), (∀ wv_6, Ext wv_5.drew wv_6 → Loads P 9 ((ad_1.add (i.toNat * 4)).add 0) (.string t33) wv_6) ∧ ∃ (t340 : ByteArray) (t341 : Bool) (t342_p : Option Addr) (t342_n : Nat) (t342_c : Nat), (∀ wv_7, Ext wv_5.drew wv_7 → Loads P 56 ⟨r_1, 0, none⟩ (.agg #[(.string t340), (.bool t341), (.slice t342_p t342_n t342_c)]) wv_7) ∧ ∀ (r_2 : Nat) (wv_8 : World), New wv_5.drew (.cells ⟨[(.string t33), (.string t340), (.bool t341), (.slice t342_p t342_n t342_c)]⟩ 86 (0, 0)) r_2 wv_8 →
        ∃ (t37_p : Option Addr) (t37_n : Nat) (t37_c : Nat) (wv_9 : World), Appends P [25, 25] [(.slice out_p out_n out_c), (.slice (some ⟨r_2, 0, none⟩) 1 1)] (.slice t37_p t37_n t37_c) wv_8 wv_9 ∧
        ∃ t18 : Int, t18 = IntKind.wrap .i64 (i - 1) ∧ Inv t37_p t37_n t37_c t18 wv_9 ∧ mu t37_p t37_n t37_c t18 wv_9 < mu out_p out_n out_c i wv_2) ∧
      ((decide ((0 : Int) ≤ i)) = false →
        R (.tuple #[(.slice out_p out_n out_c), (.bool true)]) wv_2))
theorem spec_Undo_eq (l_p : Option Addr) (l_n : Nat) (l_c : Nat) (w : World) (R : Value → World → Prop) : spec_Undo l_p l_n l_c w R = fsem P Tryd.f25 (fun k => cond (Nat.beq k 6) [(4, .one .slice), (5, .one (.int .i64))] ([])) [(.slice l_p l_n l_c)] R w := by kernel_rfl
theorem spec_Undo_ret {l_p : Option Addr} {l_n : Nat} {l_c : Nat} {w : World} {R : Value → World → Prop} (h : spec_Undo l_p l_n l_c w R) : Ret P 25 [(.slice l_p l_n l_c)] w R :=
  Ret.of_fsem Tryd.func25 rfl (Eq.mp (spec_Undo_eq l_p l_n l_c w R) h)

def impl_Undo (l_p : Option Addr) (l_n : Nat) (l_c : Nat) (w : World) (R : Value → World → Prop) : Prop :=
  Calls P 13 ⟨[(.slice l_p l_n l_c)]⟩ w fun e wv =>
  ∃ (t7 : Bool), e = .returned (.bool t7) ∧
  ((!t7) = true →
    R (.tuple #[(.slice none 0 0), (.bool false)]) wv) ∧
  ((!t7) = false →
    ∀ (r : Nat) (wv_1 : World), New wv (.cells ⟨[]⟩ 86 (0, 0)) r wv_1 →
    ∃ t12 : Int, t12 = IntKind.wrap .i64 (((l_n : Nat) : Int) - 1) ∧ ∃ (Inv : Option Addr → Nat → Nat → Int → World → Prop) (mu : Option Addr → Nat → Nat → Int → World → Nat), Inv (some ⟨r, 0, none⟩) 0 0 t12 wv_1 ∧
    ∀ (junk : Fr) (wv_2 : World) (out_p : Option Addr) (out_n : Nat) (out_c : Nat) (i : Int), Inv out_p out_n out_c i wv_2 →
      ((decide ((0 : Int) ≤ i)) = true →
        (0 ≤ (i : Int) ∧ (i : Int) < (l_n : Nat)) ∧ ptrS l_p fun ad => ∃ (t22 : ByteArray), (∀ wv_3, Ext wv_2.drew wv_3 → Loads P 9 ((ad.add (i.toNat * 4)).add 0) (.string t22) wv_3) ∧ (0 ≤ (i : Int) ∧ (i : Int) < (l_n : Nat)) ∧ ptrS l_p fun ad_1 => ∃ (t28 : ByteArray), (∀ wv_4, Ext wv_2.drew wv_4 → Loads P 9 (((ad_1.add (i.toNat * 4)).add 1).add 0) (.string t28) wv_4) ∧ (0 ≤ (i : Int) ∧ (i : Int) < (l_n : Nat)) ∧ ptrS l_p fun ad_2 => ∃ (t340 : Bool) (t341_p : Option Addr) (t341_n : Nat) (t341_c : Nat), (∀ wv_5, Ext wv_2.drew wv_5 → Loads P 54 (((ad_2.add (i.toNat * 4)).add 1).add 1) (.agg #[(.bool t340), (.slice t341_p t341_n t341_c)]) wv_5) ∧ Calls P 69 ⟨[(.agg #[(.bool t340), (.slice t341_p t341_n t341_c)])]⟩ wv_2.drew fun e_1 wv_6 =>
        ∃ (t350 : Bool) (t351_p : Option Addr) (t351_n : Nat) (t351_c : Nat), e_1 = .returned (.agg #[(.bool t350), (.slice t351_p t351_n t351_c)]) ∧
        Ext wv_2.drew wv_6 ∧ ∀ (r_1 : Nat) (wv_7 : World), New wv_6 (.cells ⟨[(.string t22), (.string t28), (.bool t350), (.slice t351_p t351_n t351_c)]⟩ 86 (0, 0)) r_1 wv_7 →
        ∃ (t39_p : Option Addr) (t39_n : Nat) (t39_c : Nat) (wv_8 : World), Appends P [25, 25] [(.slice out_p out_n out_c), (.slice (some ⟨r_1, 0, none⟩) 1 1)] (.slice t39_p t39_n t39_c) wv_7 wv_8 ∧
        ∃ t16 : Int, t16 = IntKind.wrap .i64 (i - 1) ∧ Inv t39_p t39_n t39_c t16 wv_8 ∧ mu t39_p t39_n t39_c t16 wv_8 < mu out_p out_n out_c i wv_2) ∧
      ((decide ((0 : Int) ≤ i)) = false →
        R (.tuple #[(.slice out_p out_n out_c), (.bool true)]) wv_2))
theorem impl_Undo_eq (l_p : Option Addr) (l_n : Nat) (l_c : Nat) (w : World) (R : Value → World → Prop) : impl_Undo l_p l_n l_c w R = fsem P Tryd.f26 (fun k => cond (Nat.beq k 6) [(4, .one .slice), (5, .one (.int .i64))] ([])) [(.slice l_p l_n l_c)] R w := by kernel_rfl
theorem impl_Undo_ret {l_p : Option Addr} {l_n : Nat} {l_c : Nat} {w : World} {R : Value → World → Prop} (h : impl_Undo l_p l_n l_c w R) : Ret P 26 [(.slice l_p l_n l_c)] w R :=
  Ret.of_fsem Tryd.func26 rfl (Eq.mp (impl_Undo_eq l_p l_n l_c w R) h)

def spec_PlanSums (cur : ByteArray) (l_p : Option Addr) (l_n : Nat) (l_c : Nat) (w : World) (R : Value → World → Prop) : Prop :=
  ∀ (r : Nat) (wv : World), New w (.cells ⟨[(.string ByteArray.empty), (.bool false), (.slice none 0 0)]⟩ 56 (0, 0)) r wv →
  ∀ (r_1 : Nat) (wv_1 : World), New wv (.cells ⟨[(.string ByteArray.empty), (.bool false), (.slice none 0 0)]⟩ 56 (0, 0)) r_1 wv_1 →
  ∀ (r_2 : Nat) (wv_2 : World), New wv_1 (.cells ⟨[]⟩ 56 (0, 0)) r_2 wv_2 →
  ∀ (r_3 : Nat) (wv_3 : World), New wv_2 (.cells ⟨[]⟩ 56 (0, 0)) r_3 wv_3 →
  ∃ (Inv : Option Addr → Nat → Nat → Option Addr → Nat → Nat → Int → World → Prop) (mu : Option Addr → Nat → Nat → Option Addr → Nat → Nat → Int → World → Nat), Inv (some ⟨r_2, 0, none⟩) 0 0 (some ⟨r_3, 0, none⟩) 0 0 0 wv_3 ∧
  ∀ (junk : Fr) (wv_4 : World) (a_p : Option Addr) (a_n : Nat) (a_c : Nat) (b_p : Option Addr) (b_n : Nat) (b_c : Nat) (t19 : Int), Inv a_p a_n a_c b_p b_n b_c t19 wv_4 →
    ((decide ((t19 : Int) < ((l_n : Nat) : Int))) = true →
      (0 ≤ (t19 : Int) ∧ (t19 : Int) < (l_n : Nat)) ∧ ptrS l_p fun ad => ∃ (t220 : ByteArray) (t221 : Bool) (t222_p : Option Addr) (t222_n : Nat) (t222_c : Nat) (t223 : ByteArray) (t224 : Bool) (t225_p : Option Addr) (t225_n : Nat) (t225_c : Nat) (t226 : ByteArray) (t227 : Bool) (t228_p : Option Addr) (t228_n : Nat) (t228_c : Nat), Loads P 114 (ad.add (t19.toNat * 9)) (.agg #[(.string t220), (.bool t221), (.slice t222_p t222_n t222_c), (.string t223), (.bool t224), (.slice t225_p t225_n t225_c), (.string t226), (.bool t227), (.slice t228_p t228_n t228_c)]) wv_4 ∧ ∀ (r_4 : Nat) (wv_5 : World), New wv_4 (.cells ⟨[(.string ByteArray.empty), (.bool false), (.slice none 0 0), (.string ByteArray.empty), (.bool false), (.slice none 0 0), (.string ByteArray.empty), (.bool false), (.slice none 0 0)]⟩ 114 (0, 0)) r_4 wv_5 →
      ∃ wv_6, Stores P 114 ⟨r_4, 0, none⟩ (.agg #[(.string t220), (.bool t221), (.slice t222_p t222_n t222_c), (.string t223), (.bool t224), (.slice t225_p t225_n t225_c), (.string t226), (.bool t227), (.slice t228_p t228_n t228_c)]) wv_5 wv_6 ∧
      ∃ (t250 : ByteArray) (t251 : Bool) (t252_p : Option Addr) (t252_n : Nat) (t252_c : Nat), Loads P 56 ((⟨r_4, 0, none⟩ : Addr).add 0) (.agg #[(.string t250), (.bool t251), (.slice t252_p t252_n t252_c)]) wv_6 ∧ ∀ (r_5 : Nat) (wv_7 : World), New wv_6 (.cells ⟨[(.string t250), (.bool t251), (.slice t252_p t252_n t252_c)]⟩ 56 (0, 0)) r_5 wv_7 →
      ∃ (t27_p : Option Addr) (t27_n : Nat) (t27_c : Nat) (wv_8 : World), Appends P [112, 112] [(.slice a_p a_n a_c), (.slice (some ⟨r_5, 0, none⟩) 1 1)] (.slice t27_p t27_n t27_c) wv_7 wv_8 ∧
      ∃ (t300 : ByteArray) (t301 : Bool) (t302_p : Option Addr) (t302_n : Nat) (t302_c : Nat), Loads P 56 ((⟨r_4, 0, none⟩ : Addr).add 3) (.agg #[(.string t300), (.bool t301), (.slice t302_p t302_n t302_c)]) wv_8 ∧ ∀ (r_6 : Nat) (wv_9 : World), New wv_8 (.cells ⟨[(.string t300), (.bool t301), (.slice t302_p t302_n t302_c)]⟩ 56 (0, 0)) r_6 wv_9 →
      ∃ (t32_p : Option Addr) (t32_n : Nat) (t32_c : Nat) (wv_10 : World), Appends P [112, 112] [(.slice b_p b_n b_c), (.slice (some ⟨r_6, 0, none⟩) 1 1)] (.slice t32_p t32_n t32_c) wv_9 wv_10 ∧
      ∃ t33 : Int, t33 = IntKind.wrap .i64 (t19 + 1) ∧ Inv t27_p t27_n t27_c t32_p t32_n t32_c t33 wv_10 ∧ mu t27_p t27_n t27_c t32_p t32_n t32_c t33 wv_10 < mu a_p a_n a_c b_p b_n b_c t19 wv_4) ∧
    ((decide ((t19 : Int) < ((l_n : Nat) : Int))) = false →
      Calls P 74 ⟨[(.string cur), (.slice a_p a_n a_c)]⟩ wv_4 fun e wv_11 =>
      ∃ (t370 : ByteArray) (t371 : Bool) (t372_p : Option Addr) (t372_n : Nat) (t372_c : Nat) (t37 : Bool), e = .returned (.tuple #[(.agg #[(.string t370), (.bool t371), (.slice t372_p t372_n t372_c)]), (.bool t37)]) ∧
      ∀ (r_7 : Nat) (wv_12 : World), New wv_11 (.cells ⟨[(.string ByteArray.empty), (.bool false), (.slice none 0 0)]⟩ 56 (0, 0)) r_7 wv_12 →
      ∃ wv_13, Stores P 56 ⟨r_7, 0, none⟩ (.agg #[(.string t370), (.bool t371), (.slice t372_p t372_n t372_c)]) wv_12 wv_13 ∧
      Calls P 74 ⟨[(.string cur), (.slice b_p b_n b_c)]⟩ wv_13 fun e_1 wv_14 =>
      ∃ (t430 : ByteArray) (t431 : Bool) (t432_p : Option Addr) (t432_n : Nat) (t432_c : Nat) (t43 : Bool), e_1 = .returned (.tuple #[(.agg #[(.string t430), (.bool t431), (.slice t432_p t432_n t432_c)]), (.bool t43)]) ∧
      ∀ (r_8 : Nat) (wv_15 : World), New wv_14 (.cells ⟨[(.string ByteArray.empty), (.bool false), (.slice none 0 0)]⟩ 56 (0, 0)) r_8 wv_15 →
      ∃ wv_16, Stores P 56 ⟨r_8, 0, none⟩ (.agg #[(.string t430), (.bool t431), (.slice t432_p t432_n t432_c)]) wv_15 wv_16 ∧
      ((!t37) = true →
        (true = true →
          ∃ wv_17, Stores P 56 ⟨r, 0, none⟩ (.agg #[(.string ByteArray.empty), (.bool false), (.slice none 0 0)]) wv_16 wv_17 ∧
          ∃ wv_18, Stores P 56 ⟨r_1, 0, none⟩ (.agg #[(.string ByteArray.empty), (.bool false), (.slice none 0 0)]) wv_17 wv_18 ∧
          ∃ (r0 : ByteArray) (r1 : Bool) (r2_p : Option Addr) (r2_n : Nat) (r2_c : Nat), Loads P 56 ⟨r, 0, none⟩ (.agg #[(.string r0), (.bool r1), (.slice r2_p r2_n r2_c)]) wv_18 ∧ ∃ (r0_1 : ByteArray) (r1_1 : Bool) (r2_p_1 : Option Addr) (r2_n_1 : Nat) (r2_c_1 : Nat), Loads P 56 ⟨r_1, 0, none⟩ (.agg #[(.string r0_1), (.bool r1_1), (.slice r2_p_1 r2_n_1 r2_c_1)]) wv_18 ∧ R (.tuple #[(.agg #[(.string r0), (.bool r1), (.slice r2_p r2_n r2_c)]), (.agg #[(.string r0_1), (.bool r1_1), (.slice r2_p_1 r2_n_1 r2_c_1)]), (.bool false)]) wv_18) ∧
        (true = false →
          ∃ blks : List Nat, ∃ (t540 : ByteArray) (t541 : Bool) (t542_p : Option Addr) (t542_n : Nat) (t542_c : Nat), (∀ wv_19, EX blks wv_16.drew wv_19 → Loads P 56 ⟨r_7, 0, none⟩ (.agg #[(.string t540), (.bool t541), (.slice t542_p t542_n t542_c)]) wv_19) ∧ ∃ (t550 : ByteArray) (t551 : Bool) (t552_p : Option Addr) (t552_n : Nat) (t552_c : Nat), (∀ wv_20, EX blks wv_16.drew wv_20 → Loads P 56 ⟨r_8, 0, none⟩ (.agg #[(.string t550), (.bool t551), (.slice t552_p t552_n t552_c)]) wv_20) ∧ ∃ wv_21, Stores P 56 ⟨r, 0, none⟩ (.agg #[(.string t540), (.bool t541), (.slice t542_p t542_n t542_c)]) wv_16.drew wv_21 ∧
          EX blks wv_16.drew wv_21 ∧ ∃ wv_22, Stores P 56 ⟨r_1, 0, none⟩ (.agg #[(.string t550), (.bool t551), (.slice t552_p t552_n t552_c)]) wv_21 wv_22 ∧
          ∃ (r0_2 : ByteArray) (r1_2 : Bool) (r2_p_2 : Option Addr) (r2_n_2 : Nat) (r2_c_2 : Nat), Loads P 56 ⟨r, 0, none⟩ (.agg #[(.string r0_2), (.bool r1_2), (.slice r2_p_2 r2_n_2 r2_c_2)]) wv_22 ∧ ∃ (r0_3 : ByteArray) (r1_3 : Bool) (r2_p_3 : Option Addr) (r2_n_3 : Nat) (r2_c_3 : Nat), Loads P 56 ⟨r_1, 0, none⟩ (.agg #[(.string r0_3), (.bool r1_3), (.slice r2_p_3 r2_n_3 r2_c_3)]) wv_22 ∧ R (.tuple #[(.agg #[(.string r0_2), (.bool r1_2), (.slice r2_p_2 r2_n_2 r2_c_2)]), (.agg #[(.string r0_3), (.bool r1_3), (.slice r2_p_3 r2_n_3 r2_c_3)]), (.bool true)]) wv_22)) ∧
      ((!t37) = false →
        ((!t43) = true →
          ∃ wv_23, Stores P 56 ⟨r, 0, none⟩ (.agg #[(.string ByteArray.empty), (.bool false), (.slice none 0 0)]) wv_16 wv_23 ∧
          ∃ wv_24, Stores P 56 ⟨r_1, 0, none⟩ (.agg #[(.string ByteArray.empty), (.bool false), (.slice none 0 0)]) wv_23 wv_24 ∧
          ∃ (r0_4 : ByteArray) (r1_4 : Bool) (r2_p_4 : Option Addr) (r2_n_4 : Nat) (r2_c_4 : Nat), Loads P 56 ⟨r, 0, none⟩ (.agg #[(.string r0_4), (.bool r1_4), (.slice r2_p_4 r2_n_4 r2_c_4)]) wv_24 ∧ ∃ (r0_5 : ByteArray) (r1_5 : Bool) (r2_p_5 : Option Addr) (r2_n_5 : Nat) (r2_c_5 : Nat), Loads P 56 ⟨r_1, 0, none⟩ (.agg #[(.string r0_5), (.bool r1_5), (.slice r2_p_5 r2_n_5 r2_c_5)]) wv_24 ∧ R (.tuple #[(.agg #[(.string r0_4), (.bool r1_4), (.slice r2_p_4 r2_n_4 r2_c_4)]), (.agg #[(.string r0_5), (.bool r1_5), (.slice r2_p_5 r2_n_5 r2_c_5)]), (.bool false)]) wv_24) ∧
        ((!t43) = false →
          ∃ blks_1 : List Nat, ∃ (t540_1 : ByteArray) (t541_1 : Bool) (t542_p_1 : Option Addr) (t542_n_1 : Nat) (t542_c_1 : Nat), (∀ wv_25, EX blks_1 wv_16.drew wv_25 → Loads P 56 ⟨r_7, 0, none⟩ (.agg #[(.string t540_1), (.bool t541_1), (.slice t542_p_1 t542_n_1 t542_c_1)]) wv_25) ∧ ∃ (t550_1 : ByteArray) (t551_1 : Bool) (t552_p_1 : Option Addr) (t552_n_1 : Nat) (t552_c_1 : Nat), (∀ wv_26, EX blks_1 wv_16.drew wv_26 → Loads P 56 ⟨r_8, 0, none⟩ (.agg #[(.string t550_1), (.bool t551_1), (.slice t552_p_1 t552_n_1 t552_c_1)]) wv_26) ∧ ∃ wv_27, Stores P 56 ⟨r, 0, none⟩ (.agg #[(.string t540_1), (.bool t541_1), (.slice t542_p_1 t542_n_1 t542_c_1)]) wv_16.drew wv_27 ∧
          EX blks_1 wv_16.drew wv_27 ∧ ∃ wv_28, Stores P 56 ⟨r_1, 0, none⟩ (.agg #[(.string t550_1), (.bool t551_1), (.slice t552_p_1 t552_n_1 t552_c_1)]) wv_27 wv_28 ∧
          ∃ (r0_6 : ByteArray) (r1_6 : Bool) (r2_p_6 : Option Addr) (r2_n_6 : Nat) (r2_c_6 : Nat), Loads P 56 ⟨r, 0, none⟩ (.agg #[(.string r0_6), (.bool r1_6), (.slice r2_p_6 r2_n_6 r2_c_6)]) wv_28 ∧ ∃ (r0_7 : ByteArray) (r1_7 : Bool) (r2_p_7 : Option Addr) (r2_n_7 : Nat) (r2_c_7 : Nat), Loads P 56 ⟨r_1, 0, none⟩ (.agg #[(.string r0_7), (.bool r1_7), (.slice r2_p_7 r2_n_7 r2_c_7)]) wv_28 ∧ R (.tuple #[(.agg #[(.string r0_6), (.bool r1_6), (.slice r2_p_6 r2_n_6 r2_c_6)]), (.agg #[(.string r0_7), (.bool r1_7), (.slice r2_p_7 r2_n_7 r2_c_7)]), (.bool true)]) wv_28)))
theorem spec_PlanSums_eq (cur : ByteArray) (l_p : Option Addr) (l_n : Nat) (l_c : Nat) (w : World) (R : Value → World → Prop) : spec_PlanSums cur l_p l_n l_c w R = fsem P Tryd.f30 (fun k => cond (Nat.beq k 5) [(7, .one .slice), (8, .one .slice), (19, .one (.int .i64))] ([])) [(.string cur), (.slice l_p l_n l_c)] R w := by kernel_rfl
theorem spec_PlanSums_ret {cur : ByteArray} {l_p : Option Addr} {l_n : Nat} {l_c : Nat} {w : World} {R : Value → World → Prop} (h : spec_PlanSums cur l_p l_n l_c w R) : Ret P 30 [(.string cur), (.slice l_p l_n l_c)] w R :=
  Ret.of_fsem Tryd.func30 rfl (Eq.mp (spec_PlanSums_eq cur l_p l_n l_c w R) h)

def impl_PlanSums (cur : ByteArray) (l_p : Option Addr) (l_n : Nat) (l_c : Nat) (w : World) (R : Value → World → Prop) : Prop :=
  ∀ (r : Nat) (wv : World), New w (.cells ⟨[(.string ByteArray.empty), (.bool false), (.slice none 0 0)]⟩ 56 (0, 0)) r wv →
  ∀ (r_1 : Nat) (wv_1 : World), New wv (.cells ⟨[(.string ByteArray.empty), (.bool false), (.slice none 0 0)]⟩ 56 (0, 0)) r_1 wv_1 →
  ∀ (r_2 : Nat) (wv_2 : World), New wv_1 (.cells ⟨[]⟩ 56 (0, 0)) r_2 wv_2 →
  ∀ (r_3 : Nat) (wv_3 : World), New wv_2 (.cells ⟨[]⟩ 56 (0, 0)) r_3 wv_3 →
  ∃ (Inv : Option Addr → Nat → Nat → Option Addr → Nat → Nat → Int → World → Prop) (mu : Option Addr → Nat → Nat → Option Addr → Nat → Nat → Int → World → Nat), Inv (some ⟨r_2, 0, none⟩) 0 0 (some ⟨r_3, 0, none⟩) 0 0 0 wv_3 ∧
  ∀ (junk : Fr) (wv_4 : World) (interests_p : Option Addr) (interests_n : Nat) (interests_c : Nat) (pays_p : Option Addr) (pays_n : Nat) (pays_c : Nat) (t19 : Int), Inv interests_p interests_n interests_c pays_p pays_n pays_c t19 wv_4 →
    ((decide ((t19 : Int) < ((l_n : Nat) : Int))) = true →
      (0 ≤ (t19 : Int) ∧ (t19 : Int) < (l_n : Nat)) ∧ ptrS l_p fun ad => ∃ (t220 : ByteArray) (t221 : Bool) (t222_p : Option Addr) (t222_n : Nat) (t222_c : Nat) (t223 : ByteArray) (t224 : Bool) (t225_p : Option Addr) (t225_n : Nat) (t225_c : Nat) (t226 : ByteArray) (t227 : Bool) (t228_p : Option Addr) (t228_n : Nat) (t228_c : Nat), Loads P 114 (ad.add (t19.toNat * 9)) (.agg #[(.string t220), (.bool t221), (.slice t222_p t222_n t222_c), (.string t223), (.bool t224), (.slice t225_p t225_n t225_c), (.string t226), (.bool t227), (.slice t228_p t228_n t228_c)]) wv_4 ∧ ∀ (r_4 : Nat) (wv_5 : World), New wv_4 (.cells ⟨[(.string ByteArray.empty), (.bool false), (.slice none 0 0), (.string ByteArray.empty), (.bool false), (.slice none 0 0), (.string ByteArray.empty), (.bool false), (.slice none 0 0)]⟩ 114 (0, 0)) r_4 wv_5 →
      ∃ wv_6, Stores P 114 ⟨r_4, 0, none⟩ (.agg #[(.string t220), (.bool t221), (.slice t222_p t222_n t222_c), (.string t223), (.bool t224), (.slice t225_p t225_n t225_c), (.string t226), (.bool t227), (.slice t228_p t228_n t228_c)]) wv_5 wv_6 ∧
      ∃ (t250 : ByteArray) (t251 : Bool) (t252_p : Option Addr) (t252_n : Nat) (t252_c : Nat), Loads P 56 ((⟨r_4, 0, none⟩ : Addr).add 0) (.agg #[(.string t250), (.bool t251), (.slice t252_p t252_n t252_c)]) wv_6 ∧ ∀ (r_5 : Nat) (wv_7 : World), New wv_6 (.cells ⟨[(.string t250), (.bool t251), (.slice t252_p t252_n t252_c)]⟩ 56 (0, 0)) r_5 wv_7 →
      ∃ (t27_p : Option Addr) (t27_n : Nat) (t27_c : Nat) (wv_8 : World), Appends P [112, 112] [(.slice interests_p interests_n interests_c), (.slice (some ⟨r_5, 0, none⟩) 1 1)] (.slice t27_p t27_n t27_c) wv_7 wv_8 ∧
      ∃ (t300 : ByteArray) (t301 : Bool) (t302_p : Option Addr) (t302_n : Nat) (t302_c : Nat), Loads P 56 ((⟨r_4, 0, none⟩ : Addr).add 3) (.agg #[(.string t300), (.bool t301), (.slice t302_p t302_n t302_c)]) wv_8 ∧ ∀ (r_6 : Nat) (wv_9 : World), New wv_8 (.cells ⟨[(.string t300), (.bool t301), (.slice t302_p t302_n t302_c)]⟩ 56 (0, 0)) r_6 wv_9 →
      ∃ (t32_p : Option Addr) (t32_n : Nat) (t32_c : Nat) (wv_10 : World), Appends P [112, 112] [(.slice pays_p pays_n pays_c), (.slice (some ⟨r_6, 0, none⟩) 1 1)] (.slice t32_p t32_n t32_c) wv_9 wv_10 ∧
      ∃ t33 : Int, t33 = IntKind.wrap .i64 (t19 + 1) ∧ Inv t27_p t27_n t27_c t32_p t32_n t32_c t33 wv_10 ∧ mu t27_p t27_n t27_c t32_p t32_n t32_c t33 wv_10 < mu interests_p interests_n interests_c pays_p pays_n pays_c t19 wv_4) ∧
    ((decide ((t19 : Int) < ((l_n : Nat) : Int))) = false →
      Calls P 76 ⟨[(.string cur), (.slice interests_p interests_n interests_c)]⟩ wv_4 fun e wv_11 =>
      ∃ (t370 : ByteArray) (t371 : Bool) (t372_p : Option Addr) (t372_n : Nat) (t372_c : Nat) (t37 : Bool), e = .returned (.tuple #[(.agg #[(.string t370), (.bool t371), (.slice t372_p t372_n t372_c)]), (.bool t37)]) ∧
      ∀ (r_7 : Nat) (wv_12 : World), New wv_11 (.cells ⟨[(.string ByteArray.empty), (.bool false), (.slice none 0 0)]⟩ 56 (0, 0)) r_7 wv_12 →
      ∃ wv_13, Stores P 56 ⟨r_7, 0, none⟩ (.agg #[(.string t370), (.bool t371), (.slice t372_p t372_n t372_c)]) wv_12 wv_13 ∧
      Calls P 76 ⟨[(.string cur), (.slice pays_p pays_n pays_c)]⟩ wv_13 fun e_1 wv_14 =>
      ∃ (t430 : ByteArray) (t431 : Bool) (t432_p : Option Addr) (t432_n : Nat) (t432_c : Nat) (t43 : Bool), e_1 = .returned (.tuple #[(.agg #[(.string t430), (.bool t431), (.slice t432_p t432_n t432_c)]), (.bool t43)]) ∧
      ∀ (r_8 : Nat) (wv_15 : World), New wv_14 (.cells ⟨[(.string ByteArray.empty), (.bool false), (.slice none 0 0)]⟩ 56 (0, 0)) r_8 wv_15 →
      ∃ wv_16, Stores P 56 ⟨r_8, 0, none⟩ (.agg #[(.string t430), (.bool t431), (.slice t432_p t432_n t432_c)]) wv_15 wv_16 ∧
      ((!t37) = true →
        (true = true →
          ∃ wv_17, Stores P 56 ⟨r, 0, none⟩ (.agg #[(.string ByteArray.empty), (.bool false), (.slice none 0 0)]) wv_16 wv_17 ∧
          ∃ wv_18, Stores P 56 ⟨r_1, 0, none⟩ (.agg #[(.string ByteArray.empty), (.bool false), (.slice none 0 0)]) wv_17 wv_18 ∧
          ∃ (r0 : ByteArray) (r1 : Bool) (r2_p : Option Addr) (r2_n : Nat) (r2_c : Nat), Loads P 56 ⟨r, 0, none⟩ (.agg #[(.string r0), (.bool r1), (.slice r2_p r2_n r2_c)]) wv_18 ∧ ∃ (r0_1 : ByteArray) (r1_1 : Bool) (r2_p_1 : Option Addr) (r2_n_1 : Nat) (r2_c_1 : Nat), Loads P 56 ⟨r_1, 0, none⟩ (.agg #[(.string r0_1), (.bool r1_1), (.slice r2_p_1 r2_n_1 r2_c_1)]) wv_18 ∧ R (.tuple #[(.agg #[(.string r0), (.bool r1), (.slice r2_p r2_n r2_c)]), (.agg #[(.string r0_1), (.bool r1_1), (.slice r2_p_1 r2_n_1 r2_c_1)]), (.bool false)]) wv_18) ∧
        (true = false →
          ∃ blks : List Nat, ∃ (t540 : ByteArray) (t541 : Bool) (t542_p : Option Addr) (t542_n : Nat) (t542_c : Nat), (∀ wv_19, EX blks wv_16.drew wv_19 → Loads P 56 ⟨r_7, 0, none⟩ (.agg #[(.string t540), (.bool t541), (.slice t542_p t542_n t542_c)]) wv_19) ∧ ∃ (t550 : ByteArray) (t551 : Bool) (t552_p : Option Addr) (t552_n : Nat) (t552_c : Nat), (∀ wv_20, EX blks wv_16.drew wv_20 → Loads P 56 ⟨r_8, 0, none⟩ (.agg #[(.string t550), (.bool t551), (.slice t552_p t552_n t552_c)]) wv_20) ∧ ∃ wv_21, Stores P 56 ⟨r, 0, none⟩ (.agg #[(.string t540), (.bool t541), (.slice t542_p t542_n t542_c)]) wv_16.drew wv_21 ∧
          EX blks wv_16.drew wv_21 ∧ ∃ wv_22, Stores P 56 ⟨r_1, 0, none⟩ (.agg #[(.string t550), (.bool t551), (.slice t552_p t552_n t552_c)]) wv_21 wv_22 ∧
          ∃ (r0_2 : ByteArray) (r1_2 : Bool) (r2_p_2 : Option Addr) (r2_n_2 : Nat) (r2_c_2 : Nat), Loads P 56 ⟨r, 0, none⟩ (.agg #[(.string r0_2), (.bool r1_2), (.slice r2_p_2 r2_n_2 r2_c_2)]) wv_22 ∧ ∃ (r0_3 : ByteArray) (r1_3 : Bool) (r2_p_3 : Option Addr) (r2_n_3 : Nat) (r2_c_3 : Nat), Loads P 56 ⟨r_1, 0, none⟩ (.agg #[(.string r0_3), (.bool r1_3), (.slice r2_p_3 r2_n_3 r2_c_3)]) wv_22 ∧ R (.tuple #[(.agg #[(.string r0_2), (.bool r1_2), (.slice r2_p_2 r2_n_2 r2_c_2)]), (.agg #[(.string r0_3), (.bool r1_3), (.slice r2_p_3 r2_n_3 r2_c_3)]), (.bool true)]) wv_22)) ∧
      ((!t37) = false →
        ((!t43) = true →
          ∃ wv_23, Stores P 56 ⟨r, 0, none⟩ (.agg #[(.string ByteArray.empty), (.bool false), (.slice none 0 0)]) wv_16 wv_23 ∧
          ∃ wv_24, Stores P 56 ⟨r_1, 0, none⟩ (.agg #[(.string ByteArray.empty), (.bool false), (.slice none 0 0)]) wv_23 wv_24 ∧
          ∃ (r0_4 : ByteArray) (r1_4 : Bool) (r2_p_4 : Option Addr) (r2_n_4 : Nat) (r2_c_4 : Nat), Loads P 56 ⟨r, 0, none⟩ (.agg #[(.string r0_4), (.bool r1_4), (.slice r2_p_4 r2_n_4 r2_c_4)]) wv_24 ∧ ∃ (r0_5 : ByteArray) (r1_5 : Bool) (r2_p_5 : Option Addr) (r2_n_5 : Nat) (r2_c_5 : Nat), Loads P 56 ⟨r_1, 0, none⟩ (.agg #[(.string r0_5), (.bool r1_5), (.slice r2_p_5 r2_n_5 r2_c_5)]) wv_24 ∧ R (.tuple #[(.agg #[(.string r0_4), (.bool r1_4), (.slice r2_p_4 r2_n_4 r2_c_4)]), (.agg #[(.string r0_5), (.bool r1_5), (.slice r2_p_5 r2_n_5 r2_c_5)]), (.bool false)]) wv_24) ∧
        ((!t43) = false →
          ∃ blks_1 : List Nat, ∃ (t540_1 : ByteArray) (t541_1 : Bool) (t542_p_1 : Option Addr) (t542_n_1 : Nat) (t542_c_1 : Nat), (∀ wv_25, EX blks_1 wv_16.drew wv_25 → Loads P 56 ⟨r_7, 0, none⟩ (.agg #[(.string t540_1), (.bool t541_1), (.slice t542_p_1 t542_n_1 t542_c_1)]) wv_25) ∧ ∃ (t550_1 : ByteArray) (t551_1 : Bool) (t552_p_1 : Option Addr) (t552_n_1 : Nat) (t552_c_1 : Nat), (∀ wv_26, EX blks_1 wv_16.drew wv_26 → Loads P 56 ⟨r_8, 0, none⟩ (.agg #[(.string t550_1), (.bool t551_1), (.slice t552_p_1 t552_n_1 t552_c_1)]) wv_26) ∧ ∃ wv_27, Stores P 56 ⟨r, 0, none⟩ (.agg #[(.string t540_1), (.bool t541_1), (.slice t542_p_1 t542_n_1 t542_c_1)]) wv_16.drew wv_27 ∧
          EX blks_1 wv_16.drew wv_27 ∧ ∃ wv_28, Stores P 56 ⟨r_1, 0, none⟩ (.agg #[(.string t550_1), (.bool t551_1), (.slice t552_p_1 t552_n_1 t552_c_1)]) wv_27 wv_28 ∧
          ∃ (r0_6 : ByteArray) (r1_6 : Bool) (r2_p_6 : Option Addr) (r2_n_6 : Nat) (r2_c_6 : Nat), Loads P 56 ⟨r, 0, none⟩ (.agg #[(.string r0_6), (.bool r1_6), (.slice r2_p_6 r2_n_6 r2_c_6)]) wv_28 ∧ ∃ (r0_7 : ByteArray) (r1_7 : Bool) (r2_p_7 : Option Addr) (r2_n_7 : Nat) (r2_c_7 : Nat), Loads P 56 ⟨r_1, 0, none⟩ (.agg #[(.string r0_7), (.bool r1_7), (.slice r2_p_7 r2_n_7 r2_c_7)]) wv_28 ∧ R (.tuple #[(.agg #[(.string r0_6), (.bool r1_6), (.slice r2_p_6 r2_n_6 r2_c_6)]), (.agg #[(.string r0_7), (.bool r1_7), (.slice r2_p_7 r2_n_7 r2_c_7)]), (.bool true)]) wv_28)))
theorem impl_PlanSums_eq (cur : ByteArray) (l_p : Option Addr) (l_n : Nat) (l_c : Nat) (w : World) (R : Value → World → Prop) : impl_PlanSums cur l_p l_n l_c w R = fsem P Tryd.f32 (fun k => cond (Nat.beq k 4) [(7, .one .slice), (8, .one .slice), (19, .one (.int .i64))] ([])) [(.string cur), (.slice l_p l_n l_c)] R w := by kernel_rfl
theorem impl_PlanSums_ret {cur : ByteArray} {l_p : Option Addr} {l_n : Nat} {l_c : Nat} {w : World} {R : Value → World → Prop} (h : impl_PlanSums cur l_p l_n l_c w R) : Ret P 32 [(.string cur), (.slice l_p l_n l_c)] w R :=
  Ret.of_fsem Tryd.func32 rfl (Eq.mp (impl_PlanSums_eq cur l_p l_n l_c w R) h)

def spec_BookSum_j0 (wv_6 : World) (Inv : Int → World → Prop) (mu : Int → World → Nat) (t16 : Int) (W : World) (R : Value → World → Prop) : Prop :=
  ∃ t30 : Int, t30 = IntKind.wrap .i64 (t16 + 1) ∧ Inv t30 W ∧ mu t30 W < mu t16 wv_6
def spec_BookSum (b0_p : Option Addr) (b0_n : Nat) (b0_c : Nat) (cur : ByteArray) (w : World) (R : Value → World → Prop) : Prop :=
  ∀ (r : Nat) (wv : World), New w (.cells ⟨[(.slice b0_p b0_n b0_c)]⟩ 36 (0, 0)) r wv →
  ∀ (r_1 : Nat) (wv_1 : World), New wv (.cells ⟨[(.bool false), (.slice none 0 0)]⟩ 54 (0, 0)) r_1 wv_1 →
  ∀ (r_2 : Nat) (wv_2 : World), New wv_1 (.cells ⟨[(.bool false), (.slice none 0 0)]⟩ 54 (0, 0)) r_2 wv_2 →
  ∃ wv_3, Stores P 54 ⟨r_2, 0, none⟩ (.agg #[(.bool false), (.slice none 0 0)]) wv_2 wv_3 ∧
  ∃ (t90_p : Option Addr) (t90_n : Nat) (t90_c : Nat), Loads P 36 ⟨r, 0, none⟩ (.agg #[(.slice t90_p t90_n t90_c)]) wv_3 ∧ Calls P 16 ⟨[(.agg #[(.slice t90_p t90_n t90_c)])]⟩ wv_3 fun e wv_4 =>
  ∃ (t10 : Bool), e = .returned (.bool t10) ∧
  ((!t10) = true →
    ∃ (t120 : Bool) (t121_p : Option Addr) (t121_n : Nat) (t121_c : Nat), Loads P 54 ⟨r_2, 0, none⟩ (.agg #[(.bool t120), (.slice t121_p t121_n t121_c)]) wv_4 ∧ ∃ wv_5, Stores P 54 ⟨r_1, 0, none⟩ (.agg #[(.bool t120), (.slice t121_p t121_n t121_c)]) wv_4 wv_5 ∧
    ∃ (r0 : Bool) (r1_p : Option Addr) (r1_n : Nat) (r1_c : Nat), Loads P 54 ⟨r_1, 0, none⟩ (.agg #[(.bool r0), (.slice r1_p r1_n r1_c)]) wv_5 ∧ R (.agg #[(.bool r0), (.slice r1_p r1_n r1_c)]) wv_5) ∧
  ((!t10) = false →
    ∃ (t14_p : Option Addr) (t14_n : Nat) (t14_c : Nat), Loads P 34 ((⟨r, 0, none⟩ : Addr).add 0) (.slice t14_p t14_n t14_c) wv_4 ∧ ∃ (Inv : Int → World → Prop) (mu : Int → World → Nat), Inv 0 wv_4 ∧
    ∀ (junk : Fr) (wv_6 : World) (t16 : Int), Inv t16 wv_6 →
      ((decide ((t16 : Int) < ((t14_n : Nat) : Int))) = true →
        (0 ≤ (t16 : Int) ∧ (t16 : Int) < (t14_n : Nat)) ∧ ptrS t14_p fun ad => ∃ (t190 : ByteArray) (t191 : ByteArray) (t192 : Bool) (t193_p : Option Addr) (t193_n : Nat) (t193_c : Nat), Loads P 93 (ad.add (t16.toNat * 4)) (.agg #[(.string t190), (.string t191), (.bool t192), (.slice t193_p t193_n t193_c)]) wv_6 ∧ ∀ (r_3 : Nat) (wv_7 : World), New wv_6 (.cells ⟨[(.string ByteArray.empty), (.string ByteArray.empty), (.bool false), (.slice none 0 0)]⟩ 93 (0, 0)) r_3 wv_7 →
        ∃ wv_8, Stores P 93 ⟨r_3, 0, none⟩ (.agg #[(.string t190), (.string t191), (.bool t192), (.slice t193_p t193_n t193_c)]) wv_7 wv_8 ∧
        ∃ (t22 : ByteArray), Loads P 9 (((⟨r_3, 0, none⟩ : Addr).add 1).add 0) (.string t22) wv_8 ∧ ((decide (t22 = cur)) = true →
          ∃ (t250 : Bool) (t251_p : Option Addr) (t251_n : Nat) (t251_c : Nat), Loads P 54 ⟨r_2, 0, none⟩ (.agg #[(.bool t250), (.slice t251_p t251_n t251_c)]) wv_8 ∧ ∃ (t280 : Bool) (t281_p : Option Addr) (t281_n : Nat) (t281_c : Nat), Loads P 54 (((⟨r_3, 0, none⟩ : Addr).add 1).add 1) (.agg #[(.bool t280), (.slice t281_p t281_n t281_c)]) wv_8 ∧ Calls P 78 ⟨[(.agg #[(.bool t250), (.slice t251_p t251_n t251_c)]), (.agg #[(.bool t280), (.slice t281_p t281_n t281_c)])]⟩ wv_8 fun e_1 wv_9 =>
          ∃ (t290 : Bool) (t291_p : Option Addr) (t291_n : Nat) (t291_c : Nat), e_1 = .returned (.agg #[(.bool t290), (.slice t291_p t291_n t291_c)]) ∧
          ∃ wv_10, Stores P 54 ⟨r_2, 0, none⟩ (.agg #[(.bool t290), (.slice t291_p t291_n t291_c)]) wv_9 wv_10 ∧
          spec_BookSum_j0 wv_6 Inv mu t16 wv_10 R) ∧
        ((decide (t22 = cur)) = false →
          spec_BookSum_j0 wv_6 Inv mu t16 wv_8 R)) ∧
      ((decide ((t16 : Int) < ((t14_n : Nat) : Int))) = false →
        ∃ (t310 : Bool) (t311_p : Option Addr) (t311_n : Nat) (t311_c : Nat), Loads P 54 ⟨r_2, 0, none⟩ (.agg #[(.bool t310), (.slice t311_p t311_n t311_c)]) wv_6 ∧ ∃ wv_11, Stores P 54 ⟨r_1, 0, none⟩ (.agg #[(.bool t310), (.slice t311_p t311_n t311_c)]) wv_6 wv_11 ∧
        ∃ (r0_1 : Bool) (r1_p_1 : Option Addr) (r1_n_1 : Nat) (r1_c_1 : Nat), Loads P 54 ⟨r_1, 0, none⟩ (.agg #[(.bool r0_1), (.slice r1_p_1 r1_n_1 r1_c_1)]) wv_11 ∧ R (.agg #[(.bool r0_1), (.slice r1_p_1 r1_n_1 r1_c_1)]) wv_11))
theorem spec_BookSum_eq (b0_p : Option Addr) (b0_n : Nat) (b0_c : Nat) (cur : ByteArray) (w : World) (R : Value → World → Prop) : spec_BookSum b0_p b0_n b0_c cur w R = fsem P Tryd.f38 (fun k => cond (Nat.beq k 6) [(16, .one (.int .i64))] ([])) [(.agg #[(.slice b0_p b0_n b0_c)]), (.string cur)] R w := by kernel_rfl
theorem spec_BookSum_ret {b0_p : Option Addr} {b0_n : Nat} {b0_c : Nat} {cur : ByteArray} {w : World} {R : Value → World → Prop} (h : spec_BookSum b0_p b0_n b0_c cur w R) : Ret P 38 [(.agg #[(.slice b0_p b0_n b0_c)]), (.string cur)] w R :=
  Ret.of_fsem Tryd.func38 rfl (Eq.mp (spec_BookSum_eq b0_p b0_n b0_c cur w R) h)

def impl_BookSum_j0 (wv_6 : World) (Inv : Int → World → Prop) (mu : Int → World → Nat) (t16 : Int) (W : World) (R : Value → World → Prop) : Prop :=
  ∃ t30 : Int, t30 = IntKind.wrap .i64 (t16 + 1) ∧ Inv t30 W ∧ mu t30 W < mu t16 wv_6
def impl_BookSum (b0_p : Option Addr) (b0_n : Nat) (b0_c : Nat) (cur : ByteArray) (w : World) (R : Value → World → Prop) : Prop :=
  ∀ (r : Nat) (wv : World), New w (.cells ⟨[(.slice b0_p b0_n b0_c)]⟩ 36 (0, 0)) r wv →
  ∀ (r_1 : Nat) (wv_1 : World), New wv (.cells ⟨[(.bool false), (.slice none 0 0)]⟩ 54 (0, 0)) r_1 wv_1 →
  ∃ (t80_p : Option Addr) (t80_n : Nat) (t80_c : Nat), Loads P 36 ⟨r, 0, none⟩ (.agg #[(.slice t80_p t80_n t80_c)]) wv_1 ∧ Calls P 18 ⟨[(.agg #[(.slice t80_p t80_n t80_c)])]⟩ wv_1 fun e wv_2 =>
  ∃ (t9 : Bool), e = .returned (.bool t9) ∧
  ((!t9) = true →
    ∃ wv_3, Stores P 54 ⟨r_1, 0, none⟩ (.agg #[(.bool false), (.slice none 0 0)]) wv_2 wv_3 ∧
    ∃ (r0 : Bool) (r1_p : Option Addr) (r1_n : Nat) (r1_c : Nat), Loads P 54 ⟨r_1, 0, none⟩ (.agg #[(.bool r0), (.slice r1_p r1_n r1_c)]) wv_3 ∧ R (.agg #[(.bool r0), (.slice r1_p r1_n r1_c)]) wv_3) ∧
  ((!t9) = false →
    ∀ (r_2 : Nat) (wv_4 : World), New wv_2 (.cells ⟨[(.bool false), (.slice none 0 0)]⟩ 54 (0, 0)) r_2 wv_4 →
    ∃ wv_5, Stores P 54 ⟨r_2, 0, none⟩ (.agg #[(.bool false), (.slice none 0 0)]) wv_4 wv_5 ∧
    ∃ (t14_p : Option Addr) (t14_n : Nat) (t14_c : Nat), Loads P 34 ((⟨r, 0, none⟩ : Addr).add 0) (.slice t14_p t14_n t14_c) wv_5 ∧ ∃ (Inv : Int → World → Prop) (mu : Int → World → Nat), Inv 0 wv_5 ∧
    ∀ (junk : Fr) (wv_6 : World) (t16 : Int), Inv t16 wv_6 →
      ((decide ((t16 : Int) < ((t14_n : Nat) : Int))) = true →
        (0 ≤ (t16 : Int) ∧ (t16 : Int) < (t14_n : Nat)) ∧ ptrS t14_p fun ad => ∃ (t190 : ByteArray) (t191 : ByteArray) (t192 : Bool) (t193_p : Option Addr) (t193_n : Nat) (t193_c : Nat), Loads P 93 (ad.add (t16.toNat * 4)) (.agg #[(.string t190), (.string t191), (.bool t192), (.slice t193_p t193_n t193_c)]) wv_6 ∧ ∀ (r_3 : Nat) (wv_7 : World), New wv_6 (.cells ⟨[(.string ByteArray.empty), (.string ByteArray.empty), (.bool false), (.slice none 0 0)]⟩ 93 (0, 0)) r_3 wv_7 →
        ∃ wv_8, Stores P 93 ⟨r_3, 0, none⟩ (.agg #[(.string t190), (.string t191), (.bool t192), (.slice t193_p t193_n t193_c)]) wv_7 wv_8 ∧
        ∃ (t22 : ByteArray), Loads P 9 (((⟨r_3, 0, none⟩ : Addr).add 1).add 0) (.string t22) wv_8 ∧ ((decide (t22 = cur)) = true →
          ∃ (t250 : Bool) (t251_p : Option Addr) (t251_n : Nat) (t251_c : Nat), Loads P 54 ⟨r_2, 0, none⟩ (.agg #[(.bool t250), (.slice t251_p t251_n t251_c)]) wv_8 ∧ ∃ (t280 : Bool) (t281_p : Option Addr) (t281_n : Nat) (t281_c : Nat), Loads P 54 (((⟨r_3, 0, none⟩ : Addr).add 1).add 1) (.agg #[(.bool t280), (.slice t281_p t281_n t281_c)]) wv_8 ∧ Calls P 79 ⟨[(.agg #[(.bool t250), (.slice t251_p t251_n t251_c)]), (.agg #[(.bool t280), (.slice t281_p t281_n t281_c)])]⟩ wv_8 fun e_1 wv_9 =>
          ∃ (t290 : Bool) (t291_p : Option Addr) (t291_n : Nat) (t291_c : Nat), e_1 = .returned (.agg #[(.bool t290), (.slice t291_p t291_n t291_c)]) ∧
          ∃ wv_10, Stores P 54 ⟨r_2, 0, none⟩ (.agg #[(.bool t290), (.slice t291_p t291_n t291_c)]) wv_9 wv_10 ∧
          impl_BookSum_j0 wv_6 Inv mu t16 wv_10 R) ∧
        ((decide (t22 = cur)) = false →
          impl_BookSum_j0 wv_6 Inv mu t16 wv_8 R)) ∧
      ((decide ((t16 : Int) < ((t14_n : Nat) : Int))) = false →
        ∃ (t310 : Bool) (t311_p : Option Addr) (t311_n : Nat) (t311_c : Nat), Loads P 54 ⟨r_2, 0, none⟩ (.agg #[(.bool t310), (.slice t311_p t311_n t311_c)]) wv_6 ∧ ∃ wv_11, Stores P 54 ⟨r_1, 0, none⟩ (.agg #[(.bool t310), (.slice t311_p t311_n t311_c)]) wv_6 wv_11 ∧
        ∃ (r0_1 : Bool) (r1_p_1 : Option Addr) (r1_n_1 : Nat) (r1_c_1 : Nat), Loads P 54 ⟨r_1, 0, none⟩ (.agg #[(.bool r0_1), (.slice r1_p_1 r1_n_1 r1_c_1)]) wv_11 ∧ R (.agg #[(.bool r0_1), (.slice r1_p_1 r1_n_1 r1_c_1)]) wv_11))
theorem impl_BookSum_eq (b0_p : Option Addr) (b0_n : Nat) (b0_c : Nat) (cur : ByteArray) (w : World) (R : Value → World → Prop) : impl_BookSum b0_p b0_n b0_c cur w R = fsem P Tryd.f39 (fun k => cond (Nat.beq k 6) [(16, .one (.int .i64))] ([])) [(.agg #[(.slice b0_p b0_n b0_c)]), (.string cur)] R w := by kernel_rfl
theorem impl_BookSum_ret {b0_p : Option Addr} {b0_n : Nat} {b0_c : Nat} {cur : ByteArray} {w : World} {R : Value → World → Prop} (h : impl_BookSum b0_p b0_n b0_c cur w R) : Ret P 39 [(.agg #[(.slice b0_p b0_n b0_c)]), (.string cur)] w R :=
  Ret.of_fsem Tryd.func39 rfl (Eq.mp (impl_BookSum_eq b0_p b0_n b0_c cur w R) h)

def spec_TaxTotal (l_p : Option Addr) (l_n : Nat) (l_c : Nat) (w : World) (R : Value → World → Prop) : Prop :=
  ∀ (r : Nat) (wv : World), New w (.cells ⟨[(.string ByteArray.empty), (.bool false), (.slice none 0 0)]⟩ 56 (0, 0)) r wv →
  ∀ (r_1 : Nat) (wv_1 : World), New wv (.cells ⟨[(.string ByteArray.empty), (.bool false), (.slice none 0 0)]⟩ 56 (0, 0)) r_1 wv_1 →
  ((decide ((((l_n : Nat) : Int) : Int) = 0)) = true →
    ∃ wv_2, Stores P 56 ⟨r, 0, none⟩ (.agg #[(.string ByteArray.empty), (.bool false), (.slice none 0 0)]) wv_1 wv_2 ∧
    ∃ wv_3, Stores P 56 ⟨r_1, 0, none⟩ (.agg #[(.string ByteArray.empty), (.bool false), (.slice none 0 0)]) wv_2 wv_3 ∧
    ∃ (r0 : ByteArray) (r1 : Bool) (r2_p : Option Addr) (r2_n : Nat) (r2_c : Nat), Loads P 56 ⟨r, 0, none⟩ (.agg #[(.string r0), (.bool r1), (.slice r2_p r2_n r2_c)]) wv_3 ∧ ∃ (r0_1 : ByteArray) (r1_1 : Bool) (r2_p_1 : Option Addr) (r2_n_1 : Nat) (r2_c_1 : Nat), Loads P 56 ⟨r_1, 0, none⟩ (.agg #[(.string r0_1), (.bool r1_1), (.slice r2_p_1 r2_n_1 r2_c_1)]) wv_3 ∧ R (.tuple #[(.agg #[(.string r0), (.bool r1), (.slice r2_p r2_n r2_c)]), (.agg #[(.string r0_1), (.bool r1_1), (.slice r2_p_1 r2_n_1 r2_c_1)]), (.bool false)]) wv_3) ∧
  ((decide ((((l_n : Nat) : Int) : Int) = 0)) = false →
    ∀ (r_2 : Nat) (wv_4 : World), New wv_1 (.cells ⟨[]⟩ 56 (0, 0)) r_2 wv_4 →
    ∀ (r_3 : Nat) (wv_5 : World), New wv_4 (.cells ⟨[]⟩ 56 (0, 0)) r_3 wv_5 →
    ∃ (Inv : Option Addr → Nat → Nat → Option Addr → Nat → Nat → Int → World → Prop) (mu : Option Addr → Nat → Nat → Option Addr → Nat → Nat → Int → World → Nat), Inv (some ⟨r_2, 0, none⟩) 0 0 (some ⟨r_3, 0, none⟩) 0 0 0 wv_5 ∧
    ∀ (junk : Fr) (wv_6 : World) (nets_p : Option Addr) (nets_n : Nat) (nets_c : Nat) (taxes_p : Option Addr) (taxes_n : Nat) (taxes_c : Nat) (t22 : Int), Inv nets_p nets_n nets_c taxes_p taxes_n taxes_c t22 wv_6 →
      ((decide ((t22 : Int) < ((l_n : Nat) : Int))) = true →
        (0 ≤ (t22 : Int) ∧ (t22 : Int) < (l_n : Nat)) ∧ ptrS l_p fun ad => ∃ (t250 : Bool) (t251_p : Option Addr) (t251_n : Nat) (t251_c : Nat) (t252 : Int) (t253 : ByteArray) (t254 : Bool) (t255_p : Option Addr) (t255_n : Nat) (t255_c : Nat) (t256 : ByteArray) (t257 : Bool) (t258_p : Option Addr) (t258_n : Nat) (t258_c : Nat), Loads P 129 (ad.add (t22.toNat * 9)) (.agg #[(.bool t250), (.slice t251_p t251_n t251_c), (.int .i64 t252), (.string t253), (.bool t254), (.slice t255_p t255_n t255_c), (.string t256), (.bool t257), (.slice t258_p t258_n t258_c)]) wv_6 ∧ ∀ (r_4 : Nat) (wv_7 : World), New wv_6 (.cells ⟨[(.bool false), (.slice none 0 0), (.int .i64 0), (.string ByteArray.empty), (.bool false), (.slice none 0 0), (.string ByteArray.empty), (.bool false), (.slice none 0 0)]⟩ 129 (0, 0)) r_4 wv_7 →
        ∃ wv_8, Stores P 129 ⟨r_4, 0, none⟩ (.agg #[(.bool t250), (.slice t251_p t251_n t251_c), (.int .i64 t252), (.string t253), (.bool t254), (.slice t255_p t255_n t255_c), (.string t256), (.bool t257), (.slice t258_p t258_n t258_c)]) wv_7 wv_8 ∧
        ∃ (t280 : ByteArray) (t281 : Bool) (t282_p : Option Addr) (t282_n : Nat) (t282_c : Nat), Loads P 56 ((⟨r_4, 0, none⟩ : Addr).add 3) (.agg #[(.string t280), (.bool t281), (.slice t282_p t282_n t282_c)]) wv_8 ∧ ∀ (r_5 : Nat) (wv_9 : World), New wv_8 (.cells ⟨[(.string t280), (.bool t281), (.slice t282_p t282_n t282_c)]⟩ 56 (0, 0)) r_5 wv_9 →
        ∃ (t30_p : Option Addr) (t30_n : Nat) (t30_c : Nat) (wv_10 : World), Appends P [112, 112] [(.slice nets_p nets_n nets_c), (.slice (some ⟨r_5, 0, none⟩) 1 1)] (.slice t30_p t30_n t30_c) wv_9 wv_10 ∧
        ∃ (t330 : ByteArray) (t331 : Bool) (t332_p : Option Addr) (t332_n : Nat) (t332_c : Nat), Loads P 56 ((⟨r_4, 0, none⟩ : Addr).add 6) (.agg #[(.string t330), (.bool t331), (.slice t332_p t332_n t332_c)]) wv_10 ∧ ∀ (r_6 : Nat) (wv_11 : World), New wv_10 (.cells ⟨[(.string t330), (.bool t331), (.slice t332_p t332_n t332_c)]⟩ 56 (0, 0)) r_6 wv_11 →
        ∃ (t35_p : Option Addr) (t35_n : Nat) (t35_c : Nat) (wv_12 : World), Appends P [112, 112] [(.slice taxes_p taxes_n taxes_c), (.slice (some ⟨r_6, 0, none⟩) 1 1)] (.slice t35_p t35_n t35_c) wv_11 wv_12 ∧
        ∃ t36 : Int, t36 = IntKind.wrap .i64 (t22 + 1) ∧ Inv t30_p t30_n t30_c t35_p t35_n t35_c t36 wv_12 ∧ mu t30_p t30_n t30_c t35_p t35_n t35_c t36 wv_12 < mu nets_p nets_n nets_c taxes_p taxes_n taxes_c t22 wv_6) ∧
      ((decide ((t22 : Int) < ((l_n : Nat) : Int))) = false →
        (0 ≤ (0 : Int) ∧ (0 : Int) < (l_n : Nat)) ∧ ptrS l_p fun ad_1 => ∃ (t42 : ByteArray), Loads P 9 (((ad_1.add (0 * 9)).add 3).add 0) (.string t42) wv_6 ∧ Calls P 74 ⟨[(.string t42), (.slice nets_p nets_n nets_c)]⟩ wv_6 fun e wv_13 =>
        ∃ (t440 : ByteArray) (t441 : Bool) (t442_p : Option Addr) (t442_n : Nat) (t442_c : Nat) (t44 : Bool), e = .returned (.tuple #[(.agg #[(.string t440), (.bool t441), (.slice t442_p t442_n t442_c)]), (.bool t44)]) ∧
        ∀ (r_7 : Nat) (wv_14 : World), New wv_13 (.cells ⟨[(.string ByteArray.empty), (.bool false), (.slice none 0 0)]⟩ 56 (0, 0)) r_7 wv_14 →
        ∃ wv_15, Stores P 56 ⟨r_7, 0, none⟩ (.agg #[(.string t440), (.bool t441), (.slice t442_p t442_n t442_c)]) wv_14 wv_15 ∧
        (0 ≤ (0 : Int) ∧ (0 : Int) < (l_n : Nat)) ∧ ptrS l_p fun ad_2 => ∃ (t52 : ByteArray), Loads P 9 (((ad_2.add (0 * 9)).add 3).add 0) (.string t52) wv_15 ∧ Calls P 74 ⟨[(.string t52), (.slice taxes_p taxes_n taxes_c)]⟩ wv_15 fun e_1 wv_16 =>
        ∃ (t540 : ByteArray) (t541 : Bool) (t542_p : Option Addr) (t542_n : Nat) (t542_c : Nat) (t54 : Bool), e_1 = .returned (.tuple #[(.agg #[(.string t540), (.bool t541), (.slice t542_p t542_n t542_c)]), (.bool t54)]) ∧
        ∀ (r_8 : Nat) (wv_17 : World), New wv_16 (.cells ⟨[(.string ByteArray.empty), (.bool false), (.slice none 0 0)]⟩ 56 (0, 0)) r_8 wv_17 →
        ∃ wv_18, Stores P 56 ⟨r_8, 0, none⟩ (.agg #[(.string t540), (.bool t541), (.slice t542_p t542_n t542_c)]) wv_17 wv_18 ∧
        ((!t44) = true →
          (true = true →
            ∃ wv_19, Stores P 56 ⟨r, 0, none⟩ (.agg #[(.string ByteArray.empty), (.bool false), (.slice none 0 0)]) wv_18 wv_19 ∧
            ∃ wv_20, Stores P 56 ⟨r_1, 0, none⟩ (.agg #[(.string ByteArray.empty), (.bool false), (.slice none 0 0)]) wv_19 wv_20 ∧
            ∃ (r0_2 : ByteArray) (r1_2 : Bool) (r2_p_2 : Option Addr) (r2_n_2 : Nat) (r2_c_2 : Nat), Loads P 56 ⟨r, 0, none⟩ (.agg #[(.string r0_2), (.bool r1_2), (.slice r2_p_2 r2_n_2 r2_c_2)]) wv_20 ∧ ∃ (r0_3 : ByteArray) (r1_3 : Bool) (r2_p_3 : Option Addr) (r2_n_3 : Nat) (r2_c_3 : Nat), Loads P 56 ⟨r_1, 0, none⟩ (.agg #[(.string r0_3), (.bool r1_3), (.slice r2_p_3 r2_n_3 r2_c_3)]) wv_20 ∧ R (.tuple #[(.agg #[(.string r0_2), (.bool r1_2), (.slice r2_p_2 r2_n_2 r2_c_2)]), (.agg #[(.string r0_3), (.bool r1_3), (.slice r2_p_3 r2_n_3 r2_c_3)]), (.bool false)]) wv_20) ∧
          (true = false →
            ∃ blks : List Nat, ∃ (t650 : ByteArray) (t651 : Bool) (t652_p : Option Addr) (t652_n : Nat) (t652_c : Nat), (∀ wv_21, EX blks wv_18.drew wv_21 → Loads P 56 ⟨r_7, 0, none⟩ (.agg #[(.string t650), (.bool t651), (.slice t652_p t652_n t652_c)]) wv_21) ∧ ∃ (t660 : ByteArray) (t661 : Bool) (t662_p : Option Addr) (t662_n : Nat) (t662_c : Nat), (∀ wv_22, EX blks wv_18.drew wv_22 → Loads P 56 ⟨r_8, 0, none⟩ (.agg #[(.string t660), (.bool t661), (.slice t662_p t662_n t662_c)]) wv_22) ∧ ∃ wv_23, Stores P 56 ⟨r, 0, none⟩ (.agg #[(.string t650), (.bool t651), (.slice t652_p t652_n t652_c)]) wv_18.drew wv_23 ∧
            EX blks wv_18.drew wv_23 ∧ ∃ wv_24, Stores P 56 ⟨r_1, 0, none⟩ (.agg #[(.string t660), (.bool t661), (.slice t662_p t662_n t662_c)]) wv_23 wv_24 ∧
            ∃ (r0_4 : ByteArray) (r1_4 : Bool) (r2_p_4 : Option Addr) (r2_n_4 : Nat) (r2_c_4 : Nat), Loads P 56 ⟨r, 0, none⟩ (.agg #[(.string r0_4), (.bool r1_4), (.slice r2_p_4 r2_n_4 r2_c_4)]) wv_24 ∧ ∃ (r0_5 : ByteArray) (r1_5 : Bool) (r2_p_5 : Option Addr) (r2_n_5 : Nat) (r2_c_5 : Nat), Loads P 56 ⟨r_1, 0, none⟩ (.agg #[(.string r0_5), (.bool r1_5), (.slice r2_p_5 r2_n_5 r2_c_5)]) wv_24 ∧ R (.tuple #[(.agg #[(.string r0_4), (.bool r1_4), (.slice r2_p_4 r2_n_4 r2_c_4)]), (.agg #[(.string r0_5), (.bool r1_5), (.slice r2_p_5 r2_n_5 r2_c_5)]), (.bool true)]) wv_24)) ∧
        ((!t44) = false →
          ((!t54) = true →
            ∃ wv_25, Stores P 56 ⟨r, 0, none⟩ (.agg #[(.string ByteArray.empty), (.bool false), (.slice none 0 0)]) wv_18 wv_25 ∧
            ∃ wv_26, Stores P 56 ⟨r_1, 0, none⟩ (.agg #[(.string ByteArray.empty), (.bool false), (.slice none 0 0)]) wv_25 wv_26 ∧
            ∃ (r0_6 : ByteArray) (r1_6 : Bool) (r2_p_6 : Option Addr) (r2_n_6 : Nat) (r2_c_6 : Nat), Loads P 56 ⟨r, 0, none⟩ (.agg #[(.string r0_6), (.bool r1_6), (.slice r2_p_6 r2_n_6 r2_c_6)]) wv_26 ∧ ∃ (r0_7 : ByteArray) (r1_7 : Bool) (r2_p_7 : Option Addr) (r2_n_7 : Nat) (r2_c_7 : Nat), Loads P 56 ⟨r_1, 0, none⟩ (.agg #[(.string r0_7), (.bool r1_7), (.slice r2_p_7 r2_n_7 r2_c_7)]) wv_26 ∧ R (.tuple #[(.agg #[(.string r0_6), (.bool r1_6), (.slice r2_p_6 r2_n_6 r2_c_6)]), (.agg #[(.string r0_7), (.bool r1_7), (.slice r2_p_7 r2_n_7 r2_c_7)]), (.bool false)]) wv_26) ∧
          ((!t54) = false →
            ∃ blks_1 : List Nat, ∃ (t650_1 : ByteArray) (t651_1 : Bool) (t652_p_1 : Option Addr) (t652_n_1 : Nat) (t652_c_1 : Nat), (∀ wv_27, EX blks_1 wv_18.drew wv_27 → Loads P 56 ⟨r_7, 0, none⟩ (.agg #[(.string t650_1), (.bool t651_1), (.slice t652_p_1 t652_n_1 t652_c_1)]) wv_27) ∧ ∃ (t660_1 : ByteArray) (t661_1 : Bool) (t662_p_1 : Option Addr) (t662_n_1 : Nat) (t662_c_1 : Nat), (∀ wv_28, EX blks_1 wv_18.drew wv_28 → Loads P 56 ⟨r_8, 0, none⟩ (.agg #[(.string t660_1), (.bool t661_1), (.slice t662_p_1 t662_n_1 t662_c_1)]) wv_28) ∧ ∃ wv_29, Stores P 56 ⟨r, 0, none⟩ (.agg #[(.string t650_1), (.bool t651_1), (.slice t652_p_1 t652_n_1 t652_c_1)]) wv_18.drew wv_29 ∧
            EX blks_1 wv_18.drew wv_29 ∧ ∃ wv_30, Stores P 56 ⟨r_1, 0, none⟩ (.agg #[(.string t660_1), (.bool t661_1), (.slice t662_p_1 t662_n_1 t662_c_1)]) wv_29 wv_30 ∧
            ∃ (r0_8 : ByteArray) (r1_8 : Bool) (r2_p_8 : Option Addr) (r2_n_8 : Nat) (r2_c_8 : Nat), Loads P 56 ⟨r, 0, none⟩ (.agg #[(.string r0_8), (.bool r1_8), (.slice r2_p_8 r2_n_8 r2_c_8)]) wv_30 ∧ ∃ (r0_9 : ByteArray) (r1_9 : Bool) (r2_p_9 : Option Addr) (r2_n_9 : Nat) (r2_c_9 : Nat), Loads P 56 ⟨r_1, 0, none⟩ (.agg #[(.string r0_9), (.bool r1_9), (.slice r2_p_9 r2_n_9 r2_c_9)]) wv_30 ∧ R (.tuple #[(.agg #[(.string r0_8), (.bool r1_8), (.slice r2_p_8 r2_n_8 r2_c_8)]), (.agg #[(.string r0_9), (.bool r1_9), (.slice r2_p_9 r2_n_9 r2_c_9)]), (.bool true)]) wv_30))))
theorem spec_TaxTotal_eq (l_p : Option Addr) (l_n : Nat) (l_c : Nat) (w : World) (R : Value → World → Prop) : spec_TaxTotal l_p l_n l_c w R = fsem P Tryd.f45 (fun k => cond (Nat.beq k 7) [(5, .one .slice), (6, .one .slice), (22, .one (.int .i64))] ([])) [(.slice l_p l_n l_c)] R w := by kernel_rfl
theorem spec_TaxTotal_ret {l_p : Option Addr} {l_n : Nat} {l_c : Nat} {w : World} {R : Value → World → Prop} (h : spec_TaxTotal l_p l_n l_c w R) : Ret P 45 [(.slice l_p l_n l_c)] w R :=
  Ret.of_fsem Tryd.func45 rfl (Eq.mp (spec_TaxTotal_eq l_p l_n l_c w R) h)

def impl_TaxTotal (l_p : Option Addr) (l_n : Nat) (l_c : Nat) (w : World) (R : Value → World → Prop) : Prop :=
  ∀ (r : Nat) (wv : World), New w (.cells ⟨[(.string ByteArray.empty), (.bool false), (.slice none 0 0)]⟩ 56 (0, 0)) r wv →
  ∀ (r_1 : Nat) (wv_1 : World), New wv (.cells ⟨[(.string ByteArray.empty), (.bool false), (.slice none 0 0)]⟩ 56 (0, 0)) r_1 wv_1 →
  ((decide ((((l_n : Nat) : Int) : Int) = 0)) = true →
    ∃ wv_2, Stores P 56 ⟨r, 0, none⟩ (.agg #[(.string ByteArray.empty), (.bool false), (.slice none 0 0)]) wv_1 wv_2 ∧
    ∃ wv_3, Stores P 56 ⟨r_1, 0, none⟩ (.agg #[(.string ByteArray.empty), (.bool false), (.slice none 0 0)]) wv_2 wv_3 ∧
    ∃ (r0 : ByteArray) (r1 : Bool) (r2_p : Option Addr) (r2_n : Nat) (r2_c : Nat), Loads P 56 ⟨r, 0, none⟩ (.agg #[(.string r0), (.bool r1), (.slice r2_p r2_n r2_c)]) wv_3 ∧ ∃ (r0_1 : ByteArray) (r1_1 : Bool) (r2_p_1 : Option Addr) (r2_n_1 : Nat) (r2_c_1 : Nat), Loads P 56 ⟨r_1, 0, none⟩ (.agg #[(.string r0_1), (.bool r1_1), (.slice r2_p_1 r2_n_1 r2_c_1)]) wv_3 ∧ R (.tuple #[(.agg #[(.string r0), (.bool r1), (.slice r2_p r2_n r2_c)]), (.agg #[(.string r0_1), (.bool r1_1), (.slice r2_p_1 r2_n_1 r2_c_1)]), (.bool false)]) wv_3) ∧
  ((decide ((((l_n : Nat) : Int) : Int) = 0)) = false →
    ∀ (r_2 : Nat) (wv_4 : World), New wv_1 (.cells ⟨[]⟩ 56 (0, 0)) r_2 wv_4 →
    ∀ (r_3 : Nat) (wv_5 : World), New wv_4 (.cells ⟨[]⟩ 56 (0, 0)) r_3 wv_5 →
    ∃ (Inv : Option Addr → Nat → Nat → Option Addr → Nat → Nat → Int → World → Prop) (mu : Option Addr → Nat → Nat → Option Addr → Nat → Nat → Int → World → Nat), Inv (some ⟨r_2, 0, none⟩) 0 0 (some ⟨r_3, 0, none⟩) 0 0 0 wv_5 ∧
    ∀ (junk : Fr) (wv_6 : World) (nets_p : Option Addr) (nets_n : Nat) (nets_c : Nat) (taxes_p : Option Addr) (taxes_n : Nat) (taxes_c : Nat) (t22 : Int), Inv nets_p nets_n nets_c taxes_p taxes_n taxes_c t22 wv_6 →
      ((decide ((t22 : Int) < ((l_n : Nat) : Int))) = true →
        (0 ≤ (t22 : Int) ∧ (t22 : Int) < (l_n : Nat)) ∧ ptrS l_p fun ad => ∃ (t250 : Bool) (t251_p : Option Addr) (t251_n : Nat) (t251_c : Nat) (t252 : Int) (t253 : ByteArray) (t254 : Bool) (t255_p : Option Addr) (t255_n : Nat) (t255_c : Nat) (t256 : ByteArray) (t257 : Bool) (t258_p : Option Addr) (t258_n : Nat) (t258_c : Nat), Loads P 129 (ad.add (t22.toNat * 9)) (.agg #[(.bool t250), (.slice t251_p t251_n t251_c), (.int .i64 t252), (.string t253), (.bool t254), (.slice t255_p t255_n t255_c), (.string t256), (.bool t257), (.slice t258_p t258_n t258_c)]) wv_6 ∧ ∀ (r_4 : Nat) (wv_7 : World), New wv_6 (.cells ⟨[(.bool false), (.slice none 0 0), (.int .i64 0), (.string ByteArray.empty), (.bool false), (.slice none 0 0), (.string ByteArray.empty), (.bool false), (.slice none 0 0)]⟩ 129 (0, 0)) r_4 wv_7 →
        ∃ wv_8, Stores P 129 ⟨r_4, 0, none⟩ (.agg #[(.bool t250), (.slice t251_p t251_n t251_c), (.int .i64 t252), (.string t253), (.bool t254), (.slice t255_p t255_n t255_c), (.string t256), (.bool t257), (.slice t258_p t258_n t258_c)]) wv_7 wv_8 ∧
        ∃ (t280 : ByteArray) (t281 : Bool) (t282_p : Option Addr) (t282_n : Nat) (t282_c : Nat), Loads P 56 ((⟨r_4, 0, none⟩ : Addr).add 3) (.agg #[(.string t280), (.bool t281), (.slice t282_p t282_n t282_c)]) wv_8 ∧ ∀ (r_5 : Nat) (wv_9 : World), New wv_8 (.cells ⟨[(.string t280), (.bool t281), (.slice t282_p t282_n t282_c)]⟩ 56 (0, 0)) r_5 wv_9 →
        ∃ (t30_p : Option Addr) (t30_n : Nat) (t30_c : Nat) (wv_10 : World), Appends P [112, 112] [(.slice nets_p nets_n nets_c), (.slice (some ⟨r_5, 0, none⟩) 1 1)] (.slice t30_p t30_n t30_c) wv_9 wv_10 ∧
        ∃ (t330 : ByteArray) (t331 : Bool) (t332_p : Option Addr) (t332_n : Nat) (t332_c : Nat), Loads P 56 ((⟨r_4, 0, none⟩ : Addr).add 6) (.agg #[(.string t330), (.bool t331), (.slice t332_p t332_n t332_c)]) wv_10 ∧ ∀ (r_6 : Nat) (wv_11 : World), New wv_10 (.cells ⟨[(.string t330), (.bool t331), (.slice t332_p t332_n t332_c)]⟩ 56 (0, 0)) r_6 wv_11 →
        ∃ (t35_p : Option Addr) (t35_n : Nat) (t35_c : Nat) (wv_12 : World), Appends P [112, 112] [(.slice taxes_p taxes_n taxes_c), (.slice (some ⟨r_6, 0, none⟩) 1 1)] (.slice t35_p t35_n t35_c) wv_11 wv_12 ∧
        ∃ t36 : Int, t36 = IntKind.wrap .i64 (t22 + 1) ∧ Inv t30_p t30_n t30_c t35_p t35_n t35_c t36 wv_12 ∧ mu t30_p t30_n t30_c t35_p t35_n t35_c t36 wv_12 < mu nets_p nets_n nets_c taxes_p taxes_n taxes_c t22 wv_6) ∧
      ((decide ((t22 : Int) < ((l_n : Nat) : Int))) = false →
        (0 ≤ (0 : Int) ∧ (0 : Int) < (l_n : Nat)) ∧ ptrS l_p fun ad_1 => ∃ (t42 : ByteArray), Loads P 9 (((ad_1.add (0 * 9)).add 3).add 0) (.string t42) wv_6 ∧ Calls P 76 ⟨[(.string t42), (.slice nets_p nets_n nets_c)]⟩ wv_6 fun e wv_13 =>
        ∃ (t440 : ByteArray) (t441 : Bool) (t442_p : Option Addr) (t442_n : Nat) (t442_c : Nat) (t44 : Bool), e = .returned (.tuple #[(.agg #[(.string t440), (.bool t441), (.slice t442_p t442_n t442_c)]), (.bool t44)]) ∧
        ∀ (r_7 : Nat) (wv_14 : World), New wv_13 (.cells ⟨[(.string ByteArray.empty), (.bool false), (.slice none 0 0)]⟩ 56 (0, 0)) r_7 wv_14 →
        ∃ wv_15, Stores P 56 ⟨r_7, 0, none⟩ (.agg #[(.string t440), (.bool t441), (.slice t442_p t442_n t442_c)]) wv_14 wv_15 ∧
        (0 ≤ (0 : Int) ∧ (0 : Int) < (l_n : Nat)) ∧ ptrS l_p fun ad_2 => ∃ (t52 : ByteArray), Loads P 9 (((ad_2.add (0 * 9)).add 3).add 0) (.string t52) wv_15 ∧ Calls P 76 ⟨[(.string t52), (.slice taxes_p taxes_n taxes_c)]⟩ wv_15 fun e_1 wv_16 =>
        ∃ (t540 : ByteArray) (t541 : Bool) (t542_p : Option Addr) (t542_n : Nat) (t542_c : Nat) (t54 : Bool), e_1 = .returned (.tuple #[(.agg #[(.string t540), (.bool t541), (.slice t542_p t542_n t542_c)]), (.bool t54)]) ∧
        ∀ (r_8 : Nat) (wv_17 : World), New wv_16 (.cells ⟨[(.string ByteArray.empty), (.bool false), (.slice none 0 0)]⟩ 56 (0, 0)) r_8 wv_17 →
        ∃ wv_18, Stores P 56 ⟨r_8, 0, none⟩ (.agg #[(.string t540), (.bool t541), (.slice t542_p t542_n t542_c)]) wv_17 wv_18 ∧
        ((!t44) = true →
          (true = true →
            ∃ wv_19, Stores P 56 ⟨r, 0, none⟩ (.agg #[(.string ByteArray.empty), (.bool false), (.slice none 0 0)]) wv_18 wv_19 ∧
            ∃ wv_20, Stores P 56 ⟨r_1, 0, none⟩ (.agg #[(.string ByteArray.empty), (.bool false), (.slice none 0 0)]) wv_19 wv_20 ∧
            ∃ (r0_2 : ByteArray) (r1_2 : Bool) (r2_p_2 : Option Addr) (r2_n_2 : Nat) (r2_c_2 : Nat), Loads P 56 ⟨r, 0, none⟩ (.agg #[(.string r0_2), (.bool r1_2), (.slice r2_p_2 r2_n_2 r2_c_2)]) wv_20 ∧ ∃ (r0_3 : ByteArray) (r1_3 : Bool) (r2_p_3 : Option Addr) (r2_n_3 : Nat) (r2_c_3 : Nat), Loads P 56 ⟨r_1, 0, none⟩ (.agg #[(.string r0_3), (.bool r1_3), (.slice r2_p_3 r2_n_3 r2_c_3)]) wv_20 ∧ R (.tuple #[(.agg #[(.string r0_2), (.bool r1_2), (.slice r2_p_2 r2_n_2 r2_c_2)]), (.agg #[(.string r0_3), (.bool r1_3), (.slice r2_p_3 r2_n_3 r2_c_3)]), (.bool false)]) wv_20) ∧
          (true = false →
            ∃ blks : List Nat, ∃ (t650 : ByteArray) (t651 : Bool) (t652_p : Option Addr) (t652_n : Nat) (t652_c : Nat), (∀ wv_21, EX blks wv_18.drew wv_21 → Loads P 56 ⟨r_7, 0, none⟩ (.agg #[(.string t650), (.bool t651), (.slice t652_p t652_n t652_c)]) wv_21) ∧ ∃ (t660 : ByteArray) (t661 : Bool) (t662_p : Option Addr) (t662_n : Nat) (t662_c : Nat), (∀ wv_22, EX blks wv_18.drew wv_22 → Loads P 56 ⟨r_8, 0, none⟩ (.agg #[(.string t660), (.bool t661), (.slice t662_p t662_n t662_c)]) wv_22) ∧ ∃ wv_23, Stores P 56 ⟨r, 0, none⟩ (.agg #[(.string t650), (.bool t651), (.slice t652_p t652_n t652_c)]) wv_18.drew wv_23 ∧
            EX blks wv_18.drew wv_23 ∧ ∃ wv_24, Stores P 56 ⟨r_1, 0, none⟩ (.agg #[(.string t660), (.bool t661), (.slice t662_p t662_n t662_c)]) wv_23 wv_24 ∧
            ∃ (r0_4 : ByteArray) (r1_4 : Bool) (r2_p_4 : Option Addr) (r2_n_4 : Nat) (r2_c_4 : Nat), Loads P 56 ⟨r, 0, none⟩ (.agg #[(.string r0_4), (.bool r1_4), (.slice r2_p_4 r2_n_4 r2_c_4)]) wv_24 ∧ ∃ (r0_5 : ByteArray) (r1_5 : Bool) (r2_p_5 : Option Addr) (r2_n_5 : Nat) (r2_c_5 : Nat), Loads P 56 ⟨r_1, 0, none⟩ (.agg #[(.string r0_5), (.bool r1_5), (.slice r2_p_5 r2_n_5 r2_c_5)]) wv_24 ∧ R (.tuple #[(.agg #[(.string r0_4), (.bool r1_4), (.slice r2_p_4 r2_n_4 r2_c_4)]), (.agg #[(.string r0_5), (.bool r1_5), (.slice r2_p_5 r2_n_5 r2_c_5)]), (.bool true)]) wv_24)) ∧
        ((!t44) = false →
          ((!t54) = true →
            ∃ wv_25, Stores P 56 ⟨r, 0, none⟩ (.agg #[(.string ByteArray.empty), (.bool false), (.slice none 0 0)]) wv_18 wv_25 ∧
            ∃ wv_26, Stores P 56 ⟨r_1, 0, none⟩ (.agg #[(.string ByteArray.empty), (.bool false), (.slice none 0 0)]) wv_25 wv_26 ∧
            ∃ (r0_6 : ByteArray) (r1_6 : Bool) (r2_p_6 : Option Addr) (r2_n_6 : Nat) (r2_c_6 : Nat), Loads P 56 ⟨r, 0, none⟩ (.agg #[(.string r0_6), (.bool r1_6), (.slice r2_p_6 r2_n_6 r2_c_6)]) wv_26 ∧ ∃ (r0_7 : ByteArray) (r1_7 : Bool) (r2_p_7 : Option Addr) (r2_n_7 : Nat) (r2_c_7 : Nat), Loads P 56 ⟨r_1, 0, none⟩ (.agg #[(.string r0_7), (.bool r1_7), (.slice r2_p_7 r2_n_7 r2_c_7)]) wv_26 ∧ R (.tuple #[(.agg #[(.string r0_6), (.bool r1_6), (.slice r2_p_6 r2_n_6 r2_c_6)]), (.agg #[(.string r0_7), (.bool r1_7), (.slice r2_p_7 r2_n_7 r2_c_7)]), (.bool false)]) wv_26) ∧
          ((!t54) = false →
            ∃ blks_1 : List Nat, ∃ (t650_1 : ByteArray) (t651_1 : Bool) (t652_p_1 : Option Addr) (t652_n_1 : Nat) (t652_c_1 : Nat), (∀ wv_27, EX blks_1 wv_18.drew wv_27 → Loads P 56 ⟨r_7, 0, none⟩ (.agg #[(.string t650_1), (.bool t651_1), (.slice t652_p_1 t652_n_1 t652_c_1)]) wv_27) ∧ ∃ (t660_1 : ByteArray) (t661_1 : Bool) (t662_p_1 : Option Addr) (t662_n_1 : Nat) (t662_c_1 : Nat), (∀ wv_28, EX blks_1 wv_18.drew wv_28 → Loads P 56 ⟨r_8, 0, none⟩ (.agg #[(.string t660_1), (.bool t661_1), (.slice t662_p_1 t662_n_1 t662_c_1)]) wv_28) ∧ ∃ wv_29, Stores P 56 ⟨r, 0, none⟩ (.agg #[(.string t650_1), (.bool t651_1), (.slice t652_p_1 t652_n_1 t652_c_1)]) wv_18.drew wv_29 ∧
            EX blks_1 wv_18.drew wv_29 ∧ ∃ wv_30, Stores P 56 ⟨r_1, 0, none⟩ (.agg #[(.string t660_1), (.bool t661_1), (.slice t662_p_1 t662_n_1 t662_c_1)]) wv_29 wv_30 ∧
            ∃ (r0_8 : ByteArray) (r1_8 : Bool) (r2_p_8 : Option Addr) (r2_n_8 : Nat) (r2_c_8 : Nat), Loads P 56 ⟨r, 0, none⟩ (.agg #[(.string r0_8), (.bool r1_8), (.slice r2_p_8 r2_n_8 r2_c_8)]) wv_30 ∧ ∃ (r0_9 : ByteArray) (r1_9 : Bool) (r2_p_9 : Option Addr) (r2_n_9 : Nat) (r2_c_9 : Nat), Loads P 56 ⟨r_1, 0, none⟩ (.agg #[(.string r0_9), (.bool r1_9), (.slice r2_p_9 r2_n_9 r2_c_9)]) wv_30 ∧ R (.tuple #[(.agg #[(.string r0_8), (.bool r1_8), (.slice r2_p_8 r2_n_8 r2_c_8)]), (.agg #[(.string r0_9), (.bool r1_9), (.slice r2_p_9 r2_n_9 r2_c_9)]), (.bool true)]) wv_30))))
theorem impl_TaxTotal_eq (l_p : Option Addr) (l_n : Nat) (l_c : Nat) (w : World) (R : Value → World → Prop) : impl_TaxTotal l_p l_n l_c w R = fsem P Tryd.f47 (fun k => cond (Nat.beq k 6) [(5, .one .slice), (6, .one .slice), (22, .one (.int .i64))] ([])) [(.slice l_p l_n l_c)] R w := by kernel_rfl
theorem impl_TaxTotal_ret {l_p : Option Addr} {l_n : Nat} {l_c : Nat} {w : World} {R : Value → World → Prop} (h : impl_TaxTotal l_p l_n l_c w R) : Ret P 47 [(.slice l_p l_n l_c)] w R :=
  Ret.of_fsem Tryd.func47 rfl (Eq.mp (impl_TaxTotal_eq l_p l_n l_c w R) h)

def spec_IsWord (s : ByteArray) (w : World) (R : Value → World → Prop) : Prop :=
  Calls P 86 ⟨[(.string s), (.int .u8 97), (.int .u8 122), (.int .u8 48), (.int .u8 57)]⟩ w fun e wv =>
  ∃ (t4 : Bool), e = .returned (.bool t4) ∧
  (t4 = true →
    ((decide ((((s.size : Nat) : Int) : Int) ≤ 12)) = true →
      0 ≤ (0 : Int) ∧ ∃ b : UInt8, s[0]? = some b ∧ R (.bool (decide ((97 : Int) ≤ ((b.toNat : Nat) : Int)))) wv) ∧
    ((decide ((((s.size : Nat) : Int) : Int) ≤ 12)) = false →
      R (.bool false) wv)) ∧
  (t4 = false →
    (false = true →
      0 ≤ (0 : Int) ∧ ∃ b_1 : UInt8, s[0]? = some b_1 ∧ R (.bool (decide ((97 : Int) ≤ ((b_1.toNat : Nat) : Int)))) wv) ∧
    (false = false →
      R (.bool false) wv))
theorem spec_IsWord_eq (s : ByteArray) (w : World) (R : Value → World → Prop) : spec_IsWord s w R = fsem P Tryd.f51 (fun k => []) [(.string s)] R w := by kernel_rfl
theorem spec_IsWord_ret {s : ByteArray} {w : World} {R : Value → World → Prop} (h : spec_IsWord s w R) : Ret P 51 [(.string s)] w R :=
  Ret.of_fsem Tryd.func51 rfl (Eq.mp (spec_IsWord_eq s w R) h)

def spec_MoneyOk (m0 : ByteArray) (m1 : Bool) (m2_p : Option Addr) (m2_n : Nat) (m2_c : Nat) (w : World) (R : Value → World → Prop) : Prop :=
  ∀ (r : Nat) (wv : World), New w (.cells ⟨[(.string m0), (.bool m1), (.slice m2_p m2_n m2_c)]⟩ 56 (0, 0)) r wv →
  ∃ (t4 : ByteArray), Loads P 9 ((⟨r, 0, none⟩ : Addr).add 0) (.string t4) wv ∧ Calls P 63 ⟨[(.string t4)]⟩ wv fun e wv_1 =>
  ∃ (t5 : Bool), e = .returned (.bool t5) ∧
  (t5 = true →
    ∃ (t80 : Bool) (t81_p : Option Addr) (t81_n : Nat) (t81_c : Nat), Loads P 54 ((⟨r, 0, none⟩ : Addr).add 1) (.agg #[(.bool t80), (.slice t81_p t81_n t81_c)]) wv_1 ∧ Calls P 87 ⟨[(.agg #[(.bool t80), (.slice t81_p t81_n t81_c)])]⟩ wv_1 fun e_1 wv_2 =>
    ∃ (t9 : Bool), e_1 = .returned (.bool t9) ∧
    (t9 = true →
      ∃ (t14_p : Option Addr) (t14_n : Nat) (t14_c : Nat), Loads P 52 (((⟨r, 0, none⟩ : Addr).add 1).add 1) (.slice t14_p t14_n t14_c) wv_2 ∧ R (.bool (decide ((((t14_n : Nat) : Int) : Int) ≤ 4))) wv_2) ∧
    (t9 = false →
      R (.bool false) wv_2)) ∧
  (t5 = false →
    (false = true →
      ∃ (t14_p_1 : Option Addr) (t14_n_1 : Nat) (t14_c_1 : Nat), Loads P 52 (((⟨r, 0, none⟩ : Addr).add 1).add 1) (.slice t14_p_1 t14_n_1 t14_c_1) wv_1 ∧ R (.bool (decide ((((t14_n_1 : Nat) : Int) : Int) ≤ 4))) wv_1) ∧
    (false = false →
      R (.bool false) wv_1))
theorem spec_MoneyOk_eq (m0 : ByteArray) (m1 : Bool) (m2_p : Option Addr) (m2_n : Nat) (m2_c : Nat) (w : World) (R : Value → World → Prop) : spec_MoneyOk m0 m1 m2_p m2_n m2_c w R = fsem P Tryd.f52 (fun k => []) [(.agg #[(.string m0), (.bool m1), (.slice m2_p m2_n m2_c)])] R w := by kernel_rfl
theorem spec_MoneyOk_ret {m0 : ByteArray} {m1 : Bool} {m2_p : Option Addr} {m2_n : Nat} {m2_c : Nat} {w : World} {R : Value → World → Prop} (h : spec_MoneyOk m0 m1 m2_p m2_n m2_c w R) : Ret P 52 [(.agg #[(.string m0), (.bool m1), (.slice m2_p m2_n m2_c)])] w R :=
  Ret.of_fsem Tryd.func52 rfl (Eq.mp (spec_MoneyOk_eq m0 m1 m2_p m2_n m2_c w R) h)

def spec_l01In (n : Int) (lo : Int) (hi : Int) (w : World) (R : Value → World → Prop) : Prop :=
  ((decide ((lo : Int) ≤ n)) = true →
    R (.bool (decide ((n : Int) ≤ hi))) w) ∧
  ((decide ((lo : Int) ≤ n)) = false →
    R (.bool false) w)
theorem spec_l01In_eq (n : Int) (lo : Int) (hi : Int) (w : World) (R : Value → World → Prop) : spec_l01In n lo hi w R = fsem P Tryd.f53 (fun k => []) [(.int .i64 n), (.int .i64 lo), (.int .i64 hi)] R w := by kernel_rfl
theorem spec_l01In_ret {n : Int} {lo : Int} {hi : Int} {w : World} {R : Value → World → Prop} (h : spec_l01In n lo hi w R) : Ret P 53 [(.int .i64 n), (.int .i64 lo), (.int .i64 hi)] w R :=
  Ret.of_fsem Tryd.func53 rfl (Eq.mp (spec_l01In_eq n lo hi w R) h)

def impl_IsWord_j0 (s : ByteArray) (W : World) (R : Value → World → Prop) : Prop :=
  ∃ (Inv : Int → World → Prop) (mu : Int → World → Nat), Inv 1 W ∧
  ∀ (junk : Fr) (wv : World) (i : Int), Inv i wv →
    ((decide ((i : Int) < ((s.size : Nat) : Int))) = true →
      0 ≤ (i : Int) ∧ ∃ b : UInt8, s[i.toNat]? = some b ∧ Calls P 89 ⟨[(.int .u8 ((b.toNat : Nat) : Int))]⟩ wv fun e wv_1 =>
      ∃ (t27 : Bool), e = .returned (.bool t27) ∧
      ((!t27) = true →
        0 ≤ (i : Int) ∧ ∃ b_1 : UInt8, s[i.toNat]? = some b_1 ∧ Calls P 90 ⟨[(.int .u8 ((b_1.toNat : Nat) : Int))]⟩ wv_1 fun e_1 wv_2 =>
        ∃ (t33 : Bool), e_1 = .returned (.bool t33) ∧
        ((!t33) = true →
          R (.bool false) wv_2) ∧
        ((!t33) = false →
          ∃ t23 : Int, t23 = IntKind.wrap .i64 (i + 1) ∧ Inv t23 wv_2 ∧ mu t23 wv_2 < mu i wv)) ∧
      ((!t27) = false →
        (false = true →
          R (.bool false) wv_1) ∧
        (false = false →
          ∃ t23_1 : Int, t23_1 = IntKind.wrap .i64 (i + 1) ∧ Inv t23_1 wv_1 ∧ mu t23_1 wv_1 < mu i wv))) ∧
    ((decide ((i : Int) < ((s.size : Nat) : Int))) = false →
      R (.bool true) wv)
def impl_IsWord (s : ByteArray) (w : World) (R : Value → World → Prop) : Prop :=
  ((decide ((((s.size : Nat) : Int) : Int) < 1)) = true →
    (true = true →
      (true = true →
        R (.bool false) w) ∧
      (true = false →
        impl_IsWord_j0 s w R)) ∧
    (true = false →
      0 ≤ (0 : Int) ∧ ∃ b_2 : UInt8, s[0]? = some b_2 ∧ Calls P 89 ⟨[(.int .u8 ((b_2.toNat : Nat) : Int))]⟩ w fun e_2 wv_3 =>
      ∃ (t15 : Bool), e_2 = .returned (.bool t15) ∧
      ((!t15) = true →
        R (.bool false) wv_3) ∧
      ((!t15) = false →
        impl_IsWord_j0 s wv_3 R))) ∧
  ((decide ((((s.size : Nat) : Int) : Int) < 1)) = false →
    ((decide ((12 : Int) < ((s.size : Nat) : Int))) = true →
      (true = true →
        R (.bool false) w) ∧
      (true = false →
        impl_IsWord_j0 s w R)) ∧
    ((decide ((12 : Int) < ((s.size : Nat) : Int))) = false →
      0 ≤ (0 : Int) ∧ ∃ b_3 : UInt8, s[0]? = some b_3 ∧ Calls P 89 ⟨[(.int .u8 ((b_3.toNat : Nat) : Int))]⟩ w fun e_3 wv_4 =>
      ∃ (t15_1 : Bool), e_3 = .returned (.bool t15_1) ∧
      ((!t15_1) = true →
        R (.bool false) wv_4) ∧
      ((!t15_1) = false →
        impl_IsWord_j0 s wv_4 R)))
theorem impl_IsWord_eq (s : ByteArray) (w : World) (R : Value → World → Prop) : impl_IsWord s w R = fsem P Tryd.f55 (fun k => cond (Nat.beq k 5) [(3, .one (.int .i64))] ([])) [(.string s)] R w := by kernel_rfl
theorem impl_IsWord_ret {s : ByteArray} {w : World} {R : Value → World → Prop} (h : impl_IsWord s w R) : Ret P 55 [(.string s)] w R :=
  Ret.of_fsem Tryd.func55 rfl (Eq.mp (impl_IsWord_eq s w R) h)

def impl_MoneyOk (m0 : ByteArray) (m1 : Bool) (m2_p : Option Addr) (m2_n : Nat) (m2_c : Nat) (w : World) (R : Value → World → Prop) : Prop :=
  ∀ (r : Nat) (wv : World), New w (.cells ⟨[(.string m0), (.bool m1), (.slice m2_p m2_n m2_c)]⟩ 56 (0, 0)) r wv →
  ∃ (t4 : ByteArray), Loads P 9 ((⟨r, 0, none⟩ : Addr).add 0) (.string t4) wv ∧ Calls P 65 ⟨[(.string t4)]⟩ wv fun e wv_1 =>
  ∃ (t5 : Bool), e = .returned (.bool t5) ∧
  (t5 = true →
    ∃ (t80 : Bool) (t81_p : Option Addr) (t81_n : Nat) (t81_c : Nat), Loads P 54 ((⟨r, 0, none⟩ : Addr).add 1) (.agg #[(.bool t80), (.slice t81_p t81_n t81_c)]) wv_1 ∧ Calls P 91 ⟨[(.agg #[(.bool t80), (.slice t81_p t81_n t81_c)])]⟩ wv_1 fun e_1 wv_2 =>
    ∃ (t9 : Bool), e_1 = .returned (.bool t9) ∧
    (t9 = true →
      ∃ (t14_p : Option Addr) (t14_n : Nat) (t14_c : Nat), Loads P 52 (((⟨r, 0, none⟩ : Addr).add 1).add 1) (.slice t14_p t14_n t14_c) wv_2 ∧ R (.bool (decide ((((t14_n : Nat) : Int) : Int) ≤ 4))) wv_2) ∧
    (t9 = false →
      R (.bool false) wv_2)) ∧
  (t5 = false →
    (false = true →
      ∃ (t14_p_1 : Option Addr) (t14_n_1 : Nat) (t14_c_1 : Nat), Loads P 52 (((⟨r, 0, none⟩ : Addr).add 1).add 1) (.slice t14_p_1 t14_n_1 t14_c_1) wv_1 ∧ R (.bool (decide ((((t14_n_1 : Nat) : Int) : Int) ≤ 4))) wv_1) ∧
    (false = false →
      R (.bool false) wv_1))
theorem impl_MoneyOk_eq (m0 : ByteArray) (m1 : Bool) (m2_p : Option Addr) (m2_n : Nat) (m2_c : Nat) (w : World) (R : Value → World → Prop) : impl_MoneyOk m0 m1 m2_p m2_n m2_c w R = fsem P Tryd.f56 (fun k => []) [(.agg #[(.string m0), (.bool m1), (.slice m2_p m2_n m2_c)])] R w := by kernel_rfl
theorem impl_MoneyOk_ret {m0 : ByteArray} {m1 : Bool} {m2_p : Option Addr} {m2_n : Nat} {m2_c : Nat} {w : World} {R : Value → World → Prop} (h : impl_MoneyOk m0 m1 m2_p m2_n m2_c w R) : Ret P 56 [(.agg #[(.string m0), (.bool m1), (.slice m2_p m2_n m2_c)])] w R :=
  Ret.of_fsem Tryd.func56 rfl (Eq.mp (impl_MoneyOk_eq m0 m1 m2_p m2_n m2_c w R) h)

def spec_IntSign (x0 : Bool) (x1_p : Option Addr) (x1_n : Nat) (x1_c : Nat) (w : World) (R : Value → World → Prop) : Prop :=
  ∀ (r : Nat) (wv : World), New w (.cells ⟨[(.bool x0), (.slice x1_p x1_n x1_c)]⟩ 54 (0, 0)) r wv →
  ∃ (t30 : Bool) (t31_p : Option Addr) (t31_n : Nat) (t31_c : Nat), Loads P 54 ⟨r, 0, none⟩ (.agg #[(.bool t30), (.slice t31_p t31_n t31_c)]) wv ∧ Calls P 95 ⟨[(.agg #[(.bool t30), (.slice t31_p t31_n t31_c)]), (.agg #[(.bool false), (.slice none 0 0)])]⟩ wv fun e wv_1 =>
  ∃ (t5 : Int), e = .returned (.int .i64 t5) ∧
  R (.int .i64 t5) wv_1
theorem spec_IntSign_eq (x0 : Bool) (x1_p : Option Addr) (x1_n : Nat) (x1_c : Nat) (w : World) (R : Value → World → Prop) : spec_IntSign x0 x1_p x1_n x1_c w R = fsem P Tryd.f62 (fun k => []) [(.agg #[(.bool x0), (.slice x1_p x1_n x1_c)])] R w := by kernel_rfl
theorem spec_IntSign_ret {x0 : Bool} {x1_p : Option Addr} {x1_n : Nat} {x1_c : Nat} {w : World} {R : Value → World → Prop} (h : spec_IntSign x0 x1_p x1_n x1_c w R) : Ret P 62 [(.agg #[(.bool x0), (.slice x1_p x1_n x1_c)])] w R :=
  Ret.of_fsem Tryd.func62 rfl (Eq.mp (spec_IntSign_eq x0 x1_p x1_n x1_c w R) h)

def spec_CurKnown (code : ByteArray) (w : World) (R : Value → World → Prop) : Prop :=
  Calls P 96 ⟨[(.string code)]⟩ w fun e wv =>
  ∃ (t40 : ByteArray) (t41 : ByteArray) (t42 : Int) (t43 : Int), e = .returned (.agg #[(.string t40), (.string t41), (.int .i64 t42), (.int .i64 t43)]) ∧
  R (.bool (decide (t40 ≠ (S [])))) wv
theorem spec_CurKnown_eq (code : ByteArray) (w : World) (R : Value → World → Prop) : spec_CurKnown code w R = fsem P Tryd.f63 (fun k => []) [(.string code)] R w := by kernel_rfl
theorem spec_CurKnown_ret {code : ByteArray} {w : World} {R : Value → World → Prop} (h : spec_CurKnown code w R) : Ret P 63 [(.string code)] w R :=
  Ret.of_fsem Tryd.func63 rfl (Eq.mp (spec_CurKnown_eq code w R) h)

def impl_CurKnown (code : ByteArray) (w : World) (R : Value → World → Prop) : Prop :=
  Calls P 97 ⟨[(.string code)]⟩ w fun e wv =>
  ∃ (t70 : ByteArray) (t71 : ByteArray) (t72 : Int) (t73 : Int) (t7 : Bool), e = .returned (.tuple #[(.agg #[(.string t70), (.string t71), (.int .i64 t72), (.int .i64 t73)]), (.bool t7)]) ∧
  ∀ (r : Nat) (wv_1 : World), New wv (.cells ⟨[(.string ByteArray.empty), (.string ByteArray.empty), (.int .i64 0), (.int .i64 0)]⟩ 146 (0, 0)) r wv_1 →
  ∃ wv_2, Stores P 146 ⟨r, 0, none⟩ (.agg #[(.string t70), (.string t71), (.int .i64 t72), (.int .i64 t73)]) wv_1 wv_2 ∧
  R (.bool t7) wv_2
theorem impl_CurKnown_eq (code : ByteArray) (w : World) (R : Value → World → Prop) : impl_CurKnown code w R = fsem P Tryd.f65 (fun k => []) [(.string code)] R w := by kernel_rfl
theorem impl_CurKnown_ret {code : ByteArray} {w : World} {R : Value → World → Prop} (h : impl_CurKnown code w R) : Ret P 65 [(.string code)] w R :=
  Ret.of_fsem Tryd.func65 rfl (Eq.mp (impl_CurKnown_eq code w R) h)

def impl_intSign (x0 : Bool) (x1_p : Option Addr) (x1_n : Nat) (x1_c : Nat) (w : World) (R : Value → World → Prop) : Prop :=
  ∀ (r : Nat) (wv : World), New w (.cells ⟨[(.bool x0), (.slice x1_p x1_n x1_c)]⟩ 54 (0, 0)) r wv →
  ∃ (t5_p : Option Addr) (t5_n : Nat) (t5_c : Nat), Loads P 52 ((⟨r, 0, none⟩ : Addr).add 1) (.slice t5_p t5_n t5_c) wv ∧ ((decide ((((t5_n : Nat) : Int) : Int) = 0)) = true →
    R (.int .i64 0) wv) ∧
  ((decide ((((t5_n : Nat) : Int) : Int) = 0)) = false →
    ∃ (t10 : Bool), Loads P 4 ((⟨r, 0, none⟩ : Addr).add 0) (.bool t10) wv ∧ (t10 = true →
      R (.int .i64 (-1)) wv) ∧
    (t10 = false →
      R (.int .i64 1) wv))
theorem impl_intSign_eq (x0 : Bool) (x1_p : Option Addr) (x1_n : Nat) (x1_c : Nat) (w : World) (R : Value → World → Prop) : impl_intSign x0 x1_p x1_n x1_c w R = fsem P Tryd.f66 (fun k => []) [(.agg #[(.bool x0), (.slice x1_p x1_n x1_c)])] R w := by kernel_rfl
theorem impl_intSign_ret {x0 : Bool} {x1_p : Option Addr} {x1_n : Nat} {x1_c : Nat} {w : World} {R : Value → World → Prop} (h : impl_intSign x0 x1_p x1_n x1_c w R) : Ret P 66 [(.agg #[(.bool x0), (.slice x1_p x1_n x1_c)])] w R :=
  Ret.of_fsem Tryd.func66 rfl (Eq.mp (impl_intSign_eq x0 x1_p x1_n x1_c w R) h)

def spec_MoneyNeg (m0 : ByteArray) (m1 : Bool) (m2_p : Option Addr) (m2_n : Nat) (m2_c : Nat) (w : World) (R : Value → World → Prop) : Prop :=
  ∀ (r : Nat) (wv : World), New w (.cells ⟨[(.string m0), (.bool m1), (.slice m2_p m2_n m2_c)]⟩ 56 (0, 0)) r wv →
  ∀ (r_1 : Nat) (wv_1 : World), New wv (.cells ⟨[(.string ByteArray.empty), (.bool false), (.slice none 0 0)]⟩ 56 (0, 0)) r_1 wv_1 →
  ∃ (t40 : ByteArray) (t41 : Bool) (t42_p : Option Addr) (t42_n : Nat) (t42_c : Nat), Loads P 56 ⟨r, 0, none⟩ (.agg #[(.string t40), (.bool t41), (.slice t42_p t42_n t42_c)]) wv_1 ∧ Calls P 52 ⟨[(.agg #[(.string t40), (.bool t41), (.slice t42_p t42_n t42_c)])]⟩ wv_1 fun e wv_2 =>
  ∃ (t5 : Bool), e = .returned (.bool t5) ∧
  ((!t5) = true →
    ∃ wv_3, Stores P 56 ⟨r_1, 0, none⟩ (.agg #[(.string ByteArray.empty), (.bool false), (.slice none 0 0)]) wv_2 wv_3 ∧
    ∃ (r0 : ByteArray) (r1 : Bool) (r2_p : Option Addr) (r2_n : Nat) (r2_c : Nat), Loads P 56 ⟨r_1, 0, none⟩ (.agg #[(.string r0), (.bool r1), (.slice r2_p r2_n r2_c)]) wv_3 ∧ R (.tuple #[(.agg #[(.string r0), (.bool r1), (.slice r2_p r2_n r2_c)]), (.bool false)]) wv_3) ∧
  ((!t5) = false →
    ∃ (t9 : ByteArray), (∀ wv_4, Ext wv_2.drew wv_4 → Loads P 9 ((⟨r, 0, none⟩ : Addr).add 0) (.string t9) wv_4) ∧ ∃ (t110 : Bool) (t111_p : Option Addr) (t111_n : Nat) (t111_c : Nat), (∀ wv_5, Ext wv_2.drew wv_5 → Loads P 54 ((⟨r, 0, none⟩ : Addr).add 1) (.agg #[(.bool t110), (.slice t111_p t111_n t111_c)]) wv_5) ∧ Calls P 99 ⟨[(.agg #[(.bool t110), (.slice t111_p t111_n t111_c)])]⟩ wv_2.drew fun e_1 wv_6 =>
    ∃ (t120 : Bool) (t121_p : Option Addr) (t121_n : Nat) (t121_c : Nat), e_1 = .returned (.agg #[(.bool t120), (.slice t121_p t121_n t121_c)]) ∧
    Ext wv_2.drew wv_6 ∧ Calls P 98 ⟨[(.string t9), (.agg #[(.bool t120), (.slice t121_p t121_n t121_c)])]⟩ wv_6 fun e_2 wv_7 =>
    ∃ (t130 : ByteArray) (t131 : Bool) (t132_p : Option Addr) (t132_n : Nat) (t132_c : Nat) (t13 : Bool), e_2 = .returned (.tuple #[(.agg #[(.string t130), (.bool t131), (.slice t132_p t132_n t132_c)]), (.bool t13)]) ∧
    ∃ wv_8, Stores P 56 ⟨r_1, 0, none⟩ (.agg #[(.string t130), (.bool t131), (.slice t132_p t132_n t132_c)]) wv_7 wv_8 ∧
    ∃ (r0_1 : ByteArray) (r1_1 : Bool) (r2_p_1 : Option Addr) (r2_n_1 : Nat) (r2_c_1 : Nat), Loads P 56 ⟨r_1, 0, none⟩ (.agg #[(.string r0_1), (.bool r1_1), (.slice r2_p_1 r2_n_1 r2_c_1)]) wv_8 ∧ R (.tuple #[(.agg #[(.string r0_1), (.bool r1_1), (.slice r2_p_1 r2_n_1 r2_c_1)]), (.bool t13)]) wv_8)
theorem spec_MoneyNeg_eq (m0 : ByteArray) (m1 : Bool) (m2_p : Option Addr) (m2_n : Nat) (m2_c : Nat) (w : World) (R : Value → World → Prop) : spec_MoneyNeg m0 m1 m2_p m2_n m2_c w R = fsem P Tryd.f68 (fun k => []) [(.agg #[(.string m0), (.bool m1), (.slice m2_p m2_n m2_c)])] R w := by kernel_rfl
theorem spec_MoneyNeg_ret {m0 : ByteArray} {m1 : Bool} {m2_p : Option Addr} {m2_n : Nat} {m2_c : Nat} {w : World} {R : Value → World → Prop} (h : spec_MoneyNeg m0 m1 m2_p m2_n m2_c w R) : Ret P 68 [(.agg #[(.string m0), (.bool m1), (.slice m2_p m2_n m2_c)])] w R :=
  Ret.of_fsem Tryd.func68 rfl (Eq.mp (spec_MoneyNeg_eq m0 m1 m2_p m2_n m2_c w R) h)

def impl_intNeg (x0 : Bool) (x1_p : Option Addr) (x1_n : Nat) (x1_c : Nat) (w : World) (R : Value → World → Prop) : Prop :=
  ∀ (r : Nat) (wv : World), New w (.cells ⟨[(.bool x0), (.slice x1_p x1_n x1_c)]⟩ 54 (0, 0)) r wv →
  ∀ (r_1 : Nat) (wv_1 : World), New wv (.cells ⟨[(.bool false), (.slice none 0 0)]⟩ 54 (0, 0)) r_1 wv_1 →
  ∃ (t4 : Bool), (∀ wv_2, Ext wv_1.drew wv_2 → Loads P 4 ((⟨r, 0, none⟩ : Addr).add 0) (.bool t4) wv_2) ∧ ∃ (t7_p : Option Addr) (t7_n : Nat) (t7_c : Nat), (∀ wv_3, Ext wv_1.drew wv_3 → Loads P 52 ((⟨r, 0, none⟩ : Addr).add 1) (.slice t7_p t7_n t7_c) wv_3) ∧ Calls P 101 ⟨[(.slice t7_p t7_n t7_c)]⟩ wv_1.drew fun e wv_4 =>
  ∃ (t8_p : Option Addr) (t8_n : Nat) (t8_c : Nat), e = .returned (.slice t8_p t8_n t8_c) ∧
  Ext wv_1.drew wv_4 ∧ Calls P 100 ⟨[(.bool (!t4)), (.slice t8_p t8_n t8_c)]⟩ wv_4 fun e_1 wv_5 =>
  ∃ (t90 : Bool) (t91_p : Option Addr) (t91_n : Nat) (t91_c : Nat), e_1 = .returned (.agg #[(.bool t90), (.slice t91_p t91_n t91_c)]) ∧
  ∃ wv_6, Stores P 54 ⟨r_1, 0, none⟩ (.agg #[(.bool t90), (.slice t91_p t91_n t91_c)]) wv_5 wv_6 ∧
  ∃ (r0 : Bool) (r1_p : Option Addr) (r1_n : Nat) (r1_c : Nat), Loads P 54 ⟨r_1, 0, none⟩ (.agg #[(.bool r0), (.slice r1_p r1_n r1_c)]) wv_6 ∧ R (.agg #[(.bool r0), (.slice r1_p r1_n r1_c)]) wv_6
theorem impl_intNeg_eq (x0 : Bool) (x1_p : Option Addr) (x1_n : Nat) (x1_c : Nat) (w : World) (R : Value → World → Prop) : impl_intNeg x0 x1_p x1_n x1_c w R = fsem P Tryd.f69 (fun k => []) [(.agg #[(.bool x0), (.slice x1_p x1_n x1_c)])] R w := by kernel_rfl
theorem impl_intNeg_ret {x0 : Bool} {x1_p : Option Addr} {x1_n : Nat} {x1_c : Nat} {w : World} {R : Value → World → Prop} (h : impl_intNeg x0 x1_p x1_n x1_c w R) : Ret P 69 [(.agg #[(.bool x0), (.slice x1_p x1_n x1_c)])] w R :=
  Ret.of_fsem Tryd.func69 rfl (Eq.mp (impl_intNeg_eq x0 x1_p x1_n x1_c w R) h)

def spec_MoneySum (cur : ByteArray) (l_p : Option Addr) (l_n : Nat) (l_c : Nat) (w : World) (R : Value → World → Prop) : Prop :=
  ∀ (r : Nat) (wv : World), New w (.cells ⟨[(.string ByteArray.empty), (.bool false), (.slice none 0 0)]⟩ 56 (0, 0)) r wv →
  ∀ (r_1 : Nat) (wv_1 : World), New wv (.cells ⟨[(.bool false), (.slice none 0 0)]⟩ 54 (0, 0)) r_1 wv_1 →
  ∃ wv_2, Stores P 54 ⟨r_1, 0, none⟩ (.agg #[(.bool false), (.slice none 0 0)]) wv_1 wv_2 ∧
  ∃ (Inv : Int → World → Prop) (mu : Int → World → Nat), Inv 0 wv_2 ∧
  ∀ (junk : Fr) (wv_3 : World) (t12 : Int), Inv t12 wv_3 →
    ((decide ((t12 : Int) < ((l_n : Nat) : Int))) = true →
      (0 ≤ (t12 : Int) ∧ (t12 : Int) < (l_n : Nat)) ∧ ptrS l_p fun ad => ∃ (t150 : ByteArray) (t151 : Bool) (t152_p : Option Addr) (t152_n : Nat) (t152_c : Nat), Loads P 56 (ad.add (t12.toNat * 3)) (.agg #[(.string t150), (.bool t151), (.slice t152_p t152_n t152_c)]) wv_3 ∧ ∀ (r_2 : Nat) (wv_4 : World), New wv_3 (.cells ⟨[(.string ByteArray.empty), (.bool false), (.slice none 0 0)]⟩ 56 (0, 0)) r_2 wv_4 →
      ∃ wv_5, Stores P 56 ⟨r_2, 0, none⟩ (.agg #[(.string t150), (.bool t151), (.slice t152_p t152_n t152_c)]) wv_4 wv_5 ∧
      ∃ (t160 : ByteArray) (t161 : Bool) (t162_p : Option Addr) (t162_n : Nat) (t162_c : Nat), Loads P 56 ⟨r_2, 0, none⟩ (.agg #[(.string t160), (.bool t161), (.slice t162_p t162_n t162_c)]) wv_5 ∧ Calls P 52 ⟨[(.agg #[(.string t160), (.bool t161), (.slice t162_p t162_n t162_c)])]⟩ wv_5 fun e wv_6 =>
      ∃ (t17 : Bool), e = .returned (.bool t17) ∧
      ((!t17) = true →
        (true = true →
          ∃ wv_7, Stores P 56 ⟨r, 0, none⟩ (.agg #[(.string ByteArray.empty), (.bool false), (.slice none 0 0)]) wv_6 wv_7 ∧
          ∃ (r0 : ByteArray) (r1 : Bool) (r2_p : Option Addr) (r2_n : Nat) (r2_c : Nat), Loads P 56 ⟨r, 0, none⟩ (.agg #[(.string r0), (.bool r1), (.slice r2_p r2_n r2_c)]) wv_7 ∧ R (.tuple #[(.agg #[(.string r0), (.bool r1), (.slice r2_p r2_n r2_c)]), (.bool false)]) wv_7) ∧
        (true = false →
          ∃ (t260 : Bool) (t261_p : Option Addr) (t261_n : Nat) (t261_c : Nat), Loads P 54 ⟨r_1, 0, none⟩ (.agg #[(.bool t260), (.slice t261_p t261_n t261_c)]) wv_6 ∧ ∃ (t280 : Bool) (t281_p : Option Addr) (t281_n : Nat) (t281_c : Nat), Loads P 54 ((⟨r_2, 0, none⟩ : Addr).add 1) (.agg #[(.bool t280), (.slice t281_p t281_n t281_c)]) wv_6 ∧ Calls P 78 ⟨[(.agg #[(.bool t260), (.slice t261_p t261_n t261_c)]), (.agg #[(.bool t280), (.slice t281_p t281_n t281_c)])]⟩ wv_6 fun e_1 wv_8 =>
          ∃ (t290 : Bool) (t291_p : Option Addr) (t291_n : Nat) (t291_c : Nat), e_1 = .returned (.agg #[(.bool t290), (.slice t291_p t291_n t291_c)]) ∧
          ∃ wv_9, Stores P 54 ⟨r_1, 0, none⟩ (.agg #[(.bool t290), (.slice t291_p t291_n t291_c)]) wv_8 wv_9 ∧
          ∃ t30 : Int, t30 = IntKind.wrap .i64 (t12 + 1) ∧ Inv t30 wv_9 ∧ mu t30 wv_9 < mu t12 wv_3)) ∧
      ((!t17) = false →
        ∃ (t21 : ByteArray), Loads P 9 ((⟨r_2, 0, none⟩ : Addr).add 0) (.string t21) wv_6 ∧ ((decide (t21 ≠ cur)) = true →
          ∃ wv_10, Stores P 56 ⟨r, 0, none⟩ (.agg #[(.string ByteArray.empty), (.bool false), (.slice none 0 0)]) wv_6 wv_10 ∧
          ∃ (r0_1 : ByteArray) (r1_1 : Bool) (r2_p_1 : Option Addr) (r2_n_1 : Nat) (r2_c_1 : Nat), Loads P 56 ⟨r, 0, none⟩ (.agg #[(.string r0_1), (.bool r1_1), (.slice r2_p_1 r2_n_1 r2_c_1)]) wv_10 ∧ R (.tuple #[(.agg #[(.string r0_1), (.bool r1_1), (.slice r2_p_1 r2_n_1 r2_c_1)]), (.bool false)]) wv_10) ∧
        ((decide (t21 ≠ cur)) = false →
          ∃ (t260_1 : Bool) (t261_p_1 : Option Addr) (t261_n_1 : Nat) (t261_c_1 : Nat), Loads P 54 ⟨r_1, 0, none⟩ (.agg #[(.bool t260_1), (.slice t261_p_1 t261_n_1 t261_c_1)]) wv_6 ∧ ∃ (t280_1 : Bool) (t281_p_1 : Option Addr) (t281_n_1 : Nat) (t281_c_1 : Nat), Loads P 54 ((⟨r_2, 0, none⟩ : Addr).add 1) (.agg #[(.bool t280_1), (.slice t281_p_1 t281_n_1 t281_c_1)]) wv_6 ∧ Calls P 78 ⟨[(.agg #[(.bool t260_1), (.slice t261_p_1 t261_n_1 t261_c_1)]), (.agg #[(.bool t280_1), (.slice t281_p_1 t281_n_1 t281_c_1)])]⟩ wv_6 fun e_2 wv_11 =>
          ∃ (t290_1 : Bool) (t291_p_1 : Option Addr) (t291_n_1 : Nat) (t291_c_1 : Nat), e_2 = .returned (.agg #[(.bool t290_1), (.slice t291_p_1 t291_n_1 t291_c_1)]) ∧
          ∃ wv_12, Stores P 54 ⟨r_1, 0, none⟩ (.agg #[(.bool t290_1), (.slice t291_p_1 t291_n_1 t291_c_1)]) wv_11 wv_12 ∧
          ∃ t30_1 : Int, t30_1 = IntKind.wrap .i64 (t12 + 1) ∧ Inv t30_1 wv_12 ∧ mu t30_1 wv_12 < mu t12 wv_3))) ∧
    ((decide ((t12 : Int) < ((l_n : Nat) : Int))) = false →
      ∃ (t320 : Bool) (t321_p : Option Addr) (t321_n : Nat) (t321_c : Nat), Loads P 54 ⟨r_1, 0, none⟩ (.agg #[(.bool t320), (.slice t321_p t321_n t321_c)]) wv_3 ∧ Calls P 98 ⟨[(.string cur), (.agg #[(.bool t320), (.slice t321_p t321_n t321_c)])]⟩ wv_3 fun e_3 wv_13 =>
      ∃ (t330 : ByteArray) (t331 : Bool) (t332_p : Option Addr) (t332_n : Nat) (t332_c : Nat) (t33 : Bool), e_3 = .returned (.tuple #[(.agg #[(.string t330), (.bool t331), (.slice t332_p t332_n t332_c)]), (.bool t33)]) ∧
      ∃ wv_14, Stores P 56 ⟨r, 0, none⟩ (.agg #[(.string t330), (.bool t331), (.slice t332_p t332_n t332_c)]) wv_13 wv_14 ∧
      ∃ (r0_2 : ByteArray) (r1_2 : Bool) (r2_p_2 : Option Addr) (r2_n_2 : Nat) (r2_c_2 : Nat), Loads P 56 ⟨r, 0, none⟩ (.agg #[(.string r0_2), (.bool r1_2), (.slice r2_p_2 r2_n_2 r2_c_2)]) wv_14 ∧ R (.tuple #[(.agg #[(.string r0_2), (.bool r1_2), (.slice r2_p_2 r2_n_2 r2_c_2)]), (.bool t33)]) wv_14)
theorem spec_MoneySum_eq (cur : ByteArray) (l_p : Option Addr) (l_n : Nat) (l_c : Nat) (w : World) (R : Value → World → Prop) : spec_MoneySum cur l_p l_n l_c w R = fsem P Tryd.f74 (fun k => cond (Nat.beq k 4) [(12, .one (.int .i64))] ([])) [(.string cur), (.slice l_p l_n l_c)] R w := by kernel_rfl
theorem spec_MoneySum_ret {cur : ByteArray} {l_p : Option Addr} {l_n : Nat} {l_c : Nat} {w : World} {R : Value → World → Prop} (h : spec_MoneySum cur l_p l_n l_c w R) : Ret P 74 [(.string cur), (.slice l_p l_n l_c)] w R :=
  Ret.of_fsem Tryd.func74 rfl (Eq.mp (spec_MoneySum_eq cur l_p l_n l_c w R) h)

end Go.Proofs.YtfbmjimhjlmhkaaDoor
