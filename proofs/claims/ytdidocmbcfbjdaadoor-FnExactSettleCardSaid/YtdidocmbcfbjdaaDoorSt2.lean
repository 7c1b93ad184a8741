/-
  Parts of the proof of settle_holds: G2, G3, GData, SxMem, Nm.
  Conditions: none.
-/
import Derived.Laws.AppendOwn
import Derived.Laws.CopyRow
import Derived.Test.YtdidocmbcfbjdaaDoorSt1

namespace Go.Proofs.YtdidocmbcfbjdaaDoor
open Go Go.Proofs.YtdidocmbcfbjdaaDoor.Sx
set_option linter.unusedVariables false
set_option maxRecDepth 100000
def spec_DebtsOk (cur : ByteArray) (l_p : Option Addr) (l_n : Nat) (l_c : Nat) (w : World) (R : Value → World → Prop) : Prop :=
  ∃ (Inv : Int → World → Prop) (mu : Int → World → Nat), Inv 0 w ∧
  ∀ (junk : Fr) (wv : World) (t9 : Int), Inv t9 wv →
    ((decide ((t9 : Int) < ((l_n : Nat) : Int))) = true →
      (0 ≤ (t9 : Int) ∧ (t9 : Int) < (l_n : Nat)) ∧ ptrS l_p fun ad => ∃ (t120 : ByteArray) (t121 : ByteArray) (t122 : ByteArray) (t123 : Bool) (t124_p : Option Addr) (t124_n : Nat) (t124_c : Nat), Loads P 73 (ad.add (t9.toNat * 5)) (.agg #[(.string t120), (.string t121), (.string t122), (.bool t123), (.slice t124_p t124_n t124_c)]) wv ∧ ∀ (r : Nat) (wv_1 : World), New wv (.cells ⟨[(.string ByteArray.empty), (.string ByteArray.empty), (.string ByteArray.empty), (.bool false), (.slice none 0 0)]⟩ 73 (0, 0)) r wv_1 →
      ∃ wv_2, Stores P 73 ⟨r, 0, none⟩ (.agg #[(.string t120), (.string t121), (.string t122), (.bool t123), (.slice t124_p t124_n t124_c)]) wv_1 wv_2 ∧
      ∃ (t140 : ByteArray) (t141 : Bool) (t142_p : Option Addr) (t142_n : Nat) (t142_c : Nat), Loads P 58 ((⟨r, 0, none⟩ : Addr).add 2) (.agg #[(.string t140), (.bool t141), (.slice t142_p t142_n t142_c)]) wv_2 ∧ Calls P 39 ⟨[(.agg #[(.string t140), (.bool t141), (.slice t142_p t142_n t142_c)])]⟩ wv_2 fun e wv_3 =>
      ∃ (t15 : Bool), e = .returned (.bool t15) ∧
      ((!t15) = true →
        (true = true →
          (true = true →
            (true = true →
              (true = true →
                (true = true →
                  R (.bool false) wv_3) ∧
                (true = false →
                  ∃ t50 : Int, t50 = IntKind.wrap .i64 (t9 + 1) ∧ Inv t50 wv_3 ∧ mu t50 wv_3 < mu t9 wv)) ∧
              (true = false →
                ∃ (t45 : ByteArray), Loads P 9 ((⟨r, 0, none⟩ : Addr).add 0) (.string t45) wv_3 ∧ ∃ (t47 : ByteArray), Loads P 9 ((⟨r, 0, none⟩ : Addr).add 1) (.string t47) wv_3 ∧ ((decide (t45 = t47)) = true →
                  R (.bool false) wv_3) ∧
                ((decide (t45 = t47)) = false →
                  ∃ t50_1 : Int, t50_1 = IntKind.wrap .i64 (t9 + 1) ∧ Inv t50_1 wv_3 ∧ mu t50_1 wv_3 < mu t9 wv))) ∧
            (true = false →
              ∃ (t39 : ByteArray), Loads P 9 ((⟨r, 0, none⟩ : Addr).add 1) (.string t39) wv_3 ∧ Calls P 70 ⟨[(.string t39)]⟩ wv_3 fun e_1 wv_4 =>
              ∃ (t40 : Bool), e_1 = .returned (.bool t40) ∧
              ((!t40) = true →
                (true = true →
                  R (.bool false) wv_4) ∧
                (true = false →
                  ∃ t50_2 : Int, t50_2 = IntKind.wrap .i64 (t9 + 1) ∧ Inv t50_2 wv_4 ∧ mu t50_2 wv_4 < mu t9 wv)) ∧
              ((!t40) = false →
                ∃ (t45_1 : ByteArray), Loads P 9 ((⟨r, 0, none⟩ : Addr).add 0) (.string t45_1) wv_4 ∧ ∃ (t47_1 : ByteArray), Loads P 9 ((⟨r, 0, none⟩ : Addr).add 1) (.string t47_1) wv_4 ∧ ((decide (t45_1 = t47_1)) = true →
                  R (.bool false) wv_4) ∧
                ((decide (t45_1 = t47_1)) = false →
                  ∃ t50_3 : Int, t50_3 = IntKind.wrap .i64 (t9 + 1) ∧ Inv t50_3 wv_4 ∧ mu t50_3 wv_4 < mu t9 wv)))) ∧
          (true = false →
            ∃ (t33 : ByteArray), Loads P 9 ((⟨r, 0, none⟩ : Addr).add 0) (.string t33) wv_3 ∧ Calls P 70 ⟨[(.string t33)]⟩ wv_3 fun e_2 wv_5 =>
            ∃ (t34 : Bool), e_2 = .returned (.bool t34) ∧
            ((!t34) = true →
              (true = true →
                (true = true →
                  R (.bool false) wv_5) ∧
                (true = false →
                  ∃ t50_4 : Int, t50_4 = IntKind.wrap .i64 (t9 + 1) ∧ Inv t50_4 wv_5 ∧ mu t50_4 wv_5 < mu t9 wv)) ∧
              (true = false →
                ∃ (t45_2 : ByteArray), Loads P 9 ((⟨r, 0, none⟩ : Addr).add 0) (.string t45_2) wv_5 ∧ ∃ (t47_2 : ByteArray), Loads P 9 ((⟨r, 0, none⟩ : Addr).add 1) (.string t47_2) wv_5 ∧ ((decide (t45_2 = t47_2)) = true →
                  R (.bool false) wv_5) ∧
                ((decide (t45_2 = t47_2)) = false →
                  ∃ t50_5 : Int, t50_5 = IntKind.wrap .i64 (t9 + 1) ∧ Inv t50_5 wv_5 ∧ mu t50_5 wv_5 < mu t9 wv))) ∧
            ((!t34) = false →
              ∃ (t39_1 : ByteArray), Loads P 9 ((⟨r, 0, none⟩ : Addr).add 1) (.string t39_1) wv_5 ∧ Calls P 70 ⟨[(.string t39_1)]⟩ wv_5 fun e_3 wv_6 =>
              ∃ (t40_1 : Bool), e_3 = .returned (.bool t40_1) ∧
              ((!t40_1) = true →
                (true = true →
                  R (.bool false) wv_6) ∧
                (true = false →
                  ∃ t50_6 : Int, t50_6 = IntKind.wrap .i64 (t9 + 1) ∧ Inv t50_6 wv_6 ∧ mu t50_6 wv_6 < mu t9 wv)) ∧
              ((!t40_1) = false →
                ∃ (t45_3 : ByteArray), Loads P 9 ((⟨r, 0, none⟩ : Addr).add 0) (.string t45_3) wv_6 ∧ ∃ (t47_3 : ByteArray), Loads P 9 ((⟨r, 0, none⟩ : Addr).add 1) (.string t47_3) wv_6 ∧ ((decide (t45_3 = t47_3)) = true →
                  R (.bool false) wv_6) ∧
                ((decide (t45_3 = t47_3)) = false →
                  ∃ t50_7 : Int, t50_7 = IntKind.wrap .i64 (t9 + 1) ∧ Inv t50_7 wv_6 ∧ mu t50_7 wv_6 < mu t9 wv))))) ∧
        (true = false →
          ∃ (t270 : Bool) (t271_p : Option Addr) (t271_n : Nat) (t271_c : Nat), Loads P 56 (((⟨r, 0, none⟩ : Addr).add 2).add 1) (.agg #[(.bool t270), (.slice t271_p t271_n t271_c)]) wv_3 ∧ Calls P 32 ⟨[(.agg #[(.bool t270), (.slice t271_p t271_n t271_c)])]⟩ wv_3 fun e_4 wv_7 =>
          ∃ (t28 : Int), e_4 = .returned (.int .i64 t28) ∧
          ((decide ((t28 : Int) ≤ 0)) = true →
            (true = true →
              (true = true →
                (true = true →
                  R (.bool false) wv_7) ∧
                (true = false →
                  ∃ t50_8 : Int, t50_8 = IntKind.wrap .i64 (t9 + 1) ∧ Inv t50_8 wv_7 ∧ mu t50_8 wv_7 < mu t9 wv)) ∧
              (true = false →
                ∃ (t45_4 : ByteArray), Loads P 9 ((⟨r, 0, none⟩ : Addr).add 0) (.string t45_4) wv_7 ∧ ∃ (t47_4 : ByteArray), Loads P 9 ((⟨r, 0, none⟩ : Addr).add 1) (.string t47_4) wv_7 ∧ ((decide (t45_4 = t47_4)) = true →
                  R (.bool false) wv_7) ∧
                ((decide (t45_4 = t47_4)) = false →
                  ∃ t50_9 : Int, t50_9 = IntKind.wrap .i64 (t9 + 1) ∧ Inv t50_9 wv_7 ∧ mu t50_9 wv_7 < mu t9 wv))) ∧
            (true = false →
              ∃ (t39_2 : ByteArray), Loads P 9 ((⟨r, 0, none⟩ : Addr).add 1) (.string t39_2) wv_7 ∧ Calls P 70 ⟨[(.string t39_2)]⟩ wv_7 fun e_5 wv_8 =>
              ∃ (t40_2 : Bool), e_5 = .returned (.bool t40_2) ∧
              ((!t40_2) = true →
                (true = true →
                  R (.bool false) wv_8) ∧
                (true = false →
                  ∃ t50_10 : Int, t50_10 = IntKind.wrap .i64 (t9 + 1) ∧ Inv t50_10 wv_8 ∧ mu t50_10 wv_8 < mu t9 wv)) ∧
              ((!t40_2) = false →
                ∃ (t45_5 : ByteArray), Loads P 9 ((⟨r, 0, none⟩ : Addr).add 0) (.string t45_5) wv_8 ∧ ∃ (t47_5 : ByteArray), Loads P 9 ((⟨r, 0, none⟩ : Addr).add 1) (.string t47_5) wv_8 ∧ ((decide (t45_5 = t47_5)) = true →
                  R (.bool false) wv_8) ∧
                ((decide (t45_5 = t47_5)) = false →
                  ∃ t50_11 : Int, t50_11 = IntKind.wrap .i64 (t9 + 1) ∧ Inv t50_11 wv_8 ∧ mu t50_11 wv_8 < mu t9 wv)))) ∧
          ((decide ((t28 : Int) ≤ 0)) = false →
            ∃ (t33_1 : ByteArray), Loads P 9 ((⟨r, 0, none⟩ : Addr).add 0) (.string t33_1) wv_7 ∧ Calls P 70 ⟨[(.string t33_1)]⟩ wv_7 fun e_6 wv_9 =>
            ∃ (t34_1 : Bool), e_6 = .returned (.bool t34_1) ∧
            ((!t34_1) = true →
              (true = true →
                (true = true →
                  R (.bool false) wv_9) ∧
                (true = false →
                  ∃ t50_12 : Int, t50_12 = IntKind.wrap .i64 (t9 + 1) ∧ Inv t50_12 wv_9 ∧ mu t50_12 wv_9 < mu t9 wv)) ∧
              (true = false →
                ∃ (t45_6 : ByteArray), Loads P 9 ((⟨r, 0, none⟩ : Addr).add 0) (.string t45_6) wv_9 ∧ ∃ (t47_6 : ByteArray), Loads P 9 ((⟨r, 0, none⟩ : Addr).add 1) (.string t47_6) wv_9 ∧ ((decide (t45_6 = t47_6)) = true →
                  R (.bool false) wv_9) ∧
                ((decide (t45_6 = t47_6)) = false →
                  ∃ t50_13 : Int, t50_13 = IntKind.wrap .i64 (t9 + 1) ∧ Inv t50_13 wv_9 ∧ mu t50_13 wv_9 < mu t9 wv))) ∧
            ((!t34_1) = false →
              ∃ (t39_3 : ByteArray), Loads P 9 ((⟨r, 0, none⟩ : Addr).add 1) (.string t39_3) wv_9 ∧ Calls P 70 ⟨[(.string t39_3)]⟩ wv_9 fun e_7 wv_10 =>
              ∃ (t40_3 : Bool), e_7 = .returned (.bool t40_3) ∧
              ((!t40_3) = true →
                (true = true →
                  R (.bool false) wv_10) ∧
                (true = false →
                  ∃ t50_14 : Int, t50_14 = IntKind.wrap .i64 (t9 + 1) ∧ Inv t50_14 wv_10 ∧ mu t50_14 wv_10 < mu t9 wv)) ∧
              ((!t40_3) = false →
                ∃ (t45_7 : ByteArray), Loads P 9 ((⟨r, 0, none⟩ : Addr).add 0) (.string t45_7) wv_10 ∧ ∃ (t47_7 : ByteArray), Loads P 9 ((⟨r, 0, none⟩ : Addr).add 1) (.string t47_7) wv_10 ∧ ((decide (t45_7 = t47_7)) = true →
                  R (.bool false) wv_10) ∧
                ((decide (t45_7 = t47_7)) = false →
                  ∃ t50_15 : Int, t50_15 = IntKind.wrap .i64 (t9 + 1) ∧ Inv t50_15 wv_10 ∧ mu t50_15 wv_10 < mu t9 wv)))))) ∧
      ((!t15) = false →
        ∃ (t20 : ByteArray), Loads P 9 (((⟨r, 0, none⟩ : Addr).add 2).add 0) (.string t20) wv_3 ∧ ((decide (t20 ≠ cur)) = true →
          (true = true →
            (true = true →
              (true = true →
                (true = true →
                  R (.bool false) wv_3) ∧
                (true = false →
                  ∃ t50_16 : Int, t50_16 = IntKind.wrap .i64 (t9 + 1) ∧ Inv t50_16 wv_3 ∧ mu t50_16 wv_3 < mu t9 wv)) ∧
              (true = false →
                ∃ (t45_8 : ByteArray), Loads P 9 ((⟨r, 0, none⟩ : Addr).add 0) (.string t45_8) wv_3 ∧ ∃ (t47_8 : ByteArray), Loads P 9 ((⟨r, 0, none⟩ : Addr).add 1) (.string t47_8) wv_3 ∧ ((decide (t45_8 = t47_8)) = true →
                  R (.bool false) wv_3) ∧
                ((decide (t45_8 = t47_8)) = false →
                  ∃ t50_17 : Int, t50_17 = IntKind.wrap .i64 (t9 + 1) ∧ Inv t50_17 wv_3 ∧ mu t50_17 wv_3 < mu t9 wv))) ∧
            (true = false →
              ∃ (t39_4 : ByteArray), Loads P 9 ((⟨r, 0, none⟩ : Addr).add 1) (.string t39_4) wv_3 ∧ Calls P 70 ⟨[(.string t39_4)]⟩ wv_3 fun e_8 wv_11 =>
              ∃ (t40_4 : Bool), e_8 = .returned (.bool t40_4) ∧
              ((!t40_4) = true →
                (true = true →
                  R (.bool false) wv_11) ∧
                (true = false →
                  ∃ t50_18 : Int, t50_18 = IntKind.wrap .i64 (t9 + 1) ∧ Inv t50_18 wv_11 ∧ mu t50_18 wv_11 < mu t9 wv)) ∧
              ((!t40_4) = false →
                ∃ (t45_9 : ByteArray), Loads P 9 ((⟨r, 0, none⟩ : Addr).add 0) (.string t45_9) wv_11 ∧ ∃ (t47_9 : ByteArray), Loads P 9 ((⟨r, 0, none⟩ : Addr).add 1) (.string t47_9) wv_11 ∧ ((decide (t45_9 = t47_9)) = true →
                  R (.bool false) wv_11) ∧
                ((decide (t45_9 = t47_9)) = false →
                  ∃ t50_19 : Int, t50_19 = IntKind.wrap .i64 (t9 + 1) ∧ Inv t50_19 wv_11 ∧ mu t50_19 wv_11 < mu t9 wv)))) ∧
          (true = false →
            ∃ (t33_2 : ByteArray), Loads P 9 ((⟨r, 0, none⟩ : Addr).add 0) (.string t33_2) wv_3 ∧ Calls P 70 ⟨[(.string t33_2)]⟩ wv_3 fun e_9 wv_12 =>
            ∃ (t34_2 : Bool), e_9 = .returned (.bool t34_2) ∧
            ((!t34_2) = true →
              (true = true →
                (true = true →
                  R (.bool false) wv_12) ∧
                (true = false →
                  ∃ t50_20 : Int, t50_20 = IntKind.wrap .i64 (t9 + 1) ∧ Inv t50_20 wv_12 ∧ mu t50_20 wv_12 < mu t9 wv)) ∧
              (true = false →
                ∃ (t45_10 : ByteArray), Loads P 9 ((⟨r, 0, none⟩ : Addr).add 0) (.string t45_10) wv_12 ∧ ∃ (t47_10 : ByteArray), Loads P 9 ((⟨r, 0, none⟩ : Addr).add 1) (.string t47_10) wv_12 ∧ ((decide (t45_10 = t47_10)) = true →
                  R (.bool false) wv_12) ∧
                ((decide (t45_10 = t47_10)) = false →
                  ∃ t50_21 : Int, t50_21 = IntKind.wrap .i64 (t9 + 1) ∧ Inv t50_21 wv_12 ∧ mu t50_21 wv_12 < mu t9 wv))) ∧
            ((!t34_2) = false →
              ∃ (t39_5 : ByteArray), Loads P 9 ((⟨r, 0, none⟩ : Addr).add 1) (.string t39_5) wv_12 ∧ Calls P 70 ⟨[(.string t39_5)]⟩ wv_12 fun e_10 wv_13 =>
              ∃ (t40_5 : Bool), e_10 = .returned (.bool t40_5) ∧
              ((!t40_5) = true →
                (true = true →
                  R (.bool false) wv_13) ∧
                (true = false →
                  ∃ t50_22 : Int, t50_22 = IntKind.wrap .i64 (t9 + 1) ∧ Inv t50_22 wv_13 ∧ mu t50_22 wv_13 < mu t9 wv)) ∧
              ((!t40_5) = false →
                ∃ (t45_11 : ByteArray), Loads P 9 ((⟨r, 0, none⟩ : Addr).add 0) (.string t45_11) wv_13 ∧ ∃ (t47_11 : ByteArray), Loads P 9 ((⟨r, 0, none⟩ : Addr).add 1) (.string t47_11) wv_13 ∧ ((decide (t45_11 = t47_11)) = true →
                  R (.bool false) wv_13) ∧
                ((decide (t45_11 = t47_11)) = false →
                  ∃ t50_23 : Int, t50_23 = IntKind.wrap .i64 (t9 + 1) ∧ Inv t50_23 wv_13 ∧ mu t50_23 wv_13 < mu t9 wv))))) ∧
        ((decide (t20 ≠ cur)) = false →
          ∃ (t270_1 : Bool) (t271_p_1 : Option Addr) (t271_n_1 : Nat) (t271_c_1 : Nat), Loads P 56 (((⟨r, 0, none⟩ : Addr).add 2).add 1) (.agg #[(.bool t270_1), (.slice t271_p_1 t271_n_1 t271_c_1)]) wv_3 ∧ Calls P 32 ⟨[(.agg #[(.bool t270_1), (.slice t271_p_1 t271_n_1 t271_c_1)])]⟩ wv_3 fun e_11 wv_14 =>
          ∃ (t28_1 : Int), e_11 = .returned (.int .i64 t28_1) ∧
          ((decide ((t28_1 : Int) ≤ 0)) = true →
            (true = true →
              (true = true →
                (true = true →
                  R (.bool false) wv_14) ∧
                (true = false →
                  ∃ t50_24 : Int, t50_24 = IntKind.wrap .i64 (t9 + 1) ∧ Inv t50_24 wv_14 ∧ mu t50_24 wv_14 < mu t9 wv)) ∧
              (true = false →
                ∃ (t45_12 : ByteArray), Loads P 9 ((⟨r, 0, none⟩ : Addr).add 0) (.string t45_12) wv_14 ∧ ∃ (t47_12 : ByteArray), Loads P 9 ((⟨r, 0, none⟩ : Addr).add 1) (.string t47_12) wv_14 ∧ ((decide (t45_12 = t47_12)) = true →
                  R (.bool false) wv_14) ∧
                ((decide (t45_12 = t47_12)) = false →
                  ∃ t50_25 : Int, t50_25 = IntKind.wrap .i64 (t9 + 1) ∧ Inv t50_25 wv_14 ∧ mu t50_25 wv_14 < mu t9 wv))) ∧
            (true = false →
              ∃ (t39_6 : ByteArray), Loads P 9 ((⟨r, 0, none⟩ : Addr).add 1) (.string t39_6) wv_14 ∧ Calls P 70 ⟨[(.string t39_6)]⟩ wv_14 fun e_12 wv_15 =>
              ∃ (t40_6 : Bool), e_12 = .returned (.bool t40_6) ∧
              ((!t40_6) = true →
                (true = true →
                  R (.bool false) wv_15) ∧
                (true = false →
                  ∃ t50_26 : Int, t50_26 = IntKind.wrap .i64 (t9 + 1) ∧ Inv t50_26 wv_15 ∧ mu t50_26 wv_15 < mu t9 wv)) ∧
              ((!t40_6) = false →
                ∃ (t45_13 : ByteArray), Loads P 9 ((⟨r, 0, none⟩ : Addr).add 0) (.string t45_13) wv_15 ∧ ∃ (t47_13 : ByteArray), Loads P 9 ((⟨r, 0, none⟩ : Addr).add 1) (.string t47_13) wv_15 ∧ ((decide (t45_13 = t47_13)) = true →
                  R (.bool false) wv_15) ∧
                ((decide (t45_13 = t47_13)) = false →
                  ∃ t50_27 : Int, t50_27 = IntKind.wrap .i64 (t9 + 1) ∧ Inv t50_27 wv_15 ∧ mu t50_27 wv_15 < mu t9 wv)))) ∧
          ((decide ((t28_1 : Int) ≤ 0)) = false →
            ∃ (t33_3 : ByteArray), Loads P 9 ((⟨r, 0, none⟩ : Addr).add 0) (.string t33_3) wv_14 ∧ Calls P 70 ⟨[(.string t33_3)]⟩ wv_14 fun e_13 wv_16 =>
            ∃ (t34_3 : Bool), e_13 = .returned (.bool t34_3) ∧
            ((!t34_3) = true →
              (true = true →
                (true = true →
                  R (.bool false) wv_16) ∧
                (true = false →
                  ∃ t50_28 : Int, t50_28 = IntKind.wrap .i64 (t9 + 1) ∧ Inv t50_28 wv_16 ∧ mu t50_28 wv_16 < mu t9 wv)) ∧
              (true = false →
                ∃ (t45_14 : ByteArray), Loads P 9 ((⟨r, 0, none⟩ : Addr).add 0) (.string t45_14) wv_16 ∧ ∃ (t47_14 : ByteArray), Loads P 9 ((⟨r, 0, none⟩ : Addr).add 1) (.string t47_14) wv_16 ∧ ((decide (t45_14 = t47_14)) = true →
                  R (.bool false) wv_16) ∧
                ((decide (t45_14 = t47_14)) = false →
                  ∃ t50_29 : Int, t50_29 = IntKind.wrap .i64 (t9 + 1) ∧ Inv t50_29 wv_16 ∧ mu t50_29 wv_16 < mu t9 wv))) ∧
            ((!t34_3) = false →
              ∃ (t39_7 : ByteArray), Loads P 9 ((⟨r, 0, none⟩ : Addr).add 1) (.string t39_7) wv_16 ∧ Calls P 70 ⟨[(.string t39_7)]⟩ wv_16 fun e_14 wv_17 =>
              ∃ (t40_7 : Bool), e_14 = .returned (.bool t40_7) ∧
              ((!t40_7) = true →
                (true = true →
                  R (.bool false) wv_17) ∧
                (true = false →
                  ∃ t50_30 : Int, t50_30 = IntKind.wrap .i64 (t9 + 1) ∧ Inv t50_30 wv_17 ∧ mu t50_30 wv_17 < mu t9 wv)) ∧
              ((!t40_7) = false →
                ∃ (t45_15 : ByteArray), Loads P 9 ((⟨r, 0, none⟩ : Addr).add 0) (.string t45_15) wv_17 ∧ ∃ (t47_15 : ByteArray), Loads P 9 ((⟨r, 0, none⟩ : Addr).add 1) (.string t47_15) wv_17 ∧ ((decide (t45_15 = t47_15)) = true →
                  R (.bool false) wv_17) ∧
                ((decide (t45_15 = t47_15)) = false →
                  ∃ t50_31 : Int, t50_31 = IntKind.wrap .i64 (t9 + 1) ∧ Inv t50_31 wv_17 ∧ mu t50_31 wv_17 < mu t9 wv))))))) ∧
    ((decide ((t9 : Int) < ((l_n : Nat) : Int))) = false →
      Calls P 78 ⟨[(.string cur)]⟩ wv fun e_15 wv_18 =>
      ∃ (t52 : Bool), e_15 = .returned (.bool t52) ∧
      (t52 = true →
        R (.bool (decide ((((l_n : Nat) : Int) : Int) ≤ 20))) wv_18) ∧
      (t52 = false →
        R (.bool false) wv_18))
theorem spec_DebtsOk_eq (cur : ByteArray) (l_p : Option Addr) (l_n : Nat) (l_c : Nat) (w : World) (R : Value → World → Prop) : spec_DebtsOk cur l_p l_n l_c w R = fsem P Tryd.f46 (fun k => cond (Nat.beq k 3) [(9, .one (.int .i64))] ([])) [(.string cur), (.slice l_p l_n l_c)] R w := by kernel_rfl
theorem spec_DebtsOk_ret {cur : ByteArray} {l_p : Option Addr} {l_n : Nat} {l_c : Nat} {w : World} {R : Value → World → Prop} (h : spec_DebtsOk cur l_p l_n l_c w R) : Ret P 46 [(.string cur), (.slice l_p l_n l_c)] w R :=
  Ret.of_fsem Tryd.func46 rfl (Eq.mp (spec_DebtsOk_eq cur l_p l_n l_c w R) h)
def spec_l16Add_j1 (l_p : Option Addr) (l_n : Nat) (l_c : Nat) (who : ByteArray) (r : Nat) (k : Int) (W_1 : World) (R : Value → World → Prop) : Prop :=
  ∀ (r_1 : Nat) (wv_6 : World), New W_1 (.cells ⟨[]⟩ 78 (0, 0)) r_1 wv_6 →
  (0 ≤ (k : Int) ∧ (k : Int) ≤ (l_c : Nat)) ∧ ∃ (t53_p : Option Addr) (t53_n : Nat) (t53_c : Nat) (wv_7 : World), Appends P [36, 36] [(.slice (some ⟨r_1, 0, none⟩) 0 0), (.slice (sub l_p 0 l_c 3) (k.toNat - 0) (l_c - 0))] (.slice t53_p t53_n t53_c) wv_6 wv_7 ∧
  ∃ (t57 : Bool), Loads P 4 ((⟨r, 0, none⟩ : Addr).add 0) (.bool t57) wv_7 ∧ ∃ (t59_p : Option Addr) (t59_n : Nat) (t59_c : Nat), Loads P 49 ((⟨r, 0, none⟩ : Addr).add 1) (.slice t59_p t59_n t59_c) wv_7 ∧ Calls P 60 ⟨[(.bool t57), (.slice t59_p t59_n t59_c)]⟩ wv_7 fun e_1 wv_8 =>
  ∃ (t600 : Bool) (t601_p : Option Addr) (t601_n : Nat) (t601_c : Nat), e_1 = .returned (.agg #[(.bool t600), (.slice t601_p t601_n t601_c)]) ∧
  ∀ (r_2 : Nat) (wv_9 : World), New wv_8 (.cells ⟨[(.string who), (.bool t600), (.slice t601_p t601_n t601_c)]⟩ 78 (0, 0)) r_2 wv_9 →
  ∃ (t63_p : Option Addr) (t63_n : Nat) (t63_c : Nat) (wv_10 : World), Appends P [36, 36] [(.slice t53_p t53_n t53_c), (.slice (some ⟨r_2, 0, none⟩) 1 1)] (.slice t63_p t63_n t63_c) wv_9 wv_10 ∧
  (0 ≤ (k : Int) ∧ (k : Int) ≤ (l_n : Nat)) ∧ ∃ (t68_p : Option Addr) (t68_n : Nat) (t68_c : Nat) (wv_11 : World), Appends P [36, 36] [(.slice t63_p t63_n t63_c), (.slice (sub l_p k.toNat l_c 3) (l_n - k.toNat) (l_c - k.toNat))] (.slice t68_p t68_n t68_c) wv_10 wv_11 ∧
  R (.slice t68_p t68_n t68_c) wv_11
def spec_l16Add_j0 (l_p : Option Addr) (l_n : Nat) (l_c : Nat) (who : ByteArray) (r : Nat) (k : Int) (t36 : Bool) (W : World) (R : Value → World → Prop) : Prop :=
  (t36 = true →
    (0 ≤ (k : Int) ∧ (k : Int) < (l_n : Nat)) ∧ ptrS l_p fun ad_2 => ∃ (t430 : Bool) (t431_p : Option Addr) (t431_n : Nat) (t431_c : Nat), (∀ wv_2, Ext W.drew wv_2 → Loads P 56 ((ad_2.add (k.toNat * 3)).add 1) (.agg #[(.bool t430), (.slice t431_p t431_n t431_c)]) wv_2) ∧ ∃ (t440 : Bool) (t441_p : Option Addr) (t441_n : Nat) (t441_c : Nat), (∀ wv_3, Ext W.drew wv_3 → Loads P 56 ⟨r, 0, none⟩ (.agg #[(.bool t440), (.slice t441_p t441_n t441_c)]) wv_3) ∧ Calls P 61 ⟨[(.agg #[(.bool t430), (.slice t431_p t431_n t431_c)]), (.agg #[(.bool t440), (.slice t441_p t441_n t441_c)])]⟩ W.drew fun e wv_4 =>
    ∃ (t450 : Bool) (t451_p : Option Addr) (t451_n : Nat) (t451_c : Nat), e = .returned (.agg #[(.bool t450), (.slice t451_p t451_n t451_c)]) ∧
    (0 ≤ (k : Int) ∧ (k : Int) < (l_n : Nat)) ∧ ptrS l_p fun ad_3 => ∃ wv_5, Stores P 56 ((ad_3.add (k.toNat * 3)).add 1) (.agg #[(.bool t450), (.slice t451_p t451_n t451_c)]) wv_4 wv_5 ∧
    R (.slice l_p l_n l_c) wv_5) ∧
  (t36 = false →
    spec_l16Add_j1 l_p l_n l_c who r k W R)
def spec_l16Add_j3 (l_p : Option Addr) (l_n : Nat) (l_c : Nat) (who : ByteArray) (r : Nat) (k : Int) (W_3 : World) (R : Value → World → Prop) : Prop :=
  ∀ (r_3 : Nat) (wv_16 : World), New W_3 (.cells ⟨[]⟩ 78 (0, 0)) r_3 wv_16 →
  (0 ≤ (k : Int) ∧ (k : Int) ≤ (l_c : Nat)) ∧ ∃ (t53_p_1 : Option Addr) (t53_n_1 : Nat) (t53_c_1 : Nat) (wv_17 : World), Appends P [36, 36] [(.slice (some ⟨r_3, 0, none⟩) 0 0), (.slice (sub l_p 0 l_c 3) (k.toNat - 0) (l_c - 0))] (.slice t53_p_1 t53_n_1 t53_c_1) wv_16 wv_17 ∧
  ∃ (t57_1 : Bool), Loads P 4 ((⟨r, 0, none⟩ : Addr).add 0) (.bool t57_1) wv_17 ∧ ∃ (t59_p_1 : Option Addr) (t59_n_1 : Nat) (t59_c_1 : Nat), Loads P 49 ((⟨r, 0, none⟩ : Addr).add 1) (.slice t59_p_1 t59_n_1 t59_c_1) wv_17 ∧ Calls P 60 ⟨[(.bool t57_1), (.slice t59_p_1 t59_n_1 t59_c_1)]⟩ wv_17 fun e_3 wv_18 =>
  ∃ (t600_1 : Bool) (t601_p_1 : Option Addr) (t601_n_1 : Nat) (t601_c_1 : Nat), e_3 = .returned (.agg #[(.bool t600_1), (.slice t601_p_1 t601_n_1 t601_c_1)]) ∧
  ∀ (r_4 : Nat) (wv_19 : World), New wv_18 (.cells ⟨[(.string who), (.bool t600_1), (.slice t601_p_1 t601_n_1 t601_c_1)]⟩ 78 (0, 0)) r_4 wv_19 →
  ∃ (t63_p_1 : Option Addr) (t63_n_1 : Nat) (t63_c_1 : Nat) (wv_20 : World), Appends P [36, 36] [(.slice t53_p_1 t53_n_1 t53_c_1), (.slice (some ⟨r_4, 0, none⟩) 1 1)] (.slice t63_p_1 t63_n_1 t63_c_1) wv_19 wv_20 ∧
  (0 ≤ (k : Int) ∧ (k : Int) ≤ (l_n : Nat)) ∧ ∃ (t68_p_1 : Option Addr) (t68_n_1 : Nat) (t68_c_1 : Nat) (wv_21 : World), Appends P [36, 36] [(.slice t63_p_1 t63_n_1 t63_c_1), (.slice (sub l_p k.toNat l_c 3) (l_n - k.toNat) (l_c - k.toNat))] (.slice t68_p_1 t68_n_1 t68_c_1) wv_20 wv_21 ∧
  R (.slice t68_p_1 t68_n_1 t68_c_1) wv_21
def spec_l16Add_j2 (l_p : Option Addr) (l_n : Nat) (l_c : Nat) (who : ByteArray) (r : Nat) (k : Int) (t36_1 : Bool) (W_2 : World) (R : Value → World → Prop) : Prop :=
  (t36_1 = true →
    (0 ≤ (k : Int) ∧ (k : Int) < (l_n : Nat)) ∧ ptrS l_p fun ad_5 => ∃ (t430_1 : Bool) (t431_p_1 : Option Addr) (t431_n_1 : Nat) (t431_c_1 : Nat), (∀ wv_12, Ext W_2.drew wv_12 → Loads P 56 ((ad_5.add (k.toNat * 3)).add 1) (.agg #[(.bool t430_1), (.slice t431_p_1 t431_n_1 t431_c_1)]) wv_12) ∧ ∃ (t440_1 : Bool) (t441_p_1 : Option Addr) (t441_n_1 : Nat) (t441_c_1 : Nat), (∀ wv_13, Ext W_2.drew wv_13 → Loads P 56 ⟨r, 0, none⟩ (.agg #[(.bool t440_1), (.slice t441_p_1 t441_n_1 t441_c_1)]) wv_13) ∧ Calls P 61 ⟨[(.agg #[(.bool t430_1), (.slice t431_p_1 t431_n_1 t431_c_1)]), (.agg #[(.bool t440_1), (.slice t441_p_1 t441_n_1 t441_c_1)])]⟩ W_2.drew fun e_2 wv_14 =>
    ∃ (t450_1 : Bool) (t451_p_1 : Option Addr) (t451_n_1 : Nat) (t451_c_1 : Nat), e_2 = .returned (.agg #[(.bool t450_1), (.slice t451_p_1 t451_n_1 t451_c_1)]) ∧
    (0 ≤ (k : Int) ∧ (k : Int) < (l_n : Nat)) ∧ ptrS l_p fun ad_6 => ∃ wv_15, Stores P 56 ((ad_6.add (k.toNat * 3)).add 1) (.agg #[(.bool t450_1), (.slice t451_p_1 t451_n_1 t451_c_1)]) wv_14 wv_15 ∧
    R (.slice l_p l_n l_c) wv_15) ∧
  (t36_1 = false →
    spec_l16Add_j3 l_p l_n l_c who r k W_2 R)
def spec_l16Add (l_p : Option Addr) (l_n : Nat) (l_c : Nat) (who : ByteArray) (x0 : Bool) (x1_p : Option Addr) (x1_n : Nat) (x1_c : Nat) (w : World) (R : Value → World → Prop) : Prop :=
  ∀ (r : Nat) (wv : World), New w (.cells ⟨[(.bool x0), (.slice x1_p x1_n x1_c)]⟩ 56 (0, 0)) r wv →
  ∃ (Inv : Int → World → Prop) (mu : Int → World → Nat), Inv 0 wv ∧
  ∀ (junk : Fr) (wv_1 : World) (k : Int), Inv k wv_1 →
    ((decide ((k : Int) < ((l_n : Nat) : Int))) = true →
      (0 ≤ (k : Int) ∧ (k : Int) < (l_n : Nat)) ∧ ptrS l_p fun ad => ∃ (t18 : ByteArray), Loads P 9 ((ad.add (k.toNat * 3)).add 0) (.string t18) wv_1 ∧ ((Op.bytesLess t18.toList who.toList) = true →
        ∃ t23 : Int, t23 = IntKind.wrap .i64 (k + 1) ∧ Inv t23 wv_1 ∧ mu t23 wv_1 < mu k wv_1) ∧
      ((Op.bytesLess t18.toList who.toList) = false →
        ((decide ((k : Int) < ((l_n : Nat) : Int))) = true →
          (0 ≤ (k : Int) ∧ (k : Int) < (l_n : Nat)) ∧ ptrS l_p fun ad_1 => ∃ (t33 : ByteArray), Loads P 9 ((ad_1.add (k.toNat * 3)).add 0) (.string t33) wv_1 ∧ spec_l16Add_j0 l_p l_n l_c who r k (decide (t33 = who)) wv_1 R) ∧
        ((decide ((k : Int) < ((l_n : Nat) : Int))) = false →
          spec_l16Add_j0 l_p l_n l_c who r k false wv_1 R))) ∧
    ((decide ((k : Int) < ((l_n : Nat) : Int))) = false →
      (false = true →
        ∃ t23_1 : Int, t23_1 = IntKind.wrap .i64 (k + 1) ∧ Inv t23_1 wv_1 ∧ mu t23_1 wv_1 < mu k wv_1) ∧
      (false = false →
        ((decide ((k : Int) < ((l_n : Nat) : Int))) = true →
          (0 ≤ (k : Int) ∧ (k : Int) < (l_n : Nat)) ∧ ptrS l_p fun ad_4 => ∃ (t33_1 : ByteArray), Loads P 9 ((ad_4.add (k.toNat * 3)).add 0) (.string t33_1) wv_1 ∧ spec_l16Add_j2 l_p l_n l_c who r k (decide (t33_1 = who)) wv_1 R) ∧
        ((decide ((k : Int) < ((l_n : Nat) : Int))) = false →
          spec_l16Add_j2 l_p l_n l_c who r k false wv_1 R)))
theorem spec_l16Add_eq (l_p : Option Addr) (l_n : Nat) (l_c : Nat) (who : ByteArray) (x0 : Bool) (x1_p : Option Addr) (x1_n : Nat) (x1_c : Nat) (w : World) (R : Value → World → Prop) : spec_l16Add l_p l_n l_c who x0 x1_p x1_n x1_c w R = fsem P Tryd.f47 (fun k => cond (Nat.beq k 3) [(7, .one (.int .i64))] ([])) [(.slice l_p l_n l_c), (.string who), (.agg #[(.bool x0), (.slice x1_p x1_n x1_c)])] R w := by kernel_rfl
theorem spec_l16Add_ret {l_p : Option Addr} {l_n : Nat} {l_c : Nat} {who : ByteArray} {x0 : Bool} {x1_p : Option Addr} {x1_n : Nat} {x1_c : Nat} {w : World} {R : Value → World → Prop} (h : spec_l16Add l_p l_n l_c who x0 x1_p x1_n x1_c w R) : Ret P 47 [(.slice l_p l_n l_c), (.string who), (.agg #[(.bool x0), (.slice x1_p x1_n x1_c)])] w R :=
  Ret.of_fsem Tryd.func47 rfl (Eq.mp (spec_l16Add_eq l_p l_n l_c who x0 x1_p x1_n x1_c w R) h)
def spec_IntNeg (x0 : Bool) (x1_p : Option Addr) (x1_n : Nat) (x1_c : Nat) (w : World) (R : Value → World → Prop) : Prop :=
  ∀ (r : Nat) (wv : World), New w (.cells ⟨[(.bool x0), (.slice x1_p x1_n x1_c)]⟩ 56 (0, 0)) r wv →
  ∀ (r_1 : Nat) (wv_1 : World), New wv (.cells ⟨[(.bool false), (.slice none 0 0)]⟩ 56 (0, 0)) r_1 wv_1 →
  ∃ (t30 : Bool) (t31_p : Option Addr) (t31_n : Nat) (t31_c : Nat), Loads P 56 ⟨r, 0, none⟩ (.agg #[(.bool t30), (.slice t31_p t31_n t31_c)]) wv_1 ∧ Calls P 79 ⟨[(.agg #[(.bool t30), (.slice t31_p t31_n t31_c)])]⟩ wv_1 fun e wv_2 =>
  ∃ (t4 : Bool), e = .returned (.bool t4) ∧
  ((!t4) = true →
    ∃ wv_3, Stores P 56 ⟨r_1, 0, none⟩ (.agg #[(.bool false), (.slice none 0 0)]) wv_2 wv_3 ∧
    ∃ (r0 : Bool) (r1_p : Option Addr) (r1_n : Nat) (r1_c : Nat), Loads P 56 ⟨r_1, 0, none⟩ (.agg #[(.bool r0), (.slice r1_p r1_n r1_c)]) wv_3 ∧ R (.agg #[(.bool r0), (.slice r1_p r1_n r1_c)]) wv_3) ∧
  ((!t4) = false →
    ∃ (t8 : Bool), Loads P 4 ((⟨r, 0, none⟩ : Addr).add 0) (.bool t8) wv_2 ∧ ∃ (t11_p : Option Addr) (t11_n : Nat) (t11_c : Nat), Loads P 49 ((⟨r, 0, none⟩ : Addr).add 1) (.slice t11_p t11_n t11_c) wv_2 ∧ Calls P 60 ⟨[(.bool (!t8)), (.slice t11_p t11_n t11_c)]⟩ wv_2 fun e_1 wv_4 =>
    ∃ (t120 : Bool) (t121_p : Option Addr) (t121_n : Nat) (t121_c : Nat), e_1 = .returned (.agg #[(.bool t120), (.slice t121_p t121_n t121_c)]) ∧
    ∃ wv_5, Stores P 56 ⟨r_1, 0, none⟩ (.agg #[(.bool t120), (.slice t121_p t121_n t121_c)]) wv_4 wv_5 ∧
    ∃ (r0_1 : Bool) (r1_p_1 : Option Addr) (r1_n_1 : Nat) (r1_c_1 : Nat), Loads P 56 ⟨r_1, 0, none⟩ (.agg #[(.bool r0_1), (.slice r1_p_1 r1_n_1 r1_c_1)]) wv_5 ∧ R (.agg #[(.bool r0_1), (.slice r1_p_1 r1_n_1 r1_c_1)]) wv_5)
theorem spec_IntNeg_eq (x0 : Bool) (x1_p : Option Addr) (x1_n : Nat) (x1_c : Nat) (w : World) (R : Value → World → Prop) : spec_IntNeg x0 x1_p x1_n x1_c w R = fsem P Tryd.f48 (fun k => []) [(.agg #[(.bool x0), (.slice x1_p x1_n x1_c)])] R w := by kernel_rfl
theorem spec_IntNeg_ret {x0 : Bool} {x1_p : Option Addr} {x1_n : Nat} {x1_c : Nat} {w : World} {R : Value → World → Prop} (h : spec_IntNeg x0 x1_p x1_n x1_c w R) : Ret P 48 [(.agg #[(.bool x0), (.slice x1_p x1_n x1_c)])] w R :=
  Ret.of_fsem Tryd.func48 rfl (Eq.mp (spec_IntNeg_eq x0 x1_p x1_n x1_c w R) h)
def impl_DebtsOk_j0 (cur : ByteArray) (l_p : Option Addr) (l_n : Nat) (W : World) (R : Value → World → Prop) : Prop :=
  ∃ (Inv : Int → World → Prop) (mu : Int → World → Nat), Inv 0 W ∧
  ∀ (junk : Fr) (wv_1 : World) (t17 : Int), Inv t17 wv_1 →
    ((decide ((t17 : Int) < ((l_n : Nat) : Int))) = true →
      (0 ≤ (t17 : Int) ∧ (t17 : Int) < (l_n : Nat)) ∧ ptrS l_p fun ad => ∃ (t200 : ByteArray) (t201 : ByteArray) (t202 : ByteArray) (t203 : Bool) (t204_p : Option Addr) (t204_n : Nat) (t204_c : Nat), Loads P 73 (ad.add (t17.toNat * 5)) (.agg #[(.string t200), (.string t201), (.string t202), (.bool t203), (.slice t204_p t204_n t204_c)]) wv_1 ∧ ∀ (r : Nat) (wv_2 : World), New wv_1 (.cells ⟨[(.string ByteArray.empty), (.string ByteArray.empty), (.string ByteArray.empty), (.bool false), (.slice none 0 0)]⟩ 73 (0, 0)) r wv_2 →
      ∃ wv_3, Stores P 73 ⟨r, 0, none⟩ (.agg #[(.string t200), (.string t201), (.string t202), (.bool t203), (.slice t204_p t204_n t204_c)]) wv_2 wv_3 ∧
      ∃ (t220 : ByteArray) (t221 : Bool) (t222_p : Option Addr) (t222_n : Nat) (t222_c : Nat), Loads P 58 ((⟨r, 0, none⟩ : Addr).add 2) (.agg #[(.string t220), (.bool t221), (.slice t222_p t222_n t222_c)]) wv_3 ∧ Calls P 40 ⟨[(.agg #[(.string t220), (.bool t221), (.slice t222_p t222_n t222_c)])]⟩ wv_3 fun e_1 wv_4 =>
      ∃ (t23 : Bool), e_1 = .returned (.bool t23) ∧
      ((!t23) = true →
        (true = true →
          (true = true →
            (true = true →
              (true = true →
                (true = true →
                  R (.bool false) wv_4) ∧
                (true = false →
                  ∃ t58 : Int, t58 = IntKind.wrap .i64 (t17 + 1) ∧ Inv t58 wv_4 ∧ mu t58 wv_4 < mu t17 wv_1)) ∧
              (true = false →
                ∃ (t53 : ByteArray), Loads P 9 ((⟨r, 0, none⟩ : Addr).add 0) (.string t53) wv_4 ∧ ∃ (t55 : ByteArray), Loads P 9 ((⟨r, 0, none⟩ : Addr).add 1) (.string t55) wv_4 ∧ ((decide (t53 = t55)) = true →
                  R (.bool false) wv_4) ∧
                ((decide (t53 = t55)) = false →
                  ∃ t58_1 : Int, t58_1 = IntKind.wrap .i64 (t17 + 1) ∧ Inv t58_1 wv_4 ∧ mu t58_1 wv_4 < mu t17 wv_1))) ∧
            (true = false →
              ∃ (t47 : ByteArray), Loads P 9 ((⟨r, 0, none⟩ : Addr).add 1) (.string t47) wv_4 ∧ Calls P 73 ⟨[(.string t47)]⟩ wv_4 fun e_2 wv_5 =>
              ∃ (t48 : Bool), e_2 = .returned (.bool t48) ∧
              ((!t48) = true →
                (true = true →
                  R (.bool false) wv_5) ∧
                (true = false →
                  ∃ t58_2 : Int, t58_2 = IntKind.wrap .i64 (t17 + 1) ∧ Inv t58_2 wv_5 ∧ mu t58_2 wv_5 < mu t17 wv_1)) ∧
              ((!t48) = false →
                ∃ (t53_1 : ByteArray), Loads P 9 ((⟨r, 0, none⟩ : Addr).add 0) (.string t53_1) wv_5 ∧ ∃ (t55_1 : ByteArray), Loads P 9 ((⟨r, 0, none⟩ : Addr).add 1) (.string t55_1) wv_5 ∧ ((decide (t53_1 = t55_1)) = true →
                  R (.bool false) wv_5) ∧
                ((decide (t53_1 = t55_1)) = false →
                  ∃ t58_3 : Int, t58_3 = IntKind.wrap .i64 (t17 + 1) ∧ Inv t58_3 wv_5 ∧ mu t58_3 wv_5 < mu t17 wv_1)))) ∧
          (true = false →
            ∃ (t41 : ByteArray), Loads P 9 ((⟨r, 0, none⟩ : Addr).add 0) (.string t41) wv_4 ∧ Calls P 73 ⟨[(.string t41)]⟩ wv_4 fun e_3 wv_6 =>
            ∃ (t42 : Bool), e_3 = .returned (.bool t42) ∧
            ((!t42) = true →
              (true = true →
                (true = true →
                  R (.bool false) wv_6) ∧
                (true = false →
                  ∃ t58_4 : Int, t58_4 = IntKind.wrap .i64 (t17 + 1) ∧ Inv t58_4 wv_6 ∧ mu t58_4 wv_6 < mu t17 wv_1)) ∧
              (true = false →
                ∃ (t53_2 : ByteArray), Loads P 9 ((⟨r, 0, none⟩ : Addr).add 0) (.string t53_2) wv_6 ∧ ∃ (t55_2 : ByteArray), Loads P 9 ((⟨r, 0, none⟩ : Addr).add 1) (.string t55_2) wv_6 ∧ ((decide (t53_2 = t55_2)) = true →
                  R (.bool false) wv_6) ∧
                ((decide (t53_2 = t55_2)) = false →
                  ∃ t58_5 : Int, t58_5 = IntKind.wrap .i64 (t17 + 1) ∧ Inv t58_5 wv_6 ∧ mu t58_5 wv_6 < mu t17 wv_1))) ∧
            ((!t42) = false →
              ∃ (t47_1 : ByteArray), Loads P 9 ((⟨r, 0, none⟩ : Addr).add 1) (.string t47_1) wv_6 ∧ Calls P 73 ⟨[(.string t47_1)]⟩ wv_6 fun e_4 wv_7 =>
              ∃ (t48_1 : Bool), e_4 = .returned (.bool t48_1) ∧
              ((!t48_1) = true →
                (true = true →
                  R (.bool false) wv_7) ∧
                (true = false →
                  ∃ t58_6 : Int, t58_6 = IntKind.wrap .i64 (t17 + 1) ∧ Inv t58_6 wv_7 ∧ mu t58_6 wv_7 < mu t17 wv_1)) ∧
              ((!t48_1) = false →
                ∃ (t53_3 : ByteArray), Loads P 9 ((⟨r, 0, none⟩ : Addr).add 0) (.string t53_3) wv_7 ∧ ∃ (t55_3 : ByteArray), Loads P 9 ((⟨r, 0, none⟩ : Addr).add 1) (.string t55_3) wv_7 ∧ ((decide (t53_3 = t55_3)) = true →
                  R (.bool false) wv_7) ∧
                ((decide (t53_3 = t55_3)) = false →
                  ∃ t58_7 : Int, t58_7 = IntKind.wrap .i64 (t17 + 1) ∧ Inv t58_7 wv_7 ∧ mu t58_7 wv_7 < mu t17 wv_1))))) ∧
        (true = false →
          ∃ (t350 : Bool) (t351_p : Option Addr) (t351_n : Nat) (t351_c : Nat), Loads P 56 (((⟨r, 0, none⟩ : Addr).add 2).add 1) (.agg #[(.bool t350), (.slice t351_p t351_n t351_c)]) wv_4 ∧ Calls P 64 ⟨[(.agg #[(.bool t350), (.slice t351_p t351_n t351_c)])]⟩ wv_4 fun e_5 wv_8 =>
          ∃ (t36 : Int), e_5 = .returned (.int .i64 t36) ∧
          ((decide ((t36 : Int) ≤ 0)) = true →
            (true = true →
              (true = true →
                (true = true →
                  R (.bool false) wv_8) ∧
                (true = false →
                  ∃ t58_8 : Int, t58_8 = IntKind.wrap .i64 (t17 + 1) ∧ Inv t58_8 wv_8 ∧ mu t58_8 wv_8 < mu t17 wv_1)) ∧
              (true = false →
                ∃ (t53_4 : ByteArray), Loads P 9 ((⟨r, 0, none⟩ : Addr).add 0) (.string t53_4) wv_8 ∧ ∃ (t55_4 : ByteArray), Loads P 9 ((⟨r, 0, none⟩ : Addr).add 1) (.string t55_4) wv_8 ∧ ((decide (t53_4 = t55_4)) = true →
                  R (.bool false) wv_8) ∧
                ((decide (t53_4 = t55_4)) = false →
                  ∃ t58_9 : Int, t58_9 = IntKind.wrap .i64 (t17 + 1) ∧ Inv t58_9 wv_8 ∧ mu t58_9 wv_8 < mu t17 wv_1))) ∧
            (true = false →
              ∃ (t47_2 : ByteArray), Loads P 9 ((⟨r, 0, none⟩ : Addr).add 1) (.string t47_2) wv_8 ∧ Calls P 73 ⟨[(.string t47_2)]⟩ wv_8 fun e_6 wv_9 =>
              ∃ (t48_2 : Bool), e_6 = .returned (.bool t48_2) ∧
              ((!t48_2) = true →
                (true = true →
                  R (.bool false) wv_9) ∧
                (true = false →
                  ∃ t58_10 : Int, t58_10 = IntKind.wrap .i64 (t17 + 1) ∧ Inv t58_10 wv_9 ∧ mu t58_10 wv_9 < mu t17 wv_1)) ∧
              ((!t48_2) = false →
                ∃ (t53_5 : ByteArray), Loads P 9 ((⟨r, 0, none⟩ : Addr).add 0) (.string t53_5) wv_9 ∧ ∃ (t55_5 : ByteArray), Loads P 9 ((⟨r, 0, none⟩ : Addr).add 1) (.string t55_5) wv_9 ∧ ((decide (t53_5 = t55_5)) = true →
                  R (.bool false) wv_9) ∧
                ((decide (t53_5 = t55_5)) = false →
                  ∃ t58_11 : Int, t58_11 = IntKind.wrap .i64 (t17 + 1) ∧ Inv t58_11 wv_9 ∧ mu t58_11 wv_9 < mu t17 wv_1)))) ∧
          ((decide ((t36 : Int) ≤ 0)) = false →
            ∃ (t41_1 : ByteArray), Loads P 9 ((⟨r, 0, none⟩ : Addr).add 0) (.string t41_1) wv_8 ∧ Calls P 73 ⟨[(.string t41_1)]⟩ wv_8 fun e_7 wv_10 =>
            ∃ (t42_1 : Bool), e_7 = .returned (.bool t42_1) ∧
            ((!t42_1) = true →
              (true = true →
                (true = true →
                  R (.bool false) wv_10) ∧
                (true = false →
                  ∃ t58_12 : Int, t58_12 = IntKind.wrap .i64 (t17 + 1) ∧ Inv t58_12 wv_10 ∧ mu t58_12 wv_10 < mu t17 wv_1)) ∧
              (true = false →
                ∃ (t53_6 : ByteArray), Loads P 9 ((⟨r, 0, none⟩ : Addr).add 0) (.string t53_6) wv_10 ∧ ∃ (t55_6 : ByteArray), Loads P 9 ((⟨r, 0, none⟩ : Addr).add 1) (.string t55_6) wv_10 ∧ ((decide (t53_6 = t55_6)) = true →
                  R (.bool false) wv_10) ∧
                ((decide (t53_6 = t55_6)) = false →
                  ∃ t58_13 : Int, t58_13 = IntKind.wrap .i64 (t17 + 1) ∧ Inv t58_13 wv_10 ∧ mu t58_13 wv_10 < mu t17 wv_1))) ∧
            ((!t42_1) = false →
              ∃ (t47_3 : ByteArray), Loads P 9 ((⟨r, 0, none⟩ : Addr).add 1) (.string t47_3) wv_10 ∧ Calls P 73 ⟨[(.string t47_3)]⟩ wv_10 fun e_8 wv_11 =>
              ∃ (t48_3 : Bool), e_8 = .returned (.bool t48_3) ∧
              ((!t48_3) = true →
                (true = true →
                  R (.bool false) wv_11) ∧
                (true = false →
                  ∃ t58_14 : Int, t58_14 = IntKind.wrap .i64 (t17 + 1) ∧ Inv t58_14 wv_11 ∧ mu t58_14 wv_11 < mu t17 wv_1)) ∧
              ((!t48_3) = false →
                ∃ (t53_7 : ByteArray), Loads P 9 ((⟨r, 0, none⟩ : Addr).add 0) (.string t53_7) wv_11 ∧ ∃ (t55_7 : ByteArray), Loads P 9 ((⟨r, 0, none⟩ : Addr).add 1) (.string t55_7) wv_11 ∧ ((decide (t53_7 = t55_7)) = true →
                  R (.bool false) wv_11) ∧
                ((decide (t53_7 = t55_7)) = false →
                  ∃ t58_15 : Int, t58_15 = IntKind.wrap .i64 (t17 + 1) ∧ Inv t58_15 wv_11 ∧ mu t58_15 wv_11 < mu t17 wv_1)))))) ∧
      ((!t23) = false →
        ∃ (t28 : ByteArray), Loads P 9 (((⟨r, 0, none⟩ : Addr).add 2).add 0) (.string t28) wv_4 ∧ ((decide (t28 ≠ cur)) = true →
          (true = true →
            (true = true →
              (true = true →
                (true = true →
                  R (.bool false) wv_4) ∧
                (true = false →
                  ∃ t58_16 : Int, t58_16 = IntKind.wrap .i64 (t17 + 1) ∧ Inv t58_16 wv_4 ∧ mu t58_16 wv_4 < mu t17 wv_1)) ∧
              (true = false →
                ∃ (t53_8 : ByteArray), Loads P 9 ((⟨r, 0, none⟩ : Addr).add 0) (.string t53_8) wv_4 ∧ ∃ (t55_8 : ByteArray), Loads P 9 ((⟨r, 0, none⟩ : Addr).add 1) (.string t55_8) wv_4 ∧ ((decide (t53_8 = t55_8)) = true →
                  R (.bool false) wv_4) ∧
                ((decide (t53_8 = t55_8)) = false →
                  ∃ t58_17 : Int, t58_17 = IntKind.wrap .i64 (t17 + 1) ∧ Inv t58_17 wv_4 ∧ mu t58_17 wv_4 < mu t17 wv_1))) ∧
            (true = false →
              ∃ (t47_4 : ByteArray), Loads P 9 ((⟨r, 0, none⟩ : Addr).add 1) (.string t47_4) wv_4 ∧ Calls P 73 ⟨[(.string t47_4)]⟩ wv_4 fun e_9 wv_12 =>
              ∃ (t48_4 : Bool), e_9 = .returned (.bool t48_4) ∧
              ((!t48_4) = true →
                (true = true →
                  R (.bool false) wv_12) ∧
                (true = false →
                  ∃ t58_18 : Int, t58_18 = IntKind.wrap .i64 (t17 + 1) ∧ Inv t58_18 wv_12 ∧ mu t58_18 wv_12 < mu t17 wv_1)) ∧
              ((!t48_4) = false →
                ∃ (t53_9 : ByteArray), Loads P 9 ((⟨r, 0, none⟩ : Addr).add 0) (.string t53_9) wv_12 ∧ ∃ (t55_9 : ByteArray), Loads P 9 ((⟨r, 0, none⟩ : Addr).add 1) (.string t55_9) wv_12 ∧ ((decide (t53_9 = t55_9)) = true →
                  R (.bool false) wv_12) ∧
                ((decide (t53_9 = t55_9)) = false →
                  ∃ t58_19 : Int, t58_19 = IntKind.wrap .i64 (t17 + 1) ∧ Inv t58_19 wv_12 ∧ mu t58_19 wv_12 < mu t17 wv_1)))) ∧
          (true = false →
            ∃ (t41_2 : ByteArray), Loads P 9 ((⟨r, 0, none⟩ : Addr).add 0) (.string t41_2) wv_4 ∧ Calls P 73 ⟨[(.string t41_2)]⟩ wv_4 fun e_10 wv_13 =>
            ∃ (t42_2 : Bool), e_10 = .returned (.bool t42_2) ∧
            ((!t42_2) = true →
              (true = true →
                (true = true →
                  R (.bool false) wv_13) ∧
                (true = false →
                  ∃ t58_20 : Int, t58_20 = IntKind.wrap .i64 (t17 + 1) ∧ Inv t58_20 wv_13 ∧ mu t58_20 wv_13 < mu t17 wv_1)) ∧
              (true = false →
                ∃ (t53_10 : ByteArray), Loads P 9 ((⟨r, 0, none⟩ : Addr).add 0) (.string t53_10) wv_13 ∧ ∃ (t55_10 : ByteArray), Loads P 9 ((⟨r, 0, none⟩ : Addr).add 1) (.string t55_10) wv_13 ∧ ((decide (t53_10 = t55_10)) = true →
                  R (.bool false) wv_13) ∧
                ((decide (t53_10 = t55_10)) = false →
                  ∃ t58_21 : Int, t58_21 = IntKind.wrap .i64 (t17 + 1) ∧ Inv t58_21 wv_13 ∧ mu t58_21 wv_13 < mu t17 wv_1))) ∧
            ((!t42_2) = false →
              ∃ (t47_5 : ByteArray), Loads P 9 ((⟨r, 0, none⟩ : Addr).add 1) (.string t47_5) wv_13 ∧ Calls P 73 ⟨[(.string t47_5)]⟩ wv_13 fun e_11 wv_14 =>
              ∃ (t48_5 : Bool), e_11 = .returned (.bool t48_5) ∧
              ((!t48_5) = true →
                (true = true →
                  R (.bool false) wv_14) ∧
                (true = false →
                  ∃ t58_22 : Int, t58_22 = IntKind.wrap .i64 (t17 + 1) ∧ Inv t58_22 wv_14 ∧ mu t58_22 wv_14 < mu t17 wv_1)) ∧
              ((!t48_5) = false →
                ∃ (t53_11 : ByteArray), Loads P 9 ((⟨r, 0, none⟩ : Addr).add 0) (.string t53_11) wv_14 ∧ ∃ (t55_11 : ByteArray), Loads P 9 ((⟨r, 0, none⟩ : Addr).add 1) (.string t55_11) wv_14 ∧ ((decide (t53_11 = t55_11)) = true →
                  R (.bool false) wv_14) ∧
                ((decide (t53_11 = t55_11)) = false →
                  ∃ t58_23 : Int, t58_23 = IntKind.wrap .i64 (t17 + 1) ∧ Inv t58_23 wv_14 ∧ mu t58_23 wv_14 < mu t17 wv_1))))) ∧
        ((decide (t28 ≠ cur)) = false →
          ∃ (t350_1 : Bool) (t351_p_1 : Option Addr) (t351_n_1 : Nat) (t351_c_1 : Nat), Loads P 56 (((⟨r, 0, none⟩ : Addr).add 2).add 1) (.agg #[(.bool t350_1), (.slice t351_p_1 t351_n_1 t351_c_1)]) wv_4 ∧ Calls P 64 ⟨[(.agg #[(.bool t350_1), (.slice t351_p_1 t351_n_1 t351_c_1)])]⟩ wv_4 fun e_12 wv_15 =>
          ∃ (t36_1 : Int), e_12 = .returned (.int .i64 t36_1) ∧
          ((decide ((t36_1 : Int) ≤ 0)) = true →
            (true = true →
              (true = true →
                (true = true →
                  R (.bool false) wv_15) ∧
                (true = false →
                  ∃ t58_24 : Int, t58_24 = IntKind.wrap .i64 (t17 + 1) ∧ Inv t58_24 wv_15 ∧ mu t58_24 wv_15 < mu t17 wv_1)) ∧
              (true = false →
                ∃ (t53_12 : ByteArray), Loads P 9 ((⟨r, 0, none⟩ : Addr).add 0) (.string t53_12) wv_15 ∧ ∃ (t55_12 : ByteArray), Loads P 9 ((⟨r, 0, none⟩ : Addr).add 1) (.string t55_12) wv_15 ∧ ((decide (t53_12 = t55_12)) = true →
                  R (.bool false) wv_15) ∧
                ((decide (t53_12 = t55_12)) = false →
                  ∃ t58_25 : Int, t58_25 = IntKind.wrap .i64 (t17 + 1) ∧ Inv t58_25 wv_15 ∧ mu t58_25 wv_15 < mu t17 wv_1))) ∧
            (true = false →
              ∃ (t47_6 : ByteArray), Loads P 9 ((⟨r, 0, none⟩ : Addr).add 1) (.string t47_6) wv_15 ∧ Calls P 73 ⟨[(.string t47_6)]⟩ wv_15 fun e_13 wv_16 =>
              ∃ (t48_6 : Bool), e_13 = .returned (.bool t48_6) ∧
              ((!t48_6) = true →
                (true = true →
                  R (.bool false) wv_16) ∧
                (true = false →
                  ∃ t58_26 : Int, t58_26 = IntKind.wrap .i64 (t17 + 1) ∧ Inv t58_26 wv_16 ∧ mu t58_26 wv_16 < mu t17 wv_1)) ∧
              ((!t48_6) = false →
                ∃ (t53_13 : ByteArray), Loads P 9 ((⟨r, 0, none⟩ : Addr).add 0) (.string t53_13) wv_16 ∧ ∃ (t55_13 : ByteArray), Loads P 9 ((⟨r, 0, none⟩ : Addr).add 1) (.string t55_13) wv_16 ∧ ((decide (t53_13 = t55_13)) = true →
                  R (.bool false) wv_16) ∧
                ((decide (t53_13 = t55_13)) = false →
                  ∃ t58_27 : Int, t58_27 = IntKind.wrap .i64 (t17 + 1) ∧ Inv t58_27 wv_16 ∧ mu t58_27 wv_16 < mu t17 wv_1)))) ∧
          ((decide ((t36_1 : Int) ≤ 0)) = false →
            ∃ (t41_3 : ByteArray), Loads P 9 ((⟨r, 0, none⟩ : Addr).add 0) (.string t41_3) wv_15 ∧ Calls P 73 ⟨[(.string t41_3)]⟩ wv_15 fun e_14 wv_17 =>
            ∃ (t42_3 : Bool), e_14 = .returned (.bool t42_3) ∧
            ((!t42_3) = true →
              (true = true →
                (true = true →
                  R (.bool false) wv_17) ∧
                (true = false →
                  ∃ t58_28 : Int, t58_28 = IntKind.wrap .i64 (t17 + 1) ∧ Inv t58_28 wv_17 ∧ mu t58_28 wv_17 < mu t17 wv_1)) ∧
              (true = false →
                ∃ (t53_14 : ByteArray), Loads P 9 ((⟨r, 0, none⟩ : Addr).add 0) (.string t53_14) wv_17 ∧ ∃ (t55_14 : ByteArray), Loads P 9 ((⟨r, 0, none⟩ : Addr).add 1) (.string t55_14) wv_17 ∧ ((decide (t53_14 = t55_14)) = true →
                  R (.bool false) wv_17) ∧
                ((decide (t53_14 = t55_14)) = false →
                  ∃ t58_29 : Int, t58_29 = IntKind.wrap .i64 (t17 + 1) ∧ Inv t58_29 wv_17 ∧ mu t58_29 wv_17 < mu t17 wv_1))) ∧
            ((!t42_3) = false →
              ∃ (t47_7 : ByteArray), Loads P 9 ((⟨r, 0, none⟩ : Addr).add 1) (.string t47_7) wv_17 ∧ Calls P 73 ⟨[(.string t47_7)]⟩ wv_17 fun e_15 wv_18 =>
              ∃ (t48_7 : Bool), e_15 = .returned (.bool t48_7) ∧
              ((!t48_7) = true →
                (true = true →
                  R (.bool false) wv_18) ∧
                (true = false →
                  ∃ t58_30 : Int, t58_30 = IntKind.wrap .i64 (t17 + 1) ∧ Inv t58_30 wv_18 ∧ mu t58_30 wv_18 < mu t17 wv_1)) ∧
              ((!t48_7) = false →
                ∃ (t53_15 : ByteArray), Loads P 9 ((⟨r, 0, none⟩ : Addr).add 0) (.string t53_15) wv_18 ∧ ∃ (t55_15 : ByteArray), Loads P 9 ((⟨r, 0, none⟩ : Addr).add 1) (.string t55_15) wv_18 ∧ ((decide (t53_15 = t55_15)) = true →
                  R (.bool false) wv_18) ∧
                ((decide (t53_15 = t55_15)) = false →
                  ∃ t58_31 : Int, t58_31 = IntKind.wrap .i64 (t17 + 1) ∧ Inv t58_31 wv_18 ∧ mu t58_31 wv_18 < mu t17 wv_1))))))) ∧
    ((decide ((t17 : Int) < ((l_n : Nat) : Int))) = false →
      R (.bool true) wv_1)
def impl_DebtsOk (cur : ByteArray) (l_p : Option Addr) (l_n : Nat) (l_c : Nat) (w : World) (R : Value → World → Prop) : Prop :=
  Calls P 80 ⟨[(.string cur)]⟩ w fun e wv =>
  ∃ (t8 : Bool), e = .returned (.bool t8) ∧
  ((!t8) = true →
    (true = true →
      R (.bool false) wv) ∧
    (true = false →
      impl_DebtsOk_j0 cur l_p l_n wv R)) ∧
  ((!t8) = false →
    ((decide ((20 : Int) < ((l_n : Nat) : Int))) = true →
      R (.bool false) wv) ∧
    ((decide ((20 : Int) < ((l_n : Nat) : Int))) = false →
      impl_DebtsOk_j0 cur l_p l_n wv R))
theorem impl_DebtsOk_eq (cur : ByteArray) (l_p : Option Addr) (l_n : Nat) (l_c : Nat) (w : World) (R : Value → World → Prop) : impl_DebtsOk cur l_p l_n l_c w R = fsem P Tryd.f50 (fun k => cond (Nat.beq k 5) [(17, .one (.int .i64))] ([])) [(.string cur), (.slice l_p l_n l_c)] R w := by kernel_rfl
theorem impl_DebtsOk_ret {cur : ByteArray} {l_p : Option Addr} {l_n : Nat} {l_c : Nat} {w : World} {R : Value → World → Prop} (h : impl_DebtsOk cur l_p l_n l_c w R) : Ret P 50 [(.string cur), (.slice l_p l_n l_c)] w R :=
  Ret.of_fsem Tryd.func50 rfl (Eq.mp (impl_DebtsOk_eq cur l_p l_n l_c w R) h)
def impl_Positions_1 (a0 : ByteArray) (a1 : Bool) (a2_p : Option Addr) (a2_n : Nat) (a2_c : Nat) (b0 : ByteArray) (b1 : Bool) (b2_p : Option Addr) (b2_n : Nat) (b2_c : Nat) (w : World) (R : Value → World → Prop) : Prop :=
  ∀ (r : Nat) (wv : World), New w (.cells ⟨[(.string a0), (.bool a1), (.slice a2_p a2_n a2_c)]⟩ 78 (0, 0)) r wv →
  ∀ (r_1 : Nat) (wv_1 : World), New wv (.cells ⟨[(.string b0), (.bool b1), (.slice b2_p b2_n b2_c)]⟩ 78 (0, 0)) r_1 wv_1 →
  ∃ (t7 : ByteArray), Loads P 9 ((⟨r, 0, none⟩ : Addr).add 0) (.string t7) wv_1 ∧ ∃ (t9 : ByteArray), Loads P 9 ((⟨r_1, 0, none⟩ : Addr).add 0) (.string t9) wv_1 ∧ ((Op.bytesLess t7.toList t9.toList) = true →
    R (.int .i64 (-1)) wv_1) ∧
  ((Op.bytesLess t7.toList t9.toList) = false →
    ∃ (t13 : ByteArray), Loads P 9 ((⟨r, 0, none⟩ : Addr).add 0) (.string t13) wv_1 ∧ ∃ (t15 : ByteArray), Loads P 9 ((⟨r_1, 0, none⟩ : Addr).add 0) (.string t15) wv_1 ∧ ((!(Op.bytesLess t13.toList t15.toList || decide (t13 = t15))) = true →
      R (.int .i64 1) wv_1) ∧
    ((!(Op.bytesLess t13.toList t15.toList || decide (t13 = t15))) = false →
      R (.int .i64 0) wv_1))
theorem impl_Positions_1_eq (a0 : ByteArray) (a1 : Bool) (a2_p : Option Addr) (a2_n : Nat) (a2_c : Nat) (b0 : ByteArray) (b1 : Bool) (b2_p : Option Addr) (b2_n : Nat) (b2_c : Nat) (w : World) (R : Value → World → Prop) : impl_Positions_1 a0 a1 a2_p a2_n a2_c b0 b1 b2_p b2_n b2_c w R = fsem P Tryd.f51 (fun k => []) [(.agg #[(.string a0), (.bool a1), (.slice a2_p a2_n a2_c)]), (.agg #[(.string b0), (.bool b1), (.slice b2_p b2_n b2_c)])] R w := by kernel_rfl
theorem impl_Positions_1_ret {a0 : ByteArray} {a1 : Bool} {a2_p : Option Addr} {a2_n : Nat} {a2_c : Nat} {b0 : ByteArray} {b1 : Bool} {b2_p : Option Addr} {b2_n : Nat} {b2_c : Nat} {w : World} {R : Value → World → Prop} (h : impl_Positions_1 a0 a1 a2_p a2_n a2_c b0 b1 b2_p b2_n b2_c w R) : Ret P 51 [(.agg #[(.string a0), (.bool a1), (.slice a2_p a2_n a2_c)]), (.agg #[(.string b0), (.bool b1), (.slice b2_p b2_n b2_c)])] w R :=
  Ret.of_fsem Tryd.func51 rfl (Eq.mp (impl_Positions_1_eq a0 a1 a2_p a2_n a2_c b0 b1 b2_p b2_n b2_c w R) h)
def impl_ordered_impl_Pos_at_j0 (o : Option Addr) (t17 : Int) (W : World) (R : Value → World → Prop) : Prop :=
  ptrS o fun ad_4 => ∃ (t36_p : Option Addr) (t36_n : Nat) (t36_c : Nat), Loads P 36 (ad_4.add 0) (.slice t36_p t36_n t36_c) W ∧ (0 ≤ (t17 : Int) ∧ (t17 : Int) < (t36_n : Nat)) ∧ ptrS t36_p fun ad_5 => R (.pointer (some (ad_5.add (t17.toNat * 3)))) W
def impl_ordered_impl_Pos_at (o : Option Addr) (x0 : ByteArray) (x1 : Bool) (x2_p : Option Addr) (x2_n : Nat) (x2_c : Nat) (w : World) (R : Value → World → Prop) : Prop :=
  ∀ (r : Nat) (wv : World), New w (.cells ⟨[(.string x0), (.bool x1), (.slice x2_p x2_n x2_c)]⟩ 78 (0, 0)) r wv →
  ptrS o fun ad => ∃ (t11_p : Option Addr) (t11_n : Nat) (t11_c : Nat), (∀ wv_1, Ext wv.drew wv_1 → Loads P 36 (ad.add 0) (.slice t11_p t11_n t11_c) wv_1) ∧ ∃ (t120 : ByteArray) (t121 : Bool) (t122_p : Option Addr) (t122_n : Nat) (t122_c : Nat), (∀ wv_2, Ext wv.drew wv_2 → Loads P 78 ⟨r, 0, none⟩ (.agg #[(.string t120), (.bool t121), (.slice t122_p t122_n t122_c)]) wv_2) ∧ ptrS o fun ad_1 => ∃ (t16 : Value), (∀ wv_3, Ext wv.drew wv_3 → Loads P 79 (ad_1.add 1) t16 wv_3) ∧ Calls P 82 ⟨[(.slice t11_p t11_n t11_c), (.agg #[(.string t120), (.bool t121), (.slice t122_p t122_n t122_c)]), t16]⟩ wv.drew fun e wv_4 =>
  ∃ (t17 : Int) (t17_1 : Bool), e = .returned (.tuple #[(.int .i64 t17), (.bool t17_1)]) ∧
  ((!t17_1) = true →
    ptrS o fun ad_2 => ∃ (t26_p : Option Addr) (t26_n : Nat) (t26_c : Nat), (∀ wv_5, Ext wv_4.drew wv_5 → Loads P 36 (ad_2.add 0) (.slice t26_p t26_n t26_c) wv_5) ∧ ∃ (t280 : ByteArray) (t281 : Bool) (t282_p : Option Addr) (t282_n : Nat) (t282_c : Nat), (∀ wv_6, Ext wv_4.drew wv_6 → Loads P 78 ⟨r, 0, none⟩ (.agg #[(.string t280), (.bool t281), (.slice t282_p t282_n t282_c)]) wv_6) ∧ ∀ (r_1 : Nat) (wv_7 : World), New wv_4.drew (.cells ⟨[(.string t280), (.bool t281), (.slice t282_p t282_n t282_c)]⟩ 78 (0, 0)) r_1 wv_7 →
    Ext wv_4.drew wv_7 ∧ Calls P 83 ⟨[(.slice t26_p t26_n t26_c), (.int .i64 t17), (.slice (some ⟨r_1, 0, none⟩) 1 1)]⟩ wv_7 fun e_1 wv_8 =>
    ∃ (t30_p : Option Addr) (t30_n : Nat) (t30_c : Nat), e_1 = .returned (.slice t30_p t30_n t30_c) ∧
    ptrS o fun ad_3 => ∃ wv_9, Stores P 36 (ad_3.add 0) (.slice t30_p t30_n t30_c) wv_8 wv_9 ∧
    impl_ordered_impl_Pos_at_j0 o t17 wv_9 R) ∧
  ((!t17_1) = false →
    impl_ordered_impl_Pos_at_j0 o t17 wv_4 R)
theorem impl_ordered_impl_Pos_at_eq (o : Option Addr) (x0 : ByteArray) (x1 : Bool) (x2_p : Option Addr) (x2_n : Nat) (x2_c : Nat) (w : World) (R : Value → World → Prop) : impl_ordered_impl_Pos_at o x0 x1 x2_p x2_n x2_c w R = fsem P Tryd.f52 (fun k => []) [(.pointer o), (.agg #[(.string x0), (.bool x1), (.slice x2_p x2_n x2_c)])] R w := by kernel_rfl
theorem impl_ordered_impl_Pos_at_ret {o : Option Addr} {x0 : ByteArray} {x1 : Bool} {x2_p : Option Addr} {x2_n : Nat} {x2_c : Nat} {w : World} {R : Value → World → Prop} (h : impl_ordered_impl_Pos_at o x0 x1 x2_p x2_n x2_c w R) : Ret P 52 [(.pointer o), (.agg #[(.string x0), (.bool x1), (.slice x2_p x2_n x2_c)])] w R :=
  Ret.of_fsem Tryd.func52 rfl (Eq.mp (impl_ordered_impl_Pos_at_eq o x0 x1 x2_p x2_n x2_c w R) h)
def impl_intAdd_j0 (r : Nat) (r_1 : Nat) (r_2 : Nat) (W : World) (R : Value → World → Prop) : Prop :=
  ∃ (t27 : Bool), (∀ wv_12, Ext W.drew wv_12 → Loads P 4 ((⟨r, 0, none⟩ : Addr).add 0) (.bool t27) wv_12) ∧ ∃ (t29_p : Option Addr) (t29_n : Nat) (t29_c : Nat), (∀ wv_13, Ext W.drew wv_13 → Loads P 49 ((⟨r, 0, none⟩ : Addr).add 1) (.slice t29_p t29_n t29_c) wv_13) ∧ ∃ (t31_p : Option Addr) (t31_n : Nat) (t31_c : Nat), (∀ wv_14, Ext W.drew wv_14 → Loads P 49 ((⟨r_1, 0, none⟩ : Addr).add 1) (.slice t31_p t31_n t31_c) wv_14) ∧ Calls P 86 ⟨[(.slice t29_p t29_n t29_c), (.slice t31_p t31_n t31_c)]⟩ W.drew fun e_3 wv_15 =>
  ∃ (t32_p : Option Addr) (t32_n : Nat) (t32_c : Nat), e_3 = .returned (.slice t32_p t32_n t32_c) ∧
  Ext W.drew wv_15 ∧ Calls P 84 ⟨[(.bool t27), (.slice t32_p t32_n t32_c)]⟩ wv_15 fun e_4 wv_16 =>
  ∃ (t330 : Bool) (t331_p : Option Addr) (t331_n : Nat) (t331_c : Nat), e_4 = .returned (.agg #[(.bool t330), (.slice t331_p t331_n t331_c)]) ∧
  ∃ wv_17, Stores P 56 ⟨r_2, 0, none⟩ (.agg #[(.bool t330), (.slice t331_p t331_n t331_c)]) wv_16 wv_17 ∧
  ∃ (r0_1 : Bool) (r1_p_1 : Option Addr) (r1_n_1 : Nat) (r1_c_1 : Nat), Loads P 56 ⟨r_2, 0, none⟩ (.agg #[(.bool r0_1), (.slice r1_p_1 r1_n_1 r1_c_1)]) wv_17 ∧ R (.agg #[(.bool r0_1), (.slice r1_p_1 r1_n_1 r1_c_1)]) wv_17
def impl_intAdd (x0 : Bool) (x1_p : Option Addr) (x1_n : Nat) (x1_c : Nat) (y0 : Bool) (y1_p : Option Addr) (y1_n : Nat) (y1_c : Nat) (w : World) (R : Value → World → Prop) : Prop :=
  ∀ (r : Nat) (wv : World), New w (.cells ⟨[(.bool x0), (.slice x1_p x1_n x1_c)]⟩ 56 (0, 0)) r wv →
  ∀ (r_1 : Nat) (wv_1 : World), New wv (.cells ⟨[(.bool y0), (.slice y1_p y1_n y1_c)]⟩ 56 (0, 0)) r_1 wv_1 →
  ∀ (r_2 : Nat) (wv_2 : World), New wv_1 (.cells ⟨[(.bool false), (.slice none 0 0)]⟩ 56 (0, 0)) r_2 wv_2 →
  ∃ (t6 : Bool), Loads P 4 ((⟨r, 0, none⟩ : Addr).add 0) (.bool t6) wv_2 ∧ ∃ (t8 : Bool), Loads P 4 ((⟨r_1, 0, none⟩ : Addr).add 0) (.bool t8) wv_2 ∧ ((t6 == t8) = true →
    ∃ (t11 : Bool), (∀ wv_3, Ext wv_2.drew wv_3 → Loads P 4 ((⟨r, 0, none⟩ : Addr).add 0) (.bool t11) wv_3) ∧ ∃ (t13_p : Option Addr) (t13_n : Nat) (t13_c : Nat), (∀ wv_4, Ext wv_2.drew wv_4 → Loads P 49 ((⟨r, 0, none⟩ : Addr).add 1) (.slice t13_p t13_n t13_c) wv_4) ∧ ∃ (t15_p : Option Addr) (t15_n : Nat) (t15_c : Nat), (∀ wv_5, Ext wv_2.drew wv_5 → Loads P 49 ((⟨r_1, 0, none⟩ : Addr).add 1) (.slice t15_p t15_n t15_c) wv_5) ∧ Calls P 85 ⟨[(.slice t13_p t13_n t13_c), (.slice t15_p t15_n t15_c)]⟩ wv_2.drew fun e wv_6 =>
    ∃ (t16_p : Option Addr) (t16_n : Nat) (t16_c : Nat), e = .returned (.slice t16_p t16_n t16_c) ∧
    Ext wv_2.drew wv_6 ∧ Calls P 84 ⟨[(.bool t11), (.slice t16_p t16_n t16_c)]⟩ wv_6 fun e_1 wv_7 =>
    ∃ (t170 : Bool) (t171_p : Option Addr) (t171_n : Nat) (t171_c : Nat), e_1 = .returned (.agg #[(.bool t170), (.slice t171_p t171_n t171_c)]) ∧
    ∃ wv_8, Stores P 56 ⟨r_2, 0, none⟩ (.agg #[(.bool t170), (.slice t171_p t171_n t171_c)]) wv_7 wv_8 ∧
    ∃ (r0 : Bool) (r1_p : Option Addr) (r1_n : Nat) (r1_c : Nat), Loads P 56 ⟨r_2, 0, none⟩ (.agg #[(.bool r0), (.slice r1_p r1_n r1_c)]) wv_8 ∧ R (.agg #[(.bool r0), (.slice r1_p r1_n r1_c)]) wv_8) ∧
  ((t6 == t8) = false →
    ∃ (t19_p : Option Addr) (t19_n : Nat) (t19_c : Nat), Loads P 49 ((⟨r, 0, none⟩ : Addr).add 1) (.slice t19_p t19_n t19_c) wv_2 ∧ ∃ (t21_p : Option Addr) (t21_n : Nat) (t21_c : Nat), Loads P 49 ((⟨r_1, 0, none⟩ : Addr).add 1) (.slice t21_p t21_n t21_c) wv_2 ∧ Calls P 65 ⟨[(.slice t19_p t19_n t19_c), (.slice t21_p t21_n t21_c)]⟩ wv_2 fun e_2 wv_9 =>
    ∃ (t22 : Int), e_2 = .returned (.int .i64 t22) ∧
    ((decide ((t22 : Int) < 0)) = true →
      ∃ (t240 : Bool) (t241_p : Option Addr) (t241_n : Nat) (t241_c : Nat), Loads P 56 ⟨r_1, 0, none⟩ (.agg #[(.bool t240), (.slice t241_p t241_n t241_c)]) wv_9 ∧ ∃ (t250 : Bool) (t251_p : Option Addr) (t251_n : Nat) (t251_c : Nat), Loads P 56 ⟨r, 0, none⟩ (.agg #[(.bool t250), (.slice t251_p t251_n t251_c)]) wv_9 ∧ ∃ wv_10, Stores P 56 ⟨r, 0, none⟩ (.agg #[(.bool t240), (.slice t241_p t241_n t241_c)]) wv_9 wv_10 ∧
      ∃ wv_11, Stores P 56 ⟨r_1, 0, none⟩ (.agg #[(.bool t250), (.slice t251_p t251_n t251_c)]) wv_10 wv_11 ∧
      impl_intAdd_j0 r r_1 r_2 wv_11 R) ∧
    ((decide ((t22 : Int) < 0)) = false →
      impl_intAdd_j0 r r_1 r_2 wv_9 R))
theorem impl_intAdd_eq (x0 : Bool) (x1_p : Option Addr) (x1_n : Nat) (x1_c : Nat) (y0 : Bool) (y1_p : Option Addr) (y1_n : Nat) (y1_c : Nat) (w : World) (R : Value → World → Prop) : impl_intAdd x0 x1_p x1_n x1_c y0 y1_p y1_n y1_c w R = fsem P Tryd.f53 (fun k => []) [(.agg #[(.bool x0), (.slice x1_p x1_n x1_c)]), (.agg #[(.bool y0), (.slice y1_p y1_n y1_c)])] R w := by kernel_rfl
theorem impl_intAdd_ret {x0 : Bool} {x1_p : Option Addr} {x1_n : Nat} {x1_c : Nat} {y0 : Bool} {y1_p : Option Addr} {y1_n : Nat} {y1_c : Nat} {w : World} {R : Value → World → Prop} (h : impl_intAdd x0 x1_p x1_n x1_c y0 y1_p y1_n y1_c w R) : Ret P 53 [(.agg #[(.bool x0), (.slice x1_p x1_n x1_c)]), (.agg #[(.bool y0), (.slice y1_p y1_n y1_c)])] w R :=
  Ret.of_fsem Tryd.func53 rfl (Eq.mp (impl_intAdd_eq x0 x1_p x1_n x1_c y0 y1_p y1_n y1_c w R) h)
def impl_intNeg (x0 : Bool) (x1_p : Option Addr) (x1_n : Nat) (x1_c : Nat) (w : World) (R : Value → World → Prop) : Prop :=
  ∀ (r : Nat) (wv : World), New w (.cells ⟨[(.bool x0), (.slice x1_p x1_n x1_c)]⟩ 56 (0, 0)) r wv →
  ∀ (r_1 : Nat) (wv_1 : World), New wv (.cells ⟨[(.bool false), (.slice none 0 0)]⟩ 56 (0, 0)) r_1 wv_1 →
  ∃ (t4 : Bool), (∀ wv_2, Ext wv_1.drew wv_2 → Loads P 4 ((⟨r, 0, none⟩ : Addr).add 0) (.bool t4) wv_2) ∧ ∃ (t7_p : Option Addr) (t7_n : Nat) (t7_c : Nat), (∀ wv_3, Ext wv_1.drew wv_3 → Loads P 49 ((⟨r, 0, none⟩ : Addr).add 1) (.slice t7_p t7_n t7_c) wv_3) ∧ Calls P 87 ⟨[(.slice t7_p t7_n t7_c)]⟩ wv_1.drew fun e wv_4 =>
  ∃ (t8_p : Option Addr) (t8_n : Nat) (t8_c : Nat), e = .returned (.slice t8_p t8_n t8_c) ∧
  Ext wv_1.drew wv_4 ∧ Calls P 84 ⟨[(.bool (!t4)), (.slice t8_p t8_n t8_c)]⟩ wv_4 fun e_1 wv_5 =>
  ∃ (t90 : Bool) (t91_p : Option Addr) (t91_n : Nat) (t91_c : Nat), e_1 = .returned (.agg #[(.bool t90), (.slice t91_p t91_n t91_c)]) ∧
  ∃ wv_6, Stores P 56 ⟨r_1, 0, none⟩ (.agg #[(.bool t90), (.slice t91_p t91_n t91_c)]) wv_5 wv_6 ∧
  ∃ (r0 : Bool) (r1_p : Option Addr) (r1_n : Nat) (r1_c : Nat), Loads P 56 ⟨r_1, 0, none⟩ (.agg #[(.bool r0), (.slice r1_p r1_n r1_c)]) wv_6 ∧ R (.agg #[(.bool r0), (.slice r1_p r1_n r1_c)]) wv_6
theorem impl_intNeg_eq (x0 : Bool) (x1_p : Option Addr) (x1_n : Nat) (x1_c : Nat) (w : World) (R : Value → World → Prop) : impl_intNeg x0 x1_p x1_n x1_c w R = fsem P Tryd.f54 (fun k => []) [(.agg #[(.bool x0), (.slice x1_p x1_n x1_c)])] R w := by kernel_rfl
theorem impl_intNeg_ret {x0 : Bool} {x1_p : Option Addr} {x1_n : Nat} {x1_c : Nat} {w : World} {R : Value → World → Prop} (h : impl_intNeg x0 x1_p x1_n x1_c w R) : Ret P 54 [(.agg #[(.bool x0), (.slice x1_p x1_n x1_c)])] w R :=
  Ret.of_fsem Tryd.func54 rfl (Eq.mp (impl_intNeg_eq x0 x1_p x1_n x1_c w R) h)
def spec_IntCmp_j1 (r : Nat) (r_1 : Nat) (t14 : Bool) (W_1 : World) (R : Value → World → Prop) : Prop :=
  (t14 = true →
    R (.int .i64 (-1)) W_1) ∧
  (t14 = false →
    ∃ (t24 : Bool), Loads P 4 ((⟨r, 0, none⟩ : Addr).add 0) (.bool t24) W_1 ∧ ((!t24) = true →
      ∃ (t28 : Bool), Loads P 4 ((⟨r_1, 0, none⟩ : Addr).add 0) (.bool t28) W_1 ∧ (t28 = true →
        R (.int .i64 1) W_1) ∧
      (t28 = false →
        ∃ (t32 : Bool), Loads P 4 ((⟨r, 0, none⟩ : Addr).add 0) (.bool t32) W_1 ∧ (t32 = true →
          ∃ (t34_p : Option Addr) (t34_n : Nat) (t34_c : Nat), Loads P 49 ((⟨r_1, 0, none⟩ : Addr).add 1) (.slice t34_p t34_n t34_c) W_1 ∧ ∃ (t36_p : Option Addr) (t36_n : Nat) (t36_c : Nat), Loads P 49 ((⟨r, 0, none⟩ : Addr).add 1) (.slice t36_p t36_n t36_c) W_1 ∧ Calls P 88 ⟨[(.slice t34_p t34_n t34_c), (.slice t36_p t36_n t36_c)]⟩ W_1 fun e_1 wv_3 =>
          ∃ (t37 : Int), e_1 = .returned (.int .i64 t37) ∧
          R (.int .i64 t37) wv_3) ∧
        (t32 = false →
          ∃ (t39_p : Option Addr) (t39_n : Nat) (t39_c : Nat), Loads P 49 ((⟨r, 0, none⟩ : Addr).add 1) (.slice t39_p t39_n t39_c) W_1 ∧ ∃ (t41_p : Option Addr) (t41_n : Nat) (t41_c : Nat), Loads P 49 ((⟨r_1, 0, none⟩ : Addr).add 1) (.slice t41_p t41_n t41_c) W_1 ∧ Calls P 88 ⟨[(.slice t39_p t39_n t39_c), (.slice t41_p t41_n t41_c)]⟩ W_1 fun e_2 wv_4 =>
          ∃ (t42 : Int), e_2 = .returned (.int .i64 t42) ∧
          R (.int .i64 t42) wv_4))) ∧
    ((!t24) = false →
      (false = true →
        R (.int .i64 1) W_1) ∧
      (false = false →
        ∃ (t32_1 : Bool), Loads P 4 ((⟨r, 0, none⟩ : Addr).add 0) (.bool t32_1) W_1 ∧ (t32_1 = true →
          ∃ (t34_p_1 : Option Addr) (t34_n_1 : Nat) (t34_c_1 : Nat), Loads P 49 ((⟨r_1, 0, none⟩ : Addr).add 1) (.slice t34_p_1 t34_n_1 t34_c_1) W_1 ∧ ∃ (t36_p_1 : Option Addr) (t36_n_1 : Nat) (t36_c_1 : Nat), Loads P 49 ((⟨r, 0, none⟩ : Addr).add 1) (.slice t36_p_1 t36_n_1 t36_c_1) W_1 ∧ Calls P 88 ⟨[(.slice t34_p_1 t34_n_1 t34_c_1), (.slice t36_p_1 t36_n_1 t36_c_1)]⟩ W_1 fun e_3 wv_5 =>
          ∃ (t37_1 : Int), e_3 = .returned (.int .i64 t37_1) ∧
          R (.int .i64 t37_1) wv_5) ∧
        (t32_1 = false →
          ∃ (t39_p_1 : Option Addr) (t39_n_1 : Nat) (t39_c_1 : Nat), Loads P 49 ((⟨r, 0, none⟩ : Addr).add 1) (.slice t39_p_1 t39_n_1 t39_c_1) W_1 ∧ ∃ (t41_p_1 : Option Addr) (t41_n_1 : Nat) (t41_c_1 : Nat), Loads P 49 ((⟨r_1, 0, none⟩ : Addr).add 1) (.slice t41_p_1 t41_n_1 t41_c_1) W_1 ∧ Calls P 88 ⟨[(.slice t39_p_1 t39_n_1 t39_c_1), (.slice t41_p_1 t41_n_1 t41_c_1)]⟩ W_1 fun e_4 wv_6 =>
          ∃ (t42_1 : Int), e_4 = .returned (.int .i64 t42_1) ∧
          R (.int .i64 t42_1) wv_6))))
def spec_IntCmp_j0 (r : Nat) (r_1 : Nat) (t5 : Bool) (W : World) (R : Value → World → Prop) : Prop :=
  (t5 = true →
    R (.int .i64 0) W) ∧
  (t5 = false →
    ∃ (t16 : Bool), Loads P 4 ((⟨r, 0, none⟩ : Addr).add 0) (.bool t16) W ∧ (t16 = true →
      ∃ (t19 : Bool), Loads P 4 ((⟨r_1, 0, none⟩ : Addr).add 0) (.bool t19) W ∧ spec_IntCmp_j1 r r_1 (!t19) W R) ∧
    (t16 = false →
      spec_IntCmp_j1 r r_1 false W R))
def spec_IntCmp (x0 : Bool) (x1_p : Option Addr) (x1_n : Nat) (x1_c : Nat) (y0 : Bool) (y1_p : Option Addr) (y1_n : Nat) (y1_c : Nat) (w : World) (R : Value → World → Prop) : Prop :=
  ∀ (r : Nat) (wv : World), New w (.cells ⟨[(.bool x0), (.slice x1_p x1_n x1_c)]⟩ 56 (0, 0)) r wv →
  ∀ (r_1 : Nat) (wv_1 : World), New wv (.cells ⟨[(.bool y0), (.slice y1_p y1_n y1_c)]⟩ 56 (0, 0)) r_1 wv_1 →
  ∃ (t60 : Bool) (t61_p : Option Addr) (t61_n : Nat) (t61_c : Nat), Loads P 56 ⟨r, 0, none⟩ (.agg #[(.bool t60), (.slice t61_p t61_n t61_c)]) wv_1 ∧ Calls P 79 ⟨[(.agg #[(.bool t60), (.slice t61_p t61_n t61_c)])]⟩ wv_1 fun e wv_2 =>
  ∃ (t7 : Bool), e = .returned (.bool t7) ∧
  ((!t7) = true →
    spec_IntCmp_j0 r r_1 true wv_2 R) ∧
  ((!t7) = false →
    ∃ (t100 : Bool) (t101_p : Option Addr) (t101_n : Nat) (t101_c : Nat), Loads P 56 ⟨r_1, 0, none⟩ (.agg #[(.bool t100), (.slice t101_p t101_n t101_c)]) wv_2 ∧ Calls P 79 ⟨[(.agg #[(.bool t100), (.slice t101_p t101_n t101_c)])]⟩ wv_2 fun e_5 wv_7 =>
    ∃ (t11 : Bool), e_5 = .returned (.bool t11) ∧
    spec_IntCmp_j0 r r_1 (!t11) wv_7 R)
theorem spec_IntCmp_eq (x0 : Bool) (x1_p : Option Addr) (x1_n : Nat) (x1_c : Nat) (y0 : Bool) (y1_p : Option Addr) (y1_n : Nat) (y1_c : Nat) (w : World) (R : Value → World → Prop) : spec_IntCmp x0 x1_p x1_n x1_c y0 y1_p y1_n y1_c w R = fsem P Tryd.f57 (fun k => []) [(.agg #[(.bool x0), (.slice x1_p x1_n x1_c)]), (.agg #[(.bool y0), (.slice y1_p y1_n y1_c)])] R w := by kernel_rfl
theorem spec_IntCmp_ret {x0 : Bool} {x1_p : Option Addr} {x1_n : Nat} {x1_c : Nat} {y0 : Bool} {y1_p : Option Addr} {y1_n : Nat} {y1_c : Nat} {w : World} {R : Value → World → Prop} (h : spec_IntCmp x0 x1_p x1_n x1_c y0 y1_p y1_n y1_c w R) : Ret P 57 [(.agg #[(.bool x0), (.slice x1_p x1_n x1_c)]), (.agg #[(.bool y0), (.slice y1_p y1_n y1_c)])] w R :=
  Ret.of_fsem Tryd.func57 rfl (Eq.mp (spec_IntCmp_eq x0 x1_p x1_n x1_c y0 y1_p y1_n y1_c w R) h)
def spec_IntAbs (x0 : Bool) (x1_p : Option Addr) (x1_n : Nat) (x1_c : Nat) (w : World) (R : Value → World → Prop) : Prop :=
  ∀ (r : Nat) (wv : World), New w (.cells ⟨[(.bool x0), (.slice x1_p x1_n x1_c)]⟩ 56 (0, 0)) r wv →
  ∀ (r_1 : Nat) (wv_1 : World), New wv (.cells ⟨[(.bool false), (.slice none 0 0)]⟩ 56 (0, 0)) r_1 wv_1 →
  ∃ (t30 : Bool) (t31_p : Option Addr) (t31_n : Nat) (t31_c : Nat), Loads P 56 ⟨r, 0, none⟩ (.agg #[(.bool t30), (.slice t31_p t31_n t31_c)]) wv_1 ∧ Calls P 79 ⟨[(.agg #[(.bool t30), (.slice t31_p t31_n t31_c)])]⟩ wv_1 fun e wv_2 =>
  ∃ (t4 : Bool), e = .returned (.bool t4) ∧
  ((!t4) = true →
    ∃ wv_3, Stores P 56 ⟨r_1, 0, none⟩ (.agg #[(.bool false), (.slice none 0 0)]) wv_2 wv_3 ∧
    ∃ (r0 : Bool) (r1_p : Option Addr) (r1_n : Nat) (r1_c : Nat), Loads P 56 ⟨r_1, 0, none⟩ (.agg #[(.bool r0), (.slice r1_p r1_n r1_c)]) wv_3 ∧ R (.agg #[(.bool r0), (.slice r1_p r1_n r1_c)]) wv_3) ∧
  ((!t4) = false →
    ∃ (t8_p : Option Addr) (t8_n : Nat) (t8_c : Nat), Loads P 49 ((⟨r, 0, none⟩ : Addr).add 1) (.slice t8_p t8_n t8_c) wv_2 ∧ Calls P 60 ⟨[(.bool false), (.slice t8_p t8_n t8_c)]⟩ wv_2 fun e_1 wv_4 =>
    ∃ (t90 : Bool) (t91_p : Option Addr) (t91_n : Nat) (t91_c : Nat), e_1 = .returned (.agg #[(.bool t90), (.slice t91_p t91_n t91_c)]) ∧
    ∃ wv_5, Stores P 56 ⟨r_1, 0, none⟩ (.agg #[(.bool t90), (.slice t91_p t91_n t91_c)]) wv_4 wv_5 ∧
    ∃ (r0_1 : Bool) (r1_p_1 : Option Addr) (r1_n_1 : Nat) (r1_c_1 : Nat), Loads P 56 ⟨r_1, 0, none⟩ (.agg #[(.bool r0_1), (.slice r1_p_1 r1_n_1 r1_c_1)]) wv_5 ∧ R (.agg #[(.bool r0_1), (.slice r1_p_1 r1_n_1 r1_c_1)]) wv_5)
theorem spec_IntAbs_eq (x0 : Bool) (x1_p : Option Addr) (x1_n : Nat) (x1_c : Nat) (w : World) (R : Value → World → Prop) : spec_IntAbs x0 x1_p x1_n x1_c w R = fsem P Tryd.f58 (fun k => []) [(.agg #[(.bool x0), (.slice x1_p x1_n x1_c)])] R w := by kernel_rfl
theorem spec_IntAbs_ret {x0 : Bool} {x1_p : Option Addr} {x1_n : Nat} {x1_c : Nat} {w : World} {R : Value → World → Prop} (h : spec_IntAbs x0 x1_p x1_n x1_c w R) : Ret P 58 [(.agg #[(.bool x0), (.slice x1_p x1_n x1_c)])] w R :=
  Ret.of_fsem Tryd.func58 rfl (Eq.mp (spec_IntAbs_eq x0 x1_p x1_n x1_c w R) h)
def spec_l09Make (cur : ByteArray) (x0 : Bool) (x1_p : Option Addr) (x1_n : Nat) (x1_c : Nat) (w : World) (R : Value → World → Prop) : Prop :=
  ∀ (r : Nat) (wv : World), New w (.cells ⟨[(.bool x0), (.slice x1_p x1_n x1_c)]⟩ 56 (0, 0)) r wv →
  ∀ (r_1 : Nat) (wv_1 : World), New wv (.cells ⟨[(.string ByteArray.empty), (.bool false), (.slice none 0 0)]⟩ 58 (0, 0)) r_1 wv_1 →
  ∃ (t80 : Bool) (t81_p : Option Addr) (t81_n : Nat) (t81_c : Nat), Loads P 56 ⟨r, 0, none⟩ (.agg #[(.bool t80), (.slice t81_p t81_n t81_c)]) wv_1 ∧ ∀ (r_2 : Nat) (wv_2 : World), New wv_1 (.cells ⟨[(.string ByteArray.empty), (.bool false), (.slice none 0 0)]⟩ 58 (0, 0)) r_2 wv_2 →
  ∃ wv_3, Stores P 58 ⟨r_2, 0, none⟩ (.agg #[(.string cur), (.bool t80), (.slice t81_p t81_n t81_c)]) wv_2 wv_3 ∧
  ∃ (t100 : ByteArray) (t101 : Bool) (t102_p : Option Addr) (t102_n : Nat) (t102_c : Nat), Loads P 58 ⟨r_2, 0, none⟩ (.agg #[(.string t100), (.bool t101), (.slice t102_p t102_n t102_c)]) wv_3 ∧ Calls P 39 ⟨[(.agg #[(.string t100), (.bool t101), (.slice t102_p t102_n t102_c)])]⟩ wv_3 fun e wv_4 =>
  ∃ (t11 : Bool), e = .returned (.bool t11) ∧
  ((!t11) = true →
    ∃ wv_5, Stores P 58 ⟨r_1, 0, none⟩ (.agg #[(.string ByteArray.empty), (.bool false), (.slice none 0 0)]) wv_4 wv_5 ∧
    ∃ (r0 : ByteArray) (r1 : Bool) (r2_p : Option Addr) (r2_n : Nat) (r2_c : Nat), Loads P 58 ⟨r_1, 0, none⟩ (.agg #[(.string r0), (.bool r1), (.slice r2_p r2_n r2_c)]) wv_5 ∧ R (.tuple #[(.agg #[(.string r0), (.bool r1), (.slice r2_p r2_n r2_c)]), (.bool false)]) wv_5) ∧
  ((!t11) = false →
    ∃ (t140 : ByteArray) (t141 : Bool) (t142_p : Option Addr) (t142_n : Nat) (t142_c : Nat), Loads P 58 ⟨r_2, 0, none⟩ (.agg #[(.string t140), (.bool t141), (.slice t142_p t142_n t142_c)]) wv_4 ∧ ∃ wv_6, Stores P 58 ⟨r_1, 0, none⟩ (.agg #[(.string t140), (.bool t141), (.slice t142_p t142_n t142_c)]) wv_4 wv_6 ∧
    ∃ (r0_1 : ByteArray) (r1_1 : Bool) (r2_p_1 : Option Addr) (r2_n_1 : Nat) (r2_c_1 : Nat), Loads P 58 ⟨r_1, 0, none⟩ (.agg #[(.string r0_1), (.bool r1_1), (.slice r2_p_1 r2_n_1 r2_c_1)]) wv_6 ∧ R (.tuple #[(.agg #[(.string r0_1), (.bool r1_1), (.slice r2_p_1 r2_n_1 r2_c_1)]), (.bool true)]) wv_6)
theorem spec_l09Make_eq (cur : ByteArray) (x0 : Bool) (x1_p : Option Addr) (x1_n : Nat) (x1_c : Nat) (w : World) (R : Value → World → Prop) : spec_l09Make cur x0 x1_p x1_n x1_c w R = fsem P Tryd.f59 (fun k => []) [(.string cur), (.agg #[(.bool x0), (.slice x1_p x1_n x1_c)])] R w := by kernel_rfl
theorem spec_l09Make_ret {cur : ByteArray} {x0 : Bool} {x1_p : Option Addr} {x1_n : Nat} {x1_c : Nat} {w : World} {R : Value → World → Prop} (h : spec_l09Make cur x0 x1_p x1_n x1_c w R) : Ret P 59 [(.string cur), (.agg #[(.bool x0), (.slice x1_p x1_n x1_c)])] w R :=
  Ret.of_fsem Tryd.func59 rfl (Eq.mp (spec_l09Make_eq cur x0 x1_p x1_n x1_c w R) h)
def spec_l04Make (neg : Bool) (a_p : Option Addr) (a_n : Nat) (a_c : Nat) (w : World) (R : Value → World → Prop) : Prop :=
  ∀ (r : Nat) (wv : World), New w (.cells ⟨[(.bool false), (.slice none 0 0)]⟩ 56 (0, 0)) r wv →
  Calls P 89 ⟨[(.slice a_p a_n a_c)]⟩ wv fun e wv_1 =>
  ∃ (t7_p : Option Addr) (t7_n : Nat) (t7_c : Nat), e = .returned (.slice t7_p t7_n t7_c) ∧
  (neg = true →
    ∀ (r_1 : Nat) (wv_2 : World), New wv_1 (.cells ⟨[]⟩ 3 (0, 0)) r_1 wv_2 →
    ∃ (t16_p : Option Addr) (t16_n : Nat) (t16_c : Nat) (wv_3 : World), Appends P [49, 49] [(.slice (some ⟨r_1, 0, none⟩) 0 0), (.slice t7_p t7_n t7_c)] (.slice t16_p t16_n t16_c) wv_2 wv_3 ∧
    ∃ wv_4, Stores P 56 ⟨r, 0, none⟩ (.agg #[(.bool (decide ((0 : Int) < ((t7_n : Nat) : Int)))), (.slice t16_p t16_n t16_c)]) wv_3 wv_4 ∧
    ∃ (r0 : Bool) (r1_p : Option Addr) (r1_n : Nat) (r1_c : Nat), Loads P 56 ⟨r, 0, none⟩ (.agg #[(.bool r0), (.slice r1_p r1_n r1_c)]) wv_4 ∧ R (.agg #[(.bool r0), (.slice r1_p r1_n r1_c)]) wv_4) ∧
  (neg = false →
    ∀ (r_2 : Nat) (wv_5 : World), New wv_1 (.cells ⟨[]⟩ 3 (0, 0)) r_2 wv_5 →
    ∃ (t16_p_1 : Option Addr) (t16_n_1 : Nat) (t16_c_1 : Nat) (wv_6 : World), Appends P [49, 49] [(.slice (some ⟨r_2, 0, none⟩) 0 0), (.slice t7_p t7_n t7_c)] (.slice t16_p_1 t16_n_1 t16_c_1) wv_5 wv_6 ∧
    ∃ wv_7, Stores P 56 ⟨r, 0, none⟩ (.agg #[(.bool false), (.slice t16_p_1 t16_n_1 t16_c_1)]) wv_6 wv_7 ∧
    ∃ (r0_1 : Bool) (r1_p_1 : Option Addr) (r1_n_1 : Nat) (r1_c_1 : Nat), Loads P 56 ⟨r, 0, none⟩ (.agg #[(.bool r0_1), (.slice r1_p_1 r1_n_1 r1_c_1)]) wv_7 ∧ R (.agg #[(.bool r0_1), (.slice r1_p_1 r1_n_1 r1_c_1)]) wv_7)
theorem spec_l04Make_eq (neg : Bool) (a_p : Option Addr) (a_n : Nat) (a_c : Nat) (w : World) (R : Value → World → Prop) : spec_l04Make neg a_p a_n a_c w R = fsem P Tryd.f60 (fun k => []) [(.bool neg), (.slice a_p a_n a_c)] R w := by kernel_rfl
theorem spec_l04Make_ret {neg : Bool} {a_p : Option Addr} {a_n : Nat} {a_c : Nat} {w : World} {R : Value → World → Prop} (h : spec_l04Make neg a_p a_n a_c w R) : Ret P 60 [(.bool neg), (.slice a_p a_n a_c)] w R :=
  Ret.of_fsem Tryd.func60 rfl (Eq.mp (spec_l04Make_eq neg a_p a_n a_c w R) h)
def spec_IntAdd (x0 : Bool) (x1_p : Option Addr) (x1_n : Nat) (x1_c : Nat) (y0 : Bool) (y1_p : Option Addr) (y1_n : Nat) (y1_c : Nat) (w : World) (R : Value → World → Prop) : Prop :=
  ∀ (r : Nat) (wv : World), New w (.cells ⟨[(.bool x0), (.slice x1_p x1_n x1_c)]⟩ 56 (0, 0)) r wv →
  ∀ (r_1 : Nat) (wv_1 : World), New wv (.cells ⟨[(.bool y0), (.slice y1_p y1_n y1_c)]⟩ 56 (0, 0)) r_1 wv_1 →
  ∀ (r_2 : Nat) (wv_2 : World), New wv_1 (.cells ⟨[(.bool false), (.slice none 0 0)]⟩ 56 (0, 0)) r_2 wv_2 →
  ∃ (t50 : Bool) (t51_p : Option Addr) (t51_n : Nat) (t51_c : Nat), Loads P 56 ⟨r, 0, none⟩ (.agg #[(.bool t50), (.slice t51_p t51_n t51_c)]) wv_2 ∧ Calls P 79 ⟨[(.agg #[(.bool t50), (.slice t51_p t51_n t51_c)])]⟩ wv_2 fun e wv_3 =>
  ∃ (t6 : Bool), e = .returned (.bool t6) ∧
  ((!t6) = true →
    (true = true →
      ∃ wv_4, Stores P 56 ⟨r_2, 0, none⟩ (.agg #[(.bool false), (.slice none 0 0)]) wv_3 wv_4 ∧
      ∃ (r0 : Bool) (r1_p : Option Addr) (r1_n : Nat) (r1_c : Nat), Loads P 56 ⟨r_2, 0, none⟩ (.agg #[(.bool r0), (.slice r1_p r1_n r1_c)]) wv_4 ∧ R (.agg #[(.bool r0), (.slice r1_p r1_n r1_c)]) wv_4) ∧
    (true = false →
      ∃ (t140 : Bool) (t141_p : Option Addr) (t141_n : Nat) (t141_c : Nat), Loads P 56 ⟨r, 0, none⟩ (.agg #[(.bool t140), (.slice t141_p t141_n t141_c)]) wv_3 ∧ ∃ (t150 : Bool) (t151_p : Option Addr) (t151_n : Nat) (t151_c : Nat), Loads P 56 ⟨r_1, 0, none⟩ (.agg #[(.bool t150), (.slice t151_p t151_n t151_c)]) wv_3 ∧ Calls P 90 ⟨[(.agg #[(.bool t140), (.slice t141_p t141_n t141_c)]), (.agg #[(.bool t150), (.slice t151_p t151_n t151_c)])]⟩ wv_3 fun e_1 wv_5 =>
      ∃ (t160 : Bool) (t161_p : Option Addr) (t161_n : Nat) (t161_c : Nat), e_1 = .returned (.agg #[(.bool t160), (.slice t161_p t161_n t161_c)]) ∧
      ∃ wv_6, Stores P 56 ⟨r_2, 0, none⟩ (.agg #[(.bool t160), (.slice t161_p t161_n t161_c)]) wv_5 wv_6 ∧
      ∃ (r0_1 : Bool) (r1_p_1 : Option Addr) (r1_n_1 : Nat) (r1_c_1 : Nat), Loads P 56 ⟨r_2, 0, none⟩ (.agg #[(.bool r0_1), (.slice r1_p_1 r1_n_1 r1_c_1)]) wv_6 ∧ R (.agg #[(.bool r0_1), (.slice r1_p_1 r1_n_1 r1_c_1)]) wv_6)) ∧
  ((!t6) = false →
    ∃ (t90 : Bool) (t91_p : Option Addr) (t91_n : Nat) (t91_c : Nat), Loads P 56 ⟨r_1, 0, none⟩ (.agg #[(.bool t90), (.slice t91_p t91_n t91_c)]) wv_3 ∧ Calls P 79 ⟨[(.agg #[(.bool t90), (.slice t91_p t91_n t91_c)])]⟩ wv_3 fun e_2 wv_7 =>
    ∃ (t10 : Bool), e_2 = .returned (.bool t10) ∧
    ((!t10) = true →
      ∃ wv_8, Stores P 56 ⟨r_2, 0, none⟩ (.agg #[(.bool false), (.slice none 0 0)]) wv_7 wv_8 ∧
      ∃ (r0_2 : Bool) (r1_p_2 : Option Addr) (r1_n_2 : Nat) (r1_c_2 : Nat), Loads P 56 ⟨r_2, 0, none⟩ (.agg #[(.bool r0_2), (.slice r1_p_2 r1_n_2 r1_c_2)]) wv_8 ∧ R (.agg #[(.bool r0_2), (.slice r1_p_2 r1_n_2 r1_c_2)]) wv_8) ∧
    ((!t10) = false →
      ∃ (t140_1 : Bool) (t141_p_1 : Option Addr) (t141_n_1 : Nat) (t141_c_1 : Nat), Loads P 56 ⟨r, 0, none⟩ (.agg #[(.bool t140_1), (.slice t141_p_1 t141_n_1 t141_c_1)]) wv_7 ∧ ∃ (t150_1 : Bool) (t151_p_1 : Option Addr) (t151_n_1 : Nat) (t151_c_1 : Nat), Loads P 56 ⟨r_1, 0, none⟩ (.agg #[(.bool t150_1), (.slice t151_p_1 t151_n_1 t151_c_1)]) wv_7 ∧ Calls P 90 ⟨[(.agg #[(.bool t140_1), (.slice t141_p_1 t141_n_1 t141_c_1)]), (.agg #[(.bool t150_1), (.slice t151_p_1 t151_n_1 t151_c_1)])]⟩ wv_7 fun e_3 wv_9 =>
      ∃ (t160_1 : Bool) (t161_p_1 : Option Addr) (t161_n_1 : Nat) (t161_c_1 : Nat), e_3 = .returned (.agg #[(.bool t160_1), (.slice t161_p_1 t161_n_1 t161_c_1)]) ∧
      ∃ wv_10, Stores P 56 ⟨r_2, 0, none⟩ (.agg #[(.bool t160_1), (.slice t161_p_1 t161_n_1 t161_c_1)]) wv_9 wv_10 ∧
      ∃ (r0_3 : Bool) (r1_p_3 : Option Addr) (r1_n_3 : Nat) (r1_c_3 : Nat), Loads P 56 ⟨r_2, 0, none⟩ (.agg #[(.bool r0_3), (.slice r1_p_3 r1_n_3 r1_c_3)]) wv_10 ∧ R (.agg #[(.bool r0_3), (.slice r1_p_3 r1_n_3 r1_c_3)]) wv_10))
theorem spec_IntAdd_eq (x0 : Bool) (x1_p : Option Addr) (x1_n : Nat) (x1_c : Nat) (y0 : Bool) (y1_p : Option Addr) (y1_n : Nat) (y1_c : Nat) (w : World) (R : Value → World → Prop) : spec_IntAdd x0 x1_p x1_n x1_c y0 y1_p y1_n y1_c w R = fsem P Tryd.f61 (fun k => []) [(.agg #[(.bool x0), (.slice x1_p x1_n x1_c)]), (.agg #[(.bool y0), (.slice y1_p y1_n y1_c)])] R w := by kernel_rfl
theorem spec_IntAdd_ret {x0 : Bool} {x1_p : Option Addr} {x1_n : Nat} {x1_c : Nat} {y0 : Bool} {y1_p : Option Addr} {y1_n : Nat} {y1_c : Nat} {w : World} {R : Value → World → Prop} (h : spec_IntAdd x0 x1_p x1_n x1_c y0 y1_p y1_n y1_c w R) : Ret P 61 [(.agg #[(.bool x0), (.slice x1_p x1_n x1_c)]), (.agg #[(.bool y0), (.slice y1_p y1_n y1_c)])] w R :=
  Ret.of_fsem Tryd.func61 rfl (Eq.mp (spec_IntAdd_eq x0 x1_p x1_n x1_c y0 y1_p y1_n y1_c w R) h)
def spec_IntSub (x0 : Bool) (x1_p : Option Addr) (x1_n : Nat) (x1_c : Nat) (y0 : Bool) (y1_p : Option Addr) (y1_n : Nat) (y1_c : Nat) (w : World) (R : Value → World → Prop) : Prop :=
  ∀ (r : Nat) (wv : World), New w (.cells ⟨[(.bool x0), (.slice x1_p x1_n x1_c)]⟩ 56 (0, 0)) r wv →
  ∀ (r_1 : Nat) (wv_1 : World), New wv (.cells ⟨[(.bool y0), (.slice y1_p y1_n y1_c)]⟩ 56 (0, 0)) r_1 wv_1 →
  ∀ (r_2 : Nat) (wv_2 : World), New wv_1 (.cells ⟨[(.bool false), (.slice none 0 0)]⟩ 56 (0, 0)) r_2 wv_2 →
  ∃ (t50 : Bool) (t51_p : Option Addr) (t51_n : Nat) (t51_c : Nat), Loads P 56 ⟨r, 0, none⟩ (.agg #[(.bool t50), (.slice t51_p t51_n t51_c)]) wv_2 ∧ Calls P 79 ⟨[(.agg #[(.bool t50), (.slice t51_p t51_n t51_c)])]⟩ wv_2 fun e wv_3 =>
  ∃ (t6 : Bool), e = .returned (.bool t6) ∧
  ((!t6) = true →
    (true = true →
      ∃ wv_4, Stores P 56 ⟨r_2, 0, none⟩ (.agg #[(.bool false), (.slice none 0 0)]) wv_3 wv_4 ∧
      ∃ (r0 : Bool) (r1_p : Option Addr) (r1_n : Nat) (r1_c : Nat), Loads P 56 ⟨r_2, 0, none⟩ (.agg #[(.bool r0), (.slice r1_p r1_n r1_c)]) wv_4 ∧ R (.agg #[(.bool r0), (.slice r1_p r1_n r1_c)]) wv_4) ∧
    (true = false →
      ∃ (t140 : Bool) (t141_p : Option Addr) (t141_n : Nat) (t141_c : Nat), (∀ wv_5, Ext wv_3.drew wv_5 → Loads P 56 ⟨r, 0, none⟩ (.agg #[(.bool t140), (.slice t141_p t141_n t141_c)]) wv_5) ∧ ∃ (t150 : Bool) (t151_p : Option Addr) (t151_n : Nat) (t151_c : Nat), (∀ wv_6, Ext wv_3.drew wv_6 → Loads P 56 ⟨r_1, 0, none⟩ (.agg #[(.bool t150), (.slice t151_p t151_n t151_c)]) wv_6) ∧ Calls P 48 ⟨[(.agg #[(.bool t150), (.slice t151_p t151_n t151_c)])]⟩ wv_3.drew fun e_1 wv_7 =>
      ∃ (t160 : Bool) (t161_p : Option Addr) (t161_n : Nat) (t161_c : Nat), e_1 = .returned (.agg #[(.bool t160), (.slice t161_p t161_n t161_c)]) ∧
      Ext wv_3.drew wv_7 ∧ Calls P 90 ⟨[(.agg #[(.bool t140), (.slice t141_p t141_n t141_c)]), (.agg #[(.bool t160), (.slice t161_p t161_n t161_c)])]⟩ wv_7 fun e_2 wv_8 =>
      ∃ (t170 : Bool) (t171_p : Option Addr) (t171_n : Nat) (t171_c : Nat), e_2 = .returned (.agg #[(.bool t170), (.slice t171_p t171_n t171_c)]) ∧
      ∃ wv_9, Stores P 56 ⟨r_2, 0, none⟩ (.agg #[(.bool t170), (.slice t171_p t171_n t171_c)]) wv_8 wv_9 ∧
      ∃ (r0_1 : Bool) (r1_p_1 : Option Addr) (r1_n_1 : Nat) (r1_c_1 : Nat), Loads P 56 ⟨r_2, 0, none⟩ (.agg #[(.bool r0_1), (.slice r1_p_1 r1_n_1 r1_c_1)]) wv_9 ∧ R (.agg #[(.bool r0_1), (.slice r1_p_1 r1_n_1 r1_c_1)]) wv_9)) ∧
  ((!t6) = false →
    ∃ (t90 : Bool) (t91_p : Option Addr) (t91_n : Nat) (t91_c : Nat), Loads P 56 ⟨r_1, 0, none⟩ (.agg #[(.bool t90), (.slice t91_p t91_n t91_c)]) wv_3 ∧ Calls P 79 ⟨[(.agg #[(.bool t90), (.slice t91_p t91_n t91_c)])]⟩ wv_3 fun e_3 wv_10 =>
    ∃ (t10 : Bool), e_3 = .returned (.bool t10) ∧
    ((!t10) = true →
      ∃ wv_11, Stores P 56 ⟨r_2, 0, none⟩ (.agg #[(.bool false), (.slice none 0 0)]) wv_10 wv_11 ∧
      ∃ (r0_2 : Bool) (r1_p_2 : Option Addr) (r1_n_2 : Nat) (r1_c_2 : Nat), Loads P 56 ⟨r_2, 0, none⟩ (.agg #[(.bool r0_2), (.slice r1_p_2 r1_n_2 r1_c_2)]) wv_11 ∧ R (.agg #[(.bool r0_2), (.slice r1_p_2 r1_n_2 r1_c_2)]) wv_11) ∧
    ((!t10) = false →
      ∃ (t140_1 : Bool) (t141_p_1 : Option Addr) (t141_n_1 : Nat) (t141_c_1 : Nat), (∀ wv_12, Ext wv_10.drew wv_12 → Loads P 56 ⟨r, 0, none⟩ (.agg #[(.bool t140_1), (.slice t141_p_1 t141_n_1 t141_c_1)]) wv_12) ∧ ∃ (t150_1 : Bool) (t151_p_1 : Option Addr) (t151_n_1 : Nat) (t151_c_1 : Nat), (∀ wv_13, Ext wv_10.drew wv_13 → Loads P 56 ⟨r_1, 0, none⟩ (.agg #[(.bool t150_1), (.slice t151_p_1 t151_n_1 t151_c_1)]) wv_13) ∧ Calls P 48 ⟨[(.agg #[(.bool t150_1), (.slice t151_p_1 t151_n_1 t151_c_1)])]⟩ wv_10.drew fun e_4 wv_14 =>
      ∃ (t160_1 : Bool) (t161_p_1 : Option Addr) (t161_n_1 : Nat) (t161_c_1 : Nat), e_4 = .returned (.agg #[(.bool t160_1), (.slice t161_p_1 t161_n_1 t161_c_1)]) ∧
      Ext wv_10.drew wv_14 ∧ Calls P 90 ⟨[(.agg #[(.bool t140_1), (.slice t141_p_1 t141_n_1 t141_c_1)]), (.agg #[(.bool t160_1), (.slice t161_p_1 t161_n_1 t161_c_1)])]⟩ wv_14 fun e_5 wv_15 =>
      ∃ (t170_1 : Bool) (t171_p_1 : Option Addr) (t171_n_1 : Nat) (t171_c_1 : Nat), e_5 = .returned (.agg #[(.bool t170_1), (.slice t171_p_1 t171_n_1 t171_c_1)]) ∧
      ∃ wv_16, Stores P 56 ⟨r_2, 0, none⟩ (.agg #[(.bool t170_1), (.slice t171_p_1 t171_n_1 t171_c_1)]) wv_15 wv_16 ∧
      ∃ (r0_3 : Bool) (r1_p_3 : Option Addr) (r1_n_3 : Nat) (r1_c_3 : Nat), Loads P 56 ⟨r_2, 0, none⟩ (.agg #[(.bool r0_3), (.slice r1_p_3 r1_n_3 r1_c_3)]) wv_16 ∧ R (.agg #[(.bool r0_3), (.slice r1_p_3 r1_n_3 r1_c_3)]) wv_16))
theorem spec_IntSub_eq (x0 : Bool) (x1_p : Option Addr) (x1_n : Nat) (x1_c : Nat) (y0 : Bool) (y1_p : Option Addr) (y1_n : Nat) (y1_c : Nat) (w : World) (R : Value → World → Prop) : spec_IntSub x0 x1_p x1_n x1_c y0 y1_p y1_n y1_c w R = fsem P Tryd.f62 (fun k => []) [(.agg #[(.bool x0), (.slice x1_p x1_n x1_c)]), (.agg #[(.bool y0), (.slice y1_p y1_n y1_c)])] R w := by kernel_rfl
theorem spec_IntSub_ret {x0 : Bool} {x1_p : Option Addr} {x1_n : Nat} {x1_c : Nat} {y0 : Bool} {y1_p : Option Addr} {y1_n : Nat} {y1_c : Nat} {w : World} {R : Value → World → Prop} (h : spec_IntSub x0 x1_p x1_n x1_c y0 y1_p y1_n y1_c w R) : Ret P 62 [(.agg #[(.bool x0), (.slice x1_p x1_n x1_c)]), (.agg #[(.bool y0), (.slice y1_p y1_n y1_c)])] w R :=
  Ret.of_fsem Tryd.func62 rfl (Eq.mp (spec_IntSub_eq x0 x1_p x1_n x1_c y0 y1_p y1_n y1_c w R) h)
def impl_extreme_j0 (wv : World) (Inv : Int → Int → World → Prop) (mu : Int → Int → World → Nat) (best : Int) (t9 : Int) (best_1 : Int) (W : World) (R : Value → World → Prop) : Prop :=
  ∃ t27 : Int, t27 = IntKind.wrap .i64 (t9 + 1) ∧ Inv best_1 t27 W ∧ mu best_1 t27 W < mu best t9 wv
def impl_extreme (l_p : Option Addr) (l_n : Nat) (l_c : Nat) (byv : Int) (w : World) (R : Value → World → Prop) : Prop :=
  ∃ (Inv : Int → Int → World → Prop) (mu : Int → Int → World → Nat), Inv 0 0 w ∧
  ∀ (junk : Fr) (wv : World) (best : Int) (t9 : Int), Inv best t9 wv →
    ((decide ((t9 : Int) < ((l_n : Nat) : Int))) = true →
      (0 ≤ (t9 : Int) ∧ (t9 : Int) < (l_n : Nat)) ∧ ptrS l_p fun ad => ∃ (t170 : Bool) (t171_p : Option Addr) (t171_n : Nat) (t171_c : Nat), (∀ wv_1, Ext wv.drew wv_1 → Loads P 56 ((ad.add (t9.toNat * 3)).add 1) (.agg #[(.bool t170), (.slice t171_p t171_n t171_c)]) wv_1) ∧ (0 ≤ (best : Int) ∧ (best : Int) < (l_n : Nat)) ∧ ptrS l_p fun ad_1 => ∃ (t220 : Bool) (t221_p : Option Addr) (t221_n : Nat) (t221_c : Nat), (∀ wv_2, Ext wv.drew wv_2 → Loads P 56 ((ad_1.add (best.toNat * 3)).add 1) (.agg #[(.bool t220), (.slice t221_p t221_n t221_c)]) wv_2) ∧ Calls P 91 ⟨[(.agg #[(.bool t170), (.slice t171_p t171_n t171_c)]), (.agg #[(.bool t220), (.slice t221_p t221_n t221_c)])]⟩ wv.drew fun e wv_3 =>
      ∃ (t23 : Int), e = .returned (.int .i64 t23) ∧
      ∃ t24 : Int, t24 = IntKind.wrap .i64 (byv * t23) ∧ ((decide ((t24 : Int) < 0)) = true →
        impl_extreme_j0 wv Inv mu best t9 t9 wv_3 R) ∧
      ((decide ((t24 : Int) < 0)) = false →
        impl_extreme_j0 wv Inv mu best t9 best wv_3 R)) ∧
    ((decide ((t9 : Int) < ((l_n : Nat) : Int))) = false →
      R (.int .i64 best) wv)
theorem impl_extreme_eq (l_p : Option Addr) (l_n : Nat) (l_c : Nat) (byv : Int) (w : World) (R : Value → World → Prop) : impl_extreme l_p l_n l_c byv w R = fsem P Tryd.f63 (fun k => cond (Nat.beq k 4) [(5, .one (.int .i64)), (9, .one (.int .i64))] ([])) [(.slice l_p l_n l_c), (.int .i64 byv)] R w := by kernel_rfl
theorem impl_extreme_ret {l_p : Option Addr} {l_n : Nat} {l_c : Nat} {byv : Int} {w : World} {R : Value → World → Prop} (h : impl_extreme l_p l_n l_c byv w R) : Ret P 63 [(.slice l_p l_n l_c), (.int .i64 byv)] w R :=
  Ret.of_fsem Tryd.func63 rfl (Eq.mp (impl_extreme_eq l_p l_n l_c byv w R) h)
def impl_intSign (x0 : Bool) (x1_p : Option Addr) (x1_n : Nat) (x1_c : Nat) (w : World) (R : Value → World → Prop) : Prop :=
  ∀ (r : Nat) (wv : World), New w (.cells ⟨[(.bool x0), (.slice x1_p x1_n x1_c)]⟩ 56 (0, 0)) r wv →
  ∃ (t5_p : Option Addr) (t5_n : Nat) (t5_c : Nat), Loads P 49 ((⟨r, 0, none⟩ : Addr).add 1) (.slice t5_p t5_n t5_c) wv ∧ ((decide ((((t5_n : Nat) : Int) : Int) = 0)) = true →
    R (.int .i64 0) wv) ∧
  ((decide ((((t5_n : Nat) : Int) : Int) = 0)) = false →
    ∃ (t10 : Bool), Loads P 4 ((⟨r, 0, none⟩ : Addr).add 0) (.bool t10) wv ∧ (t10 = true →
      R (.int .i64 (-1)) wv) ∧
    (t10 = false →
      R (.int .i64 1) wv))
theorem impl_intSign_eq (x0 : Bool) (x1_p : Option Addr) (x1_n : Nat) (x1_c : Nat) (w : World) (R : Value → World → Prop) : impl_intSign x0 x1_p x1_n x1_c w R = fsem P Tryd.f64 (fun k => []) [(.agg #[(.bool x0), (.slice x1_p x1_n x1_c)])] R w := by kernel_rfl
theorem impl_intSign_ret {x0 : Bool} {x1_p : Option Addr} {x1_n : Nat} {x1_c : Nat} {w : World} {R : Value → World → Prop} (h : impl_intSign x0 x1_p x1_n x1_c w R) : Ret P 64 [(.agg #[(.bool x0), (.slice x1_p x1_n x1_c)])] w R :=
  Ret.of_fsem Tryd.func64 rfl (Eq.mp (impl_intSign_eq x0 x1_p x1_n x1_c w R) h)
def impl_natCmp (a_p : Option Addr) (a_n : Nat) (a_c : Nat) (b_p : Option Addr) (b_n : Nat) (b_c : Nat) (w : World) (R : Value → World → Prop) : Prop :=
  ((decide ((((a_n : Nat) : Int) : Int) ≠ ((b_n : Nat) : Int))) = true →
    ((decide ((((a_n : Nat) : Int) : Int) < ((b_n : Nat) : Int))) = true →
      R (.int .i64 (-1)) w) ∧
    ((decide ((((a_n : Nat) : Int) : Int) < ((b_n : Nat) : Int))) = false →
      R (.int .i64 1) w)) ∧
  ((decide ((((a_n : Nat) : Int) : Int) ≠ ((b_n : Nat) : Int))) = false →
    ∃ t18 : Int, t18 = IntKind.wrap .i64 (((a_n : Nat) : Int) - 1) ∧ ∃ (Inv : Int → World → Prop) (mu : Int → World → Nat), Inv t18 w ∧
    ∀ (junk : Fr) (wv : World) (i : Int), Inv i wv →
      ((decide ((0 : Int) ≤ i)) = true →
        (0 ≤ (i : Int) ∧ (i : Int) < (a_n : Nat)) ∧ ptrS a_p fun ad => ∃ (t26 : Int), (∀ wv_1, Ext wv.drew wv_1 → Loads P 3 (ad.add (i.toNat * 1)) (.int .i64 t26) wv_1) ∧ (0 ≤ (i : Int) ∧ (i : Int) < (b_n : Nat)) ∧ ptrS b_p fun ad_1 => ∃ (t30 : Int), (∀ wv_2, Ext wv.drew wv_2 → Loads P 3 (ad_1.add (i.toNat * 1)) (.int .i64 t30) wv_2) ∧ ((decide ((t26 : Int) ≠ t30)) = true →
          (0 ≤ (i : Int) ∧ (i : Int) < (a_n : Nat)) ∧ ptrS a_p fun ad_2 => ∃ (t35 : Int), (∀ wv_3, Ext wv.drew.drew wv_3 → Loads P 3 (ad_2.add (i.toNat * 1)) (.int .i64 t35) wv_3) ∧ (0 ≤ (i : Int) ∧ (i : Int) < (b_n : Nat)) ∧ ptrS b_p fun ad_3 => ∃ (t39 : Int), (∀ wv_4, Ext wv.drew.drew wv_4 → Loads P 3 (ad_3.add (i.toNat * 1)) (.int .i64 t39) wv_4) ∧ ((decide ((t35 : Int) < t39)) = true →
            R (.int .i64 (-1)) wv.drew.drew) ∧
          ((decide ((t35 : Int) < t39)) = false →
            R (.int .i64 1) wv.drew.drew)) ∧
        ((decide ((t26 : Int) ≠ t30)) = false →
          ∃ t22 : Int, t22 = IntKind.wrap .i64 (i - 1) ∧ Inv t22 wv.drew ∧ mu t22 wv.drew < mu i wv)) ∧
      ((decide ((0 : Int) ≤ i)) = false →
        R (.int .i64 0) wv))
theorem impl_natCmp_eq (a_p : Option Addr) (a_n : Nat) (a_c : Nat) (b_p : Option Addr) (b_n : Nat) (b_c : Nat) (w : World) (R : Value → World → Prop) : impl_natCmp a_p a_n a_c b_p b_n b_c w R = fsem P Tryd.f65 (fun k => cond (Nat.beq k 7) [(5, .one (.int .i64))] ([])) [(.slice a_p a_n a_c), (.slice b_p b_n b_c)] R w := by kernel_rfl
theorem impl_natCmp_ret {a_p : Option Addr} {a_n : Nat} {a_c : Nat} {b_p : Option Addr} {b_n : Nat} {b_c : Nat} {w : World} {R : Value → World → Prop} (h : impl_natCmp a_p a_n a_c b_p b_n b_c w R) : Ret P 65 [(.slice a_p a_n a_c), (.slice b_p b_n b_c)] w R :=
  Ret.of_fsem Tryd.func65 rfl (Eq.mp (impl_natCmp_eq a_p a_n a_c b_p b_n b_c w R) h)
def impl_moneyOf (cur : ByteArray) (units0 : Bool) (units1_p : Option Addr) (units1_n : Nat) (units1_c : Nat) (w : World) (R : Value → World → Prop) : Prop :=
  ∀ (r : Nat) (wv : World), New w (.cells ⟨[(.bool units0), (.slice units1_p units1_n units1_c)]⟩ 56 (0, 0)) r wv →
  ∀ (r_1 : Nat) (wv_1 : World), New wv (.cells ⟨[(.string ByteArray.empty), (.bool false), (.slice none 0 0)]⟩ 58 (0, 0)) r_1 wv_1 →
  ∃ (t80 : Bool) (t81_p : Option Addr) (t81_n : Nat) (t81_c : Nat), Loads P 56 ⟨r, 0, none⟩ (.agg #[(.bool t80), (.slice t81_p t81_n t81_c)]) wv_1 ∧ ∀ (r_2 : Nat) (wv_2 : World), New wv_1 (.cells ⟨[(.string ByteArray.empty), (.bool false), (.slice none 0 0)]⟩ 58 (0, 0)) r_2 wv_2 →
  ∃ wv_3, Stores P 58 ⟨r_2, 0, none⟩ (.agg #[(.string cur), (.bool t80), (.slice t81_p t81_n t81_c)]) wv_2 wv_3 ∧
  ∃ (t100 : ByteArray) (t101 : Bool) (t102_p : Option Addr) (t102_n : Nat) (t102_c : Nat), Loads P 58 ⟨r_2, 0, none⟩ (.agg #[(.string t100), (.bool t101), (.slice t102_p t102_n t102_c)]) wv_3 ∧ Calls P 40 ⟨[(.agg #[(.string t100), (.bool t101), (.slice t102_p t102_n t102_c)])]⟩ wv_3 fun e wv_4 =>
  ∃ (t11 : Bool), e = .returned (.bool t11) ∧
  (t11 = true →
    ∃ (t120 : ByteArray) (t121 : Bool) (t122_p : Option Addr) (t122_n : Nat) (t122_c : Nat), Loads P 58 ⟨r_2, 0, none⟩ (.agg #[(.string t120), (.bool t121), (.slice t122_p t122_n t122_c)]) wv_4 ∧ ∃ wv_5, Stores P 58 ⟨r_1, 0, none⟩ (.agg #[(.string t120), (.bool t121), (.slice t122_p t122_n t122_c)]) wv_4 wv_5 ∧
    ∃ (r0 : ByteArray) (r1 : Bool) (r2_p : Option Addr) (r2_n : Nat) (r2_c : Nat), Loads P 58 ⟨r_1, 0, none⟩ (.agg #[(.string r0), (.bool r1), (.slice r2_p r2_n r2_c)]) wv_5 ∧ R (.tuple #[(.agg #[(.string r0), (.bool r1), (.slice r2_p r2_n r2_c)]), (.bool true)]) wv_5) ∧
  (t11 = false →
    ∃ wv_6, Stores P 58 ⟨r_1, 0, none⟩ (.agg #[(.string ByteArray.empty), (.bool false), (.slice none 0 0)]) wv_4 wv_6 ∧
    ∃ (r0_1 : ByteArray) (r1_1 : Bool) (r2_p_1 : Option Addr) (r2_n_1 : Nat) (r2_c_1 : Nat), Loads P 58 ⟨r_1, 0, none⟩ (.agg #[(.string r0_1), (.bool r1_1), (.slice r2_p_1 r2_n_1 r2_c_1)]) wv_6 ∧ R (.tuple #[(.agg #[(.string r0_1), (.bool r1_1), (.slice r2_p_1 r2_n_1 r2_c_1)]), (.bool false)]) wv_6)
theorem impl_moneyOf_eq (cur : ByteArray) (units0 : Bool) (units1_p : Option Addr) (units1_n : Nat) (units1_c : Nat) (w : World) (R : Value → World → Prop) : impl_moneyOf cur units0 units1_p units1_n units1_c w R = fsem P Tryd.f66 (fun k => []) [(.string cur), (.agg #[(.bool units0), (.slice units1_p units1_n units1_c)])] R w := by kernel_rfl
theorem impl_moneyOf_ret {cur : ByteArray} {units0 : Bool} {units1_p : Option Addr} {units1_n : Nat} {units1_c : Nat} {w : World} {R : Value → World → Prop} (h : impl_moneyOf cur units0 units1_p units1_n units1_c w R) : Ret P 66 [(.string cur), (.agg #[(.bool units0), (.slice units1_p units1_n units1_c)])] w R :=
  Ret.of_fsem Tryd.func66 rfl (Eq.mp (impl_moneyOf_eq cur units0 units1_p units1_n units1_c w R) h)
def impl_intCopy (x0 : Bool) (x1_p : Option Addr) (x1_n : Nat) (x1_c : Nat) (w : World) (R : Value → World → Prop) : Prop :=
  ∀ (r : Nat) (wv : World), New w (.cells ⟨[(.bool x0), (.slice x1_p x1_n x1_c)]⟩ 56 (0, 0)) r wv →
  ∀ (r_1 : Nat) (wv_1 : World), New wv (.cells ⟨[(.bool false), (.slice none 0 0)]⟩ 56 (0, 0)) r_1 wv_1 →
  ∃ (t4 : Bool), (∀ wv_2, Ext wv_1.drew wv_2 → Loads P 4 ((⟨r, 0, none⟩ : Addr).add 0) (.bool t4) wv_2) ∧ ∃ (t6_p : Option Addr) (t6_n : Nat) (t6_c : Nat), (∀ wv_3, Ext wv_1.drew wv_3 → Loads P 49 ((⟨r, 0, none⟩ : Addr).add 1) (.slice t6_p t6_n t6_c) wv_3) ∧ Calls P 87 ⟨[(.slice t6_p t6_n t6_c)]⟩ wv_1.drew fun e wv_4 =>
  ∃ (t7_p : Option Addr) (t7_n : Nat) (t7_c : Nat), e = .returned (.slice t7_p t7_n t7_c) ∧
  Ext wv_1.drew wv_4 ∧ ∃ wv_5, Stores P 56 ⟨r_1, 0, none⟩ (.agg #[(.bool t4), (.slice t7_p t7_n t7_c)]) wv_4 wv_5 ∧
  ∃ (r0 : Bool) (r1_p : Option Addr) (r1_n : Nat) (r1_c : Nat), Loads P 56 ⟨r_1, 0, none⟩ (.agg #[(.bool r0), (.slice r1_p r1_n r1_c)]) wv_5 ∧ R (.agg #[(.bool r0), (.slice r1_p r1_n r1_c)]) wv_5
theorem impl_intCopy_eq (x0 : Bool) (x1_p : Option Addr) (x1_n : Nat) (x1_c : Nat) (w : World) (R : Value → World → Prop) : impl_intCopy x0 x1_p x1_n x1_c w R = fsem P Tryd.f67 (fun k => []) [(.agg #[(.bool x0), (.slice x1_p x1_n x1_c)])] R w := by kernel_rfl
theorem impl_intCopy_ret {x0 : Bool} {x1_p : Option Addr} {x1_n : Nat} {x1_c : Nat} {w : World} {R : Value → World → Prop} (h : impl_intCopy x0 x1_p x1_n x1_c w R) : Ret P 67 [(.agg #[(.bool x0), (.slice x1_p x1_n x1_c)])] w R :=
  Ret.of_fsem Tryd.func67 rfl (Eq.mp (impl_intCopy_eq x0 x1_p x1_n x1_c w R) h)
def spec_IsWord (s : ByteArray) (w : World) (R : Value → World → Prop) : Prop :=
  Calls P 93 ⟨[(.string s), (.int .u8 97), (.int .u8 122), (.int .u8 48), (.int .u8 57)]⟩ w fun e wv =>
  ∃ (t4 : Bool), e = .returned (.bool t4) ∧
  (t4 = true →
    ((decide ((((s.size : Nat) : Int) : Int) ≤ 12)) = true →
      0 ≤ (0 : Int) ∧ ∃ b : UInt8, s[0]? = some b ∧ R (.bool (decide ((97 : Int) ≤ ((b.toNat : Nat) : Int)))) wv) ∧
    ((decide ((((s.size : Nat) : Int) : Int) ≤ 12)) = false →
      R (.bool false) wv)) ∧
  (t4 = false →
    (false = true →
      0 ≤ (0 : Int) ∧ ∃ b_1 : UInt8, s[0]? = some b_1 ∧ R (.bool (decide ((97 : Int) ≤ ((b_1.toNat : Nat) : Int)))) wv) ∧
    (false = false →
      R (.bool false) wv))
theorem spec_IsWord_eq (s : ByteArray) (w : World) (R : Value → World → Prop) : spec_IsWord s w R = fsem P Tryd.f70 (fun k => []) [(.string s)] R w := by kernel_rfl
theorem spec_IsWord_ret {s : ByteArray} {w : World} {R : Value → World → Prop} (h : spec_IsWord s w R) : Ret P 70 [(.string s)] w R :=
  Ret.of_fsem Tryd.func70 rfl (Eq.mp (spec_IsWord_eq s w R) h)
def spec_l01In (n : Int) (lo : Int) (hi : Int) (w : World) (R : Value → World → Prop) : Prop :=
  ((decide ((lo : Int) ≤ n)) = true →
    R (.bool (decide ((n : Int) ≤ hi))) w) ∧
  ((decide ((lo : Int) ≤ n)) = false →
    R (.bool false) w)
theorem spec_l01In_eq (n : Int) (lo : Int) (hi : Int) (w : World) (R : Value → World → Prop) : spec_l01In n lo hi w R = fsem P Tryd.f71 (fun k => []) [(.int .i64 n), (.int .i64 lo), (.int .i64 hi)] R w := by kernel_rfl
theorem spec_l01In_ret {n : Int} {lo : Int} {hi : Int} {w : World} {R : Value → World → Prop} (h : spec_l01In n lo hi w R) : Ret P 71 [(.int .i64 n), (.int .i64 lo), (.int .i64 hi)] w R :=
  Ret.of_fsem Tryd.func71 rfl (Eq.mp (spec_l01In_eq n lo hi w R) h)
def impl_IsWord_j0 (s : ByteArray) (W : World) (R : Value → World → Prop) : Prop :=
  ∃ (Inv : Int → World → Prop) (mu : Int → World → Nat), Inv 1 W ∧
  ∀ (junk : Fr) (wv : World) (i : Int), Inv i wv →
    ((decide ((i : Int) < ((s.size : Nat) : Int))) = true →
      0 ≤ (i : Int) ∧ ∃ b : UInt8, s[i.toNat]? = some b ∧ Calls P 95 ⟨[(.int .u8 ((b.toNat : Nat) : Int))]⟩ wv fun e wv_1 =>
      ∃ (t27 : Bool), e = .returned (.bool t27) ∧
      ((!t27) = true →
        0 ≤ (i : Int) ∧ ∃ b_1 : UInt8, s[i.toNat]? = some b_1 ∧ Calls P 96 ⟨[(.int .u8 ((b_1.toNat : Nat) : Int))]⟩ wv_1 fun e_1 wv_2 =>
        ∃ (t33 : Bool), e_1 = .returned (.bool t33) ∧
        ((!t33) = true →
          R (.bool false) wv_2) ∧
        ((!t33) = false →
          ∃ t23 : Int, t23 = IntKind.wrap .i64 (i + 1) ∧ Inv t23 wv_2 ∧ mu t23 wv_2 < mu i wv)) ∧
      ((!t27) = false →
        (false = true →
          R (.bool false) wv_1) ∧
        (false = false →
          ∃ t23_1 : Int, t23_1 = IntKind.wrap .i64 (i + 1) ∧ Inv t23_1 wv_1 ∧ mu t23_1 wv_1 < mu i wv))) ∧
    ((decide ((i : Int) < ((s.size : Nat) : Int))) = false →
      R (.bool true) wv)
def impl_IsWord (s : ByteArray) (w : World) (R : Value → World → Prop) : Prop :=
  ((decide ((((s.size : Nat) : Int) : Int) < 1)) = true →
    (true = true →
      (true = true →
        R (.bool false) w) ∧
      (true = false →
        impl_IsWord_j0 s w R)) ∧
    (true = false →
      0 ≤ (0 : Int) ∧ ∃ b_2 : UInt8, s[0]? = some b_2 ∧ Calls P 95 ⟨[(.int .u8 ((b_2.toNat : Nat) : Int))]⟩ w fun e_2 wv_3 =>
      ∃ (t15 : Bool), e_2 = .returned (.bool t15) ∧
      ((!t15) = true →
        R (.bool false) wv_3) ∧
      ((!t15) = false →
        impl_IsWord_j0 s wv_3 R))) ∧
  ((decide ((((s.size : Nat) : Int) : Int) < 1)) = false →
    ((decide ((12 : Int) < ((s.size : Nat) : Int))) = true →
      (true = true →
        R (.bool false) w) ∧
      (true = false →
        impl_IsWord_j0 s w R)) ∧
    ((decide ((12 : Int) < ((s.size : Nat) : Int))) = false →
      0 ≤ (0 : Int) ∧ ∃ b_3 : UInt8, s[0]? = some b_3 ∧ Calls P 95 ⟨[(.int .u8 ((b_3.toNat : Nat) : Int))]⟩ w fun e_3 wv_4 =>
      ∃ (t15_1 : Bool), e_3 = .returned (.bool t15_1) ∧
      ((!t15_1) = true →
        R (.bool false) wv_4) ∧
      ((!t15_1) = false →
        impl_IsWord_j0 s wv_4 R)))
theorem impl_IsWord_eq (s : ByteArray) (w : World) (R : Value → World → Prop) : impl_IsWord s w R = fsem P Tryd.f73 (fun k => cond (Nat.beq k 5) [(3, .one (.int .i64))] ([])) [(.string s)] R w := by kernel_rfl
theorem impl_IsWord_ret {s : ByteArray} {w : World} {R : Value → World → Prop} (h : impl_IsWord s w R) : Ret P 73 [(.string s)] w R :=
  Ret.of_fsem Tryd.func73 rfl (Eq.mp (impl_IsWord_eq s w R) h)
end Go.Proofs.YtdidocmbcfbjdaaDoor

namespace Go.Proofs.YtdidocmbcfbjdaaDoor
open Go Go.Proofs.YtdidocmbcfbjdaaDoor.Sx
set_option linter.unusedVariables false
set_option maxRecDepth 100000
def impl_IntOk (x0 : Bool) (x1_p : Option Addr) (x1_n : Nat) (x1_c : Nat) (w : World) (R : Value → World → Prop) : Prop :=
  ∀ (r : Nat) (wv : World), New w (.cells ⟨[(.bool x0), (.slice x1_p x1_n x1_c)]⟩ 56 (0, 0)) r wv →
  ∃ (t4_p : Option Addr) (t4_n : Nat) (t4_c : Nat), Loads P 49 ((⟨r, 0, none⟩ : Addr).add 1) (.slice t4_p t4_n t4_c) wv ∧ Calls P 100 ⟨[(.slice t4_p t4_n t4_c)]⟩ wv fun e wv_1 =>
  ∃ (t5 : Bool), e = .returned (.bool t5) ∧
  (t5 = true →
    ∃ (t8 : Bool), Loads P 4 ((⟨r, 0, none⟩ : Addr).add 0) (.bool t8) wv_1 ∧ ((!t8) = true →
      R (.bool true) wv_1) ∧
    ((!t8) = false →
      ∃ (t12_p : Option Addr) (t12_n : Nat) (t12_c : Nat), Loads P 49 ((⟨r, 0, none⟩ : Addr).add 1) (.slice t12_p t12_n t12_c) wv_1 ∧ R (.bool (decide ((0 : Int) < ((t12_n : Nat) : Int)))) wv_1)) ∧
  (t5 = false →
    R (.bool false) wv_1)
theorem impl_IntOk_eq (x0 : Bool) (x1_p : Option Addr) (x1_n : Nat) (x1_c : Nat) (w : World) (R : Value → World → Prop) : impl_IntOk x0 x1_p x1_n x1_c w R = fsem P Tryd.f77 (fun k => []) [(.agg #[(.bool x0), (.slice x1_p x1_n x1_c)])] R w := by kernel_rfl
theorem impl_IntOk_ret {x0 : Bool} {x1_p : Option Addr} {x1_n : Nat} {x1_c : Nat} {w : World} {R : Value → World → Prop} (h : impl_IntOk x0 x1_p x1_n x1_c w R) : Ret P 77 [(.agg #[(.bool x0), (.slice x1_p x1_n x1_c)])] w R :=
  Ret.of_fsem Tryd.func77 rfl (Eq.mp (impl_IntOk_eq x0 x1_p x1_n x1_c w R) h)
def spec_CurKnown (code : ByteArray) (w : World) (R : Value → World → Prop) : Prop :=
  Calls P 101 ⟨[(.string code)]⟩ w fun e wv =>
  ∃ (t40 : ByteArray) (t41 : ByteArray) (t42 : Int) (t43 : Int), e = .returned (.agg #[(.string t40), (.string t41), (.int .i64 t42), (.int .i64 t43)]) ∧
  R (.bool (decide (t40 ≠ (S [])))) wv
theorem spec_CurKnown_eq (code : ByteArray) (w : World) (R : Value → World → Prop) : spec_CurKnown code w R = fsem P Tryd.f78 (fun k => []) [(.string code)] R w := by kernel_rfl
theorem spec_CurKnown_ret {code : ByteArray} {w : World} {R : Value → World → Prop} (h : spec_CurKnown code w R) : Ret P 78 [(.string code)] w R :=
  Ret.of_fsem Tryd.func78 rfl (Eq.mp (spec_CurKnown_eq code w R) h)
def spec_IntOk (x0 : Bool) (x1_p : Option Addr) (x1_n : Nat) (x1_c : Nat) (w : World) (R : Value → World → Prop) : Prop :=
  ∀ (r : Nat) (wv : World), New w (.cells ⟨[(.bool x0), (.slice x1_p x1_n x1_c)]⟩ 56 (0, 0)) r wv →
  ∃ (t4_p : Option Addr) (t4_n : Nat) (t4_c : Nat), Loads P 49 ((⟨r, 0, none⟩ : Addr).add 1) (.slice t4_p t4_n t4_c) wv ∧ Calls P 102 ⟨[(.slice t4_p t4_n t4_c)]⟩ wv fun e wv_1 =>
  ∃ (t5 : Bool), e = .returned (.bool t5) ∧
  (t5 = true →
    ∃ (t8 : Bool), Loads P 4 ((⟨r, 0, none⟩ : Addr).add 0) (.bool t8) wv_1 ∧ ((!t8) = true →
      R (.bool true) wv_1) ∧
    ((!t8) = false →
      ∃ (t12_p : Option Addr) (t12_n : Nat) (t12_c : Nat), Loads P 49 ((⟨r, 0, none⟩ : Addr).add 1) (.slice t12_p t12_n t12_c) wv_1 ∧ R (.bool (decide ((0 : Int) < ((t12_n : Nat) : Int)))) wv_1)) ∧
  (t5 = false →
    R (.bool false) wv_1)
theorem spec_IntOk_eq (x0 : Bool) (x1_p : Option Addr) (x1_n : Nat) (x1_c : Nat) (w : World) (R : Value → World → Prop) : spec_IntOk x0 x1_p x1_n x1_c w R = fsem P Tryd.f79 (fun k => []) [(.agg #[(.bool x0), (.slice x1_p x1_n x1_c)])] R w := by kernel_rfl
theorem spec_IntOk_ret {x0 : Bool} {x1_p : Option Addr} {x1_n : Nat} {x1_c : Nat} {w : World} {R : Value → World → Prop} (h : spec_IntOk x0 x1_p x1_n x1_c w R) : Ret P 79 [(.agg #[(.bool x0), (.slice x1_p x1_n x1_c)])] w R :=
  Ret.of_fsem Tryd.func79 rfl (Eq.mp (spec_IntOk_eq x0 x1_p x1_n x1_c w R) h)
def impl_CurKnown (code : ByteArray) (w : World) (R : Value → World → Prop) : Prop :=
  Calls P 103 ⟨[(.string code)]⟩ w fun e wv =>
  ∃ (t70 : ByteArray) (t71 : ByteArray) (t72 : Int) (t73 : Int) (t7 : Bool), e = .returned (.tuple #[(.agg #[(.string t70), (.string t71), (.int .i64 t72), (.int .i64 t73)]), (.bool t7)]) ∧
  ∀ (r : Nat) (wv_1 : World), New wv (.cells ⟨[(.string ByteArray.empty), (.string ByteArray.empty), (.int .i64 0), (.int .i64 0)]⟩ 124 (0, 0)) r wv_1 →
  ∃ wv_2, Stores P 124 ⟨r, 0, none⟩ (.agg #[(.string t70), (.string t71), (.int .i64 t72), (.int .i64 t73)]) wv_1 wv_2 ∧
  R (.bool t7) wv_2
theorem impl_CurKnown_eq (code : ByteArray) (w : World) (R : Value → World → Prop) : impl_CurKnown code w R = fsem P Tryd.f80 (fun k => []) [(.string code)] R w := by kernel_rfl
theorem impl_CurKnown_ret {code : ByteArray} {w : World} {R : Value → World → Prop} (h : impl_CurKnown code w R) : Ret P 80 [(.string code)] w R :=
  Ret.of_fsem Tryd.func80 rfl (Eq.mp (impl_CurKnown_eq code w R) h)
def slices_BinarySearchFunc_impl_Pos_impl_Pos_impl_Pos (x_p : Option Addr) (x_n : Nat) (x_c : Nat) (target0 : ByteArray) (target1 : Bool) (target2_p : Option Addr) (target2_n : Nat) (target2_c : Nat) (cmp : Value) (w : World) (R : Value → World → Prop) : Prop :=
  ∀ (r : Nat) (wv : World), New w (.cells ⟨[(.string target0), (.bool target1), (.slice target2_p target2_n target2_c)]⟩ 78 (0, 0)) r wv →
  ∃ (Inv : Int → Int → World → Prop) (mu : Int → Int → World → Nat), Inv 0 ((x_n : Nat) : Int) wv ∧
  ∀ (junk : Fr) (wv_1 : World) (i : Int) (j : Int), Inv i j wv_1 →
    ((decide ((i : Int) < j)) = true →
      ∃ t20 : Int, t20 = IntKind.wrap .i64 (i + j) ∧ ∃ t21 : Int, t21 = IntKind.wrap .u64 t20 ∧ 0 ≤ (1 : Int) ∧ ∃ t22 : Int, t22 = Int.fdiv t21 (2 ^ (min (1 : Int).toNat (IntKind.bits .u64))) ∧ ∃ t23 : Int, t23 = IntKind.wrap .i64 t22 ∧ (0 ≤ (t23 : Int) ∧ (t23 : Int) < (x_n : Nat)) ∧ ptrS x_p fun ad => ∃ (t280 : ByteArray) (t281 : Bool) (t282_p : Option Addr) (t282_n : Nat) (t282_c : Nat), (∀ wv_2, Ext wv_1.drew wv_2 → Loads P 78 (ad.add (t23.toNat * 3)) (.agg #[(.string t280), (.bool t281), (.slice t282_p t282_n t282_c)]) wv_2) ∧ ∃ (t290 : ByteArray) (t291 : Bool) (t292_p : Option Addr) (t292_n : Nat) (t292_c : Nat), (∀ wv_3, Ext wv_1.drew wv_3 → Loads P 78 ⟨r, 0, none⟩ (.agg #[(.string t290), (.bool t291), (.slice t292_p t292_n t292_c)]) wv_3) ∧ CallW P cmp [(.agg #[(.string t280), (.bool t281), (.slice t282_p t282_n t282_c)]), (.agg #[(.string t290), (.bool t291), (.slice t292_p t292_n t292_c)])] wv_1.drew fun e wv_4 =>
      ∃ (t30 : Int), e = .returned (.int .i64 t30) ∧
      ((decide ((t30 : Int) < 0)) = true →
        ∃ t33 : Int, t33 = IntKind.wrap .i64 (t23 + 1) ∧ Inv t33 j wv_4 ∧ mu t33 j wv_4 < mu i j wv_1) ∧
      ((decide ((t30 : Int) < 0)) = false →
        Inv i t23 wv_4 ∧ mu i t23 wv_4 < mu i j wv_1)) ∧
    ((decide ((i : Int) < j)) = false →
      ((decide ((i : Int) < ((x_n : Nat) : Int))) = true →
        (0 ≤ (i : Int) ∧ (i : Int) < (x_n : Nat)) ∧ ptrS x_p fun ad_1 => ∃ (t440 : ByteArray) (t441 : Bool) (t442_p : Option Addr) (t442_n : Nat) (t442_c : Nat), (∀ wv_5, Ext wv_1.drew wv_5 → Loads P 78 (ad_1.add (i.toNat * 3)) (.agg #[(.string t440), (.bool t441), (.slice t442_p t442_n t442_c)]) wv_5) ∧ ∃ (t450 : ByteArray) (t451 : Bool) (t452_p : Option Addr) (t452_n : Nat) (t452_c : Nat), (∀ wv_6, Ext wv_1.drew wv_6 → Loads P 78 ⟨r, 0, none⟩ (.agg #[(.string t450), (.bool t451), (.slice t452_p t452_n t452_c)]) wv_6) ∧ CallW P cmp [(.agg #[(.string t440), (.bool t441), (.slice t442_p t442_n t442_c)]), (.agg #[(.string t450), (.bool t451), (.slice t452_p t452_n t452_c)])] wv_1.drew fun e_1 wv_7 =>
        ∃ (t46 : Int), e_1 = .returned (.int .i64 t46) ∧
        R (.tuple #[(.int .i64 i), (.bool (decide ((t46 : Int) = 0)))]) wv_7) ∧
      ((decide ((i : Int) < ((x_n : Nat) : Int))) = false →
        R (.tuple #[(.int .i64 i), (.bool false)]) wv_1.drew))
theorem slices_BinarySearchFunc_impl_Pos_impl_Pos_impl_Pos_eq (x_p : Option Addr) (x_n : Nat) (x_c : Nat) (target0 : ByteArray) (target1 : Bool) (target2_p : Option Addr) (target2_n : Nat) (target2_c : Nat) (cmp : Value) (w : World) (R : Value → World → Prop) : slices_BinarySearchFunc_impl_Pos_impl_Pos_impl_Pos x_p x_n x_c target0 target1 target2_p target2_n target2_c cmp w R = fsem P Tryd.f82 (fun k => cond (Nat.beq k 4) [(9, .one (.int .i64)), (10, .one (.int .i64))] ([])) [(.slice x_p x_n x_c), (.agg #[(.string target0), (.bool target1), (.slice target2_p target2_n target2_c)]), cmp] R w := by kernel_rfl
theorem slices_BinarySearchFunc_impl_Pos_impl_Pos_impl_Pos_ret {x_p : Option Addr} {x_n : Nat} {x_c : Nat} {target0 : ByteArray} {target1 : Bool} {target2_p : Option Addr} {target2_n : Nat} {target2_c : Nat} {cmp : Value} {w : World} {R : Value → World → Prop} (h : slices_BinarySearchFunc_impl_Pos_impl_Pos_impl_Pos x_p x_n x_c target0 target1 target2_p target2_n target2_c cmp w R) : Ret P 82 [(.slice x_p x_n x_c), (.agg #[(.string target0), (.bool target1), (.slice target2_p target2_n target2_c)]), cmp] w R :=
  Ret.of_fsem Tryd.func82 rfl (Eq.mp (slices_BinarySearchFunc_impl_Pos_impl_Pos_impl_Pos_eq x_p x_n x_c target0 target1 target2_p target2_n target2_c cmp w R) h)
def slices_Insert_impl_Pos_impl_Pos (s_p : Option Addr) (s_n : Nat) (s_c : Nat) (i : Int) (v_p : Option Addr) (v_n : Nat) (v_c : Nat) (w : World) (R : Value → World → Prop) : Prop :=
  (0 ≤ (i : Int) ∧ (i : Int) ≤ (s_n : Nat)) ∧ ((decide ((((v_n : Nat) : Int) : Int) = 0)) = true →
    R (.slice s_p s_n s_c) w) ∧
  ((decide ((((v_n : Nat) : Int) : Int) = 0)) = false →
    ((decide ((i : Int) = ((s_n : Nat) : Int))) = true →
      ∃ (t25_p : Option Addr) (t25_n : Nat) (t25_c : Nat) (wv : World), Appends P [36, 36] [(.slice s_p s_n s_c), (.slice v_p v_n v_c)] (.slice t25_p t25_n t25_c) w wv ∧
      R (.slice t25_p t25_n t25_c) wv) ∧
    ((decide ((i : Int) = ((s_n : Nat) : Int))) = false →
      ∃ t28 : Int, t28 = IntKind.wrap .i64 (((s_n : Nat) : Int) + ((v_n : Nat) : Int)) ∧ ((decide ((((s_c : Nat) : Int) : Int) < t28)) = true →
        (0 ≤ (i : Int) ∧ (i : Int) ≤ (s_c : Nat)) ∧ ∃ t37 : Int, t37 = IntKind.wrap .i64 (((s_n : Nat) : Int) + ((v_n : Nat) : Int)) ∧ ∃ t39 : Int, t39 = IntKind.wrap .i64 (t37 - i) ∧ ∃ (t40_p : Option Addr) (t40_n : Nat) (t40_c : Nat) (wv_1 : World), Appends P [36, 3] [(.slice (sub s_p 0 s_c 3) (i.toNat - 0) (s_c - 0)), (.int .i64 t39)] (.slice t40_p t40_n t40_c) w wv_1 ∧
        (0 ≤ (i : Int) ∧ (i : Int) ≤ (t40_n : Nat)) ∧ ∃ (t45 : Int) (wv_2 : World), Copies P [36, 36] [(.slice (sub t40_p i.toNat t40_c 3) (t40_n - i.toNat) (t40_c - i.toNat)), (.slice v_p v_n v_c)] (.int .i64 t45) wv_1 wv_2 ∧
        ∃ t49 : Int, t49 = IntKind.wrap .i64 (i + ((v_n : Nat) : Int)) ∧ (0 ≤ (t49 : Int) ∧ (t49 : Int) ≤ (t40_n : Nat)) ∧ (0 ≤ (i : Int) ∧ (i : Int) ≤ (s_n : Nat)) ∧ ∃ (t54 : Int) (wv_3 : World), Copies P [36, 36] [(.slice (sub t40_p t49.toNat t40_c 3) (t40_n - t49.toNat) (t40_c - t49.toNat)), (.slice (sub s_p i.toNat s_c 3) (s_n - i.toNat) (s_c - i.toNat))] (.int .i64 t54) wv_2.drew wv_3 ∧
        R (.slice t40_p t40_n t40_c) wv_3) ∧
      ((decide ((((s_c : Nat) : Int) : Int) < t28)) = false →
        ∃ t59 : Int, t59 = IntKind.wrap .i64 (((s_n : Nat) : Int) + ((v_n : Nat) : Int)) ∧ (0 ≤ (t59 : Int) ∧ (t59 : Int) ≤ (s_c : Nat)) ∧ ∃ t65 : Int, t65 = IntKind.wrap .i64 (i + ((v_n : Nat) : Int)) ∧ (0 ≤ (t65 : Int) ∧ (t65 : Int) ≤ ((t59.toNat - 0) : Nat)) ∧ ∃ (t67 : Bool) (wv_4 : World), Externs P 105 [(.slice v_p v_n v_c), (.slice (sub (sub s_p 0 s_c 3) t65.toNat (s_c - 0) 3) ((t59.toNat - 0) - t65.toNat) ((s_c - 0) - t65.toNat))] (.bool t67) w wv_4 ∧
        ((!t67) = true →
          ∃ t72_1 : Int, t72_1 = IntKind.wrap .i64 (i + ((v_n : Nat) : Int)) ∧ (0 ≤ (t72_1 : Int) ∧ (t72_1 : Int) ≤ ((t59.toNat - 0) : Nat)) ∧ (0 ≤ (i : Int) ∧ (i : Int) ≤ ((t59.toNat - 0) : Nat)) ∧ ∃ (t77_1 : Int) (wv_9 : World), Copies P [36, 36] [(.slice (sub (sub s_p 0 s_c 3) t72_1.toNat (s_c - 0) 3) ((t59.toNat - 0) - t72_1.toNat) ((s_c - 0) - t72_1.toNat)), (.slice (sub (sub s_p 0 s_c 3) i.toNat (s_c - 0) 3) ((t59.toNat - 0) - i.toNat) ((s_c - 0) - i.toNat))] (.int .i64 t77_1) wv_4.drew wv_9 ∧
          (0 ≤ (i : Int) ∧ (i : Int) ≤ ((t59.toNat - 0) : Nat)) ∧ ∃ (t82_1 : Int) (wv_10 : World), Copies P [36, 36] [(.slice (sub (sub s_p 0 s_c 3) i.toNat (s_c - 0) 3) ((t59.toNat - 0) - i.toNat) ((s_c - 0) - i.toNat)), (.slice v_p v_n v_c)] (.int .i64 t82_1) wv_9 wv_10 ∧
          R (.slice (sub s_p 0 s_c 3) (t59.toNat - 0) (s_c - 0)) wv_10) ∧
        ((!t67) = false →
          (0 ≤ (((s_n : Nat) : Int) : Int) ∧ (((s_n : Nat) : Int) : Int) ≤ ((t59.toNat - 0) : Nat)) ∧ ∃ (t88_1 : Int) (wv_11 : World), Copies P [36, 36] [(.slice (sub (sub s_p 0 s_c 3) s_n (s_c - 0) 3) ((t59.toNat - 0) - s_n) ((s_c - 0) - s_n)), (.slice v_p v_n v_c)] (.int .i64 t88_1) wv_4 wv_11 ∧
          (0 ≤ (i : Int) ∧ (i : Int) ≤ ((t59.toNat - 0) : Nat)) ∧ Calls P 106 ⟨[(.slice (sub (sub s_p 0 s_c 3) i.toNat (s_c - 0) 3) ((t59.toNat - 0) - i.toNat) ((s_c - 0) - i.toNat)), (.int .i64 ((v_n : Nat) : Int))]⟩ wv_11 fun e_2 wv_12 =>
          e_2 = .returned (.tuple #[]) ∧
          R (.slice (sub s_p 0 s_c 3) (t59.toNat - 0) (s_c - 0)) wv_12))))
theorem slices_Insert_impl_Pos_impl_Pos_eq (s_p : Option Addr) (s_n : Nat) (s_c : Nat) (i : Int) (v_p : Option Addr) (v_n : Nat) (v_c : Nat) (w : World) (R : Value → World → Prop) : slices_Insert_impl_Pos_impl_Pos s_p s_n s_c i v_p v_n v_c w R = fsem P Tryd.f83 (fun k => []) [(.slice s_p s_n s_c), (.int .i64 i), (.slice v_p v_n v_c)] R w := by kernel_rfl
theorem slices_Insert_impl_Pos_impl_Pos_ret {s_p : Option Addr} {s_n : Nat} {s_c : Nat} {i : Int} {v_p : Option Addr} {v_n : Nat} {v_c : Nat} {w : World} {R : Value → World → Prop} (h : slices_Insert_impl_Pos_impl_Pos s_p s_n s_c i v_p v_n v_c w R) : Ret P 83 [(.slice s_p s_n s_c), (.int .i64 i), (.slice v_p v_n v_c)] w R :=
  Ret.of_fsem Tryd.func83 rfl (Eq.mp (slices_Insert_impl_Pos_impl_Pos_eq s_p s_n s_c i v_p v_n v_c w R) h)
def impl_signed (neg : Bool) (mag_p : Option Addr) (mag_n : Nat) (mag_c : Nat) (w : World) (R : Value → World → Prop) : Prop :=
  ∀ (r : Nat) (wv : World), New w (.cells ⟨[(.bool false), (.slice none 0 0)]⟩ 56 (0, 0)) r wv →
  (neg = true →
    ∃ wv_1, Stores P 56 ⟨r, 0, none⟩ (.agg #[(.bool (decide ((0 : Int) < ((mag_n : Nat) : Int)))), (.slice mag_p mag_n mag_c)]) wv wv_1 ∧
    ∃ (r0 : Bool) (r1_p : Option Addr) (r1_n : Nat) (r1_c : Nat), Loads P 56 ⟨r, 0, none⟩ (.agg #[(.bool r0), (.slice r1_p r1_n r1_c)]) wv_1 ∧ R (.agg #[(.bool r0), (.slice r1_p r1_n r1_c)]) wv_1) ∧
  (neg = false →
    ∃ wv_2, Stores P 56 ⟨r, 0, none⟩ (.agg #[(.bool false), (.slice mag_p mag_n mag_c)]) wv wv_2 ∧
    ∃ (r0_1 : Bool) (r1_p_1 : Option Addr) (r1_n_1 : Nat) (r1_c_1 : Nat), Loads P 56 ⟨r, 0, none⟩ (.agg #[(.bool r0_1), (.slice r1_p_1 r1_n_1 r1_c_1)]) wv_2 ∧ R (.agg #[(.bool r0_1), (.slice r1_p_1 r1_n_1 r1_c_1)]) wv_2)
theorem impl_signed_eq (neg : Bool) (mag_p : Option Addr) (mag_n : Nat) (mag_c : Nat) (w : World) (R : Value → World → Prop) : impl_signed neg mag_p mag_n mag_c w R = fsem P Tryd.f84 (fun k => []) [(.bool neg), (.slice mag_p mag_n mag_c)] R w := by kernel_rfl
theorem impl_signed_ret {neg : Bool} {mag_p : Option Addr} {mag_n : Nat} {mag_c : Nat} {w : World} {R : Value → World → Prop} (h : impl_signed neg mag_p mag_n mag_c w R) : Ret P 84 [(.bool neg), (.slice mag_p mag_n mag_c)] w R :=
  Ret.of_fsem Tryd.func84 rfl (Eq.mp (impl_signed_eq neg mag_p mag_n mag_c w R) h)
def impl_natAdd_j1 (wv_1 : World) (Inv : Option Addr → Nat → Nat → Int → Int → World → Prop) (mu : Option Addr → Nat → Nat → Int → Int → World → Nat) (out_p : Option Addr) (out_n : Nat) (out_c : Nat) (carry : Int) (i : Int) (carry_2 : Int) (W_1 : World) (R : Value → World → Prop) : Prop :=
  (1000000000 : Int) ≠ 0 ∧ ∃ t46 : Int, t46 = Int.tmod carry_2 1000000000 ∧ ∀ (r_1 : Nat) (wv_2 : World), New W_1 (.cells ⟨[(.int .i64 t46)]⟩ 3 (0, 0)) r_1 wv_2 →
  ∃ (t48_p : Option Addr) (t48_n : Nat) (t48_c : Nat) (wv_3 : World), Appends P [49, 49] [(.slice out_p out_n out_c), (.slice (some ⟨r_1, 0, none⟩) 1 1)] (.slice t48_p t48_n t48_c) wv_2 wv_3 ∧
  (1000000000 : Int) ≠ 0 ∧ ∃ t50 : Int, t50 = IntKind.wrap .i64 (Int.tdiv carry_2 1000000000) ∧ ∃ t23 : Int, t23 = IntKind.wrap .i64 (i + 1) ∧ Inv t48_p t48_n t48_c t50 t23 wv_3 ∧ mu t48_p t48_n t48_c t50 t23 wv_3 < mu out_p out_n out_c carry i wv_1
def impl_natAdd_j0 (b_p : Option Addr) (b_n : Nat) (wv_1 : World) (Inv : Option Addr → Nat → Nat → Int → Int → World → Prop) (mu : Option Addr → Nat → Nat → Int → Int → World → Nat) (out_p : Option Addr) (out_n : Nat) (out_c : Nat) (carry : Int) (i : Int) (carry_1 : Int) (W : World) (R : Value → World → Prop) : Prop :=
  ((decide ((i : Int) < ((b_n : Nat) : Int))) = true →
    (0 ≤ (i : Int) ∧ (i : Int) < (b_n : Nat)) ∧ ptrS b_p fun ad_1 => ∃ (t42 : Int), Loads P 3 (ad_1.add (i.toNat * 1)) (.int .i64 t42) W ∧ ∃ t43 : Int, t43 = IntKind.wrap .i64 (carry_1 + t42) ∧ impl_natAdd_j1 wv_1 Inv mu out_p out_n out_c carry i t43 W R) ∧
  ((decide ((i : Int) < ((b_n : Nat) : Int))) = false →
    impl_natAdd_j1 wv_1 Inv mu out_p out_n out_c carry i carry_1 W R)
def impl_natAdd (a_p : Option Addr) (a_n : Nat) (a_c : Nat) (b_p : Option Addr) (b_n : Nat) (b_c : Nat) (w : World) (R : Value → World → Prop) : Prop :=
  ∃ t12 : Int, t12 = (if ((b_n : Nat) : Int) > ((a_n : Nat) : Int) then ((b_n : Nat) : Int) else ((a_n : Nat) : Int)) ∧ ∃ t13 : Int, t13 = IntKind.wrap .i64 (t12 + 1) ∧ (0 ≤ (0 : Int) ∧ (0 : Int) ≤ t13 ∧ ((8 : Nat) : Int) * t13 ≤ 281474976710656) ∧
  ∀ (r : Nat) (wv : World), New w (.cells ⟨zeroRow (.int .i64 0) (t13.toNat * 1)⟩ 3 (0, 0)) r wv →
  ∃ (Inv : Option Addr → Nat → Nat → Int → Int → World → Prop) (mu : Option Addr → Nat → Nat → Int → Int → World → Nat), Inv (some ⟨r, 0, none⟩) 0 t13.toNat 0 0 wv ∧
  ∀ (junk : Fr) (wv_1 : World) (out_p : Option Addr) (out_n : Nat) (out_c : Nat) (carry : Int) (i : Int), Inv out_p out_n out_c carry i wv_1 →
    ∃ t20 : Int, t20 = (if ((b_n : Nat) : Int) > ((a_n : Nat) : Int) then ((b_n : Nat) : Int) else ((a_n : Nat) : Int)) ∧ ((decide ((i : Int) < t20)) = true →
      ((decide ((i : Int) < ((a_n : Nat) : Int))) = true →
        (0 ≤ (i : Int) ∧ (i : Int) < (a_n : Nat)) ∧ ptrS a_p fun ad => ∃ (t32 : Int), Loads P 3 (ad.add (i.toNat * 1)) (.int .i64 t32) wv_1 ∧ ∃ t33 : Int, t33 = IntKind.wrap .i64 (carry + t32) ∧ impl_natAdd_j0 b_p b_n wv_1 Inv mu out_p out_n out_c carry i t33 wv_1 R) ∧
      ((decide ((i : Int) < ((a_n : Nat) : Int))) = false →
        impl_natAdd_j0 b_p b_n wv_1 Inv mu out_p out_n out_c carry i carry wv_1 R)) ∧
    ((decide ((i : Int) < t20)) = false →
      ∀ (r_2 : Nat) (wv_4 : World), New wv_1 (.cells ⟨[(.int .i64 carry)]⟩ 3 (0, 0)) r_2 wv_4 →
      ∃ (t54_p : Option Addr) (t54_n : Nat) (t54_c : Nat) (wv_5 : World), Appends P [49, 49] [(.slice out_p out_n out_c), (.slice (some ⟨r_2, 0, none⟩) 1 1)] (.slice t54_p t54_n t54_c) wv_4 wv_5 ∧
      Calls P 107 ⟨[(.slice t54_p t54_n t54_c)]⟩ wv_5 fun e wv_6 =>
      ∃ (t55_p : Option Addr) (t55_n : Nat) (t55_c : Nat), e = .returned (.slice t55_p t55_n t55_c) ∧
      R (.slice t55_p t55_n t55_c) wv_6)
theorem impl_natAdd_eq (a_p : Option Addr) (a_n : Nat) (a_c : Nat) (b_p : Option Addr) (b_n : Nat) (b_c : Nat) (w : World) (R : Value → World → Prop) : impl_natAdd a_p a_n a_c b_p b_n b_c w R = fsem P Tryd.f85 (fun k => cond (Nat.beq k 5) [(5, .one .slice), (6, .one (.int .i64)), (7, .one (.int .i64))] ([])) [(.slice a_p a_n a_c), (.slice b_p b_n b_c)] R w := by kernel_rfl
theorem impl_natAdd_ret {a_p : Option Addr} {a_n : Nat} {a_c : Nat} {b_p : Option Addr} {b_n : Nat} {b_c : Nat} {w : World} {R : Value → World → Prop} (h : impl_natAdd a_p a_n a_c b_p b_n b_c w R) : Ret P 85 [(.slice a_p a_n a_c), (.slice b_p b_n b_c)] w R :=
  Ret.of_fsem Tryd.func85 rfl (Eq.mp (impl_natAdd_eq a_p a_n a_c b_p b_n b_c w R) h)
def impl_natSub_j1 (a_n : Nat) (r : Nat) (wv_1 : World) (Inv : Int → Int → World → Prop) (mu : Int → Int → World → Nat) (borrow : Int) (t14 : Int) (borrow_1 : Int) (n_1 : Int) (W_1 : World) (R : Value → World → Prop) : Prop :=
  (0 ≤ (t14 : Int) ∧ (t14 : Int) < (a_n : Nat)) ∧ ∃ wv_2, Stores P 3 ((⟨r, 0, none⟩ : Addr).add (t14.toNat * 1)) (.int .i64 n_1) W_1 wv_2 ∧
  ∃ t41 : Int, t41 = IntKind.wrap .i64 (t14 + 1) ∧ Inv borrow_1 t41 wv_2 ∧ mu borrow_1 t41 wv_2 < mu borrow t14 wv_1
def impl_natSub_j0 (a_n : Nat) (r : Nat) (wv_1 : World) (Inv : Int → Int → World → Prop) (mu : Int → Int → World → Nat) (borrow : Int) (t14 : Int) (n : Int) (W : World) (R : Value → World → Prop) : Prop :=
  ((decide ((n : Int) < 0)) = true →
    ∃ t36 : Int, t36 = IntKind.wrap .i64 (n + 1000000000) ∧ impl_natSub_j1 a_n r wv_1 Inv mu borrow t14 1 t36 W R) ∧
  ((decide ((n : Int) < 0)) = false →
    impl_natSub_j1 a_n r wv_1 Inv mu borrow t14 0 n W R)
def impl_natSub (a_p : Option Addr) (a_n : Nat) (a_c : Nat) (b_p : Option Addr) (b_n : Nat) (b_c : Nat) (w : World) (R : Value → World → Prop) : Prop :=
  (0 ≤ (((a_n : Nat) : Int) : Int) ∧ (((a_n : Nat) : Int) : Int) ≤ ((a_n : Nat) : Int) ∧ ((8 : Nat) : Int) * ((a_n : Nat) : Int) ≤ 281474976710656) ∧
  ∀ (r : Nat) (wv : World), New w (.cells ⟨zeroRow (.int .i64 0) (a_n * 1)⟩ 3 (0, 0)) r wv →
  ∃ (Inv : Int → Int → World → Prop) (mu : Int → Int → World → Nat), Inv 0 0 wv ∧
  ∀ (junk : Fr) (wv_1 : World) (borrow : Int) (t14 : Int), Inv borrow t14 wv_1 →
    ((decide ((t14 : Int) < ((a_n : Nat) : Int))) = true →
      (0 ≤ (t14 : Int) ∧ (t14 : Int) < (a_n : Nat)) ∧ ptrS a_p fun ad => ∃ (t20 : Int), Loads P 3 (ad.add (t14.toNat * 1)) (.int .i64 t20) wv_1 ∧ ∃ t22 : Int, t22 = IntKind.wrap .i64 (t20 - borrow) ∧ ((decide ((t14 : Int) < ((b_n : Nat) : Int))) = true →
        (0 ≤ (t14 : Int) ∧ (t14 : Int) < (b_n : Nat)) ∧ ptrS b_p fun ad_1 => ∃ (t31 : Int), Loads P 3 (ad_1.add (t14.toNat * 1)) (.int .i64 t31) wv_1 ∧ ∃ t32 : Int, t32 = IntKind.wrap .i64 (t22 - t31) ∧ impl_natSub_j0 a_n r wv_1 Inv mu borrow t14 t32 wv_1 R) ∧
      ((decide ((t14 : Int) < ((b_n : Nat) : Int))) = false →
        impl_natSub_j0 a_n r wv_1 Inv mu borrow t14 t22 wv_1 R)) ∧
    ((decide ((t14 : Int) < ((a_n : Nat) : Int))) = false →
      Calls P 107 ⟨[(.slice (some ⟨r, 0, none⟩) a_n a_n)]⟩ wv_1 fun e wv_3 =>
      ∃ (t43_p : Option Addr) (t43_n : Nat) (t43_c : Nat), e = .returned (.slice t43_p t43_n t43_c) ∧
      R (.slice t43_p t43_n t43_c) wv_3)
theorem impl_natSub_eq (a_p : Option Addr) (a_n : Nat) (a_c : Nat) (b_p : Option Addr) (b_n : Nat) (b_c : Nat) (w : World) (R : Value → World → Prop) : impl_natSub a_p a_n a_c b_p b_n b_c w R = fsem P Tryd.f86 (fun k => cond (Nat.beq k 5) [(6, .one (.int .i64)), (14, .one (.int .i64))] ([])) [(.slice a_p a_n a_c), (.slice b_p b_n b_c)] R w := by kernel_rfl
theorem impl_natSub_ret {a_p : Option Addr} {a_n : Nat} {a_c : Nat} {b_p : Option Addr} {b_n : Nat} {b_c : Nat} {w : World} {R : Value → World → Prop} (h : impl_natSub a_p a_n a_c b_p b_n b_c w R) : Ret P 86 [(.slice a_p a_n a_c), (.slice b_p b_n b_c)] w R :=
  Ret.of_fsem Tryd.func86 rfl (Eq.mp (impl_natSub_eq a_p a_n a_c b_p b_n b_c w R) h)
def impl_natCopy (a_p : Option Addr) (a_n : Nat) (a_c : Nat) (w : World) (R : Value → World → Prop) : Prop :=
  ∀ (r : Nat) (wv : World), New w (.cells ⟨[]⟩ 3 (0, 0)) r wv →
  ∃ (t5_p : Option Addr) (t5_n : Nat) (t5_c : Nat) (wv_1 : World), Appends P [49, 49] [(.slice (some ⟨r, 0, none⟩) 0 0), (.slice a_p a_n a_c)] (.slice t5_p t5_n t5_c) wv wv_1 ∧
  R (.slice t5_p t5_n t5_c) wv_1
theorem impl_natCopy_eq (a_p : Option Addr) (a_n : Nat) (a_c : Nat) (w : World) (R : Value → World → Prop) : impl_natCopy a_p a_n a_c w R = fsem P Tryd.f87 (fun k => []) [(.slice a_p a_n a_c)] R w := by kernel_rfl
theorem impl_natCopy_ret {a_p : Option Addr} {a_n : Nat} {a_c : Nat} {w : World} {R : Value → World → Prop} (h : impl_natCopy a_p a_n a_c w R) : Ret P 87 [(.slice a_p a_n a_c)] w R :=
  Ret.of_fsem Tryd.func87 rfl (Eq.mp (impl_natCopy_eq a_p a_n a_c w R) h)
def spec_l02Cmp (a_p : Option Addr) (a_n : Nat) (a_c : Nat) (b_p : Option Addr) (b_n : Nat) (b_c : Nat) (w : World) (R : Value → World → Prop) : Prop :=
  ((decide ((((a_n : Nat) : Int) : Int) ≠ ((b_n : Nat) : Int))) = true →
    ((decide ((((a_n : Nat) : Int) : Int) < ((b_n : Nat) : Int))) = true →
      R (.int .i64 (-1)) w) ∧
    ((decide ((((a_n : Nat) : Int) : Int) < ((b_n : Nat) : Int))) = false →
      R (.int .i64 1) w)) ∧
  ((decide ((((a_n : Nat) : Int) : Int) ≠ ((b_n : Nat) : Int))) = false →
    ∃ t18 : Int, t18 = IntKind.wrap .i64 (((a_n : Nat) : Int) - 1) ∧ ∃ (Inv : Int → World → Prop) (mu : Int → World → Nat), Inv t18 w ∧
    ∀ (junk : Fr) (wv : World) (i : Int), Inv i wv →
      ((decide ((0 : Int) ≤ i)) = true →
        (0 ≤ (i : Int) ∧ (i : Int) < (a_n : Nat)) ∧ ptrS a_p fun ad => ∃ (t26 : Int), (∀ wv_1, Ext wv.drew wv_1 → Loads P 3 (ad.add (i.toNat * 1)) (.int .i64 t26) wv_1) ∧ (0 ≤ (i : Int) ∧ (i : Int) < (b_n : Nat)) ∧ ptrS b_p fun ad_1 => ∃ (t30 : Int), (∀ wv_2, Ext wv.drew wv_2 → Loads P 3 (ad_1.add (i.toNat * 1)) (.int .i64 t30) wv_2) ∧ ((decide ((t26 : Int) < t30)) = true →
          R (.int .i64 (-1)) wv.drew) ∧
        ((decide ((t26 : Int) < t30)) = false →
          (0 ≤ (i : Int) ∧ (i : Int) < (a_n : Nat)) ∧ ptrS a_p fun ad_2 => ∃ (t35 : Int), (∀ wv_3, Ext wv.drew.drew wv_3 → Loads P 3 (ad_2.add (i.toNat * 1)) (.int .i64 t35) wv_3) ∧ (0 ≤ (i : Int) ∧ (i : Int) < (b_n : Nat)) ∧ ptrS b_p fun ad_3 => ∃ (t39 : Int), (∀ wv_4, Ext wv.drew.drew wv_4 → Loads P 3 (ad_3.add (i.toNat * 1)) (.int .i64 t39) wv_4) ∧ ((decide ((t39 : Int) < t35)) = true →
            R (.int .i64 1) wv.drew.drew) ∧
          ((decide ((t39 : Int) < t35)) = false →
            ∃ t22 : Int, t22 = IntKind.wrap .i64 (i - 1) ∧ Inv t22 wv.drew.drew ∧ mu t22 wv.drew.drew < mu i wv))) ∧
      ((decide ((0 : Int) ≤ i)) = false →
        R (.int .i64 0) wv))
theorem spec_l02Cmp_eq (a_p : Option Addr) (a_n : Nat) (a_c : Nat) (b_p : Option Addr) (b_n : Nat) (b_c : Nat) (w : World) (R : Value → World → Prop) : spec_l02Cmp a_p a_n a_c b_p b_n b_c w R = fsem P Tryd.f88 (fun k => cond (Nat.beq k 7) [(5, .one (.int .i64))] ([])) [(.slice a_p a_n a_c), (.slice b_p b_n b_c)] R w := by kernel_rfl
theorem spec_l02Cmp_ret {a_p : Option Addr} {a_n : Nat} {a_c : Nat} {b_p : Option Addr} {b_n : Nat} {b_c : Nat} {w : World} {R : Value → World → Prop} (h : spec_l02Cmp a_p a_n a_c b_p b_n b_c w R) : Ret P 88 [(.slice a_p a_n a_c), (.slice b_p b_n b_c)] w R :=
  Ret.of_fsem Tryd.func88 rfl (Eq.mp (spec_l02Cmp_eq a_p a_n a_c b_p b_n b_c w R) h)
def spec_l02Cap (a_p : Option Addr) (a_n : Nat) (a_c : Nat) (w : World) (R : Value → World → Prop) : Prop :=
  Calls P 108 ⟨[(.slice a_p a_n a_c)]⟩ w fun e wv =>
  ∃ (t5_p : Option Addr) (t5_n : Nat) (t5_c : Nat), e = .returned (.slice t5_p t5_n t5_c) ∧
  ((decide ((50 : Int) < ((t5_n : Nat) : Int))) = true →
    R (.slice none 0 0) wv) ∧
  ((decide ((50 : Int) < ((t5_n : Nat) : Int))) = false →
    R (.slice t5_p t5_n t5_c) wv)
theorem spec_l02Cap_eq (a_p : Option Addr) (a_n : Nat) (a_c : Nat) (w : World) (R : Value → World → Prop) : spec_l02Cap a_p a_n a_c w R = fsem P Tryd.f89 (fun k => []) [(.slice a_p a_n a_c)] R w := by kernel_rfl
theorem spec_l02Cap_ret {a_p : Option Addr} {a_n : Nat} {a_c : Nat} {w : World} {R : Value → World → Prop} (h : spec_l02Cap a_p a_n a_c w R) : Ret P 89 [(.slice a_p a_n a_c)] w R :=
  Ret.of_fsem Tryd.func89 rfl (Eq.mp (spec_l02Cap_eq a_p a_n a_c w R) h)
def spec_l04Add (x0 : Bool) (x1_p : Option Addr) (x1_n : Nat) (x1_c : Nat) (y0 : Bool) (y1_p : Option Addr) (y1_n : Nat) (y1_c : Nat) (w : World) (R : Value → World → Prop) : Prop :=
  ∀ (r : Nat) (wv : World), New w (.cells ⟨[(.bool x0), (.slice x1_p x1_n x1_c)]⟩ 56 (0, 0)) r wv →
  ∀ (r_1 : Nat) (wv_1 : World), New wv (.cells ⟨[(.bool y0), (.slice y1_p y1_n y1_c)]⟩ 56 (0, 0)) r_1 wv_1 →
  ∀ (r_2 : Nat) (wv_2 : World), New wv_1 (.cells ⟨[(.bool false), (.slice none 0 0)]⟩ 56 (0, 0)) r_2 wv_2 →
  ∃ (t6 : Bool), Loads P 4 ((⟨r, 0, none⟩ : Addr).add 0) (.bool t6) wv_2 ∧ ∃ (t8 : Bool), Loads P 4 ((⟨r_1, 0, none⟩ : Addr).add 0) (.bool t8) wv_2 ∧ ((t6 == t8) = true →
    ∃ (t11 : Bool), (∀ wv_3, Ext wv_2.drew wv_3 → Loads P 4 ((⟨r, 0, none⟩ : Addr).add 0) (.bool t11) wv_3) ∧ ∃ (t13_p : Option Addr) (t13_n : Nat) (t13_c : Nat), (∀ wv_4, Ext wv_2.drew wv_4 → Loads P 49 ((⟨r, 0, none⟩ : Addr).add 1) (.slice t13_p t13_n t13_c) wv_4) ∧ ∃ (t15_p : Option Addr) (t15_n : Nat) (t15_c : Nat), (∀ wv_5, Ext wv_2.drew wv_5 → Loads P 49 ((⟨r_1, 0, none⟩ : Addr).add 1) (.slice t15_p t15_n t15_c) wv_5) ∧ Calls P 109 ⟨[(.slice t13_p t13_n t13_c), (.slice t15_p t15_n t15_c)]⟩ wv_2.drew fun e wv_6 =>
    ∃ (t16_p : Option Addr) (t16_n : Nat) (t16_c : Nat), e = .returned (.slice t16_p t16_n t16_c) ∧
    Ext wv_2.drew wv_6 ∧ Calls P 60 ⟨[(.bool t11), (.slice t16_p t16_n t16_c)]⟩ wv_6 fun e_1 wv_7 =>
    ∃ (t170 : Bool) (t171_p : Option Addr) (t171_n : Nat) (t171_c : Nat), e_1 = .returned (.agg #[(.bool t170), (.slice t171_p t171_n t171_c)]) ∧
    ∃ wv_8, Stores P 56 ⟨r_2, 0, none⟩ (.agg #[(.bool t170), (.slice t171_p t171_n t171_c)]) wv_7 wv_8 ∧
    ∃ (r0 : Bool) (r1_p : Option Addr) (r1_n : Nat) (r1_c : Nat), Loads P 56 ⟨r_2, 0, none⟩ (.agg #[(.bool r0), (.slice r1_p r1_n r1_c)]) wv_8 ∧ R (.agg #[(.bool r0), (.slice r1_p r1_n r1_c)]) wv_8) ∧
  ((t6 == t8) = false →
    ∃ (t19_p : Option Addr) (t19_n : Nat) (t19_c : Nat), Loads P 49 ((⟨r, 0, none⟩ : Addr).add 1) (.slice t19_p t19_n t19_c) wv_2 ∧ ∃ (t21_p : Option Addr) (t21_n : Nat) (t21_c : Nat), Loads P 49 ((⟨r_1, 0, none⟩ : Addr).add 1) (.slice t21_p t21_n t21_c) wv_2 ∧ Calls P 88 ⟨[(.slice t19_p t19_n t19_c), (.slice t21_p t21_n t21_c)]⟩ wv_2 fun e_2 wv_9 =>
    ∃ (t22 : Int), e_2 = .returned (.int .i64 t22) ∧
    ((decide ((0 : Int) ≤ t22)) = true →
      ∃ (t25 : Bool), (∀ wv_10, Ext wv_9.drew wv_10 → Loads P 4 ((⟨r, 0, none⟩ : Addr).add 0) (.bool t25) wv_10) ∧ ∃ (t27_p : Option Addr) (t27_n : Nat) (t27_c : Nat), (∀ wv_11, Ext wv_9.drew wv_11 → Loads P 49 ((⟨r, 0, none⟩ : Addr).add 1) (.slice t27_p t27_n t27_c) wv_11) ∧ ∃ (t29_p : Option Addr) (t29_n : Nat) (t29_c : Nat), (∀ wv_12, Ext wv_9.drew wv_12 → Loads P 49 ((⟨r_1, 0, none⟩ : Addr).add 1) (.slice t29_p t29_n t29_c) wv_12) ∧ Calls P 110 ⟨[(.slice t27_p t27_n t27_c), (.slice t29_p t29_n t29_c)]⟩ wv_9.drew fun e_3 wv_13 =>
      ∃ (t30_p : Option Addr) (t30_n : Nat) (t30_c : Nat), e_3 = .returned (.slice t30_p t30_n t30_c) ∧
      Ext wv_9.drew wv_13 ∧ Calls P 60 ⟨[(.bool t25), (.slice t30_p t30_n t30_c)]⟩ wv_13 fun e_4 wv_14 =>
      ∃ (t310 : Bool) (t311_p : Option Addr) (t311_n : Nat) (t311_c : Nat), e_4 = .returned (.agg #[(.bool t310), (.slice t311_p t311_n t311_c)]) ∧
      ∃ wv_15, Stores P 56 ⟨r_2, 0, none⟩ (.agg #[(.bool t310), (.slice t311_p t311_n t311_c)]) wv_14 wv_15 ∧
      ∃ (r0_1 : Bool) (r1_p_1 : Option Addr) (r1_n_1 : Nat) (r1_c_1 : Nat), Loads P 56 ⟨r_2, 0, none⟩ (.agg #[(.bool r0_1), (.slice r1_p_1 r1_n_1 r1_c_1)]) wv_15 ∧ R (.agg #[(.bool r0_1), (.slice r1_p_1 r1_n_1 r1_c_1)]) wv_15) ∧
    ((decide ((0 : Int) ≤ t22)) = false →
      ∃ (t33 : Bool), (∀ wv_16, Ext wv_9.drew wv_16 → Loads P 4 ((⟨r_1, 0, none⟩ : Addr).add 0) (.bool t33) wv_16) ∧ ∃ (t35_p : Option Addr) (t35_n : Nat) (t35_c : Nat), (∀ wv_17, Ext wv_9.drew wv_17 → Loads P 49 ((⟨r_1, 0, none⟩ : Addr).add 1) (.slice t35_p t35_n t35_c) wv_17) ∧ ∃ (t37_p : Option Addr) (t37_n : Nat) (t37_c : Nat), (∀ wv_18, Ext wv_9.drew wv_18 → Loads P 49 ((⟨r, 0, none⟩ : Addr).add 1) (.slice t37_p t37_n t37_c) wv_18) ∧ Calls P 110 ⟨[(.slice t35_p t35_n t35_c), (.slice t37_p t37_n t37_c)]⟩ wv_9.drew fun e_5 wv_19 =>
      ∃ (t38_p : Option Addr) (t38_n : Nat) (t38_c : Nat), e_5 = .returned (.slice t38_p t38_n t38_c) ∧
      Ext wv_9.drew wv_19 ∧ Calls P 60 ⟨[(.bool t33), (.slice t38_p t38_n t38_c)]⟩ wv_19 fun e_6 wv_20 =>
      ∃ (t390 : Bool) (t391_p : Option Addr) (t391_n : Nat) (t391_c : Nat), e_6 = .returned (.agg #[(.bool t390), (.slice t391_p t391_n t391_c)]) ∧
      ∃ wv_21, Stores P 56 ⟨r_2, 0, none⟩ (.agg #[(.bool t390), (.slice t391_p t391_n t391_c)]) wv_20 wv_21 ∧
      ∃ (r0_2 : Bool) (r1_p_2 : Option Addr) (r1_n_2 : Nat) (r1_c_2 : Nat), Loads P 56 ⟨r_2, 0, none⟩ (.agg #[(.bool r0_2), (.slice r1_p_2 r1_n_2 r1_c_2)]) wv_21 ∧ R (.agg #[(.bool r0_2), (.slice r1_p_2 r1_n_2 r1_c_2)]) wv_21))
theorem spec_l04Add_eq (x0 : Bool) (x1_p : Option Addr) (x1_n : Nat) (x1_c : Nat) (y0 : Bool) (y1_p : Option Addr) (y1_n : Nat) (y1_c : Nat) (w : World) (R : Value → World → Prop) : spec_l04Add x0 x1_p x1_n x1_c y0 y1_p y1_n y1_c w R = fsem P Tryd.f90 (fun k => []) [(.agg #[(.bool x0), (.slice x1_p x1_n x1_c)]), (.agg #[(.bool y0), (.slice y1_p y1_n y1_c)])] R w := by kernel_rfl
theorem spec_l04Add_ret {x0 : Bool} {x1_p : Option Addr} {x1_n : Nat} {x1_c : Nat} {y0 : Bool} {y1_p : Option Addr} {y1_n : Nat} {y1_c : Nat} {w : World} {R : Value → World → Prop} (h : spec_l04Add x0 x1_p x1_n x1_c y0 y1_p y1_n y1_c w R) : Ret P 90 [(.agg #[(.bool x0), (.slice x1_p x1_n x1_c)]), (.agg #[(.bool y0), (.slice y1_p y1_n y1_c)])] w R :=
  Ret.of_fsem Tryd.func90 rfl (Eq.mp (spec_l04Add_eq x0 x1_p x1_n x1_c y0 y1_p y1_n y1_c w R) h)
def impl_intCmp (x0 : Bool) (x1_p : Option Addr) (x1_n : Nat) (x1_c : Nat) (y0 : Bool) (y1_p : Option Addr) (y1_n : Nat) (y1_c : Nat) (w : World) (R : Value → World → Prop) : Prop :=
  ∀ (r : Nat) (wv : World), New w (.cells ⟨[(.bool x0), (.slice x1_p x1_n x1_c)]⟩ 56 (0, 0)) r wv →
  ∀ (r_1 : Nat) (wv_1 : World), New wv (.cells ⟨[(.bool y0), (.slice y1_p y1_n y1_c)]⟩ 56 (0, 0)) r_1 wv_1 →
  ∃ (t50 : Bool) (t51_p : Option Addr) (t51_n : Nat) (t51_c : Nat), (∀ wv_2, Ext wv_1.drew wv_2 → Loads P 56 ⟨r, 0, none⟩ (.agg #[(.bool t50), (.slice t51_p t51_n t51_c)]) wv_2) ∧ ∃ (t60 : Bool) (t61_p : Option Addr) (t61_n : Nat) (t61_c : Nat), (∀ wv_3, Ext wv_1.drew wv_3 → Loads P 56 ⟨r_1, 0, none⟩ (.agg #[(.bool t60), (.slice t61_p t61_n t61_c)]) wv_3) ∧ Calls P 54 ⟨[(.agg #[(.bool t60), (.slice t61_p t61_n t61_c)])]⟩ wv_1.drew fun e wv_4 =>
  ∃ (t70 : Bool) (t71_p : Option Addr) (t71_n : Nat) (t71_c : Nat), e = .returned (.agg #[(.bool t70), (.slice t71_p t71_n t71_c)]) ∧
  Ext wv_1.drew wv_4 ∧ Calls P 53 ⟨[(.agg #[(.bool t50), (.slice t51_p t51_n t51_c)]), (.agg #[(.bool t70), (.slice t71_p t71_n t71_c)])]⟩ wv_4 fun e_1 wv_5 =>
  ∃ (t80 : Bool) (t81_p : Option Addr) (t81_n : Nat) (t81_c : Nat), e_1 = .returned (.agg #[(.bool t80), (.slice t81_p t81_n t81_c)]) ∧
  Calls P 64 ⟨[(.agg #[(.bool t80), (.slice t81_p t81_n t81_c)])]⟩ wv_5 fun e_2 wv_6 =>
  ∃ (t9 : Int), e_2 = .returned (.int .i64 t9) ∧
  R (.int .i64 t9) wv_6
theorem impl_intCmp_eq (x0 : Bool) (x1_p : Option Addr) (x1_n : Nat) (x1_c : Nat) (y0 : Bool) (y1_p : Option Addr) (y1_n : Nat) (y1_c : Nat) (w : World) (R : Value → World → Prop) : impl_intCmp x0 x1_p x1_n x1_c y0 y1_p y1_n y1_c w R = fsem P Tryd.f91 (fun k => []) [(.agg #[(.bool x0), (.slice x1_p x1_n x1_c)]), (.agg #[(.bool y0), (.slice y1_p y1_n y1_c)])] R w := by kernel_rfl
theorem impl_intCmp_ret {x0 : Bool} {x1_p : Option Addr} {x1_n : Nat} {x1_c : Nat} {y0 : Bool} {y1_p : Option Addr} {y1_n : Nat} {y1_c : Nat} {w : World} {R : Value → World → Prop} (h : impl_intCmp x0 x1_p x1_n x1_c y0 y1_p y1_n y1_c w R) : Ret P 91 [(.agg #[(.bool x0), (.slice x1_p x1_n x1_c)]), (.agg #[(.bool y0), (.slice y1_p y1_n y1_c)])] w R :=
  Ret.of_fsem Tryd.func91 rfl (Eq.mp (impl_intCmp_eq x0 x1_p x1_n x1_c y0 y1_p y1_n y1_c w R) h)
def spec_l01All (s : ByteArray) (lo : Int) (hi : Int) (low : Int) (high : Int) (w : World) (R : Value → World → Prop) : Prop :=
  ∃ (Inv : Int → World → Prop) (mu : Int → World → Nat), Inv 0 w ∧
  ∀ (junk : Fr) (wv : World) (i : Int), Inv i wv →
    ((decide ((i : Int) < ((s.size : Nat) : Int))) = true →
      0 ≤ (i : Int) ∧ ∃ b : UInt8, s[i.toNat]? = some b ∧ ((decide ((((b.toNat : Nat) : Int) : Int) < lo)) = true →
        (true = true →
          0 ≤ (i : Int) ∧ ∃ b_1 : UInt8, s[i.toNat]? = some b_1 ∧ ((decide ((((b_1.toNat : Nat) : Int) : Int) < low)) = true →
            (true = true →
              R (.bool false) wv) ∧
            (true = false →
              ∃ t17 : Int, t17 = IntKind.wrap .i64 (i + 1) ∧ Inv t17 wv ∧ mu t17 wv < mu i wv)) ∧
          ((decide ((((b_1.toNat : Nat) : Int) : Int) < low)) = false →
            0 ≤ (i : Int) ∧ ∃ b_2 : UInt8, s[i.toNat]? = some b_2 ∧ ((decide ((high : Int) < ((b_2.toNat : Nat) : Int))) = true →
              R (.bool false) wv) ∧
            ((decide ((high : Int) < ((b_2.toNat : Nat) : Int))) = false →
              ∃ t17_1 : Int, t17_1 = IntKind.wrap .i64 (i + 1) ∧ Inv t17_1 wv ∧ mu t17_1 wv < mu i wv))) ∧
        (true = false →
          (false = true →
            R (.bool false) wv) ∧
          (false = false →
            ∃ t17_2 : Int, t17_2 = IntKind.wrap .i64 (i + 1) ∧ Inv t17_2 wv ∧ mu t17_2 wv < mu i wv))) ∧
      ((decide ((((b.toNat : Nat) : Int) : Int) < lo)) = false →
        0 ≤ (i : Int) ∧ ∃ b_3 : UInt8, s[i.toNat]? = some b_3 ∧ ((decide ((hi : Int) < ((b_3.toNat : Nat) : Int))) = true →
          0 ≤ (i : Int) ∧ ∃ b_4 : UInt8, s[i.toNat]? = some b_4 ∧ ((decide ((((b_4.toNat : Nat) : Int) : Int) < low)) = true →
            (true = true →
              R (.bool false) wv) ∧
            (true = false →
              ∃ t17_3 : Int, t17_3 = IntKind.wrap .i64 (i + 1) ∧ Inv t17_3 wv ∧ mu t17_3 wv < mu i wv)) ∧
          ((decide ((((b_4.toNat : Nat) : Int) : Int) < low)) = false →
            0 ≤ (i : Int) ∧ ∃ b_5 : UInt8, s[i.toNat]? = some b_5 ∧ ((decide ((high : Int) < ((b_5.toNat : Nat) : Int))) = true →
              R (.bool false) wv) ∧
            ((decide ((high : Int) < ((b_5.toNat : Nat) : Int))) = false →
              ∃ t17_4 : Int, t17_4 = IntKind.wrap .i64 (i + 1) ∧ Inv t17_4 wv ∧ mu t17_4 wv < mu i wv))) ∧
        ((decide ((hi : Int) < ((b_3.toNat : Nat) : Int))) = false →
          (false = true →
            R (.bool false) wv) ∧
          (false = false →
            ∃ t17_5 : Int, t17_5 = IntKind.wrap .i64 (i + 1) ∧ Inv t17_5 wv ∧ mu t17_5 wv < mu i wv)))) ∧
    ((decide ((i : Int) < ((s.size : Nat) : Int))) = false →
      R (.bool (decide ((0 : Int) < ((s.size : Nat) : Int)))) wv)
theorem spec_l01All_eq (s : ByteArray) (lo : Int) (hi : Int) (low : Int) (high : Int) (w : World) (R : Value → World → Prop) : spec_l01All s lo hi low high w R = fsem P Tryd.f93 (fun k => cond (Nat.beq k 3) [(11, .one (.int .i64))] ([])) [(.string s), (.int .u8 lo), (.int .u8 hi), (.int .u8 low), (.int .u8 high)] R w := by kernel_rfl
theorem spec_l01All_ret {s : ByteArray} {lo : Int} {hi : Int} {low : Int} {high : Int} {w : World} {R : Value → World → Prop} (h : spec_l01All s lo hi low high w R) : Ret P 93 [(.string s), (.int .u8 lo), (.int .u8 hi), (.int .u8 low), (.int .u8 high)] w R :=
  Ret.of_fsem Tryd.func93 rfl (Eq.mp (spec_l01All_eq s lo hi low high w R) h)
def impl_isLower (c : Int) (w : World) (R : Value → World → Prop) : Prop :=
  ((decide ((97 : Int) ≤ c)) = true →
    R (.bool (decide ((c : Int) ≤ 122))) w) ∧
  ((decide ((97 : Int) ≤ c)) = false →
    R (.bool false) w)
theorem impl_isLower_eq (c : Int) (w : World) (R : Value → World → Prop) : impl_isLower c w R = fsem P Tryd.f95 (fun k => []) [(.int .u8 c)] R w := by kernel_rfl
theorem impl_isLower_ret {c : Int} {w : World} {R : Value → World → Prop} (h : impl_isLower c w R) : Ret P 95 [(.int .u8 c)] w R :=
  Ret.of_fsem Tryd.func95 rfl (Eq.mp (impl_isLower_eq c w R) h)
def impl_isDigit (c : Int) (w : World) (R : Value → World → Prop) : Prop :=
  ((decide ((48 : Int) ≤ c)) = true →
    R (.bool (decide ((c : Int) ≤ 57))) w) ∧
  ((decide ((48 : Int) ≤ c)) = false →
    R (.bool false) w)
theorem impl_isDigit_eq (c : Int) (w : World) (R : Value → World → Prop) : impl_isDigit c w R = fsem P Tryd.f96 (fun k => []) [(.int .u8 c)] R w := by kernel_rfl
theorem impl_isDigit_ret {c : Int} {w : World} {R : Value → World → Prop} (h : impl_isDigit c w R) : Ret P 96 [(.int .u8 c)] w R :=
  Ret.of_fsem Tryd.func96 rfl (Eq.mp (impl_isDigit_eq c w R) h)
def impl_NatOk_j0 (a_p : Option Addr) (a_n : Nat) (W : World) (R : Value → World → Prop) : Prop :=
  ∃ (Inv : Int → World → Prop) (mu : Int → World → Nat), Inv 0 W ∧
  ∀ (junk : Fr) (wv : World) (t24 : Int), Inv t24 wv →
    ((decide ((t24 : Int) < ((a_n : Nat) : Int))) = true →
      (0 ≤ (t24 : Int) ∧ (t24 : Int) < (a_n : Nat)) ∧ ptrS a_p fun ad => ∃ (t27 : Int), Loads P 3 (ad.add (t24.toNat * 1)) (.int .i64 t27) wv ∧ ((decide ((t27 : Int) < 0)) = true →
        (true = true →
          R (.bool false) wv) ∧
        (true = false →
          ∃ t34 : Int, t34 = IntKind.wrap .i64 (t24 + 1) ∧ Inv t34 wv ∧ mu t34 wv < mu t24 wv)) ∧
      ((decide ((t27 : Int) < 0)) = false →
        ((decide ((1000000000 : Int) ≤ t27)) = true →
          R (.bool false) wv) ∧
        ((decide ((1000000000 : Int) ≤ t27)) = false →
          ∃ t34_1 : Int, t34_1 = IntKind.wrap .i64 (t24 + 1) ∧ Inv t34_1 wv ∧ mu t34_1 wv < mu t24 wv))) ∧
    ((decide ((t24 : Int) < ((a_n : Nat) : Int))) = false →
      R (.bool true) wv)
def impl_NatOk (a_p : Option Addr) (a_n : Nat) (a_c : Nat) (w : World) (R : Value → World → Prop) : Prop :=
  ((decide ((50 : Int) < ((a_n : Nat) : Int))) = true →
    (true = true →
      R (.bool false) w) ∧
    (true = false →
      impl_NatOk_j0 a_p a_n w R)) ∧
  ((decide ((50 : Int) < ((a_n : Nat) : Int))) = false →
    ((decide ((0 : Int) < ((a_n : Nat) : Int))) = true →
      ∃ t16 : Int, t16 = IntKind.wrap .i64 (((a_n : Nat) : Int) - 1) ∧ (0 ≤ (t16 : Int) ∧ (t16 : Int) < (a_n : Nat)) ∧ ptrS a_p fun ad_1 => ∃ (t18 : Int), Loads P 3 (ad_1.add (t16.toNat * 1)) (.int .i64 t18) w ∧ ((decide ((t18 : Int) = 0)) = true →
        R (.bool false) w) ∧
      ((decide ((t18 : Int) = 0)) = false →
        impl_NatOk_j0 a_p a_n w R)) ∧
    ((decide ((0 : Int) < ((a_n : Nat) : Int))) = false →
      (false = true →
        R (.bool false) w) ∧
      (false = false →
        impl_NatOk_j0 a_p a_n w R)))
theorem impl_NatOk_eq (a_p : Option Addr) (a_n : Nat) (a_c : Nat) (w : World) (R : Value → World → Prop) : impl_NatOk a_p a_n a_c w R = fsem P Tryd.f100 (fun k => cond (Nat.beq k 5) [(24, .one (.int .i64))] ([])) [(.slice a_p a_n a_c)] R w := by kernel_rfl
theorem impl_NatOk_ret {a_p : Option Addr} {a_n : Nat} {a_c : Nat} {w : World} {R : Value → World → Prop} (h : impl_NatOk a_p a_n a_c w R) : Ret P 100 [(.slice a_p a_n a_c)] w R :=
  Ret.of_fsem Tryd.func100 rfl (Eq.mp (impl_NatOk_eq a_p a_n a_c w R) h)
def spec_l08Find (code : ByteArray) (w : World) (R : Value → World → Prop) : Prop :=
  ∀ (r : Nat) (wv : World), New w (.cells ⟨[(.string ByteArray.empty), (.string ByteArray.empty), (.int .i64 0), (.int .i64 0)]⟩ 121 (0, 0)) r wv →
  Calls P 115 ⟨[]⟩ wv fun e wv_1 =>
  ∃ (t5_p : Option Addr) (t5_n : Nat) (t5_c : Nat), e = .returned (.slice t5_p t5_n t5_c) ∧
  ∃ (Inv : Int → World → Prop) (mu : Int → World → Nat), Inv 0 wv_1 ∧
  ∀ (junk : Fr) (wv_2 : World) (t7 : Int), Inv t7 wv_2 →
    ((decide ((t7 : Int) < ((t5_n : Nat) : Int))) = true →
      (0 ≤ (t7 : Int) ∧ (t7 : Int) < (t5_n : Nat)) ∧ ptrS t5_p fun ad => ∃ (t100 : ByteArray) (t101 : ByteArray) (t102 : Int) (t103 : Int), Loads P 121 (ad.add (t7.toNat * 4)) (.agg #[(.string t100), (.string t101), (.int .i64 t102), (.int .i64 t103)]) wv_2 ∧ ∀ (r_1 : Nat) (wv_3 : World), New wv_2 (.cells ⟨[(.string ByteArray.empty), (.string ByteArray.empty), (.int .i64 0), (.int .i64 0)]⟩ 121 (0, 0)) r_1 wv_3 →
      ∃ wv_4, Stores P 121 ⟨r_1, 0, none⟩ (.agg #[(.string t100), (.string t101), (.int .i64 t102), (.int .i64 t103)]) wv_3 wv_4 ∧
      ∃ (t12 : ByteArray), Loads P 9 ((⟨r_1, 0, none⟩ : Addr).add 0) (.string t12) wv_4 ∧ ((decide (t12 = code)) = true →
        ∃ (t150 : ByteArray) (t151 : ByteArray) (t152 : Int) (t153 : Int), Loads P 121 ⟨r_1, 0, none⟩ (.agg #[(.string t150), (.string t151), (.int .i64 t152), (.int .i64 t153)]) wv_4 ∧ ∃ wv_5, Stores P 121 ⟨r, 0, none⟩ (.agg #[(.string t150), (.string t151), (.int .i64 t152), (.int .i64 t153)]) wv_4 wv_5 ∧
        ∃ (r0 : ByteArray) (r1 : ByteArray) (r2 : Int) (r3 : Int), Loads P 121 ⟨r, 0, none⟩ (.agg #[(.string r0), (.string r1), (.int .i64 r2), (.int .i64 r3)]) wv_5 ∧ R (.agg #[(.string r0), (.string r1), (.int .i64 r2), (.int .i64 r3)]) wv_5) ∧
      ((decide (t12 = code)) = false →
        ∃ t16 : Int, t16 = IntKind.wrap .i64 (t7 + 1) ∧ Inv t16 wv_4 ∧ mu t16 wv_4 < mu t7 wv_2)) ∧
    ((decide ((t7 : Int) < ((t5_n : Nat) : Int))) = false →
      ∃ wv_6, Stores P 121 ⟨r, 0, none⟩ (.agg #[(.string ByteArray.empty), (.string ByteArray.empty), (.int .i64 0), (.int .i64 0)]) wv_2 wv_6 ∧
      ∃ (r0_1 : ByteArray) (r1_1 : ByteArray) (r2_1 : Int) (r3_1 : Int), Loads P 121 ⟨r, 0, none⟩ (.agg #[(.string r0_1), (.string r1_1), (.int .i64 r2_1), (.int .i64 r3_1)]) wv_6 ∧ R (.agg #[(.string r0_1), (.string r1_1), (.int .i64 r2_1), (.int .i64 r3_1)]) wv_6)
theorem spec_l08Find_eq (code : ByteArray) (w : World) (R : Value → World → Prop) : spec_l08Find code w R = fsem P Tryd.f101 (fun k => cond (Nat.beq k 3) [(7, .one (.int .i64))] ([])) [(.string code)] R w := by kernel_rfl
theorem spec_l08Find_ret {code : ByteArray} {w : World} {R : Value → World → Prop} (h : spec_l08Find code w R) : Ret P 101 [(.string code)] w R :=
  Ret.of_fsem Tryd.func101 rfl (Eq.mp (spec_l08Find_eq code w R) h)
def spec_NatOk (a_p : Option Addr) (a_n : Nat) (a_c : Nat) (w : World) (R : Value → World → Prop) : Prop :=
  ∃ (Inv : Int → World → Prop) (mu : Int → World → Nat), Inv 0 w ∧
  ∀ (junk : Fr) (wv : World) (t7 : Int), Inv t7 wv →
    ((decide ((t7 : Int) < ((a_n : Nat) : Int))) = true →
      (0 ≤ (t7 : Int) ∧ (t7 : Int) < (a_n : Nat)) ∧ ptrS a_p fun ad => ∃ (t10 : Int), Loads P 3 (ad.add (t7.toNat * 1)) (.int .i64 t10) wv ∧ Calls P 71 ⟨[(.int .i64 t10), (.int .i64 0), (.int .i64 999999999)]⟩ wv fun e wv_1 =>
      ∃ (t12 : Bool), e = .returned (.bool t12) ∧
      ((!t12) = true →
        R (.bool false) wv_1) ∧
      ((!t12) = false →
        ∃ t14 : Int, t14 = IntKind.wrap .i64 (t7 + 1) ∧ Inv t14 wv_1 ∧ mu t14 wv_1 < mu t7 wv)) ∧
    ((decide ((t7 : Int) < ((a_n : Nat) : Int))) = false →
      ((decide ((((a_n : Nat) : Int) : Int) ≤ 50)) = true →
        ((decide ((((a_n : Nat) : Int) : Int) = 0)) = true →
          R (.bool true) wv) ∧
        ((decide ((((a_n : Nat) : Int) : Int) = 0)) = false →
          ∃ t26 : Int, t26 = IntKind.wrap .i64 (((a_n : Nat) : Int) - 1) ∧ (0 ≤ (t26 : Int) ∧ (t26 : Int) < (a_n : Nat)) ∧ ptrS a_p fun ad_1 => ∃ (t28 : Int), Loads P 3 (ad_1.add (t26.toNat * 1)) (.int .i64 t28) wv ∧ R (.bool (decide ((t28 : Int) ≠ 0))) wv)) ∧
      ((decide ((((a_n : Nat) : Int) : Int) ≤ 50)) = false →
        R (.bool false) wv))
theorem spec_NatOk_eq (a_p : Option Addr) (a_n : Nat) (a_c : Nat) (w : World) (R : Value → World → Prop) : spec_NatOk a_p a_n a_c w R = fsem P Tryd.f102 (fun k => cond (Nat.beq k 3) [(7, .one (.int .i64))] ([])) [(.slice a_p a_n a_c)] R w := by kernel_rfl
theorem spec_NatOk_ret {a_p : Option Addr} {a_n : Nat} {a_c : Nat} {w : World} {R : Value → World → Prop} (h : spec_NatOk a_p a_n a_c w R) : Ret P 102 [(.slice a_p a_n a_c)] w R :=
  Ret.of_fsem Tryd.func102 rfl (Eq.mp (spec_NatOk_eq a_p a_n a_c w R) h)
def impl_currencyOf (code : ByteArray) (w : World) (R : Value → World → Prop) : Prop :=
  ∀ (r : Nat) (wv : World), New w (.cells ⟨[(.string ByteArray.empty), (.string ByteArray.empty), (.int .i64 0), (.int .i64 0)]⟩ 124 (0, 0)) r wv →
  ∃ (t6 : Value), Loads P 133 ⟨0, 0, none⟩ t6 wv ∧ ∃ (Inv : Int → World → Prop) (mu : Int → World → Nat), Inv 0 wv ∧
  ∀ (junk : Fr) (wv_1 : World) (t7 : Int), Inv t7 wv_1 →
    ((decide ((t7 : Int) < 20)) = true →
      indexS P 133 t6 (.int .i64 t7) fun (el : Value) => ∀ (r_1 : Nat) (wv_2 : World), New wv_1 (.cells ⟨[(.string ByteArray.empty), (.string ByteArray.empty), (.int .i64 0), (.int .i64 0)]⟩ 124 (0, 0)) r_1 wv_2 →
      ∃ wv_3, Stores P 124 ⟨r_1, 0, none⟩ el wv_2 wv_3 ∧
      ∃ (t11 : ByteArray), Loads P 9 ((⟨r_1, 0, none⟩ : Addr).add 0) (.string t11) wv_3 ∧ ((decide (t11 = code)) = true →
        ∃ (t140 : ByteArray) (t141 : ByteArray) (t142 : Int) (t143 : Int), Loads P 124 ⟨r_1, 0, none⟩ (.agg #[(.string t140), (.string t141), (.int .i64 t142), (.int .i64 t143)]) wv_3 ∧ ∃ wv_4, Stores P 124 ⟨r, 0, none⟩ (.agg #[(.string t140), (.string t141), (.int .i64 t142), (.int .i64 t143)]) wv_3 wv_4 ∧
        ∃ (r0 : ByteArray) (r1 : ByteArray) (r2 : Int) (r3 : Int), Loads P 124 ⟨r, 0, none⟩ (.agg #[(.string r0), (.string r1), (.int .i64 r2), (.int .i64 r3)]) wv_4 ∧ R (.tuple #[(.agg #[(.string r0), (.string r1), (.int .i64 r2), (.int .i64 r3)]), (.bool true)]) wv_4) ∧
      ((decide (t11 = code)) = false →
        ∃ t15 : Int, t15 = IntKind.wrap .i64 (t7 + 1) ∧ Inv t15 wv_3 ∧ mu t15 wv_3 < mu t7 wv_1)) ∧
    ((decide ((t7 : Int) < 20)) = false →
      ∃ wv_5, Stores P 124 ⟨r, 0, none⟩ (.agg #[(.string ByteArray.empty), (.string ByteArray.empty), (.int .i64 0), (.int .i64 0)]) wv_1 wv_5 ∧
      ∃ (r0_1 : ByteArray) (r1_1 : ByteArray) (r2_1 : Int) (r3_1 : Int), Loads P 124 ⟨r, 0, none⟩ (.agg #[(.string r0_1), (.string r1_1), (.int .i64 r2_1), (.int .i64 r3_1)]) wv_5 ∧ R (.tuple #[(.agg #[(.string r0_1), (.string r1_1), (.int .i64 r2_1), (.int .i64 r3_1)]), (.bool false)]) wv_5)
theorem impl_currencyOf_eq (code : ByteArray) (w : World) (R : Value → World → Prop) : impl_currencyOf code w R = fsem P Tryd.f103 (fun k => cond (Nat.beq k 3) [(7, .one (.int .i64))] ([])) [(.string code)] R w := by kernel_rfl
theorem impl_currencyOf_ret {code : ByteArray} {w : World} {R : Value → World → Prop} (h : impl_currencyOf code w R) : Ret P 103 [(.string code)] w R :=
  Ret.of_fsem Tryd.func103 rfl (Eq.mp (impl_currencyOf_eq code w R) h)
def impl_trim (a_p : Option Addr) (a_n : Nat) (a_c : Nat) (w : World) (R : Value → World → Prop) : Prop :=
  ∃ (Inv : Option Addr → Nat → Nat → World → Prop) (mu : Option Addr → Nat → Nat → World → Nat), Inv a_p a_n a_c w ∧
  ∀ (junk : Fr) (wv : World) (a_p_1 : Option Addr) (a_n_1 : Nat) (a_c_1 : Nat), Inv a_p_1 a_n_1 a_c_1 wv →
    ((decide ((0 : Int) < ((a_n_1 : Nat) : Int))) = true →
      ∃ t10 : Int, t10 = IntKind.wrap .i64 (((a_n_1 : Nat) : Int) - 1) ∧ (0 ≤ (t10 : Int) ∧ (t10 : Int) < (a_n_1 : Nat)) ∧ ptrS a_p_1 fun ad => ∃ (t12 : Int), Loads P 3 (ad.add (t10.toNat * 1)) (.int .i64 t12) wv ∧ ((decide ((t12 : Int) = 0)) = true →
        ∃ t18 : Int, t18 = IntKind.wrap .i64 (((a_n_1 : Nat) : Int) - 1) ∧ (0 ≤ (t18 : Int) ∧ (t18 : Int) ≤ (a_c_1 : Nat)) ∧ Inv (sub a_p_1 0 a_c_1 1) (t18.toNat - 0) (a_c_1 - 0) wv ∧ mu (sub a_p_1 0 a_c_1 1) (t18.toNat - 0) (a_c_1 - 0) wv < mu a_p_1 a_n_1 a_c_1 wv) ∧
      ((decide ((t12 : Int) = 0)) = false →
        R (.slice a_p_1 a_n_1 a_c_1) wv)) ∧
    ((decide ((0 : Int) < ((a_n_1 : Nat) : Int))) = false →
      (false = true →
        ∃ t18_1 : Int, t18_1 = IntKind.wrap .i64 (((a_n_1 : Nat) : Int) - 1) ∧ (0 ≤ (t18_1 : Int) ∧ (t18_1 : Int) ≤ (a_c_1 : Nat)) ∧ Inv (sub a_p_1 0 a_c_1 1) (t18_1.toNat - 0) (a_c_1 - 0) wv ∧ mu (sub a_p_1 0 a_c_1 1) (t18_1.toNat - 0) (a_c_1 - 0) wv < mu a_p_1 a_n_1 a_c_1 wv) ∧
      (false = false →
        R (.slice a_p_1 a_n_1 a_c_1) wv))
theorem impl_trim_eq (a_p : Option Addr) (a_n : Nat) (a_c : Nat) (w : World) (R : Value → World → Prop) : impl_trim a_p a_n a_c w R = fsem P Tryd.f107 (fun k => cond (Nat.beq k 2) [(0, .one .slice)] ([])) [(.slice a_p a_n a_c)] R w := by kernel_rfl
theorem impl_trim_ret {a_p : Option Addr} {a_n : Nat} {a_c : Nat} {w : World} {R : Value → World → Prop} (h : impl_trim a_p a_n a_c w R) : Ret P 107 [(.slice a_p a_n a_c)] w R :=
  Ret.of_fsem Tryd.func107 rfl (Eq.mp (impl_trim_eq a_p a_n a_c w R) h)
def spec_l02Trim (a_p : Option Addr) (a_n : Nat) (a_c : Nat) (w : World) (R : Value → World → Prop) : Prop :=
  ∃ (Inv : Int → World → Prop) (mu : Int → World → Nat), Inv ((a_n : Nat) : Int) w ∧
  ∀ (junk : Fr) (wv : World) (n : Int), Inv n wv →
    ((decide ((0 : Int) < n)) = true →
      ∃ t11 : Int, t11 = IntKind.wrap .i64 (n - 1) ∧ (0 ≤ (t11 : Int) ∧ (t11 : Int) < (a_n : Nat)) ∧ ptrS a_p fun ad => ∃ (t13 : Int), Loads P 3 (ad.add (t11.toNat * 1)) (.int .i64 t13) wv ∧ ((decide ((t13 : Int) = 0)) = true →
        ∃ t17 : Int, t17 = IntKind.wrap .i64 (n - 1) ∧ Inv t17 wv ∧ mu t17 wv < mu n wv) ∧
      ((decide ((t13 : Int) = 0)) = false →
        (0 ≤ (n : Int) ∧ (n : Int) ≤ (a_c : Nat)) ∧ R (.slice (sub a_p 0 a_c 1) (n.toNat - 0) (a_c - 0)) wv)) ∧
    ((decide ((0 : Int) < n)) = false →
      (false = true →
        ∃ t17_1 : Int, t17_1 = IntKind.wrap .i64 (n - 1) ∧ Inv t17_1 wv ∧ mu t17_1 wv < mu n wv) ∧
      (false = false →
        (0 ≤ (n : Int) ∧ (n : Int) ≤ (a_c : Nat)) ∧ R (.slice (sub a_p 0 a_c 1) (n.toNat - 0) (a_c - 0)) wv))
theorem spec_l02Trim_eq (a_p : Option Addr) (a_n : Nat) (a_c : Nat) (w : World) (R : Value → World → Prop) : spec_l02Trim a_p a_n a_c w R = fsem P Tryd.f108 (fun k => cond (Nat.beq k 3) [(3, .one (.int .i64))] ([])) [(.slice a_p a_n a_c)] R w := by kernel_rfl
theorem spec_l02Trim_ret {a_p : Option Addr} {a_n : Nat} {a_c : Nat} {w : World} {R : Value → World → Prop} (h : spec_l02Trim a_p a_n a_c w R) : Ret P 108 [(.slice a_p a_n a_c)] w R :=
  Ret.of_fsem Tryd.func108 rfl (Eq.mp (spec_l02Trim_eq a_p a_n a_c w R) h)
def spec_l02Add_j2 (wv_1 : World) (Inv : Option Addr → Nat → Nat → Int → Int → World → Prop) (mu : Option Addr → Nat → Nat → Int → Int → World → Nat) (out_p : Option Addr) (out_n : Nat) (out_c : Nat) (carry : Int) (i : Int) (n_1 : Int) (W_2 : World) (R : Value → World → Prop) : Prop :=
  (1000000000 : Int) ≠ 0 ∧ ∃ t49 : Int, t49 = Int.tmod n_1 1000000000 ∧ ∀ (r_1 : Nat) (wv_2 : World), New W_2 (.cells ⟨[(.int .i64 t49)]⟩ 3 (0, 0)) r_1 wv_2 →
  ∃ (t51_p : Option Addr) (t51_n : Nat) (t51_c : Nat) (wv_3 : World), Appends P [49, 49] [(.slice out_p out_n out_c), (.slice (some ⟨r_1, 0, none⟩) 1 1)] (.slice t51_p t51_n t51_c) wv_2 wv_3 ∧
  (1000000000 : Int) ≠ 0 ∧ ∃ t53 : Int, t53 = IntKind.wrap .i64 (Int.tdiv n_1 1000000000) ∧ ∃ t25 : Int, t25 = IntKind.wrap .i64 (i + 1) ∧ Inv t51_p t51_n t51_c t53 t25 wv_3 ∧ mu t51_p t51_n t51_c t53 t25 wv_3 < mu out_p out_n out_c carry i wv_1
def spec_l02Add_j1 (b_p : Option Addr) (b_n : Nat) (wv_1 : World) (Inv : Option Addr → Nat → Nat → Int → Int → World → Prop) (mu : Option Addr → Nat → Nat → Int → Int → World → Nat) (out_p : Option Addr) (out_n : Nat) (out_c : Nat) (carry : Int) (i : Int) (n : Int) (W_1 : World) (R : Value → World → Prop) : Prop :=
  ((decide ((i : Int) < ((b_n : Nat) : Int))) = true →
    (0 ≤ (i : Int) ∧ (i : Int) < (b_n : Nat)) ∧ ptrS b_p fun ad_1 => ∃ (t45 : Int), Loads P 3 (ad_1.add (i.toNat * 1)) (.int .i64 t45) W_1 ∧ ∃ t46 : Int, t46 = IntKind.wrap .i64 (n + t45) ∧ spec_l02Add_j2 wv_1 Inv mu out_p out_n out_c carry i t46 W_1 R) ∧
  ((decide ((i : Int) < ((b_n : Nat) : Int))) = false →
    spec_l02Add_j2 wv_1 Inv mu out_p out_n out_c carry i n W_1 R)
def spec_l02Add_j0 (a_p : Option Addr) (a_n : Nat) (b_p : Option Addr) (b_n : Nat) (wv_1 : World) (Inv : Option Addr → Nat → Nat → Int → Int → World → Prop) (mu : Option Addr → Nat → Nat → Int → Int → World → Nat) (out_p : Option Addr) (out_n : Nat) (out_c : Nat) (carry : Int) (i : Int) (W : World) (R : Value → World → Prop) : Prop :=
  ((decide ((i : Int) < ((a_n : Nat) : Int))) = true →
    (0 ≤ (i : Int) ∧ (i : Int) < (a_n : Nat)) ∧ ptrS a_p fun ad => ∃ (t35 : Int), Loads P 3 (ad.add (i.toNat * 1)) (.int .i64 t35) W ∧ ∃ t36 : Int, t36 = IntKind.wrap .i64 (carry + t35) ∧ spec_l02Add_j1 b_p b_n wv_1 Inv mu out_p out_n out_c carry i t36 W R) ∧
  ((decide ((i : Int) < ((a_n : Nat) : Int))) = false →
    spec_l02Add_j1 b_p b_n wv_1 Inv mu out_p out_n out_c carry i carry W R)
def spec_l02Add (a_p : Option Addr) (a_n : Nat) (a_c : Nat) (b_p : Option Addr) (b_n : Nat) (b_c : Nat) (w : World) (R : Value → World → Prop) : Prop :=
  ∀ (r : Nat) (wv : World), New w (.cells ⟨[]⟩ 3 (0, 0)) r wv →
  ∃ (Inv : Option Addr → Nat → Nat → Int → Int → World → Prop) (mu : Option Addr → Nat → Nat → Int → Int → World → Nat), Inv (some ⟨r, 0, none⟩) 0 0 0 0 wv ∧
  ∀ (junk : Fr) (wv_1 : World) (out_p : Option Addr) (out_n : Nat) (out_c : Nat) (carry : Int) (i : Int), Inv out_p out_n out_c carry i wv_1 →
    ((decide ((i : Int) < ((a_n : Nat) : Int))) = true →
      (true = true →
        (true = true →
          spec_l02Add_j0 a_p a_n b_p b_n wv_1 Inv mu out_p out_n out_c carry i wv_1 R) ∧
        (true = false →
          R (.slice out_p out_n out_c) wv_1)) ∧
      (true = false →
        ((decide ((0 : Int) < carry)) = true →
          spec_l02Add_j0 a_p a_n b_p b_n wv_1 Inv mu out_p out_n out_c carry i wv_1 R) ∧
        ((decide ((0 : Int) < carry)) = false →
          R (.slice out_p out_n out_c) wv_1))) ∧
    ((decide ((i : Int) < ((a_n : Nat) : Int))) = false →
      ((decide ((i : Int) < ((b_n : Nat) : Int))) = true →
        (true = true →
          spec_l02Add_j0 a_p a_n b_p b_n wv_1 Inv mu out_p out_n out_c carry i wv_1 R) ∧
        (true = false →
          R (.slice out_p out_n out_c) wv_1)) ∧
      ((decide ((i : Int) < ((b_n : Nat) : Int))) = false →
        ((decide ((0 : Int) < carry)) = true →
          spec_l02Add_j0 a_p a_n b_p b_n wv_1 Inv mu out_p out_n out_c carry i wv_1 R) ∧
        ((decide ((0 : Int) < carry)) = false →
          R (.slice out_p out_n out_c) wv_1)))
theorem spec_l02Add_eq (a_p : Option Addr) (a_n : Nat) (a_c : Nat) (b_p : Option Addr) (b_n : Nat) (b_c : Nat) (w : World) (R : Value → World → Prop) : spec_l02Add a_p a_n a_c b_p b_n b_c w R = fsem P Tryd.f109 (fun k => cond (Nat.beq k 5) [(5, .one .slice), (6, .one (.int .i64)), (7, .one (.int .i64))] ([])) [(.slice a_p a_n a_c), (.slice b_p b_n b_c)] R w := by kernel_rfl
theorem spec_l02Add_ret {a_p : Option Addr} {a_n : Nat} {a_c : Nat} {b_p : Option Addr} {b_n : Nat} {b_c : Nat} {w : World} {R : Value → World → Prop} (h : spec_l02Add a_p a_n a_c b_p b_n b_c w R) : Ret P 109 [(.slice a_p a_n a_c), (.slice b_p b_n b_c)] w R :=
  Ret.of_fsem Tryd.func109 rfl (Eq.mp (spec_l02Add_eq a_p a_n a_c b_p b_n b_c w R) h)
def spec_l02Sub_j1 (wv_1 : World) (Inv : Option Addr → Nat → Nat → Int → Int → World → Prop) (mu : Option Addr → Nat → Nat → Int → Int → World → Nat) (out_p : Option Addr) (out_n : Nat) (out_c : Nat) (less : Int) (t12 : Int) (less_1 : Int) (n_1 : Int) (W_1 : World) (R : Value → World → Prop) : Prop :=
  ∀ (r_1 : Nat) (wv_2 : World), New W_1 (.cells ⟨[(.int .i64 n_1)]⟩ 3 (0, 0)) r_1 wv_2 →
  ∃ (t38_p : Option Addr) (t38_n : Nat) (t38_c : Nat) (wv_3 : World), Appends P [49, 49] [(.slice out_p out_n out_c), (.slice (some ⟨r_1, 0, none⟩) 1 1)] (.slice t38_p t38_n t38_c) wv_2 wv_3 ∧
  ∃ t39 : Int, t39 = IntKind.wrap .i64 (t12 + 1) ∧ Inv t38_p t38_n t38_c less_1 t39 wv_3 ∧ mu t38_p t38_n t38_c less_1 t39 wv_3 < mu out_p out_n out_c less t12 wv_1
def spec_l02Sub_j0 (wv_1 : World) (Inv : Option Addr → Nat → Nat → Int → Int → World → Prop) (mu : Option Addr → Nat → Nat → Int → Int → World → Nat) (out_p : Option Addr) (out_n : Nat) (out_c : Nat) (less : Int) (t12 : Int) (n : Int) (W : World) (R : Value → World → Prop) : Prop :=
  ((decide ((n : Int) < 0)) = true →
    ∃ t34 : Int, t34 = IntKind.wrap .i64 (n + 1000000000) ∧ spec_l02Sub_j1 wv_1 Inv mu out_p out_n out_c less t12 1 t34 W R) ∧
  ((decide ((n : Int) < 0)) = false →
    spec_l02Sub_j1 wv_1 Inv mu out_p out_n out_c less t12 0 n W R)
def spec_l02Sub (a_p : Option Addr) (a_n : Nat) (a_c : Nat) (b_p : Option Addr) (b_n : Nat) (b_c : Nat) (w : World) (R : Value → World → Prop) : Prop :=
  ∀ (r : Nat) (wv : World), New w (.cells ⟨[]⟩ 3 (0, 0)) r wv →
  ∃ (Inv : Option Addr → Nat → Nat → Int → Int → World → Prop) (mu : Option Addr → Nat → Nat → Int → Int → World → Nat), Inv (some ⟨r, 0, none⟩) 0 0 0 0 wv ∧
  ∀ (junk : Fr) (wv_1 : World) (out_p : Option Addr) (out_n : Nat) (out_c : Nat) (less : Int) (t12 : Int), Inv out_p out_n out_c less t12 wv_1 →
    ((decide ((t12 : Int) < ((a_n : Nat) : Int))) = true →
      (0 ≤ (t12 : Int) ∧ (t12 : Int) < (a_n : Nat)) ∧ ptrS a_p fun ad => ∃ (t18 : Int), Loads P 3 (ad.add (t12.toNat * 1)) (.int .i64 t18) wv_1 ∧ ∃ t20 : Int, t20 = IntKind.wrap .i64 (t18 - less) ∧ ((decide ((t12 : Int) < ((b_n : Nat) : Int))) = true →
        (0 ≤ (t12 : Int) ∧ (t12 : Int) < (b_n : Nat)) ∧ ptrS b_p fun ad_1 => ∃ (t29 : Int), Loads P 3 (ad_1.add (t12.toNat * 1)) (.int .i64 t29) wv_1 ∧ ∃ t30 : Int, t30 = IntKind.wrap .i64 (t20 - t29) ∧ spec_l02Sub_j0 wv_1 Inv mu out_p out_n out_c less t12 t30 wv_1 R) ∧
      ((decide ((t12 : Int) < ((b_n : Nat) : Int))) = false →
        spec_l02Sub_j0 wv_1 Inv mu out_p out_n out_c less t12 t20 wv_1 R)) ∧
    ((decide ((t12 : Int) < ((a_n : Nat) : Int))) = false →
      Calls P 108 ⟨[(.slice out_p out_n out_c)]⟩ wv_1 fun e wv_4 =>
      ∃ (t41_p : Option Addr) (t41_n : Nat) (t41_c : Nat), e = .returned (.slice t41_p t41_n t41_c) ∧
      R (.slice t41_p t41_n t41_c) wv_4)
theorem spec_l02Sub_eq (a_p : Option Addr) (a_n : Nat) (a_c : Nat) (b_p : Option Addr) (b_n : Nat) (b_c : Nat) (w : World) (R : Value → World → Prop) : spec_l02Sub a_p a_n a_c b_p b_n b_c w R = fsem P Tryd.f110 (fun k => cond (Nat.beq k 5) [(5, .one .slice), (6, .one (.int .i64)), (12, .one (.int .i64))] ([])) [(.slice a_p a_n a_c), (.slice b_p b_n b_c)] R w := by kernel_rfl
theorem spec_l02Sub_ret {a_p : Option Addr} {a_n : Nat} {a_c : Nat} {b_p : Option Addr} {b_n : Nat} {b_c : Nat} {w : World} {R : Value → World → Prop} (h : spec_l02Sub a_p a_n a_c b_p b_n b_c w R) : Ret P 110 [(.slice a_p a_n a_c), (.slice b_p b_n b_c)] w R :=
  Ret.of_fsem Tryd.func110 rfl (Eq.mp (spec_l02Sub_eq a_p a_n a_c b_p b_n b_c w R) h)
def spec_l08Table (w : World) (R : Value → World → Prop) : Prop :=
  ∀ (r : Nat) (wv : World), New w (.cells ⟨[(.string (S [65, 85, 68])), (.string (S [48, 51, 54])), (.int .i64 2), (.int .i64 5), (.string (S [66, 72, 68])), (.string (S [48, 52, 56])), (.int .i64 3), (.int .i64 5), (.string (S [67, 65, 68])), (.string (S [49, 50, 52])), (.int .i64 2), (.int .i64 5), (.string (S [67, 72, 70])), (.string (S [55, 53, 54])), (.int .i64 2), (.int .i64 5), (.string (S [67, 76, 70])), (.string (S [57, 57, 48])), (.int .i64 4), (.int .i64 1), (.string (S [67, 90, 75])), (.string (S [50, 48, 51])), (.int .i64 2), (.int .i64 100), (.string (S [68, 75, 75])), (.string (S [50, 48, 56])), (.int .i64 2), (.int .i64 50), (.string (S [69, 85, 82])), (.string (S [57, 55, 56])), (.int .i64 2), (.int .i64 1), (.string (S [71, 66, 80])), (.string (S [56, 50, 54])), (.int .i64 2), (.int .i64 1), (.string (S [72, 85, 70])), (.string (S [51, 52, 56])), (.int .i64 2), (.int .i64 500), (.string (S [73, 83, 75])), (.string (S [51, 53, 50])), (.int .i64 0), (.int .i64 1), (.string (S [74, 80, 89])), (.string (S [51, 57, 50])), (.int .i64 0), (.int .i64 1), (.string (S [75, 82, 87])), (.string (S [52, 49, 48])), (.int .i64 0), (.int .i64 10), (.string (S [75, 87, 68])), (.string (S [52, 49, 52])), (.int .i64 3), (.int .i64 5), (.string (S [78, 79, 75])), (.string (S [53, 55, 56])), (.int .i64 2), (.int .i64 100), (.string (S [78, 90, 68])), (.string (S [53, 53, 52])), (.int .i64 2), (.int .i64 10), (.string (S [80, 76, 78])), (.string (S [57, 56, 53])), (.int .i64 2), (.int .i64 1), (.string (S [83, 69, 75])), (.string (S [55, 53, 50])), (.int .i64 2), (.int .i64 100), (.string (S [84, 78, 68])), (.string (S [55, 56, 56])), (.int .i64 3), (.int .i64 10), (.string (S [85, 83, 68])), (.string (S [56, 52, 48])), (.int .i64 2), (.int .i64 1)]⟩ 121 (0, 0)) r wv →
  R (.slice (some ⟨r, 0, none⟩) 20 20) wv
theorem spec_l08Table_eq (w : World) (R : Value → World → Prop) : spec_l08Table w R = fsem P Tryd.f115 (fun k => []) [] R w := by kernel_rfl
theorem spec_l08Table_ret {w : World} {R : Value → World → Prop} (h : spec_l08Table w R) : Ret P 115 [] w R :=
  Ret.of_fsem Tryd.func115 rfl (Eq.mp (spec_l08Table_eq w R) h)
end Go.Proofs.YtdidocmbcfbjdaaDoor

namespace Go.Proofs.YtdidocmbcfbjdaaDoor
open Go Go.Proofs.YtdidocmbcfbjdaaDoor.Sx
set_option linter.unusedVariables false
set_option maxRecDepth 100000
def laws_szDebtS (a_p : Option Addr) (a_n : Nat) (a_c : Nat) (left : Int) (w : World) (R : Value → World → Prop) : Prop :=
  ∃ t9 : Int, t9 = IntKind.wrap .i64 (left - ((a_n : Nat) : Int)) ∧ ((decide ((t9 : Int) < 0)) = true →
    R (.int .i64 (-1)) w) ∧
  ((decide ((t9 : Int) < 0)) = false →
    ∃ (Inv : Int → Int → World → Prop) (mu : Int → Int → World → Nat), Inv t9 0 w ∧
    ∀ (junk : Fr) (wv : World) (left_1 : Int) (i : Int), Inv left_1 i wv →
      ((decide ((i : Int) < ((a_n : Nat) : Int))) = true →
        (0 ≤ (i : Int) ∧ (i : Int) < (a_n : Nat)) ∧ ptrS a_p fun ad => ∃ (t210 : ByteArray) (t211 : ByteArray) (t212 : ByteArray) (t213 : Bool) (t214_p : Option Addr) (t214_n : Nat) (t214_c : Nat), Loads P 70 (ad.add (i.toNat * 5)) (.agg #[(.string t210), (.string t211), (.string t212), (.bool t213), (.slice t214_p t214_n t214_c)]) wv ∧ Calls P 45 ⟨[(.agg #[(.string t210), (.string t211), (.string t212), (.bool t213), (.slice t214_p t214_n t214_c)]), (.int .i64 left_1)]⟩ wv fun e wv_1 =>
        ∃ (t23 : Int), e = .returned (.int .i64 t23) ∧
        ((decide ((t23 : Int) < 0)) = true →
          R (.int .i64 (-1)) wv_1) ∧
        ((decide ((t23 : Int) < 0)) = false →
          ∃ t17 : Int, t17 = IntKind.wrap .i64 (i + 1) ∧ Inv t23 t17 wv_1 ∧ mu t23 t17 wv_1 < mu left_1 i wv)) ∧
      ((decide ((i : Int) < ((a_n : Nat) : Int))) = false →
        R (.int .i64 left_1) wv))
theorem laws_szDebtS_eq (a_p : Option Addr) (a_n : Nat) (a_c : Nat) (left : Int) (w : World) (R : Value → World → Prop) : laws_szDebtS a_p a_n a_c left w R = fsem P Tryd.f18 (fun k => cond (Nat.beq k 6) [(1, .one (.int .i64)), (5, .one (.int .i64))] ([])) [(.slice a_p a_n a_c), (.int .i64 left)] R w := by kernel_rfl
theorem laws_szDebtS_ret {a_p : Option Addr} {a_n : Nat} {a_c : Nat} {left : Int} {w : World} {R : Value → World → Prop} (h : laws_szDebtS a_p a_n a_c left w R) : Ret P 18 [(.slice a_p a_n a_c), (.int .i64 left)] w R :=
  Ret.of_fsem Tryd.func18 rfl (Eq.mp (laws_szDebtS_eq a_p a_n a_c left w R) h)
def laws_toDebtS (a_p : Option Addr) (a_n : Nat) (a_c : Nat) (w : World) (R : Value → World → Prop) : Prop :=
  (0 ≤ (((a_n : Nat) : Int) : Int) ∧ (((a_n : Nat) : Int) : Int) ≤ ((a_n : Nat) : Int) ∧ ((80 : Nat) : Int) * ((a_n : Nat) : Int) ≤ 281474976710656) ∧
  ∀ (r : Nat) (wv : World), New w (.cells ⟨zeroRow (.agg #[(.string ByteArray.empty), (.string ByteArray.empty), (.string ByteArray.empty), (.bool false), (.slice none 0 0)]) (a_n * 5)⟩ 73 (0, 0)) r wv →
  ∃ (Inv : Int → World → Prop) (mu : Int → World → Nat), Inv 0 wv ∧
  ∀ (junk : Fr) (wv_1 : World) (i : Int), Inv i wv_1 →
    ((decide ((i : Int) < ((a_n : Nat) : Int))) = true →
      (0 ≤ (i : Int) ∧ (i : Int) < (a_n : Nat)) ∧ ptrS a_p fun ad => ∃ (t190 : ByteArray) (t191 : ByteArray) (t192 : ByteArray) (t193 : Bool) (t194_p : Option Addr) (t194_n : Nat) (t194_c : Nat), Loads P 70 (ad.add (i.toNat * 5)) (.agg #[(.string t190), (.string t191), (.string t192), (.bool t193), (.slice t194_p t194_n t194_c)]) wv_1 ∧ Calls P 49 ⟨[(.agg #[(.string t190), (.string t191), (.string t192), (.bool t193), (.slice t194_p t194_n t194_c)])]⟩ wv_1 fun e wv_2 =>
      ∃ (t200 : ByteArray) (t201 : ByteArray) (t202 : ByteArray) (t203 : Bool) (t204_p : Option Addr) (t204_n : Nat) (t204_c : Nat), e = .returned (.agg #[(.string t200), (.string t201), (.string t202), (.bool t203), (.slice t204_p t204_n t204_c)]) ∧
      (0 ≤ (i : Int) ∧ (i : Int) < (a_n : Nat)) ∧ ∃ wv_3, Stores P 73 ((⟨r, 0, none⟩ : Addr).add (i.toNat * 5)) (.agg #[(.string t200), (.string t201), (.string t202), (.bool t203), (.slice t204_p t204_n t204_c)]) wv_2 wv_3 ∧
      ∃ t13 : Int, t13 = IntKind.wrap .i64 (i + 1) ∧ Inv t13 wv_3 ∧ mu t13 wv_3 < mu i wv_1) ∧
    ((decide ((i : Int) < ((a_n : Nat) : Int))) = false →
      R (.slice (some ⟨r, 0, none⟩) a_n a_n) wv_1)
theorem laws_toDebtS_eq (a_p : Option Addr) (a_n : Nat) (a_c : Nat) (w : World) (R : Value → World → Prop) : laws_toDebtS a_p a_n a_c w R = fsem P Tryd.f20 (fun k => cond (Nat.beq k 4) [(4, .one (.int .i64))] ([])) [(.slice a_p a_n a_c)] R w := by kernel_rfl
theorem laws_toDebtS_ret {a_p : Option Addr} {a_n : Nat} {a_c : Nat} {w : World} {R : Value → World → Prop} (h : laws_toDebtS a_p a_n a_c w R) : Ret P 20 [(.slice a_p a_n a_c)] w R :=
  Ret.of_fsem Tryd.func20 rfl (Eq.mp (laws_toDebtS_eq a_p a_n a_c w R) h)
def laws_eqDebtS (a_p : Option Addr) (a_n : Nat) (a_c : Nat) (b_p : Option Addr) (b_n : Nat) (b_c : Nat) (w : World) (R : Value → World → Prop) : Prop :=
  ((decide ((((a_n : Nat) : Int) : Int) ≠ ((b_n : Nat) : Int))) = true →
    R (.bool false) w) ∧
  ((decide ((((a_n : Nat) : Int) : Int) ≠ ((b_n : Nat) : Int))) = false →
    ∃ (Inv : Int → World → Prop) (mu : Int → World → Nat), Inv 0 w ∧
    ∀ (junk : Fr) (wv : World) (i : Int), Inv i wv →
      ((decide ((i : Int) < ((a_n : Nat) : Int))) = true →
        (0 ≤ (i : Int) ∧ (i : Int) < (a_n : Nat)) ∧ ptrS a_p fun ad => ∃ (t200 : ByteArray) (t201 : ByteArray) (t202 : ByteArray) (t203 : Bool) (t204_p : Option Addr) (t204_n : Nat) (t204_c : Nat), (∀ wv_1, Ext wv.drew wv_1 → Loads P 73 (ad.add (i.toNat * 5)) (.agg #[(.string t200), (.string t201), (.string t202), (.bool t203), (.slice t204_p t204_n t204_c)]) wv_1) ∧ (0 ≤ (i : Int) ∧ (i : Int) < (b_n : Nat)) ∧ ptrS b_p fun ad_1 => ∃ (t240 : ByteArray) (t241 : ByteArray) (t242 : ByteArray) (t243 : Bool) (t244_p : Option Addr) (t244_n : Nat) (t244_c : Nat), (∀ wv_2, Ext wv.drew wv_2 → Loads P 73 (ad_1.add (i.toNat * 5)) (.agg #[(.string t240), (.string t241), (.string t242), (.bool t243), (.slice t244_p t244_n t244_c)]) wv_2) ∧ Calls P 56 ⟨[(.agg #[(.string t200), (.string t201), (.string t202), (.bool t203), (.slice t204_p t204_n t204_c)]), (.agg #[(.string t240), (.string t241), (.string t242), (.bool t243), (.slice t244_p t244_n t244_c)])]⟩ wv.drew fun e wv_3 =>
        ∃ (t25 : Bool), e = .returned (.bool t25) ∧
        ((!t25) = true →
          R (.bool false) wv_3) ∧
        ((!t25) = false →
          ∃ t16 : Int, t16 = IntKind.wrap .i64 (i + 1) ∧ Inv t16 wv_3 ∧ mu t16 wv_3 < mu i wv)) ∧
      ((decide ((i : Int) < ((a_n : Nat) : Int))) = false →
        R (.bool true) wv))
theorem laws_eqDebtS_eq (a_p : Option Addr) (a_n : Nat) (a_c : Nat) (b_p : Option Addr) (b_n : Nat) (b_c : Nat) (w : World) (R : Value → World → Prop) : laws_eqDebtS a_p a_n a_c b_p b_n b_c w R = fsem P Tryd.f23 (fun k => cond (Nat.beq k 5) [(5, .one (.int .i64))] ([])) [(.slice a_p a_n a_c), (.slice b_p b_n b_c)] R w := by kernel_rfl
theorem laws_eqDebtS_ret {a_p : Option Addr} {a_n : Nat} {a_c : Nat} {b_p : Option Addr} {b_n : Nat} {b_c : Nat} {w : World} {R : Value → World → Prop} (h : laws_eqDebtS a_p a_n a_c b_p b_n b_c w R) : Ret P 23 [(.slice a_p a_n a_c), (.slice b_p b_n b_c)] w R :=
  Ret.of_fsem Tryd.func23 rfl (Eq.mp (laws_eqDebtS_eq a_p a_n a_c b_p b_n b_c w R) h)
def laws_markDebtS (a_p : Option Addr) (a_n : Nat) (a_c : Nat) (k : Int) (w : World) (R : Value → World → Prop) : Prop :=
  ∃ (Inv : Int → Int → World → Prop) (mu : Int → Int → World → Nat), Inv k 0 w ∧
  ∀ (junk : Fr) (wv : World) (k_1 : Int) (i : Int), Inv k_1 i wv →
    ((decide ((i : Int) < ((a_n : Nat) : Int))) = true →
      Calls P 42 ⟨[(.int .i64 k_1)]⟩ wv fun e wv_1 =>
      ∃ (t15 : ByteArray), e = .returned (.string t15) ∧
      (0 ≤ (i : Int) ∧ (i : Int) < (a_n : Nat)) ∧ ptrS a_p fun ad => ∃ wv_2, Stores P 9 ((ad.add (i.toNat * 5)).add 0) (.string t15) wv_1 wv_2 ∧
      ∃ t19 : Int, t19 = IntKind.wrap .i64 (k_1 + 1) ∧ Calls P 42 ⟨[(.int .i64 t19)]⟩ wv_2 fun e_1 wv_3 =>
      ∃ (t23 : ByteArray), e_1 = .returned (.string t23) ∧
      (0 ≤ (i : Int) ∧ (i : Int) < (a_n : Nat)) ∧ ptrS a_p fun ad_1 => ∃ wv_4, Stores P 9 ((ad_1.add (i.toNat * 5)).add 1) (.string t23) wv_3 wv_4 ∧
      ∃ t27 : Int, t27 = IntKind.wrap .i64 (t19 + 1) ∧ Calls P 42 ⟨[(.int .i64 t27)]⟩ wv_4 fun e_2 wv_5 =>
      ∃ (t31 : ByteArray), e_2 = .returned (.string t31) ∧
      (0 ≤ (i : Int) ∧ (i : Int) < (a_n : Nat)) ∧ ptrS a_p fun ad_2 => ∃ wv_6, Stores P 9 (((ad_2.add (i.toNat * 5)).add 2).add 0) (.string t31) wv_5 wv_6 ∧
      ∃ t36 : Int, t36 = IntKind.wrap .i64 (t27 + 1) ∧ (3 : Int) ≠ 0 ∧ ∃ t40 : Int, t40 = Int.tmod t36 3 ∧ (0 ≤ (i : Int) ∧ (i : Int) < (a_n : Nat)) ∧ ptrS a_p fun ad_3 => ∃ wv_7, Stores P 4 ((((ad_3.add (i.toNat * 5)).add 2).add 1).add 0) (.bool (decide ((t40 : Int) = 0))) wv_6 wv_7 ∧
      ∃ t47 : Int, t47 = IntKind.wrap .i64 (t36 + 1) ∧ (0 ≤ (i : Int) ∧ (i : Int) < (a_n : Nat)) ∧ ptrS a_p fun ad_4 => ∃ (t54_p : Option Addr) (t54_n : Nat) (t54_c : Nat), Loads P 49 ((((ad_4.add (i.toNat * 5)).add 2).add 1).add 1) (.slice t54_p t54_n t54_c) wv_7 ∧ Calls P 43 ⟨[(.slice t54_p t54_n t54_c), (.int .i64 t47)]⟩ wv_7 fun e_3 wv_8 =>
      ∃ (t56 : Int), e_3 = .returned (.int .i64 t56) ∧
      ∃ t11 : Int, t11 = IntKind.wrap .i64 (i + 1) ∧ Inv t56 t11 wv_8 ∧ mu t56 t11 wv_8 < mu k_1 i wv) ∧
    ((decide ((i : Int) < ((a_n : Nat) : Int))) = false →
      R (.int .i64 k_1) wv)
theorem laws_markDebtS_eq (a_p : Option Addr) (a_n : Nat) (a_c : Nat) (k : Int) (w : World) (R : Value → World → Prop) : laws_markDebtS a_p a_n a_c k w R = fsem P Tryd.f24 (fun k => cond (Nat.beq k 3) [(1, .one (.int .i64)), (5, .one (.int .i64))] ([])) [(.slice a_p a_n a_c), (.int .i64 k)] R w := by kernel_rfl
theorem laws_markDebtS_ret {a_p : Option Addr} {a_n : Nat} {a_c : Nat} {k : Int} {w : World} {R : Value → World → Prop} (h : laws_markDebtS a_p a_n a_c k w R) : Ret P 24 [(.slice a_p a_n a_c), (.int .i64 k)] w R :=
  Ret.of_fsem Tryd.func24 rfl (Eq.mp (laws_markDebtS_eq a_p a_n a_c k w R) h)
def laws_heldDebtS (a_p : Option Addr) (a_n : Nat) (a_c : Nat) (k : Int) (w : World) (R : Value → World → Prop) : Prop :=
  ∃ (Inv : Int → Int → World → Prop) (mu : Int → Int → World → Nat), Inv k 0 w ∧
  ∀ (junk : Fr) (wv : World) (k_1 : Int) (i : Int), Inv k_1 i wv →
    ((decide ((i : Int) < ((a_n : Nat) : Int))) = true →
      (0 ≤ (i : Int) ∧ (i : Int) < (a_n : Nat)) ∧ ptrS a_p fun ad => ∃ (t16 : ByteArray), (∀ wv_1, Ext wv.drew wv_1 → Loads P 9 ((ad.add (i.toNat * 5)).add 0) (.string t16) wv_1) ∧ Calls P 42 ⟨[(.int .i64 k_1)]⟩ wv.drew fun e wv_2 =>
      ∃ (t18 : ByteArray), e = .returned (.string t18) ∧
      Ext wv.drew wv_2 ∧ ((decide (t16 ≠ t18)) = true →
        R (.int .i64 (-1)) wv_2) ∧
      ((decide (t16 ≠ t18)) = false →
        ∃ t21 : Int, t21 = IntKind.wrap .i64 (k_1 + 1) ∧ (0 ≤ (i : Int) ∧ (i : Int) < (a_n : Nat)) ∧ ptrS a_p fun ad_1 => ∃ (t26 : ByteArray), (∀ wv_3, Ext wv_2.drew wv_3 → Loads P 9 ((ad_1.add (i.toNat * 5)).add 1) (.string t26) wv_3) ∧ Calls P 42 ⟨[(.int .i64 t21)]⟩ wv_2.drew fun e_1 wv_4 =>
        ∃ (t28 : ByteArray), e_1 = .returned (.string t28) ∧
        Ext wv_2.drew wv_4 ∧ ((decide (t26 ≠ t28)) = true →
          R (.int .i64 (-1)) wv_4) ∧
        ((decide (t26 ≠ t28)) = false →
          ∃ t31 : Int, t31 = IntKind.wrap .i64 (t21 + 1) ∧ (0 ≤ (i : Int) ∧ (i : Int) < (a_n : Nat)) ∧ ptrS a_p fun ad_2 => ∃ (t37 : ByteArray), (∀ wv_5, Ext wv_4.drew wv_5 → Loads P 9 (((ad_2.add (i.toNat * 5)).add 2).add 0) (.string t37) wv_5) ∧ Calls P 42 ⟨[(.int .i64 t31)]⟩ wv_4.drew fun e_2 wv_6 =>
          ∃ (t39 : ByteArray), e_2 = .returned (.string t39) ∧
          Ext wv_4.drew wv_6 ∧ ((decide (t37 ≠ t39)) = true →
            R (.int .i64 (-1)) wv_6) ∧
          ((decide (t37 ≠ t39)) = false →
            ∃ t42 : Int, t42 = IntKind.wrap .i64 (t31 + 1) ∧ (0 ≤ (i : Int) ∧ (i : Int) < (a_n : Nat)) ∧ ptrS a_p fun ad_3 => ∃ (t49 : Bool), Loads P 4 ((((ad_3.add (i.toNat * 5)).add 2).add 1).add 0) (.bool t49) wv_6 ∧ (3 : Int) ≠ 0 ∧ ∃ t51 : Int, t51 = Int.tmod t42 3 ∧ ((!(t49 == (decide ((t51 : Int) = 0)))) = true →
              R (.int .i64 (-1)) wv_6) ∧
            ((!(t49 == (decide ((t51 : Int) = 0)))) = false →
              ∃ t55 : Int, t55 = IntKind.wrap .i64 (t42 + 1) ∧ (0 ≤ (i : Int) ∧ (i : Int) < (a_n : Nat)) ∧ ptrS a_p fun ad_4 => ∃ (t62_p : Option Addr) (t62_n : Nat) (t62_c : Nat), Loads P 49 ((((ad_4.add (i.toNat * 5)).add 2).add 1).add 1) (.slice t62_p t62_n t62_c) wv_6 ∧ Calls P 44 ⟨[(.slice t62_p t62_n t62_c), (.int .i64 t55)]⟩ wv_6 fun e_3 wv_7 =>
              ∃ (t64 : Int), e_3 = .returned (.int .i64 t64) ∧
              ((decide ((t64 : Int) < 0)) = true →
                R (.int .i64 (-1)) wv_7) ∧
              ((decide ((t64 : Int) < 0)) = false →
                ∃ t11 : Int, t11 = IntKind.wrap .i64 (i + 1) ∧ Inv t64 t11 wv_7 ∧ mu t64 t11 wv_7 < mu k_1 i wv)))))) ∧
    ((decide ((i : Int) < ((a_n : Nat) : Int))) = false →
      R (.int .i64 k_1) wv)
theorem laws_heldDebtS_eq (a_p : Option Addr) (a_n : Nat) (a_c : Nat) (k : Int) (w : World) (R : Value → World → Prop) : laws_heldDebtS a_p a_n a_c k w R = fsem P Tryd.f29 (fun k => cond (Nat.beq k 3) [(1, .one (.int .i64)), (5, .one (.int .i64))] ([])) [(.slice a_p a_n a_c), (.int .i64 k)] R w := by kernel_rfl
theorem laws_heldDebtS_ret {a_p : Option Addr} {a_n : Nat} {a_c : Nat} {k : Int} {w : World} {R : Value → World → Prop} (h : laws_heldDebtS a_p a_n a_c k w R) : Ret P 29 [(.slice a_p a_n a_c), (.int .i64 k)] w R :=
  Ret.of_fsem Tryd.func29 rfl (Eq.mp (laws_heldDebtS_eq a_p a_n a_c k w R) h)
def laws_eqMoney (a0 : ByteArray) (a1 : Bool) (a2_p : Option Addr) (a2_n : Nat) (a2_c : Nat) (b0 : ByteArray) (b1 : Bool) (b2_p : Option Addr) (b2_n : Nat) (b2_c : Nat) (w : World) (R : Value → World → Prop) : Prop :=
  ∀ (r : Nat) (wv : World), New w (.cells ⟨[(.string a0), (.bool a1), (.slice a2_p a2_n a2_c)]⟩ 58 (0, 0)) r wv →
  ∀ (r_1 : Nat) (wv_1 : World), New wv (.cells ⟨[(.string b0), (.bool b1), (.slice b2_p b2_n b2_c)]⟩ 58 (0, 0)) r_1 wv_1 →
  ∃ (t6 : ByteArray), Loads P 9 ((⟨r, 0, none⟩ : Addr).add 0) (.string t6) wv_1 ∧ ∃ (t8 : ByteArray), Loads P 9 ((⟨r_1, 0, none⟩ : Addr).add 0) (.string t8) wv_1 ∧ ((decide (t6 ≠ t8)) = true →
    R (.bool false) wv_1) ∧
  ((decide (t6 ≠ t8)) = false →
    ∃ (t110 : Bool) (t111_p : Option Addr) (t111_n : Nat) (t111_c : Nat), Loads P 56 ((⟨r, 0, none⟩ : Addr).add 1) (.agg #[(.bool t110), (.slice t111_p t111_n t111_c)]) wv_1 ∧ ∃ (t130 : Bool) (t131_p : Option Addr) (t131_n : Nat) (t131_c : Nat), Loads P 56 ((⟨r_1, 0, none⟩ : Addr).add 1) (.agg #[(.bool t130), (.slice t131_p t131_n t131_c)]) wv_1 ∧ Calls P 81 ⟨[(.agg #[(.bool t110), (.slice t111_p t111_n t111_c)]), (.agg #[(.bool t130), (.slice t131_p t131_n t131_c)])]⟩ wv_1 fun e wv_2 =>
    ∃ (t14 : Bool), e = .returned (.bool t14) ∧
    ((!t14) = true →
      R (.bool false) wv_2) ∧
    ((!t14) = false →
      R (.bool true) wv_2))
theorem laws_eqMoney_eq (a0 : ByteArray) (a1 : Bool) (a2_p : Option Addr) (a2_n : Nat) (a2_c : Nat) (b0 : ByteArray) (b1 : Bool) (b2_p : Option Addr) (b2_n : Nat) (b2_c : Nat) (w : World) (R : Value → World → Prop) : laws_eqMoney a0 a1 a2_p a2_n a2_c b0 b1 b2_p b2_n b2_c w R = fsem P Tryd.f41 (fun k => []) [(.agg #[(.string a0), (.bool a1), (.slice a2_p a2_n a2_c)]), (.agg #[(.string b0), (.bool b1), (.slice b2_p b2_n b2_c)])] R w := by kernel_rfl
theorem laws_eqMoney_ret {a0 : ByteArray} {a1 : Bool} {a2_p : Option Addr} {a2_n : Nat} {a2_c : Nat} {b0 : ByteArray} {b1 : Bool} {b2_p : Option Addr} {b2_n : Nat} {b2_c : Nat} {w : World} {R : Value → World → Prop} (h : laws_eqMoney a0 a1 a2_p a2_n a2_c b0 b1 b2_p b2_n b2_c w R) : Ret P 41 [(.agg #[(.string a0), (.bool a1), (.slice a2_p a2_n a2_c)]), (.agg #[(.string b0), (.bool b1), (.slice b2_p b2_n b2_c)])] w R :=
  Ret.of_fsem Tryd.func41 rfl (Eq.mp (laws_eqMoney_eq a0 a1 a2_p a2_n a2_c b0 b1 b2_p b2_n b2_c w R) h)
def laws_markText (k : Int) (w : World) (R : Value → World → Prop) : Prop :=
  ((decide ((k : Int) ≤ 0)) = true →
    R (.string (S [109, 48])) w) ∧
  ((decide ((k : Int) ≤ 0)) = false →
    ∃ (Inv : Int → ByteArray → World → Prop) (mu : Int → ByteArray → World → Nat), Inv k (S []) w ∧
    ∀ (junk : Fr) (wv : World) (k_1 : Int) (out : ByteArray), Inv k_1 out wv →
      ((decide ((0 : Int) < k_1)) = true →
        (10 : Int) ≠ 0 ∧ ∃ t9 : Int, t9 = Int.tmod k_1 10 ∧ ∃ t10 : Int, t10 = IntKind.wrap .i64 (48 + t9) ∧ ∃ t11 : Int, t11 = IntKind.wrap .u8 t10 ∧ ∀ (r : Nat) (wv_1 : World), New wv (.cells ⟨[(.int .u8 t11)]⟩ 5 (0, 0)) r wv_1 →
        ∃ (t13 : ByteArray), Convs P 105 9 (.slice (some ⟨r, 0, none⟩) 1 1) (.string t13) wv_1 ∧ t13.size + out.size ≤ 9223372036854775807 ∧ ∃ t15 : ByteArray, t15 = t13 ++ out ∧ (10 : Int) ≠ 0 ∧ ∃ t17 : Int, t17 = IntKind.wrap .i64 (Int.tdiv k_1 10) ∧ Inv t17 t15 wv_1 ∧ mu t17 t15 wv_1 < mu k_1 out wv) ∧
      ((decide ((0 : Int) < k_1)) = false →
        (S [109]).size + out.size ≤ 9223372036854775807 ∧ ∃ t19 : ByteArray, t19 = (S [109]) ++ out ∧ R (.string t19) wv))
theorem laws_markText_eq (k : Int) (w : World) (R : Value → World → Prop) : laws_markText k w R = fsem P Tryd.f42 (fun k => cond (Nat.beq k 5) [(0, .one (.int .i64)), (3, .one .str)] ([])) [(.int .i64 k)] R w := by kernel_rfl
theorem laws_markText_ret {k : Int} {w : World} {R : Value → World → Prop} (h : laws_markText k w R) : Ret P 42 [(.int .i64 k)] w R :=
  Ret.of_fsem Tryd.func42 rfl (Eq.mp (laws_markText_eq k w R) h)
def laws_markIntS (a_p : Option Addr) (a_n : Nat) (a_c : Nat) (k : Int) (w : World) (R : Value → World → Prop) : Prop :=
  ∃ (Inv : Int → Int → World → Prop) (mu : Int → Int → World → Nat), Inv k 0 w ∧
  ∀ (junk : Fr) (wv : World) (k_1 : Int) (i : Int), Inv k_1 i wv →
    ((decide ((i : Int) < ((a_n : Nat) : Int))) = true →
      (0 ≤ (i : Int) ∧ (i : Int) < (a_n : Nat)) ∧ ptrS a_p fun ad => ∃ wv_1, Stores P 3 (ad.add (i.toNat * 1)) (.int .i64 k_1) wv wv_1 ∧
      ∃ t17 : Int, t17 = IntKind.wrap .i64 (k_1 + 1) ∧ ∃ t11 : Int, t11 = IntKind.wrap .i64 (i + 1) ∧ Inv t17 t11 wv_1 ∧ mu t17 t11 wv_1 < mu k_1 i wv) ∧
    ((decide ((i : Int) < ((a_n : Nat) : Int))) = false →
      R (.int .i64 k_1) wv)
theorem laws_markIntS_eq (a_p : Option Addr) (a_n : Nat) (a_c : Nat) (k : Int) (w : World) (R : Value → World → Prop) : laws_markIntS a_p a_n a_c k w R = fsem P Tryd.f43 (fun k => cond (Nat.beq k 3) [(1, .one (.int .i64)), (5, .one (.int .i64))] ([])) [(.slice a_p a_n a_c), (.int .i64 k)] R w := by kernel_rfl
theorem laws_markIntS_ret {a_p : Option Addr} {a_n : Nat} {a_c : Nat} {k : Int} {w : World} {R : Value → World → Prop} (h : laws_markIntS a_p a_n a_c k w R) : Ret P 43 [(.slice a_p a_n a_c), (.int .i64 k)] w R :=
  Ret.of_fsem Tryd.func43 rfl (Eq.mp (laws_markIntS_eq a_p a_n a_c k w R) h)
def laws_heldIntS (a_p : Option Addr) (a_n : Nat) (a_c : Nat) (k : Int) (w : World) (R : Value → World → Prop) : Prop :=
  ∃ (Inv : Int → Int → World → Prop) (mu : Int → Int → World → Nat), Inv k 0 w ∧
  ∀ (junk : Fr) (wv : World) (k_1 : Int) (i : Int), Inv k_1 i wv →
    ((decide ((i : Int) < ((a_n : Nat) : Int))) = true →
      (0 ≤ (i : Int) ∧ (i : Int) < (a_n : Nat)) ∧ ptrS a_p fun ad => ∃ (t15 : Int), Loads P 3 (ad.add (i.toNat * 1)) (.int .i64 t15) wv ∧ ((decide ((t15 : Int) ≠ k_1)) = true →
        R (.int .i64 (-1)) wv) ∧
      ((decide ((t15 : Int) ≠ k_1)) = false →
        ∃ t19 : Int, t19 = IntKind.wrap .i64 (k_1 + 1) ∧ ∃ t11 : Int, t11 = IntKind.wrap .i64 (i + 1) ∧ Inv t19 t11 wv ∧ mu t19 t11 wv < mu k_1 i wv)) ∧
    ((decide ((i : Int) < ((a_n : Nat) : Int))) = false →
      R (.int .i64 k_1) wv)
theorem laws_heldIntS_eq (a_p : Option Addr) (a_n : Nat) (a_c : Nat) (k : Int) (w : World) (R : Value → World → Prop) : laws_heldIntS a_p a_n a_c k w R = fsem P Tryd.f44 (fun k => cond (Nat.beq k 3) [(1, .one (.int .i64)), (5, .one (.int .i64))] ([])) [(.slice a_p a_n a_c), (.int .i64 k)] R w := by kernel_rfl
theorem laws_heldIntS_ret {a_p : Option Addr} {a_n : Nat} {a_c : Nat} {k : Int} {w : World} {R : Value → World → Prop} (h : laws_heldIntS a_p a_n a_c k w R) : Ret P 44 [(.slice a_p a_n a_c), (.int .i64 k)] w R :=
  Ret.of_fsem Tryd.func44 rfl (Eq.mp (laws_heldIntS_eq a_p a_n a_c k w R) h)
def laws_szDebt (a0 : ByteArray) (a1 : ByteArray) (a2 : ByteArray) (a3 : Bool) (a4_p : Option Addr) (a4_n : Nat) (a4_c : Nat) (left : Int) (w : World) (R : Value → World → Prop) : Prop :=
  ∀ (r : Nat) (wv : World), New w (.cells ⟨[(.string a0), (.string a1), (.string a2), (.bool a3), (.slice a4_p a4_n a4_c)]⟩ 70 (0, 0)) r wv →
  ∃ (t7 : ByteArray), Loads P 9 ((⟨r, 0, none⟩ : Addr).add 0) (.string t7) wv ∧ ∃ t9 : Int, t9 = IntKind.wrap .i64 (left - ((t7.size : Nat) : Int)) ∧ ((decide ((t9 : Int) < 0)) = true →
    R (.int .i64 (-1)) wv) ∧
  ((decide ((t9 : Int) < 0)) = false →
    ∃ (t14 : ByteArray), Loads P 9 ((⟨r, 0, none⟩ : Addr).add 1) (.string t14) wv ∧ ∃ t16 : Int, t16 = IntKind.wrap .i64 (t9 - ((t14.size : Nat) : Int)) ∧ ((decide ((t16 : Int) < 0)) = true →
      R (.int .i64 (-1)) wv) ∧
    ((decide ((t16 : Int) < 0)) = false →
      ∃ (t200 : ByteArray) (t201 : Bool) (t202_p : Option Addr) (t202_n : Nat) (t202_c : Nat), Loads P 53 ((⟨r, 0, none⟩ : Addr).add 2) (.agg #[(.string t200), (.bool t201), (.slice t202_p t202_n t202_c)]) wv ∧ Calls P 68 ⟨[(.agg #[(.string t200), (.bool t201), (.slice t202_p t202_n t202_c)]), (.int .i64 t16)]⟩ wv fun e wv_1 =>
      ∃ (t22 : Int), e = .returned (.int .i64 t22) ∧
      ((decide ((t22 : Int) < 0)) = true →
        R (.int .i64 (-1)) wv_1) ∧
      ((decide ((t22 : Int) < 0)) = false →
        R (.int .i64 t22) wv_1)))
theorem laws_szDebt_eq (a0 : ByteArray) (a1 : ByteArray) (a2 : ByteArray) (a3 : Bool) (a4_p : Option Addr) (a4_n : Nat) (a4_c : Nat) (left : Int) (w : World) (R : Value → World → Prop) : laws_szDebt a0 a1 a2 a3 a4_p a4_n a4_c left w R = fsem P Tryd.f45 (fun k => []) [(.agg #[(.string a0), (.string a1), (.string a2), (.bool a3), (.slice a4_p a4_n a4_c)]), (.int .i64 left)] R w := by kernel_rfl
theorem laws_szDebt_ret {a0 : ByteArray} {a1 : ByteArray} {a2 : ByteArray} {a3 : Bool} {a4_p : Option Addr} {a4_n : Nat} {a4_c : Nat} {left : Int} {w : World} {R : Value → World → Prop} (h : laws_szDebt a0 a1 a2 a3 a4_p a4_n a4_c left w R) : Ret P 45 [(.agg #[(.string a0), (.string a1), (.string a2), (.bool a3), (.slice a4_p a4_n a4_c)]), (.int .i64 left)] w R :=
  Ret.of_fsem Tryd.func45 rfl (Eq.mp (laws_szDebt_eq a0 a1 a2 a3 a4_p a4_n a4_c left w R) h)
def laws_toDebt (a0 : ByteArray) (a1 : ByteArray) (a2 : ByteArray) (a3 : Bool) (a4_p : Option Addr) (a4_n : Nat) (a4_c : Nat) (w : World) (R : Value → World → Prop) : Prop :=
  ∀ (r : Nat) (wv : World), New w (.cells ⟨[(.string a0), (.string a1), (.string a2), (.bool a3), (.slice a4_p a4_n a4_c)]⟩ 70 (0, 0)) r wv →
  ∀ (r_1 : Nat) (wv_1 : World), New wv (.cells ⟨[(.string ByteArray.empty), (.string ByteArray.empty), (.string ByteArray.empty), (.bool false), (.slice none 0 0)]⟩ 73 (0, 0)) r_1 wv_1 →
  ∀ (r_2 : Nat) (wv_2 : World), New wv_1 (.cells ⟨[(.string ByteArray.empty), (.string ByteArray.empty), (.string ByteArray.empty), (.bool false), (.slice none 0 0)]⟩ 73 (0, 0)) r_2 wv_2 →
  ∃ (t5 : ByteArray), Loads P 9 ((⟨r, 0, none⟩ : Addr).add 0) (.string t5) wv_2 ∧ ∃ wv_3, Stores P 9 ((⟨r_2, 0, none⟩ : Addr).add 0) (.string t5) wv_2 wv_3 ∧
  ∃ (t8 : ByteArray), Loads P 9 ((⟨r, 0, none⟩ : Addr).add 1) (.string t8) wv_3 ∧ ∃ wv_4, Stores P 9 ((⟨r_2, 0, none⟩ : Addr).add 1) (.string t8) wv_3 wv_4 ∧
  ∃ (t110 : ByteArray) (t111 : Bool) (t112_p : Option Addr) (t112_n : Nat) (t112_c : Nat), Loads P 53 ((⟨r, 0, none⟩ : Addr).add 2) (.agg #[(.string t110), (.bool t111), (.slice t112_p t112_n t112_c)]) wv_4 ∧ Calls P 72 ⟨[(.agg #[(.string t110), (.bool t111), (.slice t112_p t112_n t112_c)])]⟩ wv_4 fun e wv_5 =>
  ∃ (t120 : ByteArray) (t121 : Bool) (t122_p : Option Addr) (t122_n : Nat) (t122_c : Nat), e = .returned (.agg #[(.string t120), (.bool t121), (.slice t122_p t122_n t122_c)]) ∧
  ∃ wv_6, Stores P 58 ((⟨r_2, 0, none⟩ : Addr).add 2) (.agg #[(.string t120), (.bool t121), (.slice t122_p t122_n t122_c)]) wv_5 wv_6 ∧
  ∃ (t140 : ByteArray) (t141 : ByteArray) (t142 : ByteArray) (t143 : Bool) (t144_p : Option Addr) (t144_n : Nat) (t144_c : Nat), Loads P 73 ⟨r_2, 0, none⟩ (.agg #[(.string t140), (.string t141), (.string t142), (.bool t143), (.slice t144_p t144_n t144_c)]) wv_6 ∧ ∃ wv_7, Stores P 73 ⟨r_1, 0, none⟩ (.agg #[(.string t140), (.string t141), (.string t142), (.bool t143), (.slice t144_p t144_n t144_c)]) wv_6 wv_7 ∧
  ∃ (r0 : ByteArray) (r1 : ByteArray) (r2 : ByteArray) (r3 : Bool) (r4_p : Option Addr) (r4_n : Nat) (r4_c : Nat), Loads P 73 ⟨r_1, 0, none⟩ (.agg #[(.string r0), (.string r1), (.string r2), (.bool r3), (.slice r4_p r4_n r4_c)]) wv_7 ∧ R (.agg #[(.string r0), (.string r1), (.string r2), (.bool r3), (.slice r4_p r4_n r4_c)]) wv_7
theorem laws_toDebt_eq (a0 : ByteArray) (a1 : ByteArray) (a2 : ByteArray) (a3 : Bool) (a4_p : Option Addr) (a4_n : Nat) (a4_c : Nat) (w : World) (R : Value → World → Prop) : laws_toDebt a0 a1 a2 a3 a4_p a4_n a4_c w R = fsem P Tryd.f49 (fun k => []) [(.agg #[(.string a0), (.string a1), (.string a2), (.bool a3), (.slice a4_p a4_n a4_c)])] R w := by kernel_rfl
theorem laws_toDebt_ret {a0 : ByteArray} {a1 : ByteArray} {a2 : ByteArray} {a3 : Bool} {a4_p : Option Addr} {a4_n : Nat} {a4_c : Nat} {w : World} {R : Value → World → Prop} (h : laws_toDebt a0 a1 a2 a3 a4_p a4_n a4_c w R) : Ret P 49 [(.agg #[(.string a0), (.string a1), (.string a2), (.bool a3), (.slice a4_p a4_n a4_c)])] w R :=
  Ret.of_fsem Tryd.func49 rfl (Eq.mp (laws_toDebt_eq a0 a1 a2 a3 a4_p a4_n a4_c w R) h)
def laws_eqDebt (a0 : ByteArray) (a1 : ByteArray) (a2 : ByteArray) (a3 : Bool) (a4_p : Option Addr) (a4_n : Nat) (a4_c : Nat) (b0 : ByteArray) (b1 : ByteArray) (b2 : ByteArray) (b3 : Bool) (b4_p : Option Addr) (b4_n : Nat) (b4_c : Nat) (w : World) (R : Value → World → Prop) : Prop :=
  ∀ (r : Nat) (wv : World), New w (.cells ⟨[(.string a0), (.string a1), (.string a2), (.bool a3), (.slice a4_p a4_n a4_c)]⟩ 73 (0, 0)) r wv →
  ∀ (r_1 : Nat) (wv_1 : World), New wv (.cells ⟨[(.string b0), (.string b1), (.string b2), (.bool b3), (.slice b4_p b4_n b4_c)]⟩ 73 (0, 0)) r_1 wv_1 →
  ∃ (t6 : ByteArray), Loads P 9 ((⟨r, 0, none⟩ : Addr).add 0) (.string t6) wv_1 ∧ ∃ (t8 : ByteArray), Loads P 9 ((⟨r_1, 0, none⟩ : Addr).add 0) (.string t8) wv_1 ∧ ((decide (t6 ≠ t8)) = true →
    R (.bool false) wv_1) ∧
  ((decide (t6 ≠ t8)) = false →
    ∃ (t11 : ByteArray), Loads P 9 ((⟨r, 0, none⟩ : Addr).add 1) (.string t11) wv_1 ∧ ∃ (t13 : ByteArray), Loads P 9 ((⟨r_1, 0, none⟩ : Addr).add 1) (.string t13) wv_1 ∧ ((decide (t11 ≠ t13)) = true →
      R (.bool false) wv_1) ∧
    ((decide (t11 ≠ t13)) = false →
      ∃ (t160 : ByteArray) (t161 : Bool) (t162_p : Option Addr) (t162_n : Nat) (t162_c : Nat), Loads P 58 ((⟨r, 0, none⟩ : Addr).add 2) (.agg #[(.string t160), (.bool t161), (.slice t162_p t162_n t162_c)]) wv_1 ∧ ∃ (t180 : ByteArray) (t181 : Bool) (t182_p : Option Addr) (t182_n : Nat) (t182_c : Nat), Loads P 58 ((⟨r_1, 0, none⟩ : Addr).add 2) (.agg #[(.string t180), (.bool t181), (.slice t182_p t182_n t182_c)]) wv_1 ∧ Calls P 41 ⟨[(.agg #[(.string t160), (.bool t161), (.slice t162_p t162_n t162_c)]), (.agg #[(.string t180), (.bool t181), (.slice t182_p t182_n t182_c)])]⟩ wv_1 fun e wv_2 =>
      ∃ (t19 : Bool), e = .returned (.bool t19) ∧
      ((!t19) = true →
        R (.bool false) wv_2) ∧
      ((!t19) = false →
        R (.bool true) wv_2)))
theorem laws_eqDebt_eq (a0 : ByteArray) (a1 : ByteArray) (a2 : ByteArray) (a3 : Bool) (a4_p : Option Addr) (a4_n : Nat) (a4_c : Nat) (b0 : ByteArray) (b1 : ByteArray) (b2 : ByteArray) (b3 : Bool) (b4_p : Option Addr) (b4_n : Nat) (b4_c : Nat) (w : World) (R : Value → World → Prop) : laws_eqDebt a0 a1 a2 a3 a4_p a4_n a4_c b0 b1 b2 b3 b4_p b4_n b4_c w R = fsem P Tryd.f56 (fun k => []) [(.agg #[(.string a0), (.string a1), (.string a2), (.bool a3), (.slice a4_p a4_n a4_c)]), (.agg #[(.string b0), (.string b1), (.string b2), (.bool b3), (.slice b4_p b4_n b4_c)])] R w := by kernel_rfl
theorem laws_eqDebt_ret {a0 : ByteArray} {a1 : ByteArray} {a2 : ByteArray} {a3 : Bool} {a4_p : Option Addr} {a4_n : Nat} {a4_c : Nat} {b0 : ByteArray} {b1 : ByteArray} {b2 : ByteArray} {b3 : Bool} {b4_p : Option Addr} {b4_n : Nat} {b4_c : Nat} {w : World} {R : Value → World → Prop} (h : laws_eqDebt a0 a1 a2 a3 a4_p a4_n a4_c b0 b1 b2 b3 b4_p b4_n b4_c w R) : Ret P 56 [(.agg #[(.string a0), (.string a1), (.string a2), (.bool a3), (.slice a4_p a4_n a4_c)]), (.agg #[(.string b0), (.string b1), (.string b2), (.bool b3), (.slice b4_p b4_n b4_c)])] w R :=
  Ret.of_fsem Tryd.func56 rfl (Eq.mp (laws_eqDebt_eq a0 a1 a2 a3 a4_p a4_n a4_c b0 b1 b2 b3 b4_p b4_n b4_c w R) h)
def laws_szMoney (a0 : ByteArray) (a1 : Bool) (a2_p : Option Addr) (a2_n : Nat) (a2_c : Nat) (left : Int) (w : World) (R : Value → World → Prop) : Prop :=
  ∀ (r : Nat) (wv : World), New w (.cells ⟨[(.string a0), (.bool a1), (.slice a2_p a2_n a2_c)]⟩ 53 (0, 0)) r wv →
  ∃ (t7 : ByteArray), Loads P 9 ((⟨r, 0, none⟩ : Addr).add 0) (.string t7) wv ∧ ∃ t9 : Int, t9 = IntKind.wrap .i64 (left - ((t7.size : Nat) : Int)) ∧ ((decide ((t9 : Int) < 0)) = true →
    R (.int .i64 (-1)) wv) ∧
  ((decide ((t9 : Int) < 0)) = false →
    ∃ (t130 : Bool) (t131_p : Option Addr) (t131_n : Nat) (t131_c : Nat), Loads P 51 ((⟨r, 0, none⟩ : Addr).add 1) (.agg #[(.bool t130), (.slice t131_p t131_n t131_c)]) wv ∧ Calls P 92 ⟨[(.agg #[(.bool t130), (.slice t131_p t131_n t131_c)]), (.int .i64 t9)]⟩ wv fun e wv_1 =>
    ∃ (t15 : Int), e = .returned (.int .i64 t15) ∧
    ((decide ((t15 : Int) < 0)) = true →
      R (.int .i64 (-1)) wv_1) ∧
    ((decide ((t15 : Int) < 0)) = false →
      R (.int .i64 t15) wv_1))
theorem laws_szMoney_eq (a0 : ByteArray) (a1 : Bool) (a2_p : Option Addr) (a2_n : Nat) (a2_c : Nat) (left : Int) (w : World) (R : Value → World → Prop) : laws_szMoney a0 a1 a2_p a2_n a2_c left w R = fsem P Tryd.f68 (fun k => []) [(.agg #[(.string a0), (.bool a1), (.slice a2_p a2_n a2_c)]), (.int .i64 left)] R w := by kernel_rfl
theorem laws_szMoney_ret {a0 : ByteArray} {a1 : Bool} {a2_p : Option Addr} {a2_n : Nat} {a2_c : Nat} {left : Int} {w : World} {R : Value → World → Prop} (h : laws_szMoney a0 a1 a2_p a2_n a2_c left w R) : Ret P 68 [(.agg #[(.string a0), (.bool a1), (.slice a2_p a2_n a2_c)]), (.int .i64 left)] w R :=
  Ret.of_fsem Tryd.func68 rfl (Eq.mp (laws_szMoney_eq a0 a1 a2_p a2_n a2_c left w R) h)
def laws_toMoney (a0 : ByteArray) (a1 : Bool) (a2_p : Option Addr) (a2_n : Nat) (a2_c : Nat) (w : World) (R : Value → World → Prop) : Prop :=
  ∀ (r : Nat) (wv : World), New w (.cells ⟨[(.string a0), (.bool a1), (.slice a2_p a2_n a2_c)]⟩ 53 (0, 0)) r wv →
  ∀ (r_1 : Nat) (wv_1 : World), New wv (.cells ⟨[(.string ByteArray.empty), (.bool false), (.slice none 0 0)]⟩ 58 (0, 0)) r_1 wv_1 →
  ∀ (r_2 : Nat) (wv_2 : World), New wv_1 (.cells ⟨[(.string ByteArray.empty), (.bool false), (.slice none 0 0)]⟩ 58 (0, 0)) r_2 wv_2 →
  ∃ (t5 : ByteArray), Loads P 9 ((⟨r, 0, none⟩ : Addr).add 0) (.string t5) wv_2 ∧ ∃ wv_3, Stores P 9 ((⟨r_2, 0, none⟩ : Addr).add 0) (.string t5) wv_2 wv_3 ∧
  ∃ (t80 : Bool) (t81_p : Option Addr) (t81_n : Nat) (t81_c : Nat), Loads P 51 ((⟨r, 0, none⟩ : Addr).add 1) (.agg #[(.bool t80), (.slice t81_p t81_n t81_c)]) wv_3 ∧ Calls P 94 ⟨[(.agg #[(.bool t80), (.slice t81_p t81_n t81_c)])]⟩ wv_3 fun e wv_4 =>
  ∃ (t90 : Bool) (t91_p : Option Addr) (t91_n : Nat) (t91_c : Nat), e = .returned (.agg #[(.bool t90), (.slice t91_p t91_n t91_c)]) ∧
  ∃ wv_5, Stores P 56 ((⟨r_2, 0, none⟩ : Addr).add 1) (.agg #[(.bool t90), (.slice t91_p t91_n t91_c)]) wv_4 wv_5 ∧
  ∃ (t110 : ByteArray) (t111 : Bool) (t112_p : Option Addr) (t112_n : Nat) (t112_c : Nat), Loads P 58 ⟨r_2, 0, none⟩ (.agg #[(.string t110), (.bool t111), (.slice t112_p t112_n t112_c)]) wv_5 ∧ ∃ wv_6, Stores P 58 ⟨r_1, 0, none⟩ (.agg #[(.string t110), (.bool t111), (.slice t112_p t112_n t112_c)]) wv_5 wv_6 ∧
  ∃ (r0 : ByteArray) (r1 : Bool) (r2_p : Option Addr) (r2_n : Nat) (r2_c : Nat), Loads P 58 ⟨r_1, 0, none⟩ (.agg #[(.string r0), (.bool r1), (.slice r2_p r2_n r2_c)]) wv_6 ∧ R (.agg #[(.string r0), (.bool r1), (.slice r2_p r2_n r2_c)]) wv_6
theorem laws_toMoney_eq (a0 : ByteArray) (a1 : Bool) (a2_p : Option Addr) (a2_n : Nat) (a2_c : Nat) (w : World) (R : Value → World → Prop) : laws_toMoney a0 a1 a2_p a2_n a2_c w R = fsem P Tryd.f72 (fun k => []) [(.agg #[(.string a0), (.bool a1), (.slice a2_p a2_n a2_c)])] R w := by kernel_rfl
theorem laws_toMoney_ret {a0 : ByteArray} {a1 : Bool} {a2_p : Option Addr} {a2_n : Nat} {a2_c : Nat} {w : World} {R : Value → World → Prop} (h : laws_toMoney a0 a1 a2_p a2_n a2_c w R) : Ret P 72 [(.agg #[(.string a0), (.bool a1), (.slice a2_p a2_n a2_c)])] w R :=
  Ret.of_fsem Tryd.func72 rfl (Eq.mp (laws_toMoney_eq a0 a1 a2_p a2_n a2_c w R) h)
def laws_eqSigned (a0 : Bool) (a1_p : Option Addr) (a1_n : Nat) (a1_c : Nat) (b0 : Bool) (b1_p : Option Addr) (b1_n : Nat) (b1_c : Nat) (w : World) (R : Value → World → Prop) : Prop :=
  ∀ (r : Nat) (wv : World), New w (.cells ⟨[(.bool a0), (.slice a1_p a1_n a1_c)]⟩ 56 (0, 0)) r wv →
  ∀ (r_1 : Nat) (wv_1 : World), New wv (.cells ⟨[(.bool b0), (.slice b1_p b1_n b1_c)]⟩ 56 (0, 0)) r_1 wv_1 →
  ∃ (t6 : Bool), Loads P 4 ((⟨r, 0, none⟩ : Addr).add 0) (.bool t6) wv_1 ∧ ∃ (t8 : Bool), Loads P 4 ((⟨r_1, 0, none⟩ : Addr).add 0) (.bool t8) wv_1 ∧ ((!(t6 == t8)) = true →
    R (.bool false) wv_1) ∧
  ((!(t6 == t8)) = false →
    ∃ (t11_p : Option Addr) (t11_n : Nat) (t11_c : Nat), Loads P 49 ((⟨r, 0, none⟩ : Addr).add 1) (.slice t11_p t11_n t11_c) wv_1 ∧ ∃ (t13_p : Option Addr) (t13_n : Nat) (t13_c : Nat), Loads P 49 ((⟨r_1, 0, none⟩ : Addr).add 1) (.slice t13_p t13_n t13_c) wv_1 ∧ Calls P 104 ⟨[(.slice t11_p t11_n t11_c), (.slice t13_p t13_n t13_c)]⟩ wv_1 fun e wv_2 =>
    ∃ (t14 : Bool), e = .returned (.bool t14) ∧
    ((!t14) = true →
      R (.bool false) wv_2) ∧
    ((!t14) = false →
      R (.bool true) wv_2))
theorem laws_eqSigned_eq (a0 : Bool) (a1_p : Option Addr) (a1_n : Nat) (a1_c : Nat) (b0 : Bool) (b1_p : Option Addr) (b1_n : Nat) (b1_c : Nat) (w : World) (R : Value → World → Prop) : laws_eqSigned a0 a1_p a1_n a1_c b0 b1_p b1_n b1_c w R = fsem P Tryd.f81 (fun k => []) [(.agg #[(.bool a0), (.slice a1_p a1_n a1_c)]), (.agg #[(.bool b0), (.slice b1_p b1_n b1_c)])] R w := by kernel_rfl
theorem laws_eqSigned_ret {a0 : Bool} {a1_p : Option Addr} {a1_n : Nat} {a1_c : Nat} {b0 : Bool} {b1_p : Option Addr} {b1_n : Nat} {b1_c : Nat} {w : World} {R : Value → World → Prop} (h : laws_eqSigned a0 a1_p a1_n a1_c b0 b1_p b1_n b1_c w R) : Ret P 81 [(.agg #[(.bool a0), (.slice a1_p a1_n a1_c)]), (.agg #[(.bool b0), (.slice b1_p b1_n b1_c)])] w R :=
  Ret.of_fsem Tryd.func81 rfl (Eq.mp (laws_eqSigned_eq a0 a1_p a1_n a1_c b0 b1_p b1_n b1_c w R) h)
def laws_szSigned (a0 : Bool) (a1_p : Option Addr) (a1_n : Nat) (a1_c : Nat) (left : Int) (w : World) (R : Value → World → Prop) : Prop :=
  ∀ (r : Nat) (wv : World), New w (.cells ⟨[(.bool a0), (.slice a1_p a1_n a1_c)]⟩ 51 (0, 0)) r wv →
  ∃ (t6_p : Option Addr) (t6_n : Nat) (t6_c : Nat), Loads P 49 ((⟨r, 0, none⟩ : Addr).add 1) (.slice t6_p t6_n t6_c) wv ∧ Calls P 111 ⟨[(.slice t6_p t6_n t6_c), (.int .i64 left)]⟩ wv fun e wv_1 =>
  ∃ (t8 : Int), e = .returned (.int .i64 t8) ∧
  ((decide ((t8 : Int) < 0)) = true →
    R (.int .i64 (-1)) wv_1) ∧
  ((decide ((t8 : Int) < 0)) = false →
    R (.int .i64 t8) wv_1)
theorem laws_szSigned_eq (a0 : Bool) (a1_p : Option Addr) (a1_n : Nat) (a1_c : Nat) (left : Int) (w : World) (R : Value → World → Prop) : laws_szSigned a0 a1_p a1_n a1_c left w R = fsem P Tryd.f92 (fun k => []) [(.agg #[(.bool a0), (.slice a1_p a1_n a1_c)]), (.int .i64 left)] R w := by kernel_rfl
theorem laws_szSigned_ret {a0 : Bool} {a1_p : Option Addr} {a1_n : Nat} {a1_c : Nat} {left : Int} {w : World} {R : Value → World → Prop} (h : laws_szSigned a0 a1_p a1_n a1_c left w R) : Ret P 92 [(.agg #[(.bool a0), (.slice a1_p a1_n a1_c)]), (.int .i64 left)] w R :=
  Ret.of_fsem Tryd.func92 rfl (Eq.mp (laws_szSigned_eq a0 a1_p a1_n a1_c left w R) h)
def laws_toSigned (a0 : Bool) (a1_p : Option Addr) (a1_n : Nat) (a1_c : Nat) (w : World) (R : Value → World → Prop) : Prop :=
  ∀ (r : Nat) (wv : World), New w (.cells ⟨[(.bool a0), (.slice a1_p a1_n a1_c)]⟩ 51 (0, 0)) r wv →
  ∀ (r_1 : Nat) (wv_1 : World), New wv (.cells ⟨[(.bool false), (.slice none 0 0)]⟩ 56 (0, 0)) r_1 wv_1 →
  ∀ (r_2 : Nat) (wv_2 : World), New wv_1 (.cells ⟨[(.bool false), (.slice none 0 0)]⟩ 56 (0, 0)) r_2 wv_2 →
  ∃ (t5 : Bool), Loads P 4 ((⟨r, 0, none⟩ : Addr).add 0) (.bool t5) wv_2 ∧ ∃ wv_3, Stores P 4 ((⟨r_2, 0, none⟩ : Addr).add 0) (.bool t5) wv_2 wv_3 ∧
  ∃ (t8_p : Option Addr) (t8_n : Nat) (t8_c : Nat), Loads P 49 ((⟨r, 0, none⟩ : Addr).add 1) (.slice t8_p t8_n t8_c) wv_3 ∧ Calls P 112 ⟨[(.slice t8_p t8_n t8_c)]⟩ wv_3 fun e wv_4 =>
  ∃ (t9_p : Option Addr) (t9_n : Nat) (t9_c : Nat), e = .returned (.slice t9_p t9_n t9_c) ∧
  ∃ wv_5, Stores P 49 ((⟨r_2, 0, none⟩ : Addr).add 1) (.slice t9_p t9_n t9_c) wv_4 wv_5 ∧
  ∃ (t110 : Bool) (t111_p : Option Addr) (t111_n : Nat) (t111_c : Nat), Loads P 56 ⟨r_2, 0, none⟩ (.agg #[(.bool t110), (.slice t111_p t111_n t111_c)]) wv_5 ∧ ∃ wv_6, Stores P 56 ⟨r_1, 0, none⟩ (.agg #[(.bool t110), (.slice t111_p t111_n t111_c)]) wv_5 wv_6 ∧
  ∃ (r0 : Bool) (r1_p : Option Addr) (r1_n : Nat) (r1_c : Nat), Loads P 56 ⟨r_1, 0, none⟩ (.agg #[(.bool r0), (.slice r1_p r1_n r1_c)]) wv_6 ∧ R (.agg #[(.bool r0), (.slice r1_p r1_n r1_c)]) wv_6
theorem laws_toSigned_eq (a0 : Bool) (a1_p : Option Addr) (a1_n : Nat) (a1_c : Nat) (w : World) (R : Value → World → Prop) : laws_toSigned a0 a1_p a1_n a1_c w R = fsem P Tryd.f94 (fun k => []) [(.agg #[(.bool a0), (.slice a1_p a1_n a1_c)])] R w := by kernel_rfl
theorem laws_toSigned_ret {a0 : Bool} {a1_p : Option Addr} {a1_n : Nat} {a1_c : Nat} {w : World} {R : Value → World → Prop} (h : laws_toSigned a0 a1_p a1_n a1_c w R) : Ret P 94 [(.agg #[(.bool a0), (.slice a1_p a1_n a1_c)])] w R :=
  Ret.of_fsem Tryd.func94 rfl (Eq.mp (laws_toSigned_eq a0 a1_p a1_n a1_c w R) h)
def laws_eqIntS (a_p : Option Addr) (a_n : Nat) (a_c : Nat) (b_p : Option Addr) (b_n : Nat) (b_c : Nat) (w : World) (R : Value → World → Prop) : Prop :=
  ((decide ((((a_n : Nat) : Int) : Int) ≠ ((b_n : Nat) : Int))) = true →
    R (.bool false) w) ∧
  ((decide ((((a_n : Nat) : Int) : Int) ≠ ((b_n : Nat) : Int))) = false →
    ∃ (Inv : Int → World → Prop) (mu : Int → World → Nat), Inv 0 w ∧
    ∀ (junk : Fr) (wv : World) (i : Int), Inv i wv →
      ((decide ((i : Int) < ((a_n : Nat) : Int))) = true →
        (0 ≤ (i : Int) ∧ (i : Int) < (a_n : Nat)) ∧ ptrS a_p fun ad => ∃ (t20 : Int), (∀ wv_1, Ext wv.drew wv_1 → Loads P 3 (ad.add (i.toNat * 1)) (.int .i64 t20) wv_1) ∧ (0 ≤ (i : Int) ∧ (i : Int) < (b_n : Nat)) ∧ ptrS b_p fun ad_1 => ∃ (t24 : Int), (∀ wv_2, Ext wv.drew wv_2 → Loads P 3 (ad_1.add (i.toNat * 1)) (.int .i64 t24) wv_2) ∧ ((decide ((t20 : Int) ≠ t24)) = true →
          R (.bool false) wv.drew) ∧
        ((decide ((t20 : Int) ≠ t24)) = false →
          ∃ t16 : Int, t16 = IntKind.wrap .i64 (i + 1) ∧ Inv t16 wv.drew ∧ mu t16 wv.drew < mu i wv)) ∧
      ((decide ((i : Int) < ((a_n : Nat) : Int))) = false →
        R (.bool true) wv))
theorem laws_eqIntS_eq (a_p : Option Addr) (a_n : Nat) (a_c : Nat) (b_p : Option Addr) (b_n : Nat) (b_c : Nat) (w : World) (R : Value → World → Prop) : laws_eqIntS a_p a_n a_c b_p b_n b_c w R = fsem P Tryd.f104 (fun k => cond (Nat.beq k 5) [(5, .one (.int .i64))] ([])) [(.slice a_p a_n a_c), (.slice b_p b_n b_c)] R w := by kernel_rfl
theorem laws_eqIntS_ret {a_p : Option Addr} {a_n : Nat} {a_c : Nat} {b_p : Option Addr} {b_n : Nat} {b_c : Nat} {w : World} {R : Value → World → Prop} (h : laws_eqIntS a_p a_n a_c b_p b_n b_c w R) : Ret P 104 [(.slice a_p a_n a_c), (.slice b_p b_n b_c)] w R :=
  Ret.of_fsem Tryd.func104 rfl (Eq.mp (laws_eqIntS_eq a_p a_n a_c b_p b_n b_c w R) h)
def laws_szIntS (a_p : Option Addr) (a_n : Nat) (a_c : Nat) (left : Int) (w : World) (R : Value → World → Prop) : Prop :=
  ∃ t8 : Int, t8 = IntKind.wrap .i64 (left - ((a_n : Nat) : Int)) ∧ ((decide ((t8 : Int) < 0)) = true →
    R (.int .i64 (-1)) w) ∧
  ((decide ((t8 : Int) < 0)) = false →
    R (.int .i64 t8) w)
theorem laws_szIntS_eq (a_p : Option Addr) (a_n : Nat) (a_c : Nat) (left : Int) (w : World) (R : Value → World → Prop) : laws_szIntS a_p a_n a_c left w R = fsem P Tryd.f111 (fun k => []) [(.slice a_p a_n a_c), (.int .i64 left)] R w := by kernel_rfl
theorem laws_szIntS_ret {a_p : Option Addr} {a_n : Nat} {a_c : Nat} {left : Int} {w : World} {R : Value → World → Prop} (h : laws_szIntS a_p a_n a_c left w R) : Ret P 111 [(.slice a_p a_n a_c), (.int .i64 left)] w R :=
  Ret.of_fsem Tryd.func111 rfl (Eq.mp (laws_szIntS_eq a_p a_n a_c left w R) h)
def laws_toIntS (a_p : Option Addr) (a_n : Nat) (a_c : Nat) (w : World) (R : Value → World → Prop) : Prop :=
  (0 ≤ (((a_n : Nat) : Int) : Int) ∧ (((a_n : Nat) : Int) : Int) ≤ ((a_n : Nat) : Int) ∧ ((8 : Nat) : Int) * ((a_n : Nat) : Int) ≤ 281474976710656) ∧
  ∀ (r : Nat) (wv : World), New w (.cells ⟨zeroRow (.int .i64 0) (a_n * 1)⟩ 3 (0, 0)) r wv →
  ∃ (Inv : Int → World → Prop) (mu : Int → World → Nat), Inv 0 wv ∧
  ∀ (junk : Fr) (wv_1 : World) (i : Int), Inv i wv_1 →
    ((decide ((i : Int) < ((a_n : Nat) : Int))) = true →
      (0 ≤ (i : Int) ∧ (i : Int) < (a_n : Nat)) ∧ ptrS a_p fun ad => ∃ (t19 : Int), Loads P 3 (ad.add (i.toNat * 1)) (.int .i64 t19) wv_1 ∧ (0 ≤ (i : Int) ∧ (i : Int) < (a_n : Nat)) ∧ ∃ wv_2, Stores P 3 ((⟨r, 0, none⟩ : Addr).add (i.toNat * 1)) (.int .i64 t19) wv_1 wv_2 ∧
      ∃ t13 : Int, t13 = IntKind.wrap .i64 (i + 1) ∧ Inv t13 wv_2 ∧ mu t13 wv_2 < mu i wv_1) ∧
    ((decide ((i : Int) < ((a_n : Nat) : Int))) = false →
      R (.slice (some ⟨r, 0, none⟩) a_n a_n) wv_1)
theorem laws_toIntS_eq (a_p : Option Addr) (a_n : Nat) (a_c : Nat) (w : World) (R : Value → World → Prop) : laws_toIntS a_p a_n a_c w R = fsem P Tryd.f112 (fun k => cond (Nat.beq k 4) [(4, .one (.int .i64))] ([])) [(.slice a_p a_n a_c)] R w := by kernel_rfl
theorem laws_toIntS_ret {a_p : Option Addr} {a_n : Nat} {a_c : Nat} {w : World} {R : Value → World → Prop} (h : laws_toIntS a_p a_n a_c w R) : Ret P 112 [(.slice a_p a_n a_c)] w R :=
  Ret.of_fsem Tryd.func112 rfl (Eq.mp (laws_toIntS_eq a_p a_n a_c w R) h)
end Go.Proofs.YtdidocmbcfbjdaaDoor

namespace Go.Proofs.YtdidocmbcfbjdaaDoor.Sx
open Go Go.RowKit
set_option linter.unusedVariables false
set_option linter.unusedSimpArgs false
/-- only blocks in S (and new ones) have turned -/
theorem Ext.le {a b : World} (h : Ext a b) : a.heap.size ≤ b.heap.size := h.size
def Seg (w : World) (b off : Nat) (cs : List Value) : Prop := ∀ j v, cs[j]? = some v → w.cell? ⟨b, off + j, none⟩ = some v
theorem Seg.nil {w : World} {b off : Nat} : Seg w b off [] := fun j v h => by simp at h
theorem Seg.drop {w : World} {b off : Nat} {cs : List Value} (h : Seg w b off cs) (k : Nat) : Seg w b (off + k) (cs.drop k) := fun j v hj => by
  rw [List.getElem?_drop] at hj
  have := h _ _ hj
  rwa [Nat.add_assoc]
theorem Seg.take {w : World} {b off : Nat} {cs : List Value} (h : Seg w b off cs) (k : Nat) : Seg w b off (cs.take k) := fun j v hj => by
  rw [List.getElem?_take] at hj
  split at hj
  · exact h _ _ hj
  · cases hj
theorem Seg.ext {w w' : World} {b off : Nat} {cs : List Value} (h : Seg w b off cs) (he : Ext w w') : Seg w' b off cs := fun j v hj => by
  have h1 := h j v hj
  rw [← h1]
  exact he.cell (World.block_lt_of_cell? w _ h1)
theorem Seg.chg {S : List Nat} {w w' : World} {b off : Nat} {cs : List Value} (h : Seg w b off cs) (he : Chg S w w') (hb : b ∉ S) : Seg w' b off cs := fun j v hj => by
  have h1 := h j v hj
  rw [← h1]
  exact World.cell?_of_block (he.block b (World.block_lt_of_cell? w _ h1) hb)
/-- a block that is known whole -/
def Blk (w : World) (b : Nat) (e : TypeId) (xs : List Value) : Prop := w.heap[b]? = some (.cells ⟨xs⟩ e (0, 0))
theorem Blk.lt {w : World} {b : Nat} {e : TypeId} {xs : List Value} (h : Blk w b e xs) : b < w.heap.size := (Array.getElem?_eq_some_iff.1 h).1
theorem Blk.ext {w w' : World} {b : Nat} {e : TypeId} {xs : List Value} (h : Blk w b e xs) (he : Ext w w') : Blk w' b e xs := (he.block b h.lt).trans h
theorem Blk.chg {S : List Nat} {w w' : World} {b : Nat} {e : TypeId} {xs : List Value} (h : Blk w b e xs) (he : Chg S w w') (hb : b ∉ S) : Blk w' b e xs := (he.block b h.lt hb).trans h
theorem Blk.cell {w : World} {b : Nat} {e : TypeId} {xs : List Value} (h : Blk w b e xs) (j : Nat) : w.cell? ⟨b, j, none⟩ = xs[j]? := by
  rw [cell_of_row w b j _ e (0, 0) h]; simp
theorem Blk.seg {w : World} {b : Nat} {e : TypeId} {xs : List Value} (h : Blk w b e xs) : Seg w b 0 xs := fun j v hj => by rw [Nat.zero_add, h.cell, hj]
theorem New.ext {w w' : World} {o : Obj} {r : Nat} (h : New w o r w') : Ext w w' := by
  obtain ⟨rfl, rfl⟩ := h
  exact (Below.refl _ _).alloc (Nat.le_refl _) _
theorem New.size {w w' : World} {o : Obj} {r : Nat} (h : New w o r w') : w'.heap.size = w.heap.size + 1 := by
  obtain ⟨rfl, rfl⟩ := h; simp
theorem New.blk {w w' : World} {xs : List Value} {e : TypeId} {r : Nat} (h : New w (.cells ⟨xs⟩ e (0, 0)) r w') : Blk w' r e xs := by
  obtain ⟨rfl, rfl⟩ := h
  exact heap_alloc_new w _
theorem addr_add (b o k : Nat) : (⟨b, o, none⟩ : Addr).add k = ⟨b, o + k, none⟩ := Addr.add_lit b o k
section
variable {P : Program}
/-- a type whose values lie in one cell -/
def cellT (P : Program) (t : TypeId) : Bool :=
  match P.underlying t, P.info? t with
  | some (.struct _), _ => false
  | some (.array _ _), _ => false
  | some _, some i => Nat.beq i.size 1
  | _, _ => false
/-- a type whose values are aggregates of so many cells -/
def aggT (P : Program) (t : TypeId) (n : Nat) : Bool :=
  match P.underlying t, P.info? t with
  | some (.struct _), some i => Nat.beq i.size n
  | some (.array _ _), some i => Nat.beq i.size n
  | _, _ => false
theorem cellT_spec {t : TypeId} (h : cellT P t = true) : (∀ w, (isAgg t).run P w = .ok false w) ∧ ∃ i, P.info? t = some i ∧ i.size = 1 := by
  unfold cellT at h
  split at h <;> try cases h
  rename_i d i hs ha hu hi
  refine ⟨fun w => ?_, i, hi, Nat.eq_of_beq_eq_true h⟩
  unfold isAgg
  rw [Sem.run_bind, underlying_run hu w]
  cases d <;> first | rfl | (exact absurd rfl (hs _)) | (exact absurd rfl (ha _ _))
theorem aggT_spec {t : TypeId} {n : Nat} (h : aggT P t n = true) : (∀ w, (isAgg t).run P w = .ok true w) ∧ ∃ i, P.info? t = some i ∧ i.size = n := by
  unfold aggT at h
  split at h
  · rename_i fs i hu hi
    exact ⟨fun w => by unfold isAgg; rw [Sem.run_bind, underlying_run hu w]; rfl, i, hi, Nat.eq_of_beq_eq_true h⟩
  · rename_i k e i hu hi
    exact ⟨fun w => by unfold isAgg; rw [Sem.run_bind, underlying_run hu w]; rfl, i, hi, Nat.eq_of_beq_eq_true h⟩
  · cases h
theorem loads1 {w : World} {t : TypeId} {b o : Nat} {v : Value} (ht : cellT P t = true) (h : w.cell? ⟨b, o, none⟩ = some v) : Loads P t ⟨b, o, none⟩ v w := by
  unfold Loads loadVar
  rw [Sem.run_bind, (cellT_spec ht).1]
  simp [h]
theorem loadsA {w : World} {t : TypeId} {b o : Nat} {cs : List Value} (ht : aggT P t cs.length = true) (h : Seg w b o cs) : Loads P t ⟨b, o, none⟩ (.agg ⟨cs⟩) w := by
  obtain ⟨h1, i, hi, hn⟩ := aggT_spec ht
  unfold Loads loadVar
  rw [Sem.run_bind, h1]
  simp only [Result.andThen_ok, if_true, Sem.run_bind, sizeOf_run hi, hn]
  rw [run_loadCells_list (P := P) w ⟨b, o, none⟩ cs fun j v hv => by rw [addr_add]; exact h j v hv]
  rfl
theorem Seg.load {w : World} {t : TypeId} {b o k : Nat} {cs : List Value} {v : Value} (h : Seg w b o cs) (ht : cellT P t = true) (hx : cs[k]? = some v) : Loads P t ((⟨b, o, none⟩ : Addr).add k) v w := by
  rw [addr_add]; exact loads1 ht (h _ _ hx)
theorem Seg.loadA {w : World} {t : TypeId} {b o k : Nat} {cs xs : List Value} (h : Seg w b o cs) (ht : aggT P t xs.length = true) (hx : (cs.drop k).take xs.length = xs) : Loads P t ((⟨b, o, none⟩ : Addr).add k) (.agg ⟨xs⟩) w := by
  rw [addr_add]
  refine loadsA ht ?_
  have := (h.drop k).take xs.length
  rwa [hx] at this
theorem Blk.load {w : World} {t : TypeId} {b k : Nat} {e : TypeId} {cs : List Value} {v : Value} (h : Blk w b e cs) (ht : cellT P t = true) (hx : cs[k]? = some v) : Loads P t ((⟨b, 0, none⟩ : Addr).add k) v w :=
  h.seg.load ht hx
theorem Blk.loadA {w : World} {t : TypeId} {b k : Nat} {e : TypeId} {cs xs : List Value} (h : Blk w b e cs) (ht : aggT P t xs.length = true) (hx : (cs.drop k).take xs.length = xs) : Loads P t ((⟨b, 0, none⟩ : Addr).add k) (.agg ⟨xs⟩) w :=
  h.seg.loadA ht hx
theorem setRow_chg (w : World) (b : Nat) (cs : Array Value) : Chg [b] w (w.setRow b cs) :=
  ⟨rfl, rfl, rfl, by simp, fun k _ hk => setRow_other w b k _ (by simpa using hk)⟩
/-- a store into a block that is known whole -/
theorem Blk.store {w : World} {t : TypeId} {b k : Nat} {e : TypeId} {cs : List Value} {v : Value} (h : Blk w b e cs) (ht : cellT P t = true) (hk : k < cs.length) (hv : v.oneCell' = true) :
    ∃ w', Stores P t ((⟨b, 0, none⟩ : Addr).add k) v w w' ∧ Blk w' b e (cs.set k v) ∧ Chg [b] w w' ∧ w'.heap.size = w.heap.size := by
  obtain ⟨_, i, hi, hn⟩ := cellT_spec ht
  have hc : v.cells = #[v] := by cases v <;> first | rfl | (simp [Value.oneCell'] at hv)
  have hst := run_storeCells_at P b k e [v] 0 ⟨cs⟩ w h (by simp only [List.length_cons, List.length_nil]; show k + 0 + 1 ≤ cs.length; omega) (by simpa using hv)
  refine ⟨_, ?_, setRow_heap w b ⟨cs⟩ _ e _ h, setRow_chg _ _ _, by simp⟩
  · unfold Stores storeVar
    rw [addr_add, Nat.zero_add]
    simp only [Sem.run_bind, sizeOf_run hi, Result.andThen_ok, hc, hn, List.size_toArray, List.length_cons, List.length_nil]
    simp only [Nat.zero_add, ne_eq, not_true, if_false, Sem.run_pure, Result.andThen_ok]
    rw [hst]
    congr 3
    simp only [Nat.add_zero, List.length_cons, List.length_nil, Nat.zero_add]
    rw [List.set_eq_take_append_cons_drop]
    simp [hk]
/-- a store of an aggregate -/
theorem Blk.storeA {w : World} {t : TypeId} {b k : Nat} {e : TypeId} {cs xs : List Value} (h : Blk w b e cs) (ht : aggT P t xs.length = true) (hk : k + xs.length ≤ cs.length) (hv : ∀ v ∈ xs, v.oneCell' = true) :
    ∃ w', Stores P t ((⟨b, 0, none⟩ : Addr).add k) (.agg ⟨xs⟩) w w' ∧ Blk w' b e (cs.take k ++ xs ++ cs.drop (k + xs.length)) ∧ Chg [b] w w' ∧ w'.heap.size = w.heap.size := by
  obtain ⟨_, i, hi, hn⟩ := aggT_spec ht
  have hst := run_storeCells_at P b k e xs 0 ⟨cs⟩ w h (by simpa using hk) hv
  refine ⟨_, ?_, setRow_heap w b ⟨cs⟩ _ e _ h, setRow_chg _ _ _, by simp⟩
  unfold Stores storeVar
  rw [addr_add, Nat.zero_add]
  simp only [Sem.run_bind, sizeOf_run hi, Result.andThen_ok, Value.cells, hn, List.size_toArray]
  simp only [ne_eq, not_true, if_false, Sem.run_pure, Result.andThen_ok]
  rw [hst]
  simp
/-- a slice type: its element type, that one's zero value, cells and bytes -/
def sliceT (P : Program) (t e : TypeId) (z : Value) (size bytes : Nat) : Prop :=
  P.underlying t = some (.slice e) ∧ (P.info? e).map (fun i => (i.zero, i.size, i.bytes)) = some (some z, size, bytes) ∧ z.cells.size = size ∧ 0 < size
/-- a slice whose cells are one's own -/
def Own (w : World) (base : Nat) (e : TypeId) (size : Nat) (p : Option Addr) (n c : Nat) (xs : List Value) : Prop := w.ownsRow base e size (.slice p n c) n xs
theorem Own.nil (w : World) (base : Nat) (e : TypeId) (size : Nat) : Own w base e size none 0 0 [] := World.ownsRow_nil w base e size
theorem Own.ext {w w' : World} {base : Nat} {e : TypeId} {size : Nat} {p : Option Addr} {n c : Nat} {xs : List Value} (h : Own w base e size p n c xs) (he : Ext w w') : Own w' base e size p n c xs :=
  h.kept (row := none) ⟨he.os, he.tape, he.output, he.size, fun k hk _ => he.block k hk⟩ (by cases p <;> simp [Value.ownBlock])
theorem Own.of_blk {w : World} {base : Nat} {e : TypeId} {size : Nat} {r n : Nat} {xs : List Value} (h : Blk w r e xs) (hb : base ≤ r) (hl : xs.length = n * size) (hn : n ≤ maxLen) : Own w base e size (some ⟨r, 0, none⟩) n n xs :=
  ⟨hl, .inr ⟨r, n, ⟨xs⟩, rfl, hb, h, Nat.le_refl _, hn, by simpa using hl, by simp [← hl]⟩⟩
theorem Own.of_blk0 {w : World} {base : Nat} {e : TypeId} {size : Nat} {r n : Nat} {xs : List Value} (h : Blk w r e xs) (hb : base ≤ r) (hl : xs.length = n * size) (hn : n ≤ maxLen) : Own w base e size (some ⟨r, 0, none⟩) 0 n [] :=
  ⟨by simp, .inr ⟨r, n, ⟨xs⟩, rfl, hb, h, Nat.zero_le _, hn, by simpa using hl, by simp⟩⟩
theorem Own.len {w : World} {base : Nat} {e : TypeId} {size : Nat} {p : Option Addr} {n c : Nat} {xs : List Value} (h : Own w base e size p n c xs) : xs.length = n * size := h.1
theorem Own.le {w : World} {base : Nat} {e : TypeId} {size : Nat} {p : Option Addr} {n c : Nat} {xs : List Value} (h : Own w base e size p n c xs) : n ≤ c := by
  rcases h.2 with ⟨h1, h2⟩ | ⟨g, cap, cur, h1, _, _, h3, _⟩
  · omega
  · simp only [Value.slice.injEq] at h1; omega
theorem Own.capLe {w : World} {base : Nat} {e : TypeId} {size : Nat} {p : Option Addr} {n c : Nat} {xs : List Value} (h : Own w base e size p n c xs) : c ≤ 9223372036854775807 := by
  rcases h.2 with ⟨h1, h2⟩ | ⟨g, cap, cur, h1, _, _, h3, h4, _⟩
  · simp only [Value.slice.injEq] at h1; omega
  · simp only [Value.slice.injEq] at h1; simp only [maxLen] at h4; omega
theorem Own.seg {w : World} {base : Nat} {e : TypeId} {size : Nat} {p : Option Addr} {n c : Nat} {xs : List Value} (h : Own w base e size p n c xs) (hn : 0 < n) : ∃ b, p = some ⟨b, 0, none⟩ ∧ base ≤ b ∧ Seg w b 0 xs := by
  rcases h.2 with ⟨h1, h2⟩ | ⟨g, cap, cur, h1, hb, hg, h3, h4, h5, h6⟩
  · omega
  · simp only [Value.slice.injEq] at h1
    refine ⟨g, h1.1, hb, fun j v hj => ?_⟩
    rw [Nat.zero_add, cell_of_row w g j cur e (0, 0) hg]
    rw [← h6, List.getElem?_take] at hj
    split at hj
    · simpa using hj
    · cases hj
theorem Own.mono {w : World} {base base' : Nat} {e : TypeId} {size : Nat} {p : Option Addr} {n c : Nat} {xs : List Value} (h : Own w base e size p n c xs) (hb : base' ≤ base) : Own w base' e size p n c xs := by
  refine ⟨h.1, ?_⟩
  rcases h.2 with h1 | ⟨g, cap, cur, h1, h2, h3⟩
  · exact .inl h1
  · exact .inr ⟨g, cap, cur, h1, Nat.le_trans hb h2, h3⟩
/-- append onto a row of one's own: m elements that lie in a block known whole -/
theorem Own.append {w : World} {base : Nat} {t e : TypeId} {z : Value} {size bytes : Nat} {p : Option Addr} {n c r m mc : Nat} {xs news : List Value} (h : Own w base e size p n c xs)
    (hT : sliceT P t e z size bytes) (hb : base ≤ w.heap.size) (hr : Blk w r e news) (hl : news.length = m * size) (h1 : ∀ u ∈ news, u.oneCell' = true)
    (hbytes : (n + m) * bytes ≤ 140737488355328) (hby : 1 ≤ bytes) :
    ∃ p' c' w', Appends P [t, t] [.slice p n c, .slice (some ⟨r, 0, none⟩) m mc] (.slice p' (n + m) c') w w' ∧ Own w' base e size p' (n + m) c' (xs ++ news) ∧
      (∀ w0, Ext w0 w → w0.heap.size ≤ base → Ext w0 w') ∧ (∀ b e' ys, Blk w b e' ys → p.map (·.block) ≠ some b → Blk w' b e' ys) ∧
      (∀ b o ys, Seg w b o ys → p.map (·.block) ≠ some b → Seg w' b o ys) := by
  obtain ⟨hu, hi, hz, hs⟩ := hT
  cases hinf : P.info? e with
  | none => rw [hinf] at hi; cases hi
  | some i =>
    rw [hinf] at hi
    simp only [Option.map_some, Option.some.injEq, Prod.mk.injEq] at hi
    have hnm : n + m ≤ maxLen := by
      have : n + m ≤ (n + m) * bytes := Nat.le_mul_of_pos_right _ hby
      simp only [maxLen]; omega
    obtain ⟨v', w', hrun, hown, hgr, _⟩ := run_append_own (P := P) w base t 0 e i z size bytes hu hinf hi.1 hi.2.1 hi.2.2 hz hs (.slice p n c) n xs h ⟨r, 0, none⟩ m mc news hl
      (fun j u hj => by rw [addr_add, Nat.zero_add, hr.cell, hj]) h1 hnm hbytes hb
    have hlt := h.lt
    have hv : ∃ p' c', v' = .slice p' (n + m) c' := by
      rcases hown.2 with ⟨e1, e2⟩ | ⟨g, cap, cur, e1, _⟩
      · exact ⟨none, 0, by rw [e1, e2]⟩
      · exact ⟨_, _, e1⟩
    obtain ⟨p', c', rfl⟩ := hv
    have hob : (Value.slice p n c).ownBlock = p.map (·.block) := by cases p <;> rfl
    refine ⟨p', c', w', hrun, hown, ?_, ?_, ?_⟩
    · intro w0 hx hb0
      refine hx.chg (S := (p.map (·.block)).toList) ⟨hgr.os, hgr.tape, hgr.output, hgr.size, fun k hk hn => hgr.block k hk ?_⟩ ?_
      · rw [hob]; intro e; rw [← e] at hn; simp at hn
      · intro x hx'
        have := (hlt x (by rw [hob]; cases p <;> simp_all)).1
        omega
    · intro b e' ys hy hne
      exact (hgr.block b hy.lt (by rw [hob]; exact fun e => hne e.symm)).trans hy
    · intro b o ys hy hne j v hj
      have h3 := hy j v hj
      rw [← h3]
      exact World.cell?_of_block (hgr.block b (World.block_lt_of_cell? w _ h3) (by rw [hob]; exact fun e => hne e.symm))
end
/-- a slice of numbers reads as zs -/
def IntsR (w : World) (p : Option Addr) (n c : Nat) (zs : List Int) : Prop :=
  zs.length = n ∧ n ≤ c ∧ c ≤ 9223372036854775807 ∧ (0 < n → ∃ b off, p = some ⟨b, off, none⟩ ∧ Seg w b off (zs.map (Value.int .i64)))
theorem IntsR.ext {w w' : World} {p : Option Addr} {n c : Nat} {zs : List Int} (h : IntsR w p n c zs) (he : Ext w w') : IntsR w' p n c zs :=
  ⟨h.1, h.2.1, h.2.2.1, fun hn => let ⟨b, off, hp, hs⟩ := h.2.2.2 hn; ⟨b, off, hp, hs.ext he⟩⟩
theorem IntsR.chg {S : List Nat} {w w' : World} {p : Option Addr} {n c : Nat} {zs : List Int} (h : IntsR w p n c zs) (he : Chg S w w') (hS : ∀ b, p.map (·.block) = some b → b ∉ S) : IntsR w' p n c zs :=
  ⟨h.1, h.2.1, h.2.2.1, fun hn => let ⟨b, off, hp, hs⟩ := h.2.2.2 hn; ⟨b, off, hp, hs.chg he (hS b (by rw [hp]; rfl))⟩⟩
theorem IntsR.nil (w : World) (p : Option Addr) {c : Nat} (hc : c ≤ 9223372036854775807) : IntsR w p 0 c [] := ⟨rfl, Nat.zero_le _, hc, fun h => absurd h (by omega)⟩
theorem Own.ints {w : World} {base : Nat} {e : TypeId} {p : Option Addr} {n c : Nat} {zs : List Int} (h : Own w base e 1 p n c (zs.map (Value.int .i64))) : IntsR w p n c zs :=
  ⟨by simpa using h.len, h.le, h.capLe, fun hn => let ⟨b, hp, _, hs⟩ := h.seg hn; ⟨b, 0, hp, hs⟩⟩
/-- the cell of number k -/
theorem IntsR.at {P : Program} {w : World} {p : Option Addr} {n c k : Nat} {zs : List Int} (h : IntsR w p n c zs) {t : TypeId} (ht : cellT P t = true) (hk : k < n) :
    ∃ a, p = some a ∧ Loads P t (a.add (k * 1)) (.int .i64 (zs[k]'(by rw [h.1]; exact hk))) w := by
  obtain ⟨b, off, hp, hs⟩ := h.2.2.2 (by omega)
  refine ⟨_, hp, ?_⟩
  rw [Nat.mul_one]
  exact hs.load ht (by simp [List.getElem?_eq_getElem (by rw [h.1]; exact hk : k < zs.length)])
theorem wrap64 {e : Int} (h1 : -9223372036854775808 ≤ e) (h2 : e ≤ 9223372036854775807) : IntKind.wrap .i64 e = e := by
  simp only [IntKind.wrap, IntKind.bits, IntKind.signed]
  by_cases h0 : 0 ≤ e
  · have : e % (2 ^ 64 : Int) = e := Int.emod_eq_of_lt h0 (by omega)
    simp [this]; omega
  · have : e % (2 ^ 64 : Int) = e + 2 ^ 64 := by omega
    simp [this]; omega
/-- a sum that fits -/
theorem exW {e : Int} {Q : Int → Prop} (h : -9223372036854775808 ≤ e ∧ e ≤ 9223372036854775807) (hq : Q e) : ∃ z, z = IntKind.wrap .i64 e ∧ Q z := ⟨e, (wrap64 h.1 h.2).symm, hq⟩
/-- a test, both ways -/
theorem ifD {p : Prop} [Decidable p] {A B : Prop} (ha : p → A) (hb : ¬ p → B) : (decide p = true → A) ∧ (decide p = false → B) :=
  ⟨fun h => ha (of_decide_eq_true h), fun h => hb (of_decide_eq_false h)⟩
theorem ifN {b : Bool} {A B : Prop} (ha : b = false → A) (hb : b = true → B) : ((!b) = true → A) ∧ ((!b) = false → B) := ⟨fun h => ha (by simpa using h), fun h => hb (by simpa using h)⟩
theorem ifT {A B : Prop} (ha : A) : (true = true → A) ∧ (true = false → B) := ⟨fun _ => ha, fun h => nomatch h⟩
theorem ifF {A B : Prop} (hb : B) : (false = true → A) ∧ (false = false → B) := ⟨fun h => (nomatch h), fun _ => hb⟩
theorem zeroRow_int (k : IntKind) (z : Int) (n : Nat) : zeroRow (.int k z) n = List.replicate n (.int k z) := by
  unfold zeroRow
  apply List.ext_getElem
  · simp
  · intro i h1 h2
    simp [Value.cells, Nat.mod_one]
end Go.Proofs.YtdidocmbcfbjdaaDoor.Sx

namespace Go.Proofs.YtdidocmbcfbjdaaDoor
abbrev n_laws_FnExactSettle : Nat := 6
abbrev n_laws_szDebtS : Nat := 18
abbrev n_spec_Positions : Nat := 19
abbrev n_laws_toDebtS : Nat := 20
abbrev n_impl_Positions : Nat := 21
abbrev n_laws_eqDebtS : Nat := 23
abbrev n_laws_markDebtS : Nat := 24
abbrev n_spec_Settle : Nat := 27
abbrev n_impl_Settle : Nat := 28
abbrev n_laws_heldDebtS : Nat := 29
abbrev n_spec_IntSign : Nat := 32
abbrev n_spec_MoneyOk : Nat := 39
abbrev n_impl_MoneyOk : Nat := 40
abbrev n_laws_eqMoney : Nat := 41
abbrev n_laws_markText : Nat := 42
abbrev n_laws_markIntS : Nat := 43
abbrev n_laws_heldIntS : Nat := 44
abbrev n_laws_szDebt : Nat := 45
abbrev n_spec_DebtsOk : Nat := 46
abbrev n_spec_l16Add : Nat := 47
abbrev n_spec_IntNeg : Nat := 48
abbrev n_laws_toDebt : Nat := 49
abbrev n_impl_DebtsOk : Nat := 50
abbrev n_impl_Positions_1 : Nat := 51
abbrev n_impl_ordered_impl_Pos_at : Nat := 52
abbrev n_impl_intAdd : Nat := 53
abbrev n_impl_intNeg : Nat := 54
abbrev n_laws_eqDebt : Nat := 56
abbrev n_spec_IntCmp : Nat := 57
abbrev n_spec_IntAbs : Nat := 58
abbrev n_spec_l09Make : Nat := 59
abbrev n_spec_l04Make : Nat := 60
abbrev n_spec_IntAdd : Nat := 61
abbrev n_spec_IntSub : Nat := 62
abbrev n_impl_extreme : Nat := 63
abbrev n_impl_intSign : Nat := 64
abbrev n_impl_natCmp : Nat := 65
abbrev n_impl_moneyOf : Nat := 66
abbrev n_impl_intCopy : Nat := 67
abbrev n_laws_szMoney : Nat := 68
abbrev n_spec_IsWord : Nat := 70
abbrev n_spec_l01In : Nat := 71
abbrev n_laws_toMoney : Nat := 72
abbrev n_impl_IsWord : Nat := 73
abbrev n_impl_IntOk : Nat := 77
abbrev n_spec_CurKnown : Nat := 78
abbrev n_spec_IntOk : Nat := 79
abbrev n_impl_CurKnown : Nat := 80
abbrev n_laws_eqSigned : Nat := 81
abbrev n_slices_BinarySearchFunc_impl_Pos_impl_Pos_impl_Pos : Nat := 82
abbrev n_slices_Insert_impl_Pos_impl_Pos : Nat := 83
abbrev n_impl_signed : Nat := 84
abbrev n_impl_natAdd : Nat := 85
abbrev n_impl_natSub : Nat := 86
abbrev n_impl_natCopy : Nat := 87
abbrev n_spec_l02Cmp : Nat := 88
abbrev n_spec_l02Cap : Nat := 89
abbrev n_spec_l04Add : Nat := 90
abbrev n_impl_intCmp : Nat := 91
abbrev n_laws_szSigned : Nat := 92
abbrev n_spec_l01All : Nat := 93
abbrev n_laws_toSigned : Nat := 94
abbrev n_impl_isLower : Nat := 95
abbrev n_impl_isDigit : Nat := 96
abbrev n_impl_NatOk : Nat := 100
abbrev n_spec_l08Find : Nat := 101
abbrev n_spec_NatOk : Nat := 102
abbrev n_impl_currencyOf : Nat := 103
abbrev n_laws_eqIntS : Nat := 104
abbrev n_slices_overlaps_impl_Pos : Nat := 105
abbrev n_impl_trim : Nat := 107
abbrev n_spec_l02Trim : Nat := 108
abbrev n_spec_l02Add : Nat := 109
abbrev n_spec_l02Sub : Nat := 110
abbrev n_laws_szIntS : Nat := 111
abbrev n_laws_toIntS : Nat := 112
abbrev T_int : Nat := 3
abbrev T_bool : Nat := 4
abbrev T_uint8 : Nat := 5
abbrev T_string : Nat := 9
abbrev T_s_impl_Pos : Nat := 36
abbrev T_s_impl_Debt : Nat := 39
abbrev T_s_int : Nat := 49
abbrev T_impl_Signed : Nat := 56
abbrev T_impl_Money : Nat := 58
abbrev T_laws_Debt : Nat := 70
abbrev T_impl_Debt : Nat := 73
abbrev T_impl_Pos : Nat := 78
abbrev T_impl_ordered_loop_example_g00793_impl_Pos : Nat := 81
abbrev T_spec_l08Row : Nat := 121
abbrev T_impl_currency : Nat := 124
abbrev T_20_impl_currency : Nat := 133
end Go.Proofs.YtdidocmbcfbjdaaDoor
