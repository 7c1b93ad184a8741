/-
  Parts of the proof of nextRow_holds: G3, G4, G5.
  Conditions: none.
-/
import Derived.Test.YtfemmmbkhhemaaaGreatDoorNRo1

namespace Go.Proofs.YtfemmmbkhhemaaaGreatDoor
open Go Go.Proofs.YtfemmmbkhhemaaaGreatDoor.Sx
set_option linter.unusedVariables false
set_option maxRecDepth 100000
def spec_NextRow_j2 (r_3 : Nat) (r_4 : Nat) (r_6 : Nat) (r_7 : Nat) (W_2 : World) (R : Value → World → Prop) : Prop :=
  ∃ (t630 : ByteArray) (t631 : Bool) (t632_p : Option Addr) (t632_n : Nat) (t632_c : Nat), Loads P 33 ⟨r_6, 0, none⟩ (.agg #[(.string t630), (.bool t631), (.slice t632_p t632_n t632_c)]) W_2 ∧ ∃ (t640 : ByteArray) (t641 : Bool) (t642_p : Option Addr) (t642_n : Nat) (t642_c : Nat), Loads P 33 ⟨r_7, 0, none⟩ (.agg #[(.string t640), (.bool t641), (.slice t642_p t642_n t642_c)]) W_2 ∧ Calls P 61 ⟨[(.agg #[(.string t630), (.bool t631), (.slice t632_p t632_n t632_c)]), (.agg #[(.string t640), (.bool t641), (.slice t642_p t642_n t642_c)])]⟩ W_2 fun e_4 wv_19 =>
  ∃ (t650 : ByteArray) (t651 : Bool) (t652_p : Option Addr) (t652_n : Nat) (t652_c : Nat) (t65 : Bool), e_4 = .returned (.tuple #[(.agg #[(.string t650), (.bool t651), (.slice t652_p t652_n t652_c)]), (.bool t65)]) ∧
  ∀ (r_8 : Nat) (wv_20 : World), New wv_19 (.cells ⟨[(.string ByteArray.empty), (.bool false), (.slice none 0 0)]⟩ 33 (0, 0)) r_8 wv_20 →
  ∃ wv_21, Stores P 33 ⟨r_8, 0, none⟩ (.agg #[(.string t650), (.bool t651), (.slice t652_p t652_n t652_c)]) wv_20 wv_21 ∧
  ∃ (t680 : ByteArray) (t681 : Bool) (t682_p : Option Addr) (t682_n : Nat) (t682_c : Nat), (∀ wv_22, Ext wv_21.drew wv_22 → Loads P 33 ⟨r_4, 0, none⟩ (.agg #[(.string t680), (.bool t681), (.slice t682_p t682_n t682_c)]) wv_22) ∧ ∃ (t70 : ByteArray), (∀ wv_23, Ext wv_21.drew wv_23 → Loads P 9 ((⟨r_7, 0, none⟩ : Addr).add 0) (.string t70) wv_23) ∧ ∃ (t73_p : Option Addr) (t73_n : Nat) (t73_c : Nat), (∀ wv_24, Ext wv_21.drew wv_24 → Loads P 22 (((⟨r_7, 0, none⟩ : Addr).add 1).add 1) (.slice t73_p t73_n t73_c) wv_24) ∧ Calls P 70 ⟨[(.bool false), (.slice t73_p t73_n t73_c)]⟩ wv_21.drew fun e_5 wv_25 =>
  ∃ (t740 : Bool) (t741_p : Option Addr) (t741_n : Nat) (t741_c : Nat), e_5 = .returned (.agg #[(.bool t740), (.slice t741_p t741_n t741_c)]) ∧
  Ext wv_21.drew wv_25 ∧ ∃ (t760 : ByteArray) (t761 : Bool) (t762_p : Option Addr) (t762_n : Nat) (t762_c : Nat), (∀ wv_26, Ext wv_21.drew wv_26 → Loads P 33 ⟨r_8, 0, none⟩ (.agg #[(.string t760), (.bool t761), (.slice t762_p t762_n t762_c)]) wv_26) ∧ ∃ wv_27, Stores P 52 ⟨r_3, 0, none⟩ (.agg #[(.string t680), (.bool t681), (.slice t682_p t682_n t682_c), (.string t70), (.bool t740), (.slice t741_p t741_n t741_c), (.string t760), (.bool t761), (.slice t762_p t762_n t762_c)]) wv_25 wv_27 ∧
  ∃ (r0_3 : ByteArray) (r1_2 : Bool) (r2_p_2 : Option Addr) (r2_n_2 : Nat) (r2_c_2 : Nat) (r3_2 : ByteArray) (r4_2 : Bool) (r5_p_2 : Option Addr) (r5_n_2 : Nat) (r5_c_2 : Nat) (r6_2 : ByteArray) (r7_2 : Bool) (r8_p_2 : Option Addr) (r8_n_2 : Nat) (r8_c_2 : Nat), Loads P 52 ⟨r_3, 0, none⟩ (.agg #[(.string r0_3), (.bool r1_2), (.slice r2_p_2 r2_n_2 r2_c_2), (.string r3_2), (.bool r4_2), (.slice r5_p_2 r5_n_2 r5_c_2), (.string r6_2), (.bool r7_2), (.slice r8_p_2 r8_n_2 r8_c_2)]) wv_27 ∧ R (.tuple #[(.agg #[(.string r0_3), (.bool r1_2), (.slice r2_p_2 r2_n_2 r2_c_2), (.string r3_2), (.bool r4_2), (.slice r5_p_2 r5_n_2 r5_c_2), (.string r6_2), (.bool r7_2), (.slice r8_p_2 r8_n_2 r8_c_2)]), (.bool true)]) wv_27
def spec_NextRow_j1 (r_2 : Nat) (r_3 : Nat) (r_4 : Nat) (r_6 : Nat) (W_1 : World) (R : Value → World → Prop) : Prop :=
  ∃ (t540 : ByteArray) (t541 : Bool) (t542_p : Option Addr) (t542_n : Nat) (t542_c : Nat), Loads P 33 ⟨r_2, 0, none⟩ (.agg #[(.string t540), (.bool t541), (.slice t542_p t542_n t542_c)]) W_1 ∧ ∀ (r_7 : Nat) (wv_15 : World), New W_1 (.cells ⟨[(.string ByteArray.empty), (.bool false), (.slice none 0 0)]⟩ 33 (0, 0)) r_7 wv_15 →
  ∃ wv_16, Stores P 33 ⟨r_7, 0, none⟩ (.agg #[(.string t540), (.bool t541), (.slice t542_p t542_n t542_c)]) wv_15 wv_16 ∧
  ∃ (t560 : Bool) (t561_p : Option Addr) (t561_n : Nat) (t561_c : Nat), Loads P 31 ((⟨r_6, 0, none⟩ : Addr).add 1) (.agg #[(.bool t560), (.slice t561_p t561_n t561_c)]) wv_16 ∧ ∃ (t580 : Bool) (t581_p : Option Addr) (t581_n : Nat) (t581_c : Nat), Loads P 31 ((⟨r_2, 0, none⟩ : Addr).add 1) (.agg #[(.bool t580), (.slice t581_p t581_n t581_c)]) wv_16 ∧ Calls P 69 ⟨[(.agg #[(.bool t560), (.slice t561_p t561_n t561_c)]), (.agg #[(.bool t580), (.slice t581_p t581_n t581_c)])]⟩ wv_16 fun e_3 wv_17 =>
  ∃ (t59 : Int), e_3 = .returned (.int .i64 t59) ∧
  ((decide ((t59 : Int) < 0)) = true →
    ∃ (t610 : ByteArray) (t611 : Bool) (t612_p : Option Addr) (t612_n : Nat) (t612_c : Nat), Loads P 33 ⟨r_6, 0, none⟩ (.agg #[(.string t610), (.bool t611), (.slice t612_p t612_n t612_c)]) wv_17 ∧ ∃ wv_18, Stores P 33 ⟨r_7, 0, none⟩ (.agg #[(.string t610), (.bool t611), (.slice t612_p t612_n t612_c)]) wv_17 wv_18 ∧
    spec_NextRow_j2 r_3 r_4 r_6 r_7 wv_18 R) ∧
  ((decide ((t59 : Int) < 0)) = false →
    spec_NextRow_j2 r_3 r_4 r_6 r_7 wv_17 R)
def spec_NextRow_j0 (mode : Int) (r : Nat) (r_1 : Nat) (r_2 : Nat) (r_3 : Nat) (W : World) (R : Value → World → Prop) : Prop :=
  ∃ (t340 : ByteArray) (t341 : Bool) (t342_p : Option Addr) (t342_n : Nat) (t342_c : Nat), Loads P 33 ⟨r, 0, none⟩ (.agg #[(.string t340), (.bool t341), (.slice t342_p t342_n t342_c)]) W ∧ ∃ (t350 : Bool) (t351_p : Option Addr) (t351_n : Nat) (t351_c : Nat) (t352 : Int), Loads P 40 ⟨r_1, 0, none⟩ (.agg #[(.bool t350), (.slice t351_p t351_n t351_c), (.int .i64 t352)]) W ∧ Calls P 10 ⟨[(.agg #[(.string t340), (.bool t341), (.slice t342_p t342_n t342_c)]), (.agg #[(.bool t350), (.slice t351_p t351_n t351_c), (.int .i64 t352)]), (.int .i64 mode)]⟩ W fun e_1 wv_6 =>
  ∃ (t370 : ByteArray) (t371 : Bool) (t372_p : Option Addr) (t372_n : Nat) (t372_c : Nat) (t370_1 : Bool) (t371_p : Option Addr) (t371_n : Nat) (t371_c : Nat) (t372_p_1 : Option Addr) (t372_n_1 : Nat) (t372_c_1 : Nat) (t37 : Bool), e_1 = .returned (.tuple #[(.agg #[(.string t370), (.bool t371), (.slice t372_p t372_n t372_c)]), (.agg #[(.bool t370_1), (.slice t371_p t371_n t371_c), (.slice t372_p_1 t372_n_1 t372_c_1)]), (.bool t37)]) ∧
  ∀ (r_4 : Nat) (wv_7 : World), New wv_6 (.cells ⟨[(.string ByteArray.empty), (.bool false), (.slice none 0 0)]⟩ 33 (0, 0)) r_4 wv_7 →
  ∀ (r_5 : Nat) (wv_8 : World), New wv_7 (.cells ⟨[(.bool false), (.slice none 0 0), (.slice none 0 0)]⟩ 35 (0, 0)) r_5 wv_8 →
  ∃ wv_9, Stores P 33 ⟨r_4, 0, none⟩ (.agg #[(.string t370), (.bool t371), (.slice t372_p t372_n t372_c)]) wv_8 wv_9 ∧
  ∃ wv_10, Stores P 35 ⟨r_5, 0, none⟩ (.agg #[(.bool t370_1), (.slice t371_p t371_n t371_c), (.slice t372_p_1 t372_n_1 t372_c_1)]) wv_9 wv_10 ∧
  ∃ (t420 : ByteArray) (t421 : Bool) (t422_p : Option Addr) (t422_n : Nat) (t422_c : Nat), Loads P 33 ⟨r, 0, none⟩ (.agg #[(.string t420), (.bool t421), (.slice t422_p t422_n t422_c)]) wv_10 ∧ ∃ (t430 : ByteArray) (t431 : Bool) (t432_p : Option Addr) (t432_n : Nat) (t432_c : Nat), Loads P 33 ⟨r_4, 0, none⟩ (.agg #[(.string t430), (.bool t431), (.slice t432_p t432_n t432_c)]) wv_10 ∧ Calls P 68 ⟨[(.agg #[(.string t420), (.bool t421), (.slice t422_p t422_n t422_c)]), (.agg #[(.string t430), (.bool t431), (.slice t432_p t432_n t432_c)])]⟩ wv_10 fun e_2 wv_11 =>
  ∃ (t440 : ByteArray) (t441 : Bool) (t442_p : Option Addr) (t442_n : Nat) (t442_c : Nat) (t44 : Bool), e_2 = .returned (.tuple #[(.agg #[(.string t440), (.bool t441), (.slice t442_p t442_n t442_c)]), (.bool t44)]) ∧
  ∀ (r_6 : Nat) (wv_12 : World), New wv_11 (.cells ⟨[(.string ByteArray.empty), (.bool false), (.slice none 0 0)]⟩ 33 (0, 0)) r_6 wv_12 →
  ∃ wv_13, Stores P 33 ⟨r_6, 0, none⟩ (.agg #[(.string t440), (.bool t441), (.slice t442_p t442_n t442_c)]) wv_12 wv_13 ∧
  ((!t37) = true →
    (true = true →
      ∃ wv_14, Stores P 52 ⟨r_3, 0, none⟩ (.agg #[(.string ByteArray.empty), (.bool false), (.slice none 0 0), (.string ByteArray.empty), (.bool false), (.slice none 0 0), (.string ByteArray.empty), (.bool false), (.slice none 0 0)]) wv_13 wv_14 ∧
      ∃ (r0_2 : ByteArray) (r1_1 : Bool) (r2_p_1 : Option Addr) (r2_n_1 : Nat) (r2_c_1 : Nat) (r3_1 : ByteArray) (r4_1 : Bool) (r5_p_1 : Option Addr) (r5_n_1 : Nat) (r5_c_1 : Nat) (r6_1 : ByteArray) (r7_1 : Bool) (r8_p_1 : Option Addr) (r8_n_1 : Nat) (r8_c_1 : Nat), Loads P 52 ⟨r_3, 0, none⟩ (.agg #[(.string r0_2), (.bool r1_1), (.slice r2_p_1 r2_n_1 r2_c_1), (.string r3_1), (.bool r4_1), (.slice r5_p_1 r5_n_1 r5_c_1), (.string r6_1), (.bool r7_1), (.slice r8_p_1 r8_n_1 r8_c_1)]) wv_14 ∧ R (.tuple #[(.agg #[(.string r0_2), (.bool r1_1), (.slice r2_p_1 r2_n_1 r2_c_1), (.string r3_1), (.bool r4_1), (.slice r5_p_1 r5_n_1 r5_c_1), (.string r6_1), (.bool r7_1), (.slice r8_p_1 r8_n_1 r8_c_1)]), (.bool false)]) wv_14) ∧
    (true = false →
      spec_NextRow_j1 r_2 r_3 r_4 r_6 wv_13 R)) ∧
  ((!t37) = false →
    ((!t44) = true →
      ∃ wv_28, Stores P 52 ⟨r_3, 0, none⟩ (.agg #[(.string ByteArray.empty), (.bool false), (.slice none 0 0), (.string ByteArray.empty), (.bool false), (.slice none 0 0), (.string ByteArray.empty), (.bool false), (.slice none 0 0)]) wv_13 wv_28 ∧
      ∃ (r0_4 : ByteArray) (r1_3 : Bool) (r2_p_3 : Option Addr) (r2_n_3 : Nat) (r2_c_3 : Nat) (r3_3 : ByteArray) (r4_3 : Bool) (r5_p_3 : Option Addr) (r5_n_3 : Nat) (r5_c_3 : Nat) (r6_3 : ByteArray) (r7_3 : Bool) (r8_p_3 : Option Addr) (r8_n_3 : Nat) (r8_c_3 : Nat), Loads P 52 ⟨r_3, 0, none⟩ (.agg #[(.string r0_4), (.bool r1_3), (.slice r2_p_3 r2_n_3 r2_c_3), (.string r3_3), (.bool r4_3), (.slice r5_p_3 r5_n_3 r5_c_3), (.string r6_3), (.bool r7_3), (.slice r8_p_3 r8_n_3 r8_c_3)]) wv_28 ∧ R (.tuple #[(.agg #[(.string r0_4), (.bool r1_3), (.slice r2_p_3 r2_n_3 r2_c_3), (.string r3_3), (.bool r4_3), (.slice r5_p_3 r5_n_3 r5_c_3), (.string r6_3), (.bool r7_3), (.slice r8_p_3 r8_n_3 r8_c_3)]), (.bool false)]) wv_28) ∧
    ((!t44) = false →
      spec_NextRow_j1 r_2 r_3 r_4 r_6 wv_13 R))
def spec_NextRow (left0 : ByteArray) (left1 : Bool) (left2_p : Option Addr) (left2_n : Nat) (left2_c : Nat) (r0 : Bool) (r1_p : Option Addr) (r1_n : Nat) (r1_c : Nat) (r2 : Int) (pay0 : ByteArray) (pay1 : Bool) (pay2_p : Option Addr) (pay2_n : Nat) (pay2_c : Nat) (mode : Int) (w : World) (R : Value → World → Prop) : Prop :=
  ∀ (r : Nat) (wv : World), New w (.cells ⟨[(.string left0), (.bool left1), (.slice left2_p left2_n left2_c)]⟩ 33 (0, 0)) r wv →
  ∀ (r_1 : Nat) (wv_1 : World), New wv (.cells ⟨[(.bool r0), (.slice r1_p r1_n r1_c), (.int .i64 r2)]⟩ 40 (0, 0)) r_1 wv_1 →
  ∀ (r_2 : Nat) (wv_2 : World), New wv_1 (.cells ⟨[(.string pay0), (.bool pay1), (.slice pay2_p pay2_n pay2_c)]⟩ 33 (0, 0)) r_2 wv_2 →
  ∀ (r_3 : Nat) (wv_3 : World), New wv_2 (.cells ⟨[(.string ByteArray.empty), (.bool false), (.slice none 0 0), (.string ByteArray.empty), (.bool false), (.slice none 0 0), (.string ByteArray.empty), (.bool false), (.slice none 0 0)]⟩ 52 (0, 0)) r_3 wv_3 →
  ∃ (t180 : ByteArray) (t181 : Bool) (t182_p : Option Addr) (t182_n : Nat) (t182_c : Nat), Loads P 33 ⟨r, 0, none⟩ (.agg #[(.string t180), (.bool t181), (.slice t182_p t182_n t182_c)]) wv_3 ∧ ∃ (t190 : ByteArray) (t191 : Bool) (t192_p : Option Addr) (t192_n : Nat) (t192_c : Nat), Loads P 33 ⟨r_2, 0, none⟩ (.agg #[(.string t190), (.bool t191), (.slice t192_p t192_n t192_c)]) wv_3 ∧ Calls P 67 ⟨[(.agg #[(.string t180), (.bool t181), (.slice t182_p t182_n t182_c)]), (.agg #[(.string t190), (.bool t191), (.slice t192_p t192_n t192_c)])]⟩ wv_3 fun e wv_4 =>
  ∃ (t20 : Bool), e = .returned (.bool t20) ∧
  ((!t20) = true →
    (true = true →
      (true = true →
        ∃ wv_5, Stores P 52 ⟨r_3, 0, none⟩ (.agg #[(.string ByteArray.empty), (.bool false), (.slice none 0 0), (.string ByteArray.empty), (.bool false), (.slice none 0 0), (.string ByteArray.empty), (.bool false), (.slice none 0 0)]) wv_4 wv_5 ∧
        ∃ (r0_1 : ByteArray) (r1 : Bool) (r2_p : Option Addr) (r2_n : Nat) (r2_c : Nat) (r3 : ByteArray) (r4 : Bool) (r5_p : Option Addr) (r5_n : Nat) (r5_c : Nat) (r6 : ByteArray) (r7 : Bool) (r8_p : Option Addr) (r8_n : Nat) (r8_c : Nat), Loads P 52 ⟨r_3, 0, none⟩ (.agg #[(.string r0_1), (.bool r1), (.slice r2_p r2_n r2_c), (.string r3), (.bool r4), (.slice r5_p r5_n r5_c), (.string r6), (.bool r7), (.slice r8_p r8_n r8_c)]) wv_5 ∧ R (.tuple #[(.agg #[(.string r0_1), (.bool r1), (.slice r2_p r2_n r2_c), (.string r3), (.bool r4), (.slice r5_p r5_n r5_c), (.string r6), (.bool r7), (.slice r8_p r8_n r8_c)]), (.bool false)]) wv_5) ∧
      (true = false →
        spec_NextRow_j0 mode r r_1 r_2 r_3 wv_4 R)) ∧
    (true = false →
      ∃ (t30 : Bool), Loads P 4 (((⟨r_2, 0, none⟩ : Addr).add 1).add 0) (.bool t30) wv_4 ∧ (t30 = true →
        ∃ wv_29, Stores P 52 ⟨r_3, 0, none⟩ (.agg #[(.string ByteArray.empty), (.bool false), (.slice none 0 0), (.string ByteArray.empty), (.bool false), (.slice none 0 0), (.string ByteArray.empty), (.bool false), (.slice none 0 0)]) wv_4 wv_29 ∧
        ∃ (r0_5 : ByteArray) (r1_4 : Bool) (r2_p_4 : Option Addr) (r2_n_4 : Nat) (r2_c_4 : Nat) (r3_4 : ByteArray) (r4_4 : Bool) (r5_p_4 : Option Addr) (r5_n_4 : Nat) (r5_c_4 : Nat) (r6_4 : ByteArray) (r7_4 : Bool) (r8_p_4 : Option Addr) (r8_n_4 : Nat) (r8_c_4 : Nat), Loads P 52 ⟨r_3, 0, none⟩ (.agg #[(.string r0_5), (.bool r1_4), (.slice r2_p_4 r2_n_4 r2_c_4), (.string r3_4), (.bool r4_4), (.slice r5_p_4 r5_n_4 r5_c_4), (.string r6_4), (.bool r7_4), (.slice r8_p_4 r8_n_4 r8_c_4)]) wv_29 ∧ R (.tuple #[(.agg #[(.string r0_5), (.bool r1_4), (.slice r2_p_4 r2_n_4 r2_c_4), (.string r3_4), (.bool r4_4), (.slice r5_p_4 r5_n_4 r5_c_4), (.string r6_4), (.bool r7_4), (.slice r8_p_4 r8_n_4 r8_c_4)]), (.bool false)]) wv_29) ∧
      (t30 = false →
        spec_NextRow_j0 mode r r_1 r_2 r_3 wv_4 R))) ∧
  ((!t20) = false →
    ∃ (t25 : Bool), Loads P 4 (((⟨r, 0, none⟩ : Addr).add 1).add 0) (.bool t25) wv_4 ∧ (t25 = true →
      (true = true →
        ∃ wv_30, Stores P 52 ⟨r_3, 0, none⟩ (.agg #[(.string ByteArray.empty), (.bool false), (.slice none 0 0), (.string ByteArray.empty), (.bool false), (.slice none 0 0), (.string ByteArray.empty), (.bool false), (.slice none 0 0)]) wv_4 wv_30 ∧
        ∃ (r0_6 : ByteArray) (r1_5 : Bool) (r2_p_5 : Option Addr) (r2_n_5 : Nat) (r2_c_5 : Nat) (r3_5 : ByteArray) (r4_5 : Bool) (r5_p_5 : Option Addr) (r5_n_5 : Nat) (r5_c_5 : Nat) (r6_5 : ByteArray) (r7_5 : Bool) (r8_p_5 : Option Addr) (r8_n_5 : Nat) (r8_c_5 : Nat), Loads P 52 ⟨r_3, 0, none⟩ (.agg #[(.string r0_6), (.bool r1_5), (.slice r2_p_5 r2_n_5 r2_c_5), (.string r3_5), (.bool r4_5), (.slice r5_p_5 r5_n_5 r5_c_5), (.string r6_5), (.bool r7_5), (.slice r8_p_5 r8_n_5 r8_c_5)]) wv_30 ∧ R (.tuple #[(.agg #[(.string r0_6), (.bool r1_5), (.slice r2_p_5 r2_n_5 r2_c_5), (.string r3_5), (.bool r4_5), (.slice r5_p_5 r5_n_5 r5_c_5), (.string r6_5), (.bool r7_5), (.slice r8_p_5 r8_n_5 r8_c_5)]), (.bool false)]) wv_30) ∧
      (true = false →
        spec_NextRow_j0 mode r r_1 r_2 r_3 wv_4 R)) ∧
    (t25 = false →
      ∃ (t30_1 : Bool), Loads P 4 (((⟨r_2, 0, none⟩ : Addr).add 1).add 0) (.bool t30_1) wv_4 ∧ (t30_1 = true →
        ∃ wv_31, Stores P 52 ⟨r_3, 0, none⟩ (.agg #[(.string ByteArray.empty), (.bool false), (.slice none 0 0), (.string ByteArray.empty), (.bool false), (.slice none 0 0), (.string ByteArray.empty), (.bool false), (.slice none 0 0)]) wv_4 wv_31 ∧
        ∃ (r0_7 : ByteArray) (r1_6 : Bool) (r2_p_6 : Option Addr) (r2_n_6 : Nat) (r2_c_6 : Nat) (r3_6 : ByteArray) (r4_6 : Bool) (r5_p_6 : Option Addr) (r5_n_6 : Nat) (r5_c_6 : Nat) (r6_6 : ByteArray) (r7_6 : Bool) (r8_p_6 : Option Addr) (r8_n_6 : Nat) (r8_c_6 : Nat), Loads P 52 ⟨r_3, 0, none⟩ (.agg #[(.string r0_7), (.bool r1_6), (.slice r2_p_6 r2_n_6 r2_c_6), (.string r3_6), (.bool r4_6), (.slice r5_p_6 r5_n_6 r5_c_6), (.string r6_6), (.bool r7_6), (.slice r8_p_6 r8_n_6 r8_c_6)]) wv_31 ∧ R (.tuple #[(.agg #[(.string r0_7), (.bool r1_6), (.slice r2_p_6 r2_n_6 r2_c_6), (.string r3_6), (.bool r4_6), (.slice r5_p_6 r5_n_6 r5_c_6), (.string r6_6), (.bool r7_6), (.slice r8_p_6 r8_n_6 r8_c_6)]), (.bool false)]) wv_31) ∧
      (t30_1 = false →
        spec_NextRow_j0 mode r r_1 r_2 r_3 wv_4 R)))
theorem spec_NextRow_eq (left0 : ByteArray) (left1 : Bool) (left2_p : Option Addr) (left2_n : Nat) (left2_c : Nat) (r0 : Bool) (r1_p : Option Addr) (r1_n : Nat) (r1_c : Nat) (r2 : Int) (pay0 : ByteArray) (pay1 : Bool) (pay2_p : Option Addr) (pay2_n : Nat) (pay2_c : Nat) (mode : Int) (w : World) (R : Value → World → Prop) : spec_NextRow left0 left1 left2_p left2_n left2_c r0 r1_p r1_n r1_c r2 pay0 pay1 pay2_p pay2_n pay2_c mode w R = fsem P Tryz.f24 (fun k => []) [(.agg #[(.string left0), (.bool left1), (.slice left2_p left2_n left2_c)]), (.agg #[(.bool r0), (.slice r1_p r1_n r1_c), (.int .i64 r2)]), (.agg #[(.string pay0), (.bool pay1), (.slice pay2_p pay2_n pay2_c)]), (.int .i64 mode)] R w := by kernel_rfl
theorem spec_NextRow_ret {left0 : ByteArray} {left1 : Bool} {left2_p : Option Addr} {left2_n : Nat} {left2_c : Nat} {r0 : Bool} {r1_p : Option Addr} {r1_n : Nat} {r1_c : Nat} {r2 : Int} {pay0 : ByteArray} {pay1 : Bool} {pay2_p : Option Addr} {pay2_n : Nat} {pay2_c : Nat} {mode : Int} {w : World} {R : Value → World → Prop} (h : spec_NextRow left0 left1 left2_p left2_n left2_c r0 r1_p r1_n r1_c r2 pay0 pay1 pay2_p pay2_n pay2_c mode w R) : Ret P 24 [(.agg #[(.string left0), (.bool left1), (.slice left2_p left2_n left2_c)]), (.agg #[(.bool r0), (.slice r1_p r1_n r1_c), (.int .i64 r2)]), (.agg #[(.string pay0), (.bool pay1), (.slice pay2_p pay2_n pay2_c)]), (.int .i64 mode)] w R :=
  Ret.of_fsem Tryz.func24 rfl (Eq.mp (spec_NextRow_eq left0 left1 left2_p left2_n left2_c r0 r1_p r1_n r1_c r2 pay0 pay1 pay2_p pay2_n pay2_c mode w R) h)
def impl_NextRow_j1 (r_2 : Nat) (r_3 : Nat) (r_4 : Nat) (r_6 : Nat) (W_1 : World) (R : Value → World → Prop) : Prop :=
  ∃ (t580 : ByteArray) (t581 : Bool) (t582_p : Option Addr) (t582_n : Nat) (t582_c : Nat), Loads P 33 ⟨r_6, 0, none⟩ (.agg #[(.string t580), (.bool t581), (.slice t582_p t582_n t582_c)]) W_1 ∧ ∃ (t590 : ByteArray) (t591 : Bool) (t592_p : Option Addr) (t592_n : Nat) (t592_c : Nat), Loads P 33 ⟨r_2, 0, none⟩ (.agg #[(.string t590), (.bool t591), (.slice t592_p t592_n t592_c)]) W_1 ∧ Calls P 66 ⟨[(.agg #[(.string t580), (.bool t581), (.slice t582_p t582_n t582_c)]), (.agg #[(.string t590), (.bool t591), (.slice t592_p t592_n t592_c)])]⟩ W_1 fun e_4 wv_18 =>
  ∃ (t600 : ByteArray) (t601 : Bool) (t602_p : Option Addr) (t602_n : Nat) (t602_c : Nat) (t60 : Bool), e_4 = .returned (.tuple #[(.agg #[(.string t600), (.bool t601), (.slice t602_p t602_n t602_c)]), (.bool t60)]) ∧
  ∀ (r_7 : Nat) (wv_19 : World), New wv_18 (.cells ⟨[(.string ByteArray.empty), (.bool false), (.slice none 0 0)]⟩ 33 (0, 0)) r_7 wv_19 →
  ∃ wv_20, Stores P 33 ⟨r_7, 0, none⟩ (.agg #[(.string t600), (.bool t601), (.slice t602_p t602_n t602_c)]) wv_19 wv_20 ∧
  ((!t60) = true →
    ∃ wv_21, Stores P 52 ⟨r_3, 0, none⟩ (.agg #[(.string ByteArray.empty), (.bool false), (.slice none 0 0), (.string ByteArray.empty), (.bool false), (.slice none 0 0), (.string ByteArray.empty), (.bool false), (.slice none 0 0)]) wv_20 wv_21 ∧
    ∃ (r0_4 : ByteArray) (r1_3 : Bool) (r2_p_3 : Option Addr) (r2_n_3 : Nat) (r2_c_3 : Nat) (r3_3 : ByteArray) (r4_3 : Bool) (r5_p_3 : Option Addr) (r5_n_3 : Nat) (r5_c_3 : Nat) (r6_3 : ByteArray) (r7_3 : Bool) (r8_p_3 : Option Addr) (r8_n_3 : Nat) (r8_c_3 : Nat), Loads P 52 ⟨r_3, 0, none⟩ (.agg #[(.string r0_4), (.bool r1_3), (.slice r2_p_3 r2_n_3 r2_c_3), (.string r3_3), (.bool r4_3), (.slice r5_p_3 r5_n_3 r5_c_3), (.string r6_3), (.bool r7_3), (.slice r8_p_3 r8_n_3 r8_c_3)]) wv_21 ∧ R (.tuple #[(.agg #[(.string r0_4), (.bool r1_3), (.slice r2_p_3 r2_n_3 r2_c_3), (.string r3_3), (.bool r4_3), (.slice r5_p_3 r5_n_3 r5_c_3), (.string r6_3), (.bool r7_3), (.slice r8_p_3 r8_n_3 r8_c_3)]), (.bool false)]) wv_21) ∧
  ((!t60) = false →
    ∃ (t660 : ByteArray) (t661 : Bool) (t662_p : Option Addr) (t662_n : Nat) (t662_c : Nat), (∀ wv_22, Ext wv_20.drew wv_22 → Loads P 33 ⟨r_4, 0, none⟩ (.agg #[(.string t660), (.bool t661), (.slice t662_p t662_n t662_c)]) wv_22) ∧ ∃ (t670 : ByteArray) (t671 : Bool) (t672_p : Option Addr) (t672_n : Nat) (t672_c : Nat), (∀ wv_23, Ext wv_20.drew wv_23 → Loads P 33 ⟨r_2, 0, none⟩ (.agg #[(.string t670), (.bool t671), (.slice t672_p t672_n t672_c)]) wv_23) ∧ Calls P 74 ⟨[(.agg #[(.string t670), (.bool t671), (.slice t672_p t672_n t672_c)])]⟩ wv_20.drew fun e_5 wv_24 =>
    ∃ (t680 : ByteArray) (t681 : Bool) (t682_p : Option Addr) (t682_n : Nat) (t682_c : Nat), e_5 = .returned (.agg #[(.string t680), (.bool t681), (.slice t682_p t682_n t682_c)]) ∧
    Ext wv_20.drew wv_24 ∧ ∃ (t690 : ByteArray) (t691 : Bool) (t692_p : Option Addr) (t692_n : Nat) (t692_c : Nat), (∀ wv_25, Ext wv_20.drew wv_25 → Loads P 33 ⟨r_7, 0, none⟩ (.agg #[(.string t690), (.bool t691), (.slice t692_p t692_n t692_c)]) wv_25) ∧ ∃ wv_26, Stores P 52 ⟨r_3, 0, none⟩ (.agg #[(.string t660), (.bool t661), (.slice t662_p t662_n t662_c), (.string t680), (.bool t681), (.slice t682_p t682_n t682_c), (.string t690), (.bool t691), (.slice t692_p t692_n t692_c)]) wv_24 wv_26 ∧
    ∃ (r0_5 : ByteArray) (r1_4 : Bool) (r2_p_4 : Option Addr) (r2_n_4 : Nat) (r2_c_4 : Nat) (r3_4 : ByteArray) (r4_4 : Bool) (r5_p_4 : Option Addr) (r5_n_4 : Nat) (r5_c_4 : Nat) (r6_4 : ByteArray) (r7_4 : Bool) (r8_p_4 : Option Addr) (r8_n_4 : Nat) (r8_c_4 : Nat), Loads P 52 ⟨r_3, 0, none⟩ (.agg #[(.string r0_5), (.bool r1_4), (.slice r2_p_4 r2_n_4 r2_c_4), (.string r3_4), (.bool r4_4), (.slice r5_p_4 r5_n_4 r5_c_4), (.string r6_4), (.bool r7_4), (.slice r8_p_4 r8_n_4 r8_c_4)]) wv_26 ∧ R (.tuple #[(.agg #[(.string r0_5), (.bool r1_4), (.slice r2_p_4 r2_n_4 r2_c_4), (.string r3_4), (.bool r4_4), (.slice r5_p_4 r5_n_4 r5_c_4), (.string r6_4), (.bool r7_4), (.slice r8_p_4 r8_n_4 r8_c_4)]), (.bool true)]) wv_26)
def impl_NextRow_j0 (mode : Int) (r : Nat) (r_1 : Nat) (r_2 : Nat) (r_3 : Nat) (W : World) (R : Value → World → Prop) : Prop :=
  ∃ (t310 : ByteArray) (t311 : Bool) (t312_p : Option Addr) (t312_n : Nat) (t312_c : Nat), Loads P 33 ⟨r, 0, none⟩ (.agg #[(.string t310), (.bool t311), (.slice t312_p t312_n t312_c)]) W ∧ ∃ (t320 : Bool) (t321_p : Option Addr) (t321_n : Nat) (t321_c : Nat) (t322 : Int), Loads P 40 ⟨r_1, 0, none⟩ (.agg #[(.bool t320), (.slice t321_p t321_n t321_c), (.int .i64 t322)]) W ∧ Calls P 13 ⟨[(.agg #[(.string t310), (.bool t311), (.slice t312_p t312_n t312_c)]), (.agg #[(.bool t320), (.slice t321_p t321_n t321_c), (.int .i64 t322)]), (.int .i64 mode)]⟩ W fun e_1 wv_6 =>
  ∃ (t340 : ByteArray) (t341 : Bool) (t342_p : Option Addr) (t342_n : Nat) (t342_c : Nat) (t340_1 : Bool) (t341_p : Option Addr) (t341_n : Nat) (t341_c : Nat) (t342_p_1 : Option Addr) (t342_n_1 : Nat) (t342_c_1 : Nat) (t34 : Bool), e_1 = .returned (.tuple #[(.agg #[(.string t340), (.bool t341), (.slice t342_p t342_n t342_c)]), (.agg #[(.bool t340_1), (.slice t341_p t341_n t341_c), (.slice t342_p_1 t342_n_1 t342_c_1)]), (.bool t34)]) ∧
  ∀ (r_4 : Nat) (wv_7 : World), New wv_6 (.cells ⟨[(.string ByteArray.empty), (.bool false), (.slice none 0 0)]⟩ 33 (0, 0)) r_4 wv_7 →
  ∀ (r_5 : Nat) (wv_8 : World), New wv_7 (.cells ⟨[(.bool false), (.slice none 0 0), (.slice none 0 0)]⟩ 35 (0, 0)) r_5 wv_8 →
  ∃ wv_9, Stores P 33 ⟨r_4, 0, none⟩ (.agg #[(.string t340), (.bool t341), (.slice t342_p t342_n t342_c)]) wv_8 wv_9 ∧
  ∃ wv_10, Stores P 35 ⟨r_5, 0, none⟩ (.agg #[(.bool t340_1), (.slice t341_p t341_n t341_c), (.slice t342_p_1 t342_n_1 t342_c_1)]) wv_9 wv_10 ∧
  ((!t34) = true →
    ∃ wv_11, Stores P 52 ⟨r_3, 0, none⟩ (.agg #[(.string ByteArray.empty), (.bool false), (.slice none 0 0), (.string ByteArray.empty), (.bool false), (.slice none 0 0), (.string ByteArray.empty), (.bool false), (.slice none 0 0)]) wv_10 wv_11 ∧
    ∃ (r0_2 : ByteArray) (r1_1 : Bool) (r2_p_1 : Option Addr) (r2_n_1 : Nat) (r2_c_1 : Nat) (r3_1 : ByteArray) (r4_1 : Bool) (r5_p_1 : Option Addr) (r5_n_1 : Nat) (r5_c_1 : Nat) (r6_1 : ByteArray) (r7_1 : Bool) (r8_p_1 : Option Addr) (r8_n_1 : Nat) (r8_c_1 : Nat), Loads P 52 ⟨r_3, 0, none⟩ (.agg #[(.string r0_2), (.bool r1_1), (.slice r2_p_1 r2_n_1 r2_c_1), (.string r3_1), (.bool r4_1), (.slice r5_p_1 r5_n_1 r5_c_1), (.string r6_1), (.bool r7_1), (.slice r8_p_1 r8_n_1 r8_c_1)]) wv_11 ∧ R (.tuple #[(.agg #[(.string r0_2), (.bool r1_1), (.slice r2_p_1 r2_n_1 r2_c_1), (.string r3_1), (.bool r4_1), (.slice r5_p_1 r5_n_1 r5_c_1), (.string r6_1), (.bool r7_1), (.slice r8_p_1 r8_n_1 r8_c_1)]), (.bool false)]) wv_11) ∧
  ((!t34) = false →
    ∃ (t420 : ByteArray) (t421 : Bool) (t422_p : Option Addr) (t422_n : Nat) (t422_c : Nat), Loads P 33 ⟨r, 0, none⟩ (.agg #[(.string t420), (.bool t421), (.slice t422_p t422_n t422_c)]) wv_10 ∧ ∃ (t430 : ByteArray) (t431 : Bool) (t432_p : Option Addr) (t432_n : Nat) (t432_c : Nat), Loads P 33 ⟨r_4, 0, none⟩ (.agg #[(.string t430), (.bool t431), (.slice t432_p t432_n t432_c)]) wv_10 ∧ Calls P 72 ⟨[(.agg #[(.string t420), (.bool t421), (.slice t422_p t422_n t422_c)]), (.agg #[(.string t430), (.bool t431), (.slice t432_p t432_n t432_c)])]⟩ wv_10 fun e_2 wv_12 =>
    ∃ (t440 : ByteArray) (t441 : Bool) (t442_p : Option Addr) (t442_n : Nat) (t442_c : Nat) (t44 : Bool), e_2 = .returned (.tuple #[(.agg #[(.string t440), (.bool t441), (.slice t442_p t442_n t442_c)]), (.bool t44)]) ∧
    ∀ (r_6 : Nat) (wv_13 : World), New wv_12 (.cells ⟨[(.string ByteArray.empty), (.bool false), (.slice none 0 0)]⟩ 33 (0, 0)) r_6 wv_13 →
    ∃ wv_14, Stores P 33 ⟨r_6, 0, none⟩ (.agg #[(.string t440), (.bool t441), (.slice t442_p t442_n t442_c)]) wv_13 wv_14 ∧
    ((!t44) = true →
      ∃ wv_15, Stores P 52 ⟨r_3, 0, none⟩ (.agg #[(.string ByteArray.empty), (.bool false), (.slice none 0 0), (.string ByteArray.empty), (.bool false), (.slice none 0 0), (.string ByteArray.empty), (.bool false), (.slice none 0 0)]) wv_14 wv_15 ∧
      ∃ (r0_3 : ByteArray) (r1_2 : Bool) (r2_p_2 : Option Addr) (r2_n_2 : Nat) (r2_c_2 : Nat) (r3_2 : ByteArray) (r4_2 : Bool) (r5_p_2 : Option Addr) (r5_n_2 : Nat) (r5_c_2 : Nat) (r6_2 : ByteArray) (r7_2 : Bool) (r8_p_2 : Option Addr) (r8_n_2 : Nat) (r8_c_2 : Nat), Loads P 52 ⟨r_3, 0, none⟩ (.agg #[(.string r0_3), (.bool r1_2), (.slice r2_p_2 r2_n_2 r2_c_2), (.string r3_2), (.bool r4_2), (.slice r5_p_2 r5_n_2 r5_c_2), (.string r6_2), (.bool r7_2), (.slice r8_p_2 r8_n_2 r8_c_2)]) wv_15 ∧ R (.tuple #[(.agg #[(.string r0_3), (.bool r1_2), (.slice r2_p_2 r2_n_2 r2_c_2), (.string r3_2), (.bool r4_2), (.slice r5_p_2 r5_n_2 r5_c_2), (.string r6_2), (.bool r7_2), (.slice r8_p_2 r8_n_2 r8_c_2)]), (.bool false)]) wv_15) ∧
    ((!t44) = false →
      ∃ (t510 : Bool) (t511_p : Option Addr) (t511_n : Nat) (t511_c : Nat), Loads P 31 ((⟨r_6, 0, none⟩ : Addr).add 1) (.agg #[(.bool t510), (.slice t511_p t511_n t511_c)]) wv_14 ∧ ∃ (t530 : Bool) (t531_p : Option Addr) (t531_n : Nat) (t531_c : Nat), Loads P 31 ((⟨r_2, 0, none⟩ : Addr).add 1) (.agg #[(.bool t530), (.slice t531_p t531_n t531_c)]) wv_14 ∧ Calls P 73 ⟨[(.agg #[(.bool t510), (.slice t511_p t511_n t511_c)]), (.agg #[(.bool t530), (.slice t531_p t531_n t531_c)])]⟩ wv_14 fun e_3 wv_16 =>
      ∃ (t54 : Int), e_3 = .returned (.int .i64 t54) ∧
      ((decide ((t54 : Int) < 0)) = true →
        ∃ (t560 : ByteArray) (t561 : Bool) (t562_p : Option Addr) (t562_n : Nat) (t562_c : Nat), Loads P 33 ⟨r_6, 0, none⟩ (.agg #[(.string t560), (.bool t561), (.slice t562_p t562_n t562_c)]) wv_16 ∧ ∃ wv_17, Stores P 33 ⟨r_2, 0, none⟩ (.agg #[(.string t560), (.bool t561), (.slice t562_p t562_n t562_c)]) wv_16 wv_17 ∧
        impl_NextRow_j1 r_2 r_3 r_4 r_6 wv_17 R) ∧
      ((decide ((t54 : Int) < 0)) = false →
        impl_NextRow_j1 r_2 r_3 r_4 r_6 wv_16 R)))
def impl_NextRow (left0 : ByteArray) (left1 : Bool) (left2_p : Option Addr) (left2_n : Nat) (left2_c : Nat) (r0 : Bool) (r1_p : Option Addr) (r1_n : Nat) (r1_c : Nat) (r2 : Int) (pay0 : ByteArray) (pay1 : Bool) (pay2_p : Option Addr) (pay2_n : Nat) (pay2_c : Nat) (mode : Int) (w : World) (R : Value → World → Prop) : Prop :=
  ∀ (r : Nat) (wv : World), New w (.cells ⟨[(.string left0), (.bool left1), (.slice left2_p left2_n left2_c)]⟩ 33 (0, 0)) r wv →
  ∀ (r_1 : Nat) (wv_1 : World), New wv (.cells ⟨[(.bool r0), (.slice r1_p r1_n r1_c), (.int .i64 r2)]⟩ 40 (0, 0)) r_1 wv_1 →
  ∀ (r_2 : Nat) (wv_2 : World), New wv_1 (.cells ⟨[(.string pay0), (.bool pay1), (.slice pay2_p pay2_n pay2_c)]⟩ 33 (0, 0)) r_2 wv_2 →
  ∀ (r_3 : Nat) (wv_3 : World), New wv_2 (.cells ⟨[(.string ByteArray.empty), (.bool false), (.slice none 0 0), (.string ByteArray.empty), (.bool false), (.slice none 0 0), (.string ByteArray.empty), (.bool false), (.slice none 0 0)]⟩ 52 (0, 0)) r_3 wv_3 →
  ∃ (t150 : ByteArray) (t151 : Bool) (t152_p : Option Addr) (t152_n : Nat) (t152_c : Nat), Loads P 33 ⟨r, 0, none⟩ (.agg #[(.string t150), (.bool t151), (.slice t152_p t152_n t152_c)]) wv_3 ∧ ∃ (t160 : ByteArray) (t161 : Bool) (t162_p : Option Addr) (t162_n : Nat) (t162_c : Nat), Loads P 33 ⟨r_2, 0, none⟩ (.agg #[(.string t160), (.bool t161), (.slice t162_p t162_n t162_c)]) wv_3 ∧ Calls P 71 ⟨[(.agg #[(.string t150), (.bool t151), (.slice t152_p t152_n t152_c)]), (.agg #[(.string t160), (.bool t161), (.slice t162_p t162_n t162_c)])]⟩ wv_3 fun e wv_4 =>
  ∃ (t17 : Bool), e = .returned (.bool t17) ∧
  ((!t17) = true →
    (true = true →
      (true = true →
        ∃ wv_5, Stores P 52 ⟨r_3, 0, none⟩ (.agg #[(.string ByteArray.empty), (.bool false), (.slice none 0 0), (.string ByteArray.empty), (.bool false), (.slice none 0 0), (.string ByteArray.empty), (.bool false), (.slice none 0 0)]) wv_4 wv_5 ∧
        ∃ (r0_1 : ByteArray) (r1 : Bool) (r2_p : Option Addr) (r2_n : Nat) (r2_c : Nat) (r3 : ByteArray) (r4 : Bool) (r5_p : Option Addr) (r5_n : Nat) (r5_c : Nat) (r6 : ByteArray) (r7 : Bool) (r8_p : Option Addr) (r8_n : Nat) (r8_c : Nat), Loads P 52 ⟨r_3, 0, none⟩ (.agg #[(.string r0_1), (.bool r1), (.slice r2_p r2_n r2_c), (.string r3), (.bool r4), (.slice r5_p r5_n r5_c), (.string r6), (.bool r7), (.slice r8_p r8_n r8_c)]) wv_5 ∧ R (.tuple #[(.agg #[(.string r0_1), (.bool r1), (.slice r2_p r2_n r2_c), (.string r3), (.bool r4), (.slice r5_p r5_n r5_c), (.string r6), (.bool r7), (.slice r8_p r8_n r8_c)]), (.bool false)]) wv_5) ∧
      (true = false →
        impl_NextRow_j0 mode r r_1 r_2 r_3 wv_4 R)) ∧
    (true = false →
      ∃ (t27 : Bool), Loads P 4 (((⟨r_2, 0, none⟩ : Addr).add 1).add 0) (.bool t27) wv_4 ∧ (t27 = true →
        ∃ wv_27, Stores P 52 ⟨r_3, 0, none⟩ (.agg #[(.string ByteArray.empty), (.bool false), (.slice none 0 0), (.string ByteArray.empty), (.bool false), (.slice none 0 0), (.string ByteArray.empty), (.bool false), (.slice none 0 0)]) wv_4 wv_27 ∧
        ∃ (r0_6 : ByteArray) (r1_5 : Bool) (r2_p_5 : Option Addr) (r2_n_5 : Nat) (r2_c_5 : Nat) (r3_5 : ByteArray) (r4_5 : Bool) (r5_p_5 : Option Addr) (r5_n_5 : Nat) (r5_c_5 : Nat) (r6_5 : ByteArray) (r7_5 : Bool) (r8_p_5 : Option Addr) (r8_n_5 : Nat) (r8_c_5 : Nat), Loads P 52 ⟨r_3, 0, none⟩ (.agg #[(.string r0_6), (.bool r1_5), (.slice r2_p_5 r2_n_5 r2_c_5), (.string r3_5), (.bool r4_5), (.slice r5_p_5 r5_n_5 r5_c_5), (.string r6_5), (.bool r7_5), (.slice r8_p_5 r8_n_5 r8_c_5)]) wv_27 ∧ R (.tuple #[(.agg #[(.string r0_6), (.bool r1_5), (.slice r2_p_5 r2_n_5 r2_c_5), (.string r3_5), (.bool r4_5), (.slice r5_p_5 r5_n_5 r5_c_5), (.string r6_5), (.bool r7_5), (.slice r8_p_5 r8_n_5 r8_c_5)]), (.bool false)]) wv_27) ∧
      (t27 = false →
        impl_NextRow_j0 mode r r_1 r_2 r_3 wv_4 R))) ∧
  ((!t17) = false →
    ∃ (t22 : Bool), Loads P 4 (((⟨r, 0, none⟩ : Addr).add 1).add 0) (.bool t22) wv_4 ∧ (t22 = true →
      (true = true →
        ∃ wv_28, Stores P 52 ⟨r_3, 0, none⟩ (.agg #[(.string ByteArray.empty), (.bool false), (.slice none 0 0), (.string ByteArray.empty), (.bool false), (.slice none 0 0), (.string ByteArray.empty), (.bool false), (.slice none 0 0)]) wv_4 wv_28 ∧
        ∃ (r0_7 : ByteArray) (r1_6 : Bool) (r2_p_6 : Option Addr) (r2_n_6 : Nat) (r2_c_6 : Nat) (r3_6 : ByteArray) (r4_6 : Bool) (r5_p_6 : Option Addr) (r5_n_6 : Nat) (r5_c_6 : Nat) (r6_6 : ByteArray) (r7_6 : Bool) (r8_p_6 : Option Addr) (r8_n_6 : Nat) (r8_c_6 : Nat), Loads P 52 ⟨r_3, 0, none⟩ (.agg #[(.string r0_7), (.bool r1_6), (.slice r2_p_6 r2_n_6 r2_c_6), (.string r3_6), (.bool r4_6), (.slice r5_p_6 r5_n_6 r5_c_6), (.string r6_6), (.bool r7_6), (.slice r8_p_6 r8_n_6 r8_c_6)]) wv_28 ∧ R (.tuple #[(.agg #[(.string r0_7), (.bool r1_6), (.slice r2_p_6 r2_n_6 r2_c_6), (.string r3_6), (.bool r4_6), (.slice r5_p_6 r5_n_6 r5_c_6), (.string r6_6), (.bool r7_6), (.slice r8_p_6 r8_n_6 r8_c_6)]), (.bool false)]) wv_28) ∧
      (true = false →
        impl_NextRow_j0 mode r r_1 r_2 r_3 wv_4 R)) ∧
    (t22 = false →
      ∃ (t27_1 : Bool), Loads P 4 (((⟨r_2, 0, none⟩ : Addr).add 1).add 0) (.bool t27_1) wv_4 ∧ (t27_1 = true →
        ∃ wv_29, Stores P 52 ⟨r_3, 0, none⟩ (.agg #[(.string ByteArray.empty), (.bool false), (.slice none 0 0), (.string ByteArray.empty), (.bool false), (.slice none 0 0), (.string ByteArray.empty), (.bool false), (.slice none 0 0)]) wv_4 wv_29 ∧
        ∃ (r0_8 : ByteArray) (r1_7 : Bool) (r2_p_7 : Option Addr) (r2_n_7 : Nat) (r2_c_7 : Nat) (r3_7 : ByteArray) (r4_7 : Bool) (r5_p_7 : Option Addr) (r5_n_7 : Nat) (r5_c_7 : Nat) (r6_7 : ByteArray) (r7_7 : Bool) (r8_p_7 : Option Addr) (r8_n_7 : Nat) (r8_c_7 : Nat), Loads P 52 ⟨r_3, 0, none⟩ (.agg #[(.string r0_8), (.bool r1_7), (.slice r2_p_7 r2_n_7 r2_c_7), (.string r3_7), (.bool r4_7), (.slice r5_p_7 r5_n_7 r5_c_7), (.string r6_7), (.bool r7_7), (.slice r8_p_7 r8_n_7 r8_c_7)]) wv_29 ∧ R (.tuple #[(.agg #[(.string r0_8), (.bool r1_7), (.slice r2_p_7 r2_n_7 r2_c_7), (.string r3_7), (.bool r4_7), (.slice r5_p_7 r5_n_7 r5_c_7), (.string r6_7), (.bool r7_7), (.slice r8_p_7 r8_n_7 r8_c_7)]), (.bool false)]) wv_29) ∧
      (t27_1 = false →
        impl_NextRow_j0 mode r r_1 r_2 r_3 wv_4 R)))
theorem impl_NextRow_eq (left0 : ByteArray) (left1 : Bool) (left2_p : Option Addr) (left2_n : Nat) (left2_c : Nat) (r0 : Bool) (r1_p : Option Addr) (r1_n : Nat) (r1_c : Nat) (r2 : Int) (pay0 : ByteArray) (pay1 : Bool) (pay2_p : Option Addr) (pay2_n : Nat) (pay2_c : Nat) (mode : Int) (w : World) (R : Value → World → Prop) : impl_NextRow left0 left1 left2_p left2_n left2_c r0 r1_p r1_n r1_c r2 pay0 pay1 pay2_p pay2_n pay2_c mode w R = fsem P Tryz.f25 (fun k => []) [(.agg #[(.string left0), (.bool left1), (.slice left2_p left2_n left2_c)]), (.agg #[(.bool r0), (.slice r1_p r1_n r1_c), (.int .i64 r2)]), (.agg #[(.string pay0), (.bool pay1), (.slice pay2_p pay2_n pay2_c)]), (.int .i64 mode)] R w := by kernel_rfl
theorem impl_NextRow_ret {left0 : ByteArray} {left1 : Bool} {left2_p : Option Addr} {left2_n : Nat} {left2_c : Nat} {r0 : Bool} {r1_p : Option Addr} {r1_n : Nat} {r1_c : Nat} {r2 : Int} {pay0 : ByteArray} {pay1 : Bool} {pay2_p : Option Addr} {pay2_n : Nat} {pay2_c : Nat} {mode : Int} {w : World} {R : Value → World → Prop} (h : impl_NextRow left0 left1 left2_p left2_n left2_c r0 r1_p r1_n r1_c r2 pay0 pay1 pay2_p pay2_n pay2_c mode w R) : Ret P 25 [(.agg #[(.string left0), (.bool left1), (.slice left2_p left2_n left2_c)]), (.agg #[(.bool r0), (.slice r1_p r1_n r1_c), (.int .i64 r2)]), (.agg #[(.string pay0), (.bool pay1), (.slice pay2_p pay2_n pay2_c)]), (.int .i64 mode)] w R :=
  Ret.of_fsem Tryz.func25 rfl (Eq.mp (impl_NextRow_eq left0 left1 left2_p left2_n left2_c r0 r1_p r1_n r1_c r2 pay0 pay1 pay2_p pay2_n pay2_c mode w R) h)
def spec_MoneyOk (m0 : ByteArray) (m1 : Bool) (m2_p : Option Addr) (m2_n : Nat) (m2_c : Nat) (w : World) (R : Value → World → Prop) : Prop :=
  ∀ (r : Nat) (wv : World), New w (.cells ⟨[(.string m0), (.bool m1), (.slice m2_p m2_n m2_c)]⟩ 33 (0, 0)) r wv →
  ∃ (t4 : ByteArray), Loads P 9 ((⟨r, 0, none⟩ : Addr).add 0) (.string t4) wv ∧ Calls P 81 ⟨[(.string t4)]⟩ wv fun e wv_1 =>
  ∃ (t5 : Bool), e = .returned (.bool t5) ∧
  (t5 = true →
    ∃ (t80 : Bool) (t81_p : Option Addr) (t81_n : Nat) (t81_c : Nat), Loads P 31 ((⟨r, 0, none⟩ : Addr).add 1) (.agg #[(.bool t80), (.slice t81_p t81_n t81_c)]) wv_1 ∧ Calls P 82 ⟨[(.agg #[(.bool t80), (.slice t81_p t81_n t81_c)])]⟩ wv_1 fun e_1 wv_2 =>
    ∃ (t9 : Bool), e_1 = .returned (.bool t9) ∧
    (t9 = true →
      ∃ (t14_p : Option Addr) (t14_n : Nat) (t14_c : Nat), Loads P 22 (((⟨r, 0, none⟩ : Addr).add 1).add 1) (.slice t14_p t14_n t14_c) wv_2 ∧ R (.bool (decide ((((t14_n : Nat) : Int) : Int) ≤ 4))) wv_2) ∧
    (t9 = false →
      R (.bool false) wv_2)) ∧
  (t5 = false →
    (false = true →
      ∃ (t14_p_1 : Option Addr) (t14_n_1 : Nat) (t14_c_1 : Nat), Loads P 22 (((⟨r, 0, none⟩ : Addr).add 1).add 1) (.slice t14_p_1 t14_n_1 t14_c_1) wv_1 ∧ R (.bool (decide ((((t14_n_1 : Nat) : Int) : Int) ≤ 4))) wv_1) ∧
    (false = false →
      R (.bool false) wv_1))
theorem spec_MoneyOk_eq (m0 : ByteArray) (m1 : Bool) (m2_p : Option Addr) (m2_n : Nat) (m2_c : Nat) (w : World) (R : Value → World → Prop) : spec_MoneyOk m0 m1 m2_p m2_n m2_c w R = fsem P Tryz.f38 (fun k => []) [(.agg #[(.string m0), (.bool m1), (.slice m2_p m2_n m2_c)])] R w := by kernel_rfl
theorem spec_MoneyOk_ret {m0 : ByteArray} {m1 : Bool} {m2_p : Option Addr} {m2_n : Nat} {m2_c : Nat} {w : World} {R : Value → World → Prop} (h : spec_MoneyOk m0 m1 m2_p m2_n m2_c w R) : Ret P 38 [(.agg #[(.string m0), (.bool m1), (.slice m2_p m2_n m2_c)])] w R :=
  Ret.of_fsem Tryz.func38 rfl (Eq.mp (spec_MoneyOk_eq m0 m1 m2_p m2_n m2_c w R) h)
end Go.Proofs.YtfemmmbkhhemaaaGreatDoor

namespace Go.Proofs.YtfemmmbkhhemaaaGreatDoor
open Go Go.Proofs.YtfemmmbkhhemaaaGreatDoor.Sx
set_option linter.unusedVariables false
set_option maxRecDepth 100000
def spec_TaxRateOk (r0 : Bool) (r1_p : Option Addr) (r1_n : Nat) (r1_c : Nat) (r2 : Int) (w : World) (R : Value → World → Prop) : Prop :=
  ∀ (r : Nat) (wv : World), New w (.cells ⟨[(.bool r0), (.slice r1_p r1_n r1_c), (.int .i64 r2)]⟩ 40 (0, 0)) r wv →
  ∃ (t30 : Bool) (t31_p : Option Addr) (t31_n : Nat) (t31_c : Nat) (t32 : Int), (∀ wv_1, Ext wv.drew wv_1 → Loads P 40 ⟨r, 0, none⟩ (.agg #[(.bool t30), (.slice t31_p t31_n t31_c), (.int .i64 t32)]) wv_1) ∧ Calls P 83 ⟨[(.agg #[(.bool t30), (.slice t31_p t31_n t31_c), (.int .i64 t32)])]⟩ wv.drew fun e wv_2 =>
  ∃ (t4 : Bool), e = .returned (.bool t4) ∧
  (t4 = true →
    ∃ (t8 : Bool), (∀ wv_3, Ext wv_2 wv_3 → Loads P 4 (((⟨r, 0, none⟩ : Addr).add 0).add 0) (.bool t8) wv_3) ∧ ((!t8) = true →
      ∃ (t14_p : Option Addr) (t14_n : Nat) (t14_c : Nat), (∀ wv_4, Ext wv_2 wv_4 → Loads P 22 (((⟨r, 0, none⟩ : Addr).add 0).add 1) (.slice t14_p t14_n t14_c) wv_4) ∧ ((decide ((((t14_n : Nat) : Int) : Int) ≤ 1)) = true →
        ∃ (t190 : Bool) (t191_p : Option Addr) (t191_n : Nat) (t191_c : Nat) (t192 : Int), (∀ wv_5, Ext wv_2 wv_5 → Loads P 40 ⟨r, 0, none⟩ (.agg #[(.bool t190), (.slice t191_p t191_n t191_c), (.int .i64 t192)]) wv_5) ∧ Calls P 58 ⟨[(.int .i64 1)]⟩ wv_2 fun e_1 wv_6 =>
        ∃ (t200 : Bool) (t201_p : Option Addr) (t201_n : Nat) (t201_c : Nat), e_1 = .returned (.agg #[(.bool t200), (.slice t201_p t201_n t201_c)]) ∧
        Ext wv_2 wv_6 ∧ Calls P 84 ⟨[(.agg #[(.bool t190), (.slice t191_p t191_n t191_c), (.int .i64 t192)]), (.agg #[(.bool t200), (.slice t201_p t201_n t201_c), (.int .i64 0)])]⟩ wv_6 fun e_2 wv_7 =>
        ∃ (t22 : Int), e_2 = .returned (.int .i64 t22) ∧
        R (.bool (decide ((t22 : Int) ≤ 0))) wv_7) ∧
      ((decide ((((t14_n : Nat) : Int) : Int) ≤ 1)) = false →
        R (.bool false) wv_2)) ∧
    ((!t8) = false →
      (false = true →
        ∃ (t190_1 : Bool) (t191_p_1 : Option Addr) (t191_n_1 : Nat) (t191_c_1 : Nat) (t192_1 : Int), (∀ wv_8, Ext wv_2 wv_8 → Loads P 40 ⟨r, 0, none⟩ (.agg #[(.bool t190_1), (.slice t191_p_1 t191_n_1 t191_c_1), (.int .i64 t192_1)]) wv_8) ∧ Calls P 58 ⟨[(.int .i64 1)]⟩ wv_2 fun e_3 wv_9 =>
        ∃ (t200_1 : Bool) (t201_p_1 : Option Addr) (t201_n_1 : Nat) (t201_c_1 : Nat), e_3 = .returned (.agg #[(.bool t200_1), (.slice t201_p_1 t201_n_1 t201_c_1)]) ∧
        Ext wv_2 wv_9 ∧ Calls P 84 ⟨[(.agg #[(.bool t190_1), (.slice t191_p_1 t191_n_1 t191_c_1), (.int .i64 t192_1)]), (.agg #[(.bool t200_1), (.slice t201_p_1 t201_n_1 t201_c_1), (.int .i64 0)])]⟩ wv_9 fun e_4 wv_10 =>
        ∃ (t22_1 : Int), e_4 = .returned (.int .i64 t22_1) ∧
        R (.bool (decide ((t22_1 : Int) ≤ 0))) wv_10) ∧
      (false = false →
        R (.bool false) wv_2))) ∧
  (t4 = false →
    (false = true →
      ∃ (t14_p_1 : Option Addr) (t14_n_1 : Nat) (t14_c_1 : Nat), (∀ wv_11, Ext wv_2 wv_11 → Loads P 22 (((⟨r, 0, none⟩ : Addr).add 0).add 1) (.slice t14_p_1 t14_n_1 t14_c_1) wv_11) ∧ ((decide ((((t14_n_1 : Nat) : Int) : Int) ≤ 1)) = true →
        ∃ (t190_2 : Bool) (t191_p_2 : Option Addr) (t191_n_2 : Nat) (t191_c_2 : Nat) (t192_2 : Int), (∀ wv_12, Ext wv_2 wv_12 → Loads P 40 ⟨r, 0, none⟩ (.agg #[(.bool t190_2), (.slice t191_p_2 t191_n_2 t191_c_2), (.int .i64 t192_2)]) wv_12) ∧ Calls P 58 ⟨[(.int .i64 1)]⟩ wv_2 fun e_5 wv_13 =>
        ∃ (t200_2 : Bool) (t201_p_2 : Option Addr) (t201_n_2 : Nat) (t201_c_2 : Nat), e_5 = .returned (.agg #[(.bool t200_2), (.slice t201_p_2 t201_n_2 t201_c_2)]) ∧
        Ext wv_2 wv_13 ∧ Calls P 84 ⟨[(.agg #[(.bool t190_2), (.slice t191_p_2 t191_n_2 t191_c_2), (.int .i64 t192_2)]), (.agg #[(.bool t200_2), (.slice t201_p_2 t201_n_2 t201_c_2), (.int .i64 0)])]⟩ wv_13 fun e_6 wv_14 =>
        ∃ (t22_2 : Int), e_6 = .returned (.int .i64 t22_2) ∧
        R (.bool (decide ((t22_2 : Int) ≤ 0))) wv_14) ∧
      ((decide ((((t14_n_1 : Nat) : Int) : Int) ≤ 1)) = false →
        R (.bool false) wv_2)) ∧
    (false = false →
      (false = true →
        ∃ (t190_3 : Bool) (t191_p_3 : Option Addr) (t191_n_3 : Nat) (t191_c_3 : Nat) (t192_3 : Int), (∀ wv_15, Ext wv_2 wv_15 → Loads P 40 ⟨r, 0, none⟩ (.agg #[(.bool t190_3), (.slice t191_p_3 t191_n_3 t191_c_3), (.int .i64 t192_3)]) wv_15) ∧ Calls P 58 ⟨[(.int .i64 1)]⟩ wv_2 fun e_7 wv_16 =>
        ∃ (t200_3 : Bool) (t201_p_3 : Option Addr) (t201_n_3 : Nat) (t201_c_3 : Nat), e_7 = .returned (.agg #[(.bool t200_3), (.slice t201_p_3 t201_n_3 t201_c_3)]) ∧
        Ext wv_2 wv_16 ∧ Calls P 84 ⟨[(.agg #[(.bool t190_3), (.slice t191_p_3 t191_n_3 t191_c_3), (.int .i64 t192_3)]), (.agg #[(.bool t200_3), (.slice t201_p_3 t201_n_3 t201_c_3), (.int .i64 0)])]⟩ wv_16 fun e_8 wv_17 =>
        ∃ (t22_3 : Int), e_8 = .returned (.int .i64 t22_3) ∧
        R (.bool (decide ((t22_3 : Int) ≤ 0))) wv_17) ∧
      (false = false →
        R (.bool false) wv_2)))
theorem spec_TaxRateOk_eq (r0 : Bool) (r1_p : Option Addr) (r1_n : Nat) (r1_c : Nat) (r2 : Int) (w : World) (R : Value → World → Prop) : spec_TaxRateOk r0 r1_p r1_n r1_c r2 w R = fsem P Tryz.f39 (fun k => []) [(.agg #[(.bool r0), (.slice r1_p r1_n r1_c), (.int .i64 r2)])] R w := by kernel_rfl
theorem spec_TaxRateOk_ret {r0 : Bool} {r1_p : Option Addr} {r1_n : Nat} {r1_c : Nat} {r2 : Int} {w : World} {R : Value → World → Prop} (h : spec_TaxRateOk r0 r1_p r1_n r1_c r2 w R) : Ret P 39 [(.agg #[(.bool r0), (.slice r1_p r1_n r1_c), (.int .i64 r2)])] w R :=
  Ret.of_fsem Tryz.func39 rfl (Eq.mp (spec_TaxRateOk_eq r0 r1_p r1_n r1_c r2 w R) h)
def spec_RatMul_j0 (r : Nat) (r_1 : Nat) (r_2 : Nat) (W : World) (R : Value → World → Prop) : Prop :=
  ∃ (t17 : Bool), (∀ wv_5, Ext W.drew wv_5 → Loads P 4 (((⟨r, 0, none⟩ : Addr).add 0).add 0) (.bool t17) wv_5) ∧ ∃ (t20 : Bool), (∀ wv_6, Ext W.drew wv_6 → Loads P 4 (((⟨r_1, 0, none⟩ : Addr).add 0).add 0) (.bool t20) wv_6) ∧ ∃ (t24_p : Option Addr) (t24_n : Nat) (t24_c : Nat), (∀ wv_7, Ext W.drew wv_7 → Loads P 22 (((⟨r, 0, none⟩ : Addr).add 0).add 1) (.slice t24_p t24_n t24_c) wv_7) ∧ ∃ (t27_p : Option Addr) (t27_n : Nat) (t27_c : Nat), (∀ wv_8, Ext W.drew wv_8 → Loads P 22 (((⟨r_1, 0, none⟩ : Addr).add 0).add 1) (.slice t27_p t27_n t27_c) wv_8) ∧ Calls P 87 ⟨[(.slice t24_p t24_n t24_c), (.slice t27_p t27_n t27_c)]⟩ W.drew fun e_1 wv_9 =>
  ∃ (t28_p : Option Addr) (t28_n : Nat) (t28_c : Nat), e_1 = .returned (.slice t28_p t28_n t28_c) ∧
  Ext W.drew wv_9 ∧ ∃ (t30_p : Option Addr) (t30_n : Nat) (t30_c : Nat), (∀ wv_10, Ext W.drew wv_10 → Loads P 22 ((⟨r, 0, none⟩ : Addr).add 2) (.slice t30_p t30_n t30_c) wv_10) ∧ ∃ (t32_p : Option Addr) (t32_n : Nat) (t32_c : Nat), (∀ wv_11, Ext W.drew wv_11 → Loads P 22 ((⟨r_1, 0, none⟩ : Addr).add 2) (.slice t32_p t32_n t32_c) wv_11) ∧ Calls P 87 ⟨[(.slice t30_p t30_n t30_c), (.slice t32_p t32_n t32_c)]⟩ wv_9 fun e_2 wv_12 =>
  ∃ (t33_p : Option Addr) (t33_n : Nat) (t33_c : Nat), e_2 = .returned (.slice t33_p t33_n t33_c) ∧
  Ext wv_9 wv_12 ∧ Calls P 86 ⟨[(.bool (!(t17 == t20))), (.slice t28_p t28_n t28_c), (.slice t33_p t33_n t33_c)]⟩ wv_12 fun e_3 wv_13 =>
  ∃ (t340 : Bool) (t341_p : Option Addr) (t341_n : Nat) (t341_c : Nat) (t342_p : Option Addr) (t342_n : Nat) (t342_c : Nat) (t34 : Bool), e_3 = .returned (.tuple #[(.agg #[(.bool t340), (.slice t341_p t341_n t341_c), (.slice t342_p t342_n t342_c)]), (.bool t34)]) ∧
  ∃ wv_14, Stores P 35 ⟨r_2, 0, none⟩ (.agg #[(.bool t340), (.slice t341_p t341_n t341_c), (.slice t342_p t342_n t342_c)]) wv_13 wv_14 ∧
  ∃ (r0_2 : Bool) (r1_p_2 : Option Addr) (r1_n_2 : Nat) (r1_c_2 : Nat) (r2_p_2 : Option Addr) (r2_n_2 : Nat) (r2_c_2 : Nat), Loads P 35 ⟨r_2, 0, none⟩ (.agg #[(.bool r0_2), (.slice r1_p_2 r1_n_2 r1_c_2), (.slice r2_p_2 r2_n_2 r2_c_2)]) wv_14 ∧ R (.tuple #[(.agg #[(.bool r0_2), (.slice r1_p_2 r1_n_2 r1_c_2), (.slice r2_p_2 r2_n_2 r2_c_2)]), (.bool t34)]) wv_14
def spec_RatMul (r0 : Bool) (r1_p : Option Addr) (r1_n : Nat) (r1_c : Nat) (r2_p : Option Addr) (r2_n : Nat) (r2_c : Nat) (s0 : Bool) (s1_p : Option Addr) (s1_n : Nat) (s1_c : Nat) (s2_p : Option Addr) (s2_n : Nat) (s2_c : Nat) (w : World) (R : Value → World → Prop) : Prop :=
  ∀ (r : Nat) (wv : World), New w (.cells ⟨[(.bool r0), (.slice r1_p r1_n r1_c), (.slice r2_p r2_n r2_c)]⟩ 35 (0, 0)) r wv →
  ∀ (r_1 : Nat) (wv_1 : World), New wv (.cells ⟨[(.bool s0), (.slice s1_p s1_n s1_c), (.slice s2_p s2_n s2_c)]⟩ 35 (0, 0)) r_1 wv_1 →
  ∀ (r_2 : Nat) (wv_2 : World), New wv_1 (.cells ⟨[(.bool false), (.slice none 0 0), (.slice none 0 0)]⟩ 35 (0, 0)) r_2 wv_2 →
  ∃ (t60 : Bool) (t61_p : Option Addr) (t61_n : Nat) (t61_c : Nat) (t62_p : Option Addr) (t62_n : Nat) (t62_c : Nat), Loads P 35 ⟨r, 0, none⟩ (.agg #[(.bool t60), (.slice t61_p t61_n t61_c), (.slice t62_p t62_n t62_c)]) wv_2 ∧ Calls P 85 ⟨[(.agg #[(.bool t60), (.slice t61_p t61_n t61_c), (.slice t62_p t62_n t62_c)])]⟩ wv_2 fun e wv_3 =>
  ∃ (t7 : Bool), e = .returned (.bool t7) ∧
  ((!t7) = true →
    (true = true →
      ∃ wv_4, Stores P 35 ⟨r_2, 0, none⟩ (.agg #[(.bool false), (.slice none 0 0), (.slice none 0 0)]) wv_3 wv_4 ∧
      ∃ (r0_1 : Bool) (r1_p_1 : Option Addr) (r1_n_1 : Nat) (r1_c_1 : Nat) (r2_p_1 : Option Addr) (r2_n_1 : Nat) (r2_c_1 : Nat), Loads P 35 ⟨r_2, 0, none⟩ (.agg #[(.bool r0_1), (.slice r1_p_1 r1_n_1 r1_c_1), (.slice r2_p_1 r2_n_1 r2_c_1)]) wv_4 ∧ R (.tuple #[(.agg #[(.bool r0_1), (.slice r1_p_1 r1_n_1 r1_c_1), (.slice r2_p_1 r2_n_1 r2_c_1)]), (.bool false)]) wv_4) ∧
    (true = false →
      spec_RatMul_j0 r r_1 r_2 wv_3 R)) ∧
  ((!t7) = false →
    ∃ (t100 : Bool) (t101_p : Option Addr) (t101_n : Nat) (t101_c : Nat) (t102_p : Option Addr) (t102_n : Nat) (t102_c : Nat), Loads P 35 ⟨r_1, 0, none⟩ (.agg #[(.bool t100), (.slice t101_p t101_n t101_c), (.slice t102_p t102_n t102_c)]) wv_3 ∧ Calls P 85 ⟨[(.agg #[(.bool t100), (.slice t101_p t101_n t101_c), (.slice t102_p t102_n t102_c)])]⟩ wv_3 fun e_4 wv_15 =>
    ∃ (t11 : Bool), e_4 = .returned (.bool t11) ∧
    ((!t11) = true →
      ∃ wv_16, Stores P 35 ⟨r_2, 0, none⟩ (.agg #[(.bool false), (.slice none 0 0), (.slice none 0 0)]) wv_15 wv_16 ∧
      ∃ (r0_3 : Bool) (r1_p_3 : Option Addr) (r1_n_3 : Nat) (r1_c_3 : Nat) (r2_p_3 : Option Addr) (r2_n_3 : Nat) (r2_c_3 : Nat), Loads P 35 ⟨r_2, 0, none⟩ (.agg #[(.bool r0_3), (.slice r1_p_3 r1_n_3 r1_c_3), (.slice r2_p_3 r2_n_3 r2_c_3)]) wv_16 ∧ R (.tuple #[(.agg #[(.bool r0_3), (.slice r1_p_3 r1_n_3 r1_c_3), (.slice r2_p_3 r2_n_3 r2_c_3)]), (.bool false)]) wv_16) ∧
    ((!t11) = false →
      spec_RatMul_j0 r r_1 r_2 wv_15 R))
theorem spec_RatMul_eq (r0 : Bool) (r1_p : Option Addr) (r1_n : Nat) (r1_c : Nat) (r2_p : Option Addr) (r2_n : Nat) (r2_c : Nat) (s0 : Bool) (s1_p : Option Addr) (s1_n : Nat) (s1_c : Nat) (s2_p : Option Addr) (s2_n : Nat) (s2_c : Nat) (w : World) (R : Value → World → Prop) : spec_RatMul r0 r1_p r1_n r1_c r2_p r2_n r2_c s0 s1_p s1_n s1_c s2_p s2_n s2_c w R = fsem P Tryz.f40 (fun k => []) [(.agg #[(.bool r0), (.slice r1_p r1_n r1_c), (.slice r2_p r2_n r2_c)]), (.agg #[(.bool s0), (.slice s1_p s1_n s1_c), (.slice s2_p s2_n s2_c)])] R w := by kernel_rfl
theorem spec_RatMul_ret {r0 : Bool} {r1_p : Option Addr} {r1_n : Nat} {r1_c : Nat} {r2_p : Option Addr} {r2_n : Nat} {r2_c : Nat} {s0 : Bool} {s1_p : Option Addr} {s1_n : Nat} {s1_c : Nat} {s2_p : Option Addr} {s2_n : Nat} {s2_c : Nat} {w : World} {R : Value → World → Prop} (h : spec_RatMul r0 r1_p r1_n r1_c r2_p r2_n r2_c s0 s1_p s1_n s1_c s2_p s2_n s2_c w R) : Ret P 40 [(.agg #[(.bool r0), (.slice r1_p r1_n r1_c), (.slice r2_p r2_n r2_c)]), (.agg #[(.bool s0), (.slice s1_p s1_n s1_c), (.slice s2_p s2_n s2_c)])] w R :=
  Ret.of_fsem Tryz.func40 rfl (Eq.mp (spec_RatMul_eq r0 r1_p r1_n r1_c r2_p r2_n r2_c s0 s1_p s1_n s1_c s2_p s2_n s2_c w R) h)
def spec_MoneyRat (m0 : ByteArray) (m1 : Bool) (m2_p : Option Addr) (m2_n : Nat) (m2_c : Nat) (w : World) (R : Value → World → Prop) : Prop :=
  ∀ (r : Nat) (wv : World), New w (.cells ⟨[(.string m0), (.bool m1), (.slice m2_p m2_n m2_c)]⟩ 33 (0, 0)) r wv →
  ∀ (r_1 : Nat) (wv_1 : World), New wv (.cells ⟨[(.bool false), (.slice none 0 0), (.slice none 0 0)]⟩ 35 (0, 0)) r_1 wv_1 →
  ∃ (t50 : ByteArray) (t51 : Bool) (t52_p : Option Addr) (t52_n : Nat) (t52_c : Nat), Loads P 33 ⟨r, 0, none⟩ (.agg #[(.string t50), (.bool t51), (.slice t52_p t52_n t52_c)]) wv_1 ∧ Calls P 38 ⟨[(.agg #[(.string t50), (.bool t51), (.slice t52_p t52_n t52_c)])]⟩ wv_1 fun e wv_2 =>
  ∃ (t6 : Bool), e = .returned (.bool t6) ∧
  ((!t6) = true →
    ∃ wv_3, Stores P 35 ⟨r_1, 0, none⟩ (.agg #[(.bool false), (.slice none 0 0), (.slice none 0 0)]) wv_2 wv_3 ∧
    ∃ (r0 : Bool) (r1_p : Option Addr) (r1_n : Nat) (r1_c : Nat) (r2_p : Option Addr) (r2_n : Nat) (r2_c : Nat), Loads P 35 ⟨r_1, 0, none⟩ (.agg #[(.bool r0), (.slice r1_p r1_n r1_c), (.slice r2_p r2_n r2_c)]) wv_3 ∧ R (.agg #[(.bool r0), (.slice r1_p r1_n r1_c), (.slice r2_p r2_n r2_c)]) wv_3) ∧
  ((!t6) = false →
    ∃ (t110 : Bool) (t111_p : Option Addr) (t111_n : Nat) (t111_c : Nat), Loads P 31 ((⟨r, 0, none⟩ : Addr).add 1) (.agg #[(.bool t110), (.slice t111_p t111_n t111_c)]) wv_2 ∧ Calls P 57 ⟨[(.agg #[(.bool t110), (.slice t111_p t111_n t111_c)])]⟩ wv_2 fun e_1 wv_4 =>
    ∃ (t120 : Bool) (t121_p : Option Addr) (t121_n : Nat) (t121_c : Nat) (t122_p : Option Addr) (t122_n : Nat) (t122_c : Nat) (t12 : Bool), e_1 = .returned (.tuple #[(.agg #[(.bool t120), (.slice t121_p t121_n t121_c), (.slice t122_p t122_n t122_c)]), (.bool t12)]) ∧
    ∀ (r_2 : Nat) (wv_5 : World), New wv_4 (.cells ⟨[(.bool false), (.slice none 0 0), (.slice none 0 0)]⟩ 35 (0, 0)) r_2 wv_5 →
    ∃ wv_6, Stores P 35 ⟨r_2, 0, none⟩ (.agg #[(.bool t120), (.slice t121_p t121_n t121_c), (.slice t122_p t122_n t122_c)]) wv_5 wv_6 ∧
    ∃ (t150 : Bool) (t151_p : Option Addr) (t151_n : Nat) (t151_c : Nat) (t152_p : Option Addr) (t152_n : Nat) (t152_c : Nat), Loads P 35 ⟨r_2, 0, none⟩ (.agg #[(.bool t150), (.slice t151_p t151_n t151_c), (.slice t152_p t152_n t152_c)]) wv_6 ∧ ∃ wv_7, Stores P 35 ⟨r_1, 0, none⟩ (.agg #[(.bool t150), (.slice t151_p t151_n t151_c), (.slice t152_p t152_n t152_c)]) wv_6 wv_7 ∧
    ∃ (r0_1 : Bool) (r1_p_1 : Option Addr) (r1_n_1 : Nat) (r1_c_1 : Nat) (r2_p_1 : Option Addr) (r2_n_1 : Nat) (r2_c_1 : Nat), Loads P 35 ⟨r_1, 0, none⟩ (.agg #[(.bool r0_1), (.slice r1_p_1 r1_n_1 r1_c_1), (.slice r2_p_1 r2_n_1 r2_c_1)]) wv_7 ∧ R (.agg #[(.bool r0_1), (.slice r1_p_1 r1_n_1 r1_c_1), (.slice r2_p_1 r2_n_1 r2_c_1)]) wv_7)
theorem spec_MoneyRat_eq (m0 : ByteArray) (m1 : Bool) (m2_p : Option Addr) (m2_n : Nat) (m2_c : Nat) (w : World) (R : Value → World → Prop) : spec_MoneyRat m0 m1 m2_p m2_n m2_c w R = fsem P Tryz.f41 (fun k => []) [(.agg #[(.string m0), (.bool m1), (.slice m2_p m2_n m2_c)])] R w := by kernel_rfl
theorem spec_MoneyRat_ret {m0 : ByteArray} {m1 : Bool} {m2_p : Option Addr} {m2_n : Nat} {m2_c : Nat} {w : World} {R : Value → World → Prop} (h : spec_MoneyRat m0 m1 m2_p m2_n m2_c w R) : Ret P 41 [(.agg #[(.string m0), (.bool m1), (.slice m2_p m2_n m2_c)])] w R :=
  Ret.of_fsem Tryz.func41 rfl (Eq.mp (spec_MoneyRat_eq m0 m1 m2_p m2_n m2_c w R) h)
def spec_DecRat (d0 : Bool) (d1_p : Option Addr) (d1_n : Nat) (d1_c : Nat) (d2 : Int) (w : World) (R : Value → World → Prop) : Prop :=
  ∀ (r : Nat) (wv : World), New w (.cells ⟨[(.bool d0), (.slice d1_p d1_n d1_c), (.int .i64 d2)]⟩ 40 (0, 0)) r wv →
  ∀ (r_1 : Nat) (wv_1 : World), New wv (.cells ⟨[(.bool false), (.slice none 0 0), (.slice none 0 0)]⟩ 35 (0, 0)) r_1 wv_1 →
  ∃ (t50 : Bool) (t51_p : Option Addr) (t51_n : Nat) (t51_c : Nat) (t52 : Int), Loads P 40 ⟨r, 0, none⟩ (.agg #[(.bool t50), (.slice t51_p t51_n t51_c), (.int .i64 t52)]) wv_1 ∧ Calls P 83 ⟨[(.agg #[(.bool t50), (.slice t51_p t51_n t51_c), (.int .i64 t52)])]⟩ wv_1 fun e wv_2 =>
  ∃ (t6 : Bool), e = .returned (.bool t6) ∧
  ((!t6) = true →
    ∃ wv_3, Stores P 35 ⟨r_1, 0, none⟩ (.agg #[(.bool false), (.slice none 0 0), (.slice none 0 0)]) wv_2 wv_3 ∧
    ∃ (r0 : Bool) (r1_p : Option Addr) (r1_n : Nat) (r1_c : Nat) (r2_p : Option Addr) (r2_n : Nat) (r2_c : Nat), Loads P 35 ⟨r_1, 0, none⟩ (.agg #[(.bool r0), (.slice r1_p r1_n r1_c), (.slice r2_p r2_n r2_c)]) wv_3 ∧ R (.agg #[(.bool r0), (.slice r1_p r1_n r1_c), (.slice r2_p r2_n r2_c)]) wv_3) ∧
  ((!t6) = false →
    ∃ (t110 : Bool) (t111_p : Option Addr) (t111_n : Nat) (t111_c : Nat), (∀ wv_4, Ext wv_2.drew wv_4 → Loads P 31 ((⟨r, 0, none⟩ : Addr).add 0) (.agg #[(.bool t110), (.slice t111_p t111_n t111_c)]) wv_4) ∧ ∃ (t13 : Int), (∀ wv_5, Ext wv_2.drew wv_5 → Loads P 3 ((⟨r, 0, none⟩ : Addr).add 2) (.int .i64 t13) wv_5) ∧ ∀ (ss : List (Option Nat)) (wv_6 : World), Fl [.cells ⟨[(.bool false), (.slice none 0 0), (.slice none 0 0)]⟩ 35 (0, 0)] [none] wv_2.drew ss wv_6 →
    Calls P 89 ⟨[(.int .i64 t13)]⟩ wv_6 fun e_1 wv_7 =>
    ∃ (t140 : Bool) (t141_p : Option Addr) (t141_n : Nat) (t141_c : Nat), e_1 = .returned (.agg #[(.bool t140), (.slice t141_p t141_n t141_c)]) ∧
    Ext wv_6 wv_7 ∧ ∀ (ss_1 : List (Option Nat)) (wv_8 : World), Fl [.cells ⟨[(.bool false), (.slice none 0 0), (.slice none 0 0)]⟩ 35 (0, 0)] ss wv_7 ss_1 wv_8 →
    Calls P 88 ⟨[(.agg #[(.bool t110), (.slice t111_p t111_n t111_c)]), (.agg #[(.bool t140), (.slice t141_p t141_n t141_c)])]⟩ wv_8 fun e_2 wv_9 =>
    ∃ (t150 : Bool) (t151_p : Option Addr) (t151_n : Nat) (t151_c : Nat) (t152_p : Option Addr) (t152_n : Nat) (t152_c : Nat) (t15 : Bool), e_2 = .returned (.tuple #[(.agg #[(.bool t150), (.slice t151_p t151_n t151_c), (.slice t152_p t152_n t152_c)]), (.bool t15)]) ∧
    ∀ (ss_2 : List (Option Nat)) (wv_10 : World) (r_2 : Nat), Fl [.cells ⟨[(.bool false), (.slice none 0 0), (.slice none 0 0)]⟩ 35 (0, 0)] ss_1 wv_9 ss_2 wv_10 → ss_2[0]? = some (some r_2) →
    ∃ wv_11, Stores P 35 ⟨r_2, 0, none⟩ (.agg #[(.bool t150), (.slice t151_p t151_n t151_c), (.slice t152_p t152_n t152_c)]) wv_10 wv_11 ∧
    ∃ (t180 : Bool) (t181_p : Option Addr) (t181_n : Nat) (t181_c : Nat) (t182_p : Option Addr) (t182_n : Nat) (t182_c : Nat), Loads P 35 ⟨r_2, 0, none⟩ (.agg #[(.bool t180), (.slice t181_p t181_n t181_c), (.slice t182_p t182_n t182_c)]) wv_11 ∧ ∃ wv_12, Stores P 35 ⟨r_1, 0, none⟩ (.agg #[(.bool t180), (.slice t181_p t181_n t181_c), (.slice t182_p t182_n t182_c)]) wv_11 wv_12 ∧
    ∃ (r0_1 : Bool) (r1_p_1 : Option Addr) (r1_n_1 : Nat) (r1_c_1 : Nat) (r2_p_1 : Option Addr) (r2_n_1 : Nat) (r2_c_1 : Nat), Loads P 35 ⟨r_1, 0, none⟩ (.agg #[(.bool r0_1), (.slice r1_p_1 r1_n_1 r1_c_1), (.slice r2_p_1 r2_n_1 r2_c_1)]) wv_12 ∧ R (.agg #[(.bool r0_1), (.slice r1_p_1 r1_n_1 r1_c_1), (.slice r2_p_1 r2_n_1 r2_c_1)]) wv_12)
theorem spec_DecRat_eq (d0 : Bool) (d1_p : Option Addr) (d1_n : Nat) (d1_c : Nat) (d2 : Int) (w : World) (R : Value → World → Prop) : spec_DecRat d0 d1_p d1_n d1_c d2 w R = fsem P Tryz.f42 (fun k => []) [(.agg #[(.bool d0), (.slice d1_p d1_n d1_c), (.int .i64 d2)])] R w := by kernel_rfl
theorem spec_DecRat_ret {d0 : Bool} {d1_p : Option Addr} {d1_n : Nat} {d1_c : Nat} {d2 : Int} {w : World} {R : Value → World → Prop} (h : spec_DecRat d0 d1_p d1_n d1_c d2 w R) : Ret P 42 [(.agg #[(.bool d0), (.slice d1_p d1_n d1_c), (.int .i64 d2)])] w R :=
  Ret.of_fsem Tryz.func42 rfl (Eq.mp (spec_DecRat_eq d0 d1_p d1_n d1_c d2 w R) h)
def spec_RatMoney (cur : ByteArray) (r0 : Bool) (r1_p : Option Addr) (r1_n : Nat) (r1_c : Nat) (r2_p : Option Addr) (r2_n : Nat) (r2_c : Nat) (mode : Int) (w : World) (R : Value → World → Prop) : Prop :=
  ∀ (r : Nat) (wv : World), New w (.cells ⟨[(.bool r0), (.slice r1_p r1_n r1_c), (.slice r2_p r2_n r2_c)]⟩ 35 (0, 0)) r wv →
  ∀ (r_1 : Nat) (wv_1 : World), New wv (.cells ⟨[(.string ByteArray.empty), (.bool false), (.slice none 0 0)]⟩ 33 (0, 0)) r_1 wv_1 →
  ∀ (r_2 : Nat) (wv_2 : World), New wv_1 (.cells ⟨[(.bool false), (.slice none 0 0), (.slice none 0 0)]⟩ 35 (0, 0)) r_2 wv_2 →
  ∃ (t150 : Bool) (t151_p : Option Addr) (t151_n : Nat) (t151_c : Nat) (t152_p : Option Addr) (t152_n : Nat) (t152_c : Nat), Loads P 35 ⟨r, 0, none⟩ (.agg #[(.bool t150), (.slice t151_p t151_n t151_c), (.slice t152_p t152_n t152_c)]) wv_2 ∧ Calls P 90 ⟨[(.agg #[(.bool t150), (.slice t151_p t151_n t151_c), (.slice t152_p t152_n t152_c)]), (.int .i64 mode)]⟩ wv_2 fun e wv_3 =>
  ∃ (t170 : Bool) (t171_p : Option Addr) (t171_n : Nat) (t171_c : Nat) (t170_1 : Bool) (t171_p_1 : Option Addr) (t171_n_1 : Nat) (t171_c_1 : Nat) (t172_p : Option Addr) (t172_n : Nat) (t172_c : Nat) (t17 : Bool), e = .returned (.tuple #[(.agg #[(.bool t170), (.slice t171_p t171_n t171_c)]), (.agg #[(.bool t170_1), (.slice t171_p_1 t171_n_1 t171_c_1), (.slice t172_p t172_n t172_c)]), (.bool t17)]) ∧
  ∀ (r_3 : Nat) (wv_4 : World), New wv_3 (.cells ⟨[(.bool false), (.slice none 0 0)]⟩ 31 (0, 0)) r_3 wv_4 →
  ∀ (r_4 : Nat) (wv_5 : World), New wv_4 (.cells ⟨[(.bool false), (.slice none 0 0), (.slice none 0 0)]⟩ 35 (0, 0)) r_4 wv_5 →
  ∃ wv_6, Stores P 31 ⟨r_3, 0, none⟩ (.agg #[(.bool t170), (.slice t171_p t171_n t171_c)]) wv_5 wv_6 ∧
  ∃ wv_7, Stores P 35 ⟨r_4, 0, none⟩ (.agg #[(.bool t170_1), (.slice t171_p_1 t171_n_1 t171_c_1), (.slice t172_p t172_n t172_c)]) wv_6 wv_7 ∧
  ∃ (t230 : Bool) (t231_p : Option Addr) (t231_n : Nat) (t231_c : Nat), Loads P 31 ⟨r_3, 0, none⟩ (.agg #[(.bool t230), (.slice t231_p t231_n t231_c)]) wv_7 ∧ Calls P 91 ⟨[(.string cur), (.agg #[(.bool t230), (.slice t231_p t231_n t231_c)])]⟩ wv_7 fun e_1 wv_8 =>
  ∃ (t240 : ByteArray) (t241 : Bool) (t242_p : Option Addr) (t242_n : Nat) (t242_c : Nat) (t24 : Bool), e_1 = .returned (.tuple #[(.agg #[(.string t240), (.bool t241), (.slice t242_p t242_n t242_c)]), (.bool t24)]) ∧
  ∀ (r_5 : Nat) (wv_9 : World), New wv_8 (.cells ⟨[(.string ByteArray.empty), (.bool false), (.slice none 0 0)]⟩ 33 (0, 0)) r_5 wv_9 →
  ∃ wv_10, Stores P 33 ⟨r_5, 0, none⟩ (.agg #[(.string t240), (.bool t241), (.slice t242_p t242_n t242_c)]) wv_9 wv_10 ∧
  ((!t17) = true →
    (true = true →
      ∃ wv_11, Stores P 33 ⟨r_1, 0, none⟩ (.agg #[(.string ByteArray.empty), (.bool false), (.slice none 0 0)]) wv_10 wv_11 ∧
      ∃ wv_12, Stores P 35 ⟨r_2, 0, none⟩ (.agg #[(.bool false), (.slice none 0 0), (.slice none 0 0)]) wv_11 wv_12 ∧
      ∃ (r0_1 : ByteArray) (r1 : Bool) (r2_p_1 : Option Addr) (r2_n_1 : Nat) (r2_c_1 : Nat), Loads P 33 ⟨r_1, 0, none⟩ (.agg #[(.string r0_1), (.bool r1), (.slice r2_p_1 r2_n_1 r2_c_1)]) wv_12 ∧ ∃ (r0_2 : Bool) (r1_p_1 : Option Addr) (r1_n_1 : Nat) (r1_c_1 : Nat) (r2_p_2 : Option Addr) (r2_n_2 : Nat) (r2_c_2 : Nat), Loads P 35 ⟨r_2, 0, none⟩ (.agg #[(.bool r0_2), (.slice r1_p_1 r1_n_1 r1_c_1), (.slice r2_p_2 r2_n_2 r2_c_2)]) wv_12 ∧ R (.tuple #[(.agg #[(.string r0_1), (.bool r1), (.slice r2_p_1 r2_n_1 r2_c_1)]), (.agg #[(.bool r0_2), (.slice r1_p_1 r1_n_1 r1_c_1), (.slice r2_p_2 r2_n_2 r2_c_2)]), (.bool false)]) wv_12) ∧
    (true = false →
      ∃ blks : List Nat, ∃ (t350 : ByteArray) (t351 : Bool) (t352_p : Option Addr) (t352_n : Nat) (t352_c : Nat), (∀ wv_13, EX blks wv_10.drew wv_13 → Loads P 33 ⟨r_5, 0, none⟩ (.agg #[(.string t350), (.bool t351), (.slice t352_p t352_n t352_c)]) wv_13) ∧ ∃ (t360 : Bool) (t361_p : Option Addr) (t361_n : Nat) (t361_c : Nat) (t362_p : Option Addr) (t362_n : Nat) (t362_c : Nat), (∀ wv_14, EX blks wv_10.drew wv_14 → Loads P 35 ⟨r_4, 0, none⟩ (.agg #[(.bool t360), (.slice t361_p t361_n t361_c), (.slice t362_p t362_n t362_c)]) wv_14) ∧ ∃ wv_15, Stores P 33 ⟨r_1, 0, none⟩ (.agg #[(.string t350), (.bool t351), (.slice t352_p t352_n t352_c)]) wv_10.drew wv_15 ∧
      EX blks wv_10.drew wv_15 ∧ ∃ wv_16, Stores P 35 ⟨r_2, 0, none⟩ (.agg #[(.bool t360), (.slice t361_p t361_n t361_c), (.slice t362_p t362_n t362_c)]) wv_15 wv_16 ∧
      ∃ (r0_3 : ByteArray) (r1_1 : Bool) (r2_p_3 : Option Addr) (r2_n_3 : Nat) (r2_c_3 : Nat), Loads P 33 ⟨r_1, 0, none⟩ (.agg #[(.string r0_3), (.bool r1_1), (.slice r2_p_3 r2_n_3 r2_c_3)]) wv_16 ∧ ∃ (r0_4 : Bool) (r1_p_2 : Option Addr) (r1_n_2 : Nat) (r1_c_2 : Nat) (r2_p_4 : Option Addr) (r2_n_4 : Nat) (r2_c_4 : Nat), Loads P 35 ⟨r_2, 0, none⟩ (.agg #[(.bool r0_4), (.slice r1_p_2 r1_n_2 r1_c_2), (.slice r2_p_4 r2_n_4 r2_c_4)]) wv_16 ∧ R (.tuple #[(.agg #[(.string r0_3), (.bool r1_1), (.slice r2_p_3 r2_n_3 r2_c_3)]), (.agg #[(.bool r0_4), (.slice r1_p_2 r1_n_2 r1_c_2), (.slice r2_p_4 r2_n_4 r2_c_4)]), (.bool true)]) wv_16)) ∧
  ((!t17) = false →
    ((!t24) = true →
      ∃ wv_17, Stores P 33 ⟨r_1, 0, none⟩ (.agg #[(.string ByteArray.empty), (.bool false), (.slice none 0 0)]) wv_10 wv_17 ∧
      ∃ wv_18, Stores P 35 ⟨r_2, 0, none⟩ (.agg #[(.bool false), (.slice none 0 0), (.slice none 0 0)]) wv_17 wv_18 ∧
      ∃ (r0_5 : ByteArray) (r1_2 : Bool) (r2_p_5 : Option Addr) (r2_n_5 : Nat) (r2_c_5 : Nat), Loads P 33 ⟨r_1, 0, none⟩ (.agg #[(.string r0_5), (.bool r1_2), (.slice r2_p_5 r2_n_5 r2_c_5)]) wv_18 ∧ ∃ (r0_6 : Bool) (r1_p_3 : Option Addr) (r1_n_3 : Nat) (r1_c_3 : Nat) (r2_p_6 : Option Addr) (r2_n_6 : Nat) (r2_c_6 : Nat), Loads P 35 ⟨r_2, 0, none⟩ (.agg #[(.bool r0_6), (.slice r1_p_3 r1_n_3 r1_c_3), (.slice r2_p_6 r2_n_6 r2_c_6)]) wv_18 ∧ R (.tuple #[(.agg #[(.string r0_5), (.bool r1_2), (.slice r2_p_5 r2_n_5 r2_c_5)]), (.agg #[(.bool r0_6), (.slice r1_p_3 r1_n_3 r1_c_3), (.slice r2_p_6 r2_n_6 r2_c_6)]), (.bool false)]) wv_18) ∧
    ((!t24) = false →
      ∃ blks_1 : List Nat, ∃ (t350_1 : ByteArray) (t351_1 : Bool) (t352_p_1 : Option Addr) (t352_n_1 : Nat) (t352_c_1 : Nat), (∀ wv_19, EX blks_1 wv_10.drew wv_19 → Loads P 33 ⟨r_5, 0, none⟩ (.agg #[(.string t350_1), (.bool t351_1), (.slice t352_p_1 t352_n_1 t352_c_1)]) wv_19) ∧ ∃ (t360_1 : Bool) (t361_p_1 : Option Addr) (t361_n_1 : Nat) (t361_c_1 : Nat) (t362_p_1 : Option Addr) (t362_n_1 : Nat) (t362_c_1 : Nat), (∀ wv_20, EX blks_1 wv_10.drew wv_20 → Loads P 35 ⟨r_4, 0, none⟩ (.agg #[(.bool t360_1), (.slice t361_p_1 t361_n_1 t361_c_1), (.slice t362_p_1 t362_n_1 t362_c_1)]) wv_20) ∧ ∃ wv_21, Stores P 33 ⟨r_1, 0, none⟩ (.agg #[(.string t350_1), (.bool t351_1), (.slice t352_p_1 t352_n_1 t352_c_1)]) wv_10.drew wv_21 ∧
      EX blks_1 wv_10.drew wv_21 ∧ ∃ wv_22, Stores P 35 ⟨r_2, 0, none⟩ (.agg #[(.bool t360_1), (.slice t361_p_1 t361_n_1 t361_c_1), (.slice t362_p_1 t362_n_1 t362_c_1)]) wv_21 wv_22 ∧
      ∃ (r0_7 : ByteArray) (r1_3 : Bool) (r2_p_7 : Option Addr) (r2_n_7 : Nat) (r2_c_7 : Nat), Loads P 33 ⟨r_1, 0, none⟩ (.agg #[(.string r0_7), (.bool r1_3), (.slice r2_p_7 r2_n_7 r2_c_7)]) wv_22 ∧ ∃ (r0_8 : Bool) (r1_p_4 : Option Addr) (r1_n_4 : Nat) (r1_c_4 : Nat) (r2_p_8 : Option Addr) (r2_n_8 : Nat) (r2_c_8 : Nat), Loads P 35 ⟨r_2, 0, none⟩ (.agg #[(.bool r0_8), (.slice r1_p_4 r1_n_4 r1_c_4), (.slice r2_p_8 r2_n_8 r2_c_8)]) wv_22 ∧ R (.tuple #[(.agg #[(.string r0_7), (.bool r1_3), (.slice r2_p_7 r2_n_7 r2_c_7)]), (.agg #[(.bool r0_8), (.slice r1_p_4 r1_n_4 r1_c_4), (.slice r2_p_8 r2_n_8 r2_c_8)]), (.bool true)]) wv_22))
theorem spec_RatMoney_eq (cur : ByteArray) (r0 : Bool) (r1_p : Option Addr) (r1_n : Nat) (r1_c : Nat) (r2_p : Option Addr) (r2_n : Nat) (r2_c : Nat) (mode : Int) (w : World) (R : Value → World → Prop) : spec_RatMoney cur r0 r1_p r1_n r1_c r2_p r2_n r2_c mode w R = fsem P Tryz.f43 (fun k => []) [(.string cur), (.agg #[(.bool r0), (.slice r1_p r1_n r1_c), (.slice r2_p r2_n r2_c)]), (.int .i64 mode)] R w := by kernel_rfl
theorem spec_RatMoney_ret {cur : ByteArray} {r0 : Bool} {r1_p : Option Addr} {r1_n : Nat} {r1_c : Nat} {r2_p : Option Addr} {r2_n : Nat} {r2_c : Nat} {mode : Int} {w : World} {R : Value → World → Prop} (h : spec_RatMoney cur r0 r1_p r1_n r1_c r2_p r2_n r2_c mode w R) : Ret P 43 [(.string cur), (.agg #[(.bool r0), (.slice r1_p r1_n r1_c), (.slice r2_p r2_n r2_c)]), (.int .i64 mode)] w R :=
  Ret.of_fsem Tryz.func43 rfl (Eq.mp (spec_RatMoney_eq cur r0 r1_p r1_n r1_c r2_p r2_n r2_c mode w R) h)
def impl_MoneyOk (m0 : ByteArray) (m1 : Bool) (m2_p : Option Addr) (m2_n : Nat) (m2_c : Nat) (w : World) (R : Value → World → Prop) : Prop :=
  ∀ (r : Nat) (wv : World), New w (.cells ⟨[(.string m0), (.bool m1), (.slice m2_p m2_n m2_c)]⟩ 33 (0, 0)) r wv →
  ∃ (t4 : ByteArray), Loads P 9 ((⟨r, 0, none⟩ : Addr).add 0) (.string t4) wv ∧ Calls P 93 ⟨[(.string t4)]⟩ wv fun e wv_1 =>
  ∃ (t5 : Bool), e = .returned (.bool t5) ∧
  (t5 = true →
    ∃ (t80 : Bool) (t81_p : Option Addr) (t81_n : Nat) (t81_c : Nat), Loads P 31 ((⟨r, 0, none⟩ : Addr).add 1) (.agg #[(.bool t80), (.slice t81_p t81_n t81_c)]) wv_1 ∧ Calls P 94 ⟨[(.agg #[(.bool t80), (.slice t81_p t81_n t81_c)])]⟩ wv_1 fun e_1 wv_2 =>
    ∃ (t9 : Bool), e_1 = .returned (.bool t9) ∧
    (t9 = true →
      ∃ (t14_p : Option Addr) (t14_n : Nat) (t14_c : Nat), Loads P 22 (((⟨r, 0, none⟩ : Addr).add 1).add 1) (.slice t14_p t14_n t14_c) wv_2 ∧ R (.bool (decide ((((t14_n : Nat) : Int) : Int) ≤ 4))) wv_2) ∧
    (t9 = false →
      R (.bool false) wv_2)) ∧
  (t5 = false →
    (false = true →
      ∃ (t14_p_1 : Option Addr) (t14_n_1 : Nat) (t14_c_1 : Nat), Loads P 22 (((⟨r, 0, none⟩ : Addr).add 1).add 1) (.slice t14_p_1 t14_n_1 t14_c_1) wv_1 ∧ R (.bool (decide ((((t14_n_1 : Nat) : Int) : Int) ≤ 4))) wv_1) ∧
    (false = false →
      R (.bool false) wv_1))
theorem impl_MoneyOk_eq (m0 : ByteArray) (m1 : Bool) (m2_p : Option Addr) (m2_n : Nat) (m2_c : Nat) (w : World) (R : Value → World → Prop) : impl_MoneyOk m0 m1 m2_p m2_n m2_c w R = fsem P Tryz.f45 (fun k => []) [(.agg #[(.string m0), (.bool m1), (.slice m2_p m2_n m2_c)])] R w := by kernel_rfl
theorem impl_MoneyOk_ret {m0 : ByteArray} {m1 : Bool} {m2_p : Option Addr} {m2_n : Nat} {m2_c : Nat} {w : World} {R : Value → World → Prop} (h : impl_MoneyOk m0 m1 m2_p m2_n m2_c w R) : Ret P 45 [(.agg #[(.string m0), (.bool m1), (.slice m2_p m2_n m2_c)])] w R :=
  Ret.of_fsem Tryz.func45 rfl (Eq.mp (impl_MoneyOk_eq m0 m1 m2_p m2_n m2_c w R) h)
def impl_TaxRateOk (r0 : Bool) (r1_p : Option Addr) (r1_n : Nat) (r1_c : Nat) (r2 : Int) (w : World) (R : Value → World → Prop) : Prop :=
  ∀ (r : Nat) (wv : World), New w (.cells ⟨[(.bool r0), (.slice r1_p r1_n r1_c), (.int .i64 r2)]⟩ 40 (0, 0)) r wv →
  ∃ (t30 : Bool) (t31_p : Option Addr) (t31_n : Nat) (t31_c : Nat) (t32 : Int), (∀ wv_1, Ext wv.drew wv_1 → Loads P 40 ⟨r, 0, none⟩ (.agg #[(.bool t30), (.slice t31_p t31_n t31_c), (.int .i64 t32)]) wv_1) ∧ Calls P 95 ⟨[(.agg #[(.bool t30), (.slice t31_p t31_n t31_c), (.int .i64 t32)])]⟩ wv.drew fun e wv_2 =>
  ∃ (t4 : Bool), e = .returned (.bool t4) ∧
  (t4 = true →
    ∃ (t8_p : Option Addr) (t8_n : Nat) (t8_c : Nat), (∀ wv_3, Ext wv_2 wv_3 → Loads P 22 (((⟨r, 0, none⟩ : Addr).add 0).add 1) (.slice t8_p t8_n t8_c) wv_3) ∧ ((decide ((((t8_n : Nat) : Int) : Int) ≤ 1)) = true →
      ∃ (t15 : Bool), (∀ wv_4, Ext wv_2 wv_4 → Loads P 4 (((⟨r, 0, none⟩ : Addr).add 0).add 0) (.bool t15) wv_4) ∧ ((!t15) = true →
        ∃ (t190 : Bool) (t191_p : Option Addr) (t191_n : Nat) (t191_c : Nat) (t192 : Int), (∀ wv_5, Ext wv_2 wv_5 → Loads P 40 ⟨r, 0, none⟩ (.agg #[(.bool t190), (.slice t191_p t191_n t191_c), (.int .i64 t192)]) wv_5) ∧ Calls P 63 ⟨[(.int .i64 1)]⟩ wv_2 fun e_1 wv_6 =>
        ∃ (t200 : Bool) (t201_p : Option Addr) (t201_n : Nat) (t201_c : Nat), e_1 = .returned (.agg #[(.bool t200), (.slice t201_p t201_n t201_c)]) ∧
        Ext wv_2 wv_6 ∧ Calls P 96 ⟨[(.agg #[(.bool t190), (.slice t191_p t191_n t191_c), (.int .i64 t192)]), (.agg #[(.bool t200), (.slice t201_p t201_n t201_c), (.int .i64 0)])]⟩ wv_6 fun e_2 wv_7 =>
        ∃ (t22 : Int), e_2 = .returned (.int .i64 t22) ∧
        R (.bool (decide ((t22 : Int) ≤ 0))) wv_7) ∧
      ((!t15) = false →
        R (.bool false) wv_2)) ∧
    ((decide ((((t8_n : Nat) : Int) : Int) ≤ 1)) = false →
      (false = true →
        ∃ (t190_1 : Bool) (t191_p_1 : Option Addr) (t191_n_1 : Nat) (t191_c_1 : Nat) (t192_1 : Int), (∀ wv_8, Ext wv_2 wv_8 → Loads P 40 ⟨r, 0, none⟩ (.agg #[(.bool t190_1), (.slice t191_p_1 t191_n_1 t191_c_1), (.int .i64 t192_1)]) wv_8) ∧ Calls P 63 ⟨[(.int .i64 1)]⟩ wv_2 fun e_3 wv_9 =>
        ∃ (t200_1 : Bool) (t201_p_1 : Option Addr) (t201_n_1 : Nat) (t201_c_1 : Nat), e_3 = .returned (.agg #[(.bool t200_1), (.slice t201_p_1 t201_n_1 t201_c_1)]) ∧
        Ext wv_2 wv_9 ∧ Calls P 96 ⟨[(.agg #[(.bool t190_1), (.slice t191_p_1 t191_n_1 t191_c_1), (.int .i64 t192_1)]), (.agg #[(.bool t200_1), (.slice t201_p_1 t201_n_1 t201_c_1), (.int .i64 0)])]⟩ wv_9 fun e_4 wv_10 =>
        ∃ (t22_1 : Int), e_4 = .returned (.int .i64 t22_1) ∧
        R (.bool (decide ((t22_1 : Int) ≤ 0))) wv_10) ∧
      (false = false →
        R (.bool false) wv_2))) ∧
  (t4 = false →
    (false = true →
      ∃ (t15_1 : Bool), (∀ wv_11, Ext wv_2 wv_11 → Loads P 4 (((⟨r, 0, none⟩ : Addr).add 0).add 0) (.bool t15_1) wv_11) ∧ ((!t15_1) = true →
        ∃ (t190_2 : Bool) (t191_p_2 : Option Addr) (t191_n_2 : Nat) (t191_c_2 : Nat) (t192_2 : Int), (∀ wv_12, Ext wv_2 wv_12 → Loads P 40 ⟨r, 0, none⟩ (.agg #[(.bool t190_2), (.slice t191_p_2 t191_n_2 t191_c_2), (.int .i64 t192_2)]) wv_12) ∧ Calls P 63 ⟨[(.int .i64 1)]⟩ wv_2 fun e_5 wv_13 =>
        ∃ (t200_2 : Bool) (t201_p_2 : Option Addr) (t201_n_2 : Nat) (t201_c_2 : Nat), e_5 = .returned (.agg #[(.bool t200_2), (.slice t201_p_2 t201_n_2 t201_c_2)]) ∧
        Ext wv_2 wv_13 ∧ Calls P 96 ⟨[(.agg #[(.bool t190_2), (.slice t191_p_2 t191_n_2 t191_c_2), (.int .i64 t192_2)]), (.agg #[(.bool t200_2), (.slice t201_p_2 t201_n_2 t201_c_2), (.int .i64 0)])]⟩ wv_13 fun e_6 wv_14 =>
        ∃ (t22_2 : Int), e_6 = .returned (.int .i64 t22_2) ∧
        R (.bool (decide ((t22_2 : Int) ≤ 0))) wv_14) ∧
      ((!t15_1) = false →
        R (.bool false) wv_2)) ∧
    (false = false →
      (false = true →
        ∃ (t190_3 : Bool) (t191_p_3 : Option Addr) (t191_n_3 : Nat) (t191_c_3 : Nat) (t192_3 : Int), (∀ wv_15, Ext wv_2 wv_15 → Loads P 40 ⟨r, 0, none⟩ (.agg #[(.bool t190_3), (.slice t191_p_3 t191_n_3 t191_c_3), (.int .i64 t192_3)]) wv_15) ∧ Calls P 63 ⟨[(.int .i64 1)]⟩ wv_2 fun e_7 wv_16 =>
        ∃ (t200_3 : Bool) (t201_p_3 : Option Addr) (t201_n_3 : Nat) (t201_c_3 : Nat), e_7 = .returned (.agg #[(.bool t200_3), (.slice t201_p_3 t201_n_3 t201_c_3)]) ∧
        Ext wv_2 wv_16 ∧ Calls P 96 ⟨[(.agg #[(.bool t190_3), (.slice t191_p_3 t191_n_3 t191_c_3), (.int .i64 t192_3)]), (.agg #[(.bool t200_3), (.slice t201_p_3 t201_n_3 t201_c_3), (.int .i64 0)])]⟩ wv_16 fun e_8 wv_17 =>
        ∃ (t22_3 : Int), e_8 = .returned (.int .i64 t22_3) ∧
        R (.bool (decide ((t22_3 : Int) ≤ 0))) wv_17) ∧
      (false = false →
        R (.bool false) wv_2)))
theorem impl_TaxRateOk_eq (r0 : Bool) (r1_p : Option Addr) (r1_n : Nat) (r1_c : Nat) (r2 : Int) (w : World) (R : Value → World → Prop) : impl_TaxRateOk r0 r1_p r1_n r1_c r2 w R = fsem P Tryz.f46 (fun k => []) [(.agg #[(.bool r0), (.slice r1_p r1_n r1_c), (.int .i64 r2)])] R w := by kernel_rfl
theorem impl_TaxRateOk_ret {r0 : Bool} {r1_p : Option Addr} {r1_n : Nat} {r1_c : Nat} {r2 : Int} {w : World} {R : Value → World → Prop} (h : impl_TaxRateOk r0 r1_p r1_n r1_c r2 w R) : Ret P 46 [(.agg #[(.bool r0), (.slice r1_p r1_n r1_c), (.int .i64 r2)])] w R :=
  Ret.of_fsem Tryz.func46 rfl (Eq.mp (impl_TaxRateOk_eq r0 r1_p r1_n r1_c r2 w R) h)
def impl_RatMul (r0 : Bool) (r1_p : Option Addr) (r1_n : Nat) (r1_c : Nat) (r2_p : Option Addr) (r2_n : Nat) (r2_c : Nat) (s0 : Bool) (s1_p : Option Addr) (s1_n : Nat) (s1_c : Nat) (s2_p : Option Addr) (s2_n : Nat) (s2_c : Nat) (w : World) (R : Value → World → Prop) : Prop :=
  ∀ (r : Nat) (wv : World), New w (.cells ⟨[(.bool r0), (.slice r1_p r1_n r1_c), (.slice r2_p r2_n r2_c)]⟩ 35 (0, 0)) r wv →
  ∀ (r_1 : Nat) (wv_1 : World), New wv (.cells ⟨[(.bool s0), (.slice s1_p s1_n s1_c), (.slice s2_p s2_n s2_c)]⟩ 35 (0, 0)) r_1 wv_1 →
  ∀ (r_2 : Nat) (wv_2 : World), New wv_1 (.cells ⟨[(.bool false), (.slice none 0 0), (.slice none 0 0)]⟩ 35 (0, 0)) r_2 wv_2 →
  ∃ (t60 : Bool) (t61_p : Option Addr) (t61_n : Nat) (t61_c : Nat) (t62_p : Option Addr) (t62_n : Nat) (t62_c : Nat), Loads P 35 ⟨r, 0, none⟩ (.agg #[(.bool t60), (.slice t61_p t61_n t61_c), (.slice t62_p t62_n t62_c)]) wv_2 ∧ ∃ (t70 : Bool) (t71_p : Option Addr) (t71_n : Nat) (t71_c : Nat) (t72_p : Option Addr) (t72_n : Nat) (t72_c : Nat), Loads P 35 ⟨r_1, 0, none⟩ (.agg #[(.bool t70), (.slice t71_p t71_n t71_c), (.slice t72_p t72_n t72_c)]) wv_2 ∧ Calls P 97 ⟨[(.agg #[(.bool t60), (.slice t61_p t61_n t61_c), (.slice t62_p t62_n t62_c)]), (.agg #[(.bool t70), (.slice t71_p t71_n t71_c), (.slice t72_p t72_n t72_c)])]⟩ wv_2 fun e wv_3 =>
  ∃ (t8 : Bool), e = .returned (.bool t8) ∧
  ((!t8) = true →
    ∃ wv_4, Stores P 35 ⟨r_2, 0, none⟩ (.agg #[(.bool false), (.slice none 0 0), (.slice none 0 0)]) wv_3 wv_4 ∧
    ∃ (r0_1 : Bool) (r1_p_1 : Option Addr) (r1_n_1 : Nat) (r1_c_1 : Nat) (r2_p_1 : Option Addr) (r2_n_1 : Nat) (r2_c_1 : Nat), Loads P 35 ⟨r_2, 0, none⟩ (.agg #[(.bool r0_1), (.slice r1_p_1 r1_n_1 r1_c_1), (.slice r2_p_1 r2_n_1 r2_c_1)]) wv_4 ∧ R (.tuple #[(.agg #[(.bool r0_1), (.slice r1_p_1 r1_n_1 r1_c_1), (.slice r2_p_1 r2_n_1 r2_c_1)]), (.bool false)]) wv_4) ∧
  ((!t8) = false →
    ∃ (t120 : Bool) (t121_p : Option Addr) (t121_n : Nat) (t121_c : Nat), (∀ wv_5, Ext wv_3.drew wv_5 → Loads P 31 ((⟨r, 0, none⟩ : Addr).add 0) (.agg #[(.bool t120), (.slice t121_p t121_n t121_c)]) wv_5) ∧ ∃ (t140 : Bool) (t141_p : Option Addr) (t141_n : Nat) (t141_c : Nat), (∀ wv_6, Ext wv_3.drew wv_6 → Loads P 31 ((⟨r_1, 0, none⟩ : Addr).add 0) (.agg #[(.bool t140), (.slice t141_p t141_n t141_c)]) wv_6) ∧ Calls P 99 ⟨[(.agg #[(.bool t120), (.slice t121_p t121_n t121_c)]), (.agg #[(.bool t140), (.slice t141_p t141_n t141_c)])]⟩ wv_3.drew fun e_1 wv_7 =>
    ∃ (t150 : Bool) (t151_p : Option Addr) (t151_n : Nat) (t151_c : Nat), e_1 = .returned (.agg #[(.bool t150), (.slice t151_p t151_n t151_c)]) ∧
    Ext wv_3.drew wv_7 ∧ ∃ (t17_p : Option Addr) (t17_n : Nat) (t17_c : Nat), (∀ wv_8, Ext wv_3.drew wv_8 → Loads P 22 ((⟨r, 0, none⟩ : Addr).add 2) (.slice t17_p t17_n t17_c) wv_8) ∧ ∃ (t19_p : Option Addr) (t19_n : Nat) (t19_c : Nat), (∀ wv_9, Ext wv_3.drew wv_9 → Loads P 22 ((⟨r_1, 0, none⟩ : Addr).add 2) (.slice t19_p t19_n t19_c) wv_9) ∧ Calls P 100 ⟨[(.slice t17_p t17_n t17_c), (.slice t19_p t19_n t19_c)]⟩ wv_7 fun e_2 wv_10 =>
    ∃ (t20_p : Option Addr) (t20_n : Nat) (t20_c : Nat), e_2 = .returned (.slice t20_p t20_n t20_c) ∧
    Calls P 98 ⟨[(.agg #[(.bool t150), (.slice t151_p t151_n t151_c)]), (.slice t20_p t20_n t20_c)]⟩ wv_10 fun e_3 wv_11 =>
    ∃ (t210 : Bool) (t211_p : Option Addr) (t211_n : Nat) (t211_c : Nat) (t212_p : Option Addr) (t212_n : Nat) (t212_c : Nat) (t21 : Bool), e_3 = .returned (.tuple #[(.agg #[(.bool t210), (.slice t211_p t211_n t211_c), (.slice t212_p t212_n t212_c)]), (.bool t21)]) ∧
    ∃ wv_12, Stores P 35 ⟨r_2, 0, none⟩ (.agg #[(.bool t210), (.slice t211_p t211_n t211_c), (.slice t212_p t212_n t212_c)]) wv_11 wv_12 ∧
    ∃ (r0_2 : Bool) (r1_p_2 : Option Addr) (r1_n_2 : Nat) (r1_c_2 : Nat) (r2_p_2 : Option Addr) (r2_n_2 : Nat) (r2_c_2 : Nat), Loads P 35 ⟨r_2, 0, none⟩ (.agg #[(.bool r0_2), (.slice r1_p_2 r1_n_2 r1_c_2), (.slice r2_p_2 r2_n_2 r2_c_2)]) wv_12 ∧ R (.tuple #[(.agg #[(.bool r0_2), (.slice r1_p_2 r1_n_2 r1_c_2), (.slice r2_p_2 r2_n_2 r2_c_2)]), (.bool t21)]) wv_12)
theorem impl_RatMul_eq (r0 : Bool) (r1_p : Option Addr) (r1_n : Nat) (r1_c : Nat) (r2_p : Option Addr) (r2_n : Nat) (r2_c : Nat) (s0 : Bool) (s1_p : Option Addr) (s1_n : Nat) (s1_c : Nat) (s2_p : Option Addr) (s2_n : Nat) (s2_c : Nat) (w : World) (R : Value → World → Prop) : impl_RatMul r0 r1_p r1_n r1_c r2_p r2_n r2_c s0 s1_p s1_n s1_c s2_p s2_n s2_c w R = fsem P Tryz.f47 (fun k => []) [(.agg #[(.bool r0), (.slice r1_p r1_n r1_c), (.slice r2_p r2_n r2_c)]), (.agg #[(.bool s0), (.slice s1_p s1_n s1_c), (.slice s2_p s2_n s2_c)])] R w := by kernel_rfl
theorem impl_RatMul_ret {r0 : Bool} {r1_p : Option Addr} {r1_n : Nat} {r1_c : Nat} {r2_p : Option Addr} {r2_n : Nat} {r2_c : Nat} {s0 : Bool} {s1_p : Option Addr} {s1_n : Nat} {s1_c : Nat} {s2_p : Option Addr} {s2_n : Nat} {s2_c : Nat} {w : World} {R : Value → World → Prop} (h : impl_RatMul r0 r1_p r1_n r1_c r2_p r2_n r2_c s0 s1_p s1_n s1_c s2_p s2_n s2_c w R) : Ret P 47 [(.agg #[(.bool r0), (.slice r1_p r1_n r1_c), (.slice r2_p r2_n r2_c)]), (.agg #[(.bool s0), (.slice s1_p s1_n s1_c), (.slice s2_p s2_n s2_c)])] w R :=
  Ret.of_fsem Tryz.func47 rfl (Eq.mp (impl_RatMul_eq r0 r1_p r1_n r1_c r2_p r2_n r2_c s0 s1_p s1_n s1_c s2_p s2_n s2_c w R) h)
def impl_MoneyRat (m0 : ByteArray) (m1 : Bool) (m2_p : Option Addr) (m2_n : Nat) (m2_c : Nat) (w : World) (R : Value → World → Prop) : Prop :=
  ∀ (r : Nat) (wv : World), New w (.cells ⟨[(.string m0), (.bool m1), (.slice m2_p m2_n m2_c)]⟩ 33 (0, 0)) r wv →
  ∀ (r_1 : Nat) (wv_1 : World), New wv (.cells ⟨[(.bool false), (.slice none 0 0), (.slice none 0 0)]⟩ 35 (0, 0)) r_1 wv_1 →
  ∃ (t30 : ByteArray) (t31 : Bool) (t32_p : Option Addr) (t32_n : Nat) (t32_c : Nat), Loads P 33 ⟨r, 0, none⟩ (.agg #[(.string t30), (.bool t31), (.slice t32_p t32_n t32_c)]) wv_1 ∧ Calls P 45 ⟨[(.agg #[(.string t30), (.bool t31), (.slice t32_p t32_n t32_c)])]⟩ wv_1 fun e wv_2 =>
  ∃ (t4 : Bool), e = .returned (.bool t4) ∧
  ((!t4) = true →
    ∃ wv_3, Stores P 35 ⟨r_1, 0, none⟩ (.agg #[(.bool false), (.slice none 0 0), (.slice none 0 0)]) wv_2 wv_3 ∧
    ∃ (r0 : Bool) (r1_p : Option Addr) (r1_n : Nat) (r1_c : Nat) (r2_p : Option Addr) (r2_n : Nat) (r2_c : Nat), Loads P 35 ⟨r_1, 0, none⟩ (.agg #[(.bool r0), (.slice r1_p r1_n r1_c), (.slice r2_p r2_n r2_c)]) wv_3 ∧ R (.agg #[(.bool r0), (.slice r1_p r1_n r1_c), (.slice r2_p r2_n r2_c)]) wv_3) ∧
  ((!t4) = false →
    ∃ (t80 : Bool) (t81_p : Option Addr) (t81_n : Nat) (t81_c : Nat), Loads P 31 ((⟨r, 0, none⟩ : Addr).add 1) (.agg #[(.bool t80), (.slice t81_p t81_n t81_c)]) wv_2 ∧ Calls P 101 ⟨[(.agg #[(.bool t80), (.slice t81_p t81_n t81_c)])]⟩ wv_2 fun e_1 wv_4 =>
    ∃ (t90 : Bool) (t91_p : Option Addr) (t91_n : Nat) (t91_c : Nat), e_1 = .returned (.agg #[(.bool t90), (.slice t91_p t91_n t91_c)]) ∧
    ∀ (r_2 : Nat) (wv_5 : World), New wv_4 (.cells ⟨[(.int .i64 1)]⟩ 3 (0, 0)) r_2 wv_5 →
    ∃ wv_6, Stores P 35 ⟨r_1, 0, none⟩ (.agg #[(.bool t90), (.slice t91_p t91_n t91_c), (.slice (some ⟨r_2, 0, none⟩) 1 1)]) wv_5 wv_6 ∧
    ∃ (r0_1 : Bool) (r1_p_1 : Option Addr) (r1_n_1 : Nat) (r1_c_1 : Nat) (r2_p_1 : Option Addr) (r2_n_1 : Nat) (r2_c_1 : Nat), Loads P 35 ⟨r_1, 0, none⟩ (.agg #[(.bool r0_1), (.slice r1_p_1 r1_n_1 r1_c_1), (.slice r2_p_1 r2_n_1 r2_c_1)]) wv_6 ∧ R (.agg #[(.bool r0_1), (.slice r1_p_1 r1_n_1 r1_c_1), (.slice r2_p_1 r2_n_1 r2_c_1)]) wv_6)
theorem impl_MoneyRat_eq (m0 : ByteArray) (m1 : Bool) (m2_p : Option Addr) (m2_n : Nat) (m2_c : Nat) (w : World) (R : Value → World → Prop) : impl_MoneyRat m0 m1 m2_p m2_n m2_c w R = fsem P Tryz.f48 (fun k => []) [(.agg #[(.string m0), (.bool m1), (.slice m2_p m2_n m2_c)])] R w := by kernel_rfl
theorem impl_MoneyRat_ret {m0 : ByteArray} {m1 : Bool} {m2_p : Option Addr} {m2_n : Nat} {m2_c : Nat} {w : World} {R : Value → World → Prop} (h : impl_MoneyRat m0 m1 m2_p m2_n m2_c w R) : Ret P 48 [(.agg #[(.string m0), (.bool m1), (.slice m2_p m2_n m2_c)])] w R :=
  Ret.of_fsem Tryz.func48 rfl (Eq.mp (impl_MoneyRat_eq m0 m1 m2_p m2_n m2_c w R) h)
def impl_DecRat (d0 : Bool) (d1_p : Option Addr) (d1_n : Nat) (d1_c : Nat) (d2 : Int) (w : World) (R : Value → World → Prop) : Prop :=
  ∀ (r : Nat) (wv : World), New w (.cells ⟨[(.bool d0), (.slice d1_p d1_n d1_c), (.int .i64 d2)]⟩ 40 (0, 0)) r wv →
  ∀ (r_1 : Nat) (wv_1 : World), New wv (.cells ⟨[(.bool false), (.slice none 0 0), (.slice none 0 0)]⟩ 35 (0, 0)) r_1 wv_1 →
  ∃ (t50 : Bool) (t51_p : Option Addr) (t51_n : Nat) (t51_c : Nat) (t52 : Int), Loads P 40 ⟨r, 0, none⟩ (.agg #[(.bool t50), (.slice t51_p t51_n t51_c), (.int .i64 t52)]) wv_1 ∧ Calls P 95 ⟨[(.agg #[(.bool t50), (.slice t51_p t51_n t51_c), (.int .i64 t52)])]⟩ wv_1 fun e wv_2 =>
  ∃ (t6 : Bool), e = .returned (.bool t6) ∧
  ((!t6) = true →
    ∃ wv_3, Stores P 35 ⟨r_1, 0, none⟩ (.agg #[(.bool false), (.slice none 0 0), (.slice none 0 0)]) wv_2 wv_3 ∧
    ∃ (r0 : Bool) (r1_p : Option Addr) (r1_n : Nat) (r1_c : Nat) (r2_p : Option Addr) (r2_n : Nat) (r2_c : Nat), Loads P 35 ⟨r_1, 0, none⟩ (.agg #[(.bool r0), (.slice r1_p r1_n r1_c), (.slice r2_p r2_n r2_c)]) wv_3 ∧ R (.agg #[(.bool r0), (.slice r1_p r1_n r1_c), (.slice r2_p r2_n r2_c)]) wv_3) ∧
  ((!t6) = false →
    ∃ (t110 : Bool) (t111_p : Option Addr) (t111_n : Nat) (t111_c : Nat), (∀ wv_4, Ext wv_2.drew wv_4 → Loads P 31 ((⟨r, 0, none⟩ : Addr).add 0) (.agg #[(.bool t110), (.slice t111_p t111_n t111_c)]) wv_4) ∧ ∃ (t13 : Int), (∀ wv_5, Ext wv_2.drew wv_5 → Loads P 3 ((⟨r, 0, none⟩ : Addr).add 2) (.int .i64 t13) wv_5) ∧ ∀ (ss : List (Option Nat)) (wv_6 : World), Fl [.cells ⟨[(.bool false), (.slice none 0 0), (.slice none 0 0)]⟩ 35 (0, 0)] [none] wv_2.drew ss wv_6 →
    Calls P 102 ⟨[(.int .i64 t13)]⟩ wv_6 fun e_1 wv_7 =>
    ∃ (t14_p : Option Addr) (t14_n : Nat) (t14_c : Nat), e_1 = .returned (.slice t14_p t14_n t14_c) ∧
    Ext wv_6 wv_7 ∧ ∀ (ss_1 : List (Option Nat)) (wv_8 : World), Fl [.cells ⟨[(.bool false), (.slice none 0 0), (.slice none 0 0)]⟩ 35 (0, 0)] ss wv_7 ss_1 wv_8 →
    Calls P 98 ⟨[(.agg #[(.bool t110), (.slice t111_p t111_n t111_c)]), (.slice t14_p t14_n t14_c)]⟩ wv_8 fun e_2 wv_9 =>
    ∃ (t150 : Bool) (t151_p : Option Addr) (t151_n : Nat) (t151_c : Nat) (t152_p : Option Addr) (t152_n : Nat) (t152_c : Nat) (t15 : Bool), e_2 = .returned (.tuple #[(.agg #[(.bool t150), (.slice t151_p t151_n t151_c), (.slice t152_p t152_n t152_c)]), (.bool t15)]) ∧
    ∀ (ss_2 : List (Option Nat)) (wv_10 : World) (r_2 : Nat), Fl [.cells ⟨[(.bool false), (.slice none 0 0), (.slice none 0 0)]⟩ 35 (0, 0)] ss_1 wv_9 ss_2 wv_10 → ss_2[0]? = some (some r_2) →
    ∃ wv_11, Stores P 35 ⟨r_2, 0, none⟩ (.agg #[(.bool t150), (.slice t151_p t151_n t151_c), (.slice t152_p t152_n t152_c)]) wv_10 wv_11 ∧
    ∃ (t180 : Bool) (t181_p : Option Addr) (t181_n : Nat) (t181_c : Nat) (t182_p : Option Addr) (t182_n : Nat) (t182_c : Nat), Loads P 35 ⟨r_2, 0, none⟩ (.agg #[(.bool t180), (.slice t181_p t181_n t181_c), (.slice t182_p t182_n t182_c)]) wv_11 ∧ ∃ wv_12, Stores P 35 ⟨r_1, 0, none⟩ (.agg #[(.bool t180), (.slice t181_p t181_n t181_c), (.slice t182_p t182_n t182_c)]) wv_11 wv_12 ∧
    ∃ (r0_1 : Bool) (r1_p_1 : Option Addr) (r1_n_1 : Nat) (r1_c_1 : Nat) (r2_p_1 : Option Addr) (r2_n_1 : Nat) (r2_c_1 : Nat), Loads P 35 ⟨r_1, 0, none⟩ (.agg #[(.bool r0_1), (.slice r1_p_1 r1_n_1 r1_c_1), (.slice r2_p_1 r2_n_1 r2_c_1)]) wv_12 ∧ R (.agg #[(.bool r0_1), (.slice r1_p_1 r1_n_1 r1_c_1), (.slice r2_p_1 r2_n_1 r2_c_1)]) wv_12)
theorem impl_DecRat_eq (d0 : Bool) (d1_p : Option Addr) (d1_n : Nat) (d1_c : Nat) (d2 : Int) (w : World) (R : Value → World → Prop) : impl_DecRat d0 d1_p d1_n d1_c d2 w R = fsem P Tryz.f49 (fun k => []) [(.agg #[(.bool d0), (.slice d1_p d1_n d1_c), (.int .i64 d2)])] R w := by kernel_rfl
theorem impl_DecRat_ret {d0 : Bool} {d1_p : Option Addr} {d1_n : Nat} {d1_c : Nat} {d2 : Int} {w : World} {R : Value → World → Prop} (h : impl_DecRat d0 d1_p d1_n d1_c d2 w R) : Ret P 49 [(.agg #[(.bool d0), (.slice d1_p d1_n d1_c), (.int .i64 d2)])] w R :=
  Ret.of_fsem Tryz.func49 rfl (Eq.mp (impl_DecRat_eq d0 d1_p d1_n d1_c d2 w R) h)
def impl_RatMoney (cur : ByteArray) (r0 : Bool) (r1_p : Option Addr) (r1_n : Nat) (r1_c : Nat) (r2_p : Option Addr) (r2_n : Nat) (r2_c : Nat) (mode : Int) (w : World) (R : Value → World → Prop) : Prop :=
  ∀ (r : Nat) (wv : World), New w (.cells ⟨[(.bool r0), (.slice r1_p r1_n r1_c), (.slice r2_p r2_n r2_c)]⟩ 35 (0, 0)) r wv →
  ∀ (r_1 : Nat) (wv_1 : World), New wv (.cells ⟨[(.string ByteArray.empty), (.bool false), (.slice none 0 0)]⟩ 33 (0, 0)) r_1 wv_1 →
  ∀ (r_2 : Nat) (wv_2 : World), New wv_1 (.cells ⟨[(.bool false), (.slice none 0 0), (.slice none 0 0)]⟩ 35 (0, 0)) r_2 wv_2 →
  ∃ (t140 : Bool) (t141_p : Option Addr) (t141_n : Nat) (t141_c : Nat) (t142_p : Option Addr) (t142_n : Nat) (t142_c : Nat), Loads P 35 ⟨r, 0, none⟩ (.agg #[(.bool t140), (.slice t141_p t141_n t141_c), (.slice t142_p t142_n t142_c)]) wv_2 ∧ Calls P 103 ⟨[(.agg #[(.bool t140), (.slice t141_p t141_n t141_c), (.slice t142_p t142_n t142_c)]), (.int .i64 mode)]⟩ wv_2 fun e wv_3 =>
  ∃ (t160 : Bool) (t161_p : Option Addr) (t161_n : Nat) (t161_c : Nat) (t160_1 : Bool) (t161_p_1 : Option Addr) (t161_n_1 : Nat) (t161_c_1 : Nat) (t162_p : Option Addr) (t162_n : Nat) (t162_c : Nat) (t16 : Bool), e = .returned (.tuple #[(.agg #[(.bool t160), (.slice t161_p t161_n t161_c)]), (.agg #[(.bool t160_1), (.slice t161_p_1 t161_n_1 t161_c_1), (.slice t162_p t162_n t162_c)]), (.bool t16)]) ∧
  ∀ (r_3 : Nat) (wv_4 : World), New wv_3 (.cells ⟨[(.bool false), (.slice none 0 0)]⟩ 31 (0, 0)) r_3 wv_4 →
  ∀ (r_4 : Nat) (wv_5 : World), New wv_4 (.cells ⟨[(.bool false), (.slice none 0 0), (.slice none 0 0)]⟩ 35 (0, 0)) r_4 wv_5 →
  ∃ wv_6, Stores P 31 ⟨r_3, 0, none⟩ (.agg #[(.bool t160), (.slice t161_p t161_n t161_c)]) wv_5 wv_6 ∧
  ∃ wv_7, Stores P 35 ⟨r_4, 0, none⟩ (.agg #[(.bool t160_1), (.slice t161_p_1 t161_n_1 t161_c_1), (.slice t162_p t162_n t162_c)]) wv_6 wv_7 ∧
  ((!t16) = true →
    ∃ wv_8, Stores P 33 ⟨r_1, 0, none⟩ (.agg #[(.string ByteArray.empty), (.bool false), (.slice none 0 0)]) wv_7 wv_8 ∧
    ∃ wv_9, Stores P 35 ⟨r_2, 0, none⟩ (.agg #[(.bool false), (.slice none 0 0), (.slice none 0 0)]) wv_8 wv_9 ∧
    ∃ (r0_1 : ByteArray) (r1 : Bool) (r2_p_1 : Option Addr) (r2_n_1 : Nat) (r2_c_1 : Nat), Loads P 33 ⟨r_1, 0, none⟩ (.agg #[(.string r0_1), (.bool r1), (.slice r2_p_1 r2_n_1 r2_c_1)]) wv_9 ∧ ∃ (r0_2 : Bool) (r1_p_1 : Option Addr) (r1_n_1 : Nat) (r1_c_1 : Nat) (r2_p_2 : Option Addr) (r2_n_2 : Nat) (r2_c_2 : Nat), Loads P 35 ⟨r_2, 0, none⟩ (.agg #[(.bool r0_2), (.slice r1_p_1 r1_n_1 r1_c_1), (.slice r2_p_2 r2_n_2 r2_c_2)]) wv_9 ∧ R (.tuple #[(.agg #[(.string r0_1), (.bool r1), (.slice r2_p_1 r2_n_1 r2_c_1)]), (.agg #[(.bool r0_2), (.slice r1_p_1 r1_n_1 r1_c_1), (.slice r2_p_2 r2_n_2 r2_c_2)]), (.bool false)]) wv_9) ∧
  ((!t16) = false →
    ∃ (t260 : Bool) (t261_p : Option Addr) (t261_n : Nat) (t261_c : Nat), Loads P 31 ⟨r_3, 0, none⟩ (.agg #[(.bool t260), (.slice t261_p t261_n t261_c)]) wv_7 ∧ Calls P 104 ⟨[(.string cur), (.agg #[(.bool t260), (.slice t261_p t261_n t261_c)])]⟩ wv_7 fun e_1 wv_10 =>
    ∃ (t270 : ByteArray) (t271 : Bool) (t272_p : Option Addr) (t272_n : Nat) (t272_c : Nat) (t27 : Bool), e_1 = .returned (.tuple #[(.agg #[(.string t270), (.bool t271), (.slice t272_p t272_n t272_c)]), (.bool t27)]) ∧
    ∀ (r_5 : Nat) (wv_11 : World), New wv_10 (.cells ⟨[(.string ByteArray.empty), (.bool false), (.slice none 0 0)]⟩ 33 (0, 0)) r_5 wv_11 →
    ∃ wv_12, Stores P 33 ⟨r_5, 0, none⟩ (.agg #[(.string t270), (.bool t271), (.slice t272_p t272_n t272_c)]) wv_11 wv_12 ∧
    ((!t27) = true →
      ∃ wv_13, Stores P 33 ⟨r_1, 0, none⟩ (.agg #[(.string ByteArray.empty), (.bool false), (.slice none 0 0)]) wv_12 wv_13 ∧
      ∃ wv_14, Stores P 35 ⟨r_2, 0, none⟩ (.agg #[(.bool false), (.slice none 0 0), (.slice none 0 0)]) wv_13 wv_14 ∧
      ∃ (r0_3 : ByteArray) (r1_1 : Bool) (r2_p_3 : Option Addr) (r2_n_3 : Nat) (r2_c_3 : Nat), Loads P 33 ⟨r_1, 0, none⟩ (.agg #[(.string r0_3), (.bool r1_1), (.slice r2_p_3 r2_n_3 r2_c_3)]) wv_14 ∧ ∃ (r0_4 : Bool) (r1_p_2 : Option Addr) (r1_n_2 : Nat) (r1_c_2 : Nat) (r2_p_4 : Option Addr) (r2_n_4 : Nat) (r2_c_4 : Nat), Loads P 35 ⟨r_2, 0, none⟩ (.agg #[(.bool r0_4), (.slice r1_p_2 r1_n_2 r1_c_2), (.slice r2_p_4 r2_n_4 r2_c_4)]) wv_14 ∧ R (.tuple #[(.agg #[(.string r0_3), (.bool r1_1), (.slice r2_p_3 r2_n_3 r2_c_3)]), (.agg #[(.bool r0_4), (.slice r1_p_2 r1_n_2 r1_c_2), (.slice r2_p_4 r2_n_4 r2_c_4)]), (.bool false)]) wv_14) ∧
    ((!t27) = false →
      ∃ blks : List Nat, ∃ (t340 : ByteArray) (t341 : Bool) (t342_p : Option Addr) (t342_n : Nat) (t342_c : Nat), (∀ wv_15, EX blks wv_12.drew wv_15 → Loads P 33 ⟨r_5, 0, none⟩ (.agg #[(.string t340), (.bool t341), (.slice t342_p t342_n t342_c)]) wv_15) ∧ ∃ (t350 : Bool) (t351_p : Option Addr) (t351_n : Nat) (t351_c : Nat) (t352_p : Option Addr) (t352_n : Nat) (t352_c : Nat), (∀ wv_16, EX blks wv_12.drew wv_16 → Loads P 35 ⟨r_4, 0, none⟩ (.agg #[(.bool t350), (.slice t351_p t351_n t351_c), (.slice t352_p t352_n t352_c)]) wv_16) ∧ ∃ wv_17, Stores P 33 ⟨r_1, 0, none⟩ (.agg #[(.string t340), (.bool t341), (.slice t342_p t342_n t342_c)]) wv_12.drew wv_17 ∧
      EX blks wv_12.drew wv_17 ∧ ∃ wv_18, Stores P 35 ⟨r_2, 0, none⟩ (.agg #[(.bool t350), (.slice t351_p t351_n t351_c), (.slice t352_p t352_n t352_c)]) wv_17 wv_18 ∧
      ∃ (r0_5 : ByteArray) (r1_2 : Bool) (r2_p_5 : Option Addr) (r2_n_5 : Nat) (r2_c_5 : Nat), Loads P 33 ⟨r_1, 0, none⟩ (.agg #[(.string r0_5), (.bool r1_2), (.slice r2_p_5 r2_n_5 r2_c_5)]) wv_18 ∧ ∃ (r0_6 : Bool) (r1_p_3 : Option Addr) (r1_n_3 : Nat) (r1_c_3 : Nat) (r2_p_6 : Option Addr) (r2_n_6 : Nat) (r2_c_6 : Nat), Loads P 35 ⟨r_2, 0, none⟩ (.agg #[(.bool r0_6), (.slice r1_p_3 r1_n_3 r1_c_3), (.slice r2_p_6 r2_n_6 r2_c_6)]) wv_18 ∧ R (.tuple #[(.agg #[(.string r0_5), (.bool r1_2), (.slice r2_p_5 r2_n_5 r2_c_5)]), (.agg #[(.bool r0_6), (.slice r1_p_3 r1_n_3 r1_c_3), (.slice r2_p_6 r2_n_6 r2_c_6)]), (.bool true)]) wv_18))
theorem impl_RatMoney_eq (cur : ByteArray) (r0 : Bool) (r1_p : Option Addr) (r1_n : Nat) (r1_c : Nat) (r2_p : Option Addr) (r2_n : Nat) (r2_c : Nat) (mode : Int) (w : World) (R : Value → World → Prop) : impl_RatMoney cur r0 r1_p r1_n r1_c r2_p r2_n r2_c mode w R = fsem P Tryz.f50 (fun k => []) [(.string cur), (.agg #[(.bool r0), (.slice r1_p r1_n r1_c), (.slice r2_p r2_n r2_c)]), (.int .i64 mode)] R w := by kernel_rfl
theorem impl_RatMoney_ret {cur : ByteArray} {r0 : Bool} {r1_p : Option Addr} {r1_n : Nat} {r1_c : Nat} {r2_p : Option Addr} {r2_n : Nat} {r2_c : Nat} {mode : Int} {w : World} {R : Value → World → Prop} (h : impl_RatMoney cur r0 r1_p r1_n r1_c r2_p r2_n r2_c mode w R) : Ret P 50 [(.string cur), (.agg #[(.bool r0), (.slice r1_p r1_n r1_c), (.slice r2_p r2_n r2_c)]), (.int .i64 mode)] w R :=
  Ret.of_fsem Tryz.func50 rfl (Eq.mp (impl_RatMoney_eq cur r0 r1_p r1_n r1_c r2_p r2_n r2_c mode w R) h)
def spec_RatInt (x0 : Bool) (x1_p : Option Addr) (x1_n : Nat) (x1_c : Nat) (w : World) (R : Value → World → Prop) : Prop :=
  ∀ (r : Nat) (wv : World), New w (.cells ⟨[(.bool x0), (.slice x1_p x1_n x1_c)]⟩ 31 (0, 0)) r wv →
  ∀ (r_1 : Nat) (wv_1 : World), New wv (.cells ⟨[(.bool false), (.slice none 0 0), (.slice none 0 0)]⟩ 35 (0, 0)) r_1 wv_1 →
  ∃ (t40 : Bool) (t41_p : Option Addr) (t41_n : Nat) (t41_c : Nat), (∀ wv_2, Ext wv_1.drew wv_2 → Loads P 31 ⟨r, 0, none⟩ (.agg #[(.bool t40), (.slice t41_p t41_n t41_c)]) wv_2) ∧ Calls P 58 ⟨[(.int .i64 1)]⟩ wv_1.drew fun e wv_3 =>
  ∃ (t50 : Bool) (t51_p : Option Addr) (t51_n : Nat) (t51_c : Nat), e = .returned (.agg #[(.bool t50), (.slice t51_p t51_n t51_c)]) ∧
  Ext wv_1.drew wv_3 ∧ Calls P 88 ⟨[(.agg #[(.bool t40), (.slice t41_p t41_n t41_c)]), (.agg #[(.bool t50), (.slice t51_p t51_n t51_c)])]⟩ wv_3 fun e_1 wv_4 =>
  ∃ (t60 : Bool) (t61_p : Option Addr) (t61_n : Nat) (t61_c : Nat) (t62_p : Option Addr) (t62_n : Nat) (t62_c : Nat) (t6 : Bool), e_1 = .returned (.tuple #[(.agg #[(.bool t60), (.slice t61_p t61_n t61_c), (.slice t62_p t62_n t62_c)]), (.bool t6)]) ∧
  ∃ wv_5, Stores P 35 ⟨r_1, 0, none⟩ (.agg #[(.bool t60), (.slice t61_p t61_n t61_c), (.slice t62_p t62_n t62_c)]) wv_4 wv_5 ∧
  ∃ (r0 : Bool) (r1_p : Option Addr) (r1_n : Nat) (r1_c : Nat) (r2_p : Option Addr) (r2_n : Nat) (r2_c : Nat), Loads P 35 ⟨r_1, 0, none⟩ (.agg #[(.bool r0), (.slice r1_p r1_n r1_c), (.slice r2_p r2_n r2_c)]) wv_5 ∧ R (.tuple #[(.agg #[(.bool r0), (.slice r1_p r1_n r1_c), (.slice r2_p r2_n r2_c)]), (.bool t6)]) wv_5
theorem spec_RatInt_eq (x0 : Bool) (x1_p : Option Addr) (x1_n : Nat) (x1_c : Nat) (w : World) (R : Value → World → Prop) : spec_RatInt x0 x1_p x1_n x1_c w R = fsem P Tryz.f57 (fun k => []) [(.agg #[(.bool x0), (.slice x1_p x1_n x1_c)])] R w := by kernel_rfl
theorem spec_RatInt_ret {x0 : Bool} {x1_p : Option Addr} {x1_n : Nat} {x1_c : Nat} {w : World} {R : Value → World → Prop} (h : spec_RatInt x0 x1_p x1_n x1_c w R) : Ret P 57 [(.agg #[(.bool x0), (.slice x1_p x1_n x1_c)])] w R :=
  Ret.of_fsem Tryz.func57 rfl (Eq.mp (spec_RatInt_eq x0 x1_p x1_n x1_c w R) h)
def spec_IntOf (n : Int) (w : World) (R : Value → World → Prop) : Prop :=
  ∀ (r : Nat) (wv : World), New w (.cells ⟨[(.bool false), (.slice none 0 0)]⟩ 31 (0, 0)) r wv →
  ((decide ((n : Int) = (-9223372036854775808))) = true →
    ∀ (r_1 : Nat) (wv_1 : World), New wv (.cells ⟨[(.int .i64 854775808), (.int .i64 223372036), (.int .i64 9)]⟩ 3 (0, 0)) r_1 wv_1 →
    Calls P 70 ⟨[(.bool true), (.slice (some ⟨r_1, 0, none⟩) 3 3)]⟩ wv_1 fun e wv_2 =>
    ∃ (t60 : Bool) (t61_p : Option Addr) (t61_n : Nat) (t61_c : Nat), e = .returned (.agg #[(.bool t60), (.slice t61_p t61_n t61_c)]) ∧
    ∃ wv_3, Stores P 31 ⟨r, 0, none⟩ (.agg #[(.bool t60), (.slice t61_p t61_n t61_c)]) wv_2 wv_3 ∧
    ∃ (r0 : Bool) (r1_p : Option Addr) (r1_n : Nat) (r1_c : Nat), Loads P 31 ⟨r, 0, none⟩ (.agg #[(.bool r0), (.slice r1_p r1_n r1_c)]) wv_3 ∧ R (.agg #[(.bool r0), (.slice r1_p r1_n r1_c)]) wv_3) ∧
  ((decide ((n : Int) = (-9223372036854775808))) = false →
    ((decide ((n : Int) < 0)) = true →
      ∃ t10 : Int, t10 = IntKind.wrap .i64 (0 - n) ∧ Calls P 105 ⟨[(.int .i64 t10)]⟩ wv fun e_1 wv_4 =>
      ∃ (t11_p : Option Addr) (t11_n : Nat) (t11_c : Nat), e_1 = .returned (.slice t11_p t11_n t11_c) ∧
      Calls P 70 ⟨[(.bool true), (.slice t11_p t11_n t11_c)]⟩ wv_4 fun e_2 wv_5 =>
      ∃ (t120 : Bool) (t121_p : Option Addr) (t121_n : Nat) (t121_c : Nat), e_2 = .returned (.agg #[(.bool t120), (.slice t121_p t121_n t121_c)]) ∧
      ∃ wv_6, Stores P 31 ⟨r, 0, none⟩ (.agg #[(.bool t120), (.slice t121_p t121_n t121_c)]) wv_5 wv_6 ∧
      ∃ (r0_1 : Bool) (r1_p_1 : Option Addr) (r1_n_1 : Nat) (r1_c_1 : Nat), Loads P 31 ⟨r, 0, none⟩ (.agg #[(.bool r0_1), (.slice r1_p_1 r1_n_1 r1_c_1)]) wv_6 ∧ R (.agg #[(.bool r0_1), (.slice r1_p_1 r1_n_1 r1_c_1)]) wv_6) ∧
    ((decide ((n : Int) < 0)) = false →
      Calls P 105 ⟨[(.int .i64 n)]⟩ wv fun e_3 wv_7 =>
      ∃ (t14_p : Option Addr) (t14_n : Nat) (t14_c : Nat), e_3 = .returned (.slice t14_p t14_n t14_c) ∧
      Calls P 70 ⟨[(.bool false), (.slice t14_p t14_n t14_c)]⟩ wv_7 fun e_4 wv_8 =>
      ∃ (t150 : Bool) (t151_p : Option Addr) (t151_n : Nat) (t151_c : Nat), e_4 = .returned (.agg #[(.bool t150), (.slice t151_p t151_n t151_c)]) ∧
      ∃ wv_9, Stores P 31 ⟨r, 0, none⟩ (.agg #[(.bool t150), (.slice t151_p t151_n t151_c)]) wv_8 wv_9 ∧
      ∃ (r0_2 : Bool) (r1_p_2 : Option Addr) (r1_n_2 : Nat) (r1_c_2 : Nat), Loads P 31 ⟨r, 0, none⟩ (.agg #[(.bool r0_2), (.slice r1_p_2 r1_n_2 r1_c_2)]) wv_9 ∧ R (.agg #[(.bool r0_2), (.slice r1_p_2 r1_n_2 r1_c_2)]) wv_9))
theorem spec_IntOf_eq (n : Int) (w : World) (R : Value → World → Prop) : spec_IntOf n w R = fsem P Tryz.f58 (fun k => []) [(.int .i64 n)] R w := by kernel_rfl
theorem spec_IntOf_ret {n : Int} {w : World} {R : Value → World → Prop} (h : spec_IntOf n w R) : Ret P 58 [(.int .i64 n)] w R :=
  Ret.of_fsem Tryz.func58 rfl (Eq.mp (spec_IntOf_eq n w R) h)
def spec_RatAdd_j0 (r : Nat) (r_1 : Nat) (r_2 : Nat) (W : World) (R : Value → World → Prop) : Prop :=
  ∃ (t20 : Bool), (∀ wv_5, Ext W.drew wv_5 → Loads P 4 (((⟨r, 0, none⟩ : Addr).add 0).add 0) (.bool t20) wv_5) ∧ ∃ (t23_p : Option Addr) (t23_n : Nat) (t23_c : Nat), (∀ wv_6, Ext W.drew wv_6 → Loads P 22 (((⟨r, 0, none⟩ : Addr).add 0).add 1) (.slice t23_p t23_n t23_c) wv_6) ∧ ∃ (t25_p : Option Addr) (t25_n : Nat) (t25_c : Nat), (∀ wv_7, Ext W.drew wv_7 → Loads P 22 ((⟨r_1, 0, none⟩ : Addr).add 2) (.slice t25_p t25_n t25_c) wv_7) ∧ ∀ (ss : List (Option Nat)) (wv_8 : World), Fl [.cells ⟨[(.bool false), (.slice none 0 0)]⟩ 31 (0, 0)] [none] W.drew ss wv_8 →
  Calls P 87 ⟨[(.slice t23_p t23_n t23_c), (.slice t25_p t25_n t25_c)]⟩ wv_8 fun e_1 wv_9 =>
  ∃ (t26_p : Option Addr) (t26_n : Nat) (t26_c : Nat), e_1 = .returned (.slice t26_p t26_n t26_c) ∧
  Ext wv_8 wv_9 ∧ ∀ (ss_1 : List (Option Nat)) (wv_10 : World), Fl [.cells ⟨[(.bool false), (.slice none 0 0)]⟩ 31 (0, 0)] ss wv_9 ss_1 wv_10 →
  Calls P 70 ⟨[(.bool t20), (.slice t26_p t26_n t26_c)]⟩ wv_10 fun e_2 wv_11 =>
  ∃ (t270 : Bool) (t271_p : Option Addr) (t271_n : Nat) (t271_c : Nat), e_2 = .returned (.agg #[(.bool t270), (.slice t271_p t271_n t271_c)]) ∧
  ∀ (ss_2 : List (Option Nat)) (wv_12 : World) (r_3 : Nat), Fl [.cells ⟨[(.bool false), (.slice none 0 0)]⟩ 31 (0, 0)] ss_1 wv_11 ss_2 wv_12 → ss_2[0]? = some (some r_3) →
  ∃ wv_13, Stores P 31 ⟨r_3, 0, none⟩ (.agg #[(.bool t270), (.slice t271_p t271_n t271_c)]) wv_12 wv_13 ∧
  ∃ (t30 : Bool), (∀ wv_14, Ext wv_13.drew wv_14 → Loads P 4 (((⟨r_1, 0, none⟩ : Addr).add 0).add 0) (.bool t30) wv_14) ∧ ∃ (t33_p : Option Addr) (t33_n : Nat) (t33_c : Nat), (∀ wv_15, Ext wv_13.drew wv_15 → Loads P 22 (((⟨r_1, 0, none⟩ : Addr).add 0).add 1) (.slice t33_p t33_n t33_c) wv_15) ∧ ∃ (t35_p : Option Addr) (t35_n : Nat) (t35_c : Nat), (∀ wv_16, Ext wv_13.drew wv_16 → Loads P 22 ((⟨r, 0, none⟩ : Addr).add 2) (.slice t35_p t35_n t35_c) wv_16) ∧ ∀ (ss_3 : List (Option Nat)) (wv_17 : World), Fl [.cells ⟨[(.bool false), (.slice none 0 0)]⟩ 31 (0, 0)] [none] wv_13.drew ss_3 wv_17 →
  Calls P 87 ⟨[(.slice t33_p t33_n t33_c), (.slice t35_p t35_n t35_c)]⟩ wv_17 fun e_3 wv_18 =>
  ∃ (t36_p : Option Addr) (t36_n : Nat) (t36_c : Nat), e_3 = .returned (.slice t36_p t36_n t36_c) ∧
  Ext wv_17 wv_18 ∧ ∀ (ss_4 : List (Option Nat)) (wv_19 : World), Fl [.cells ⟨[(.bool false), (.slice none 0 0)]⟩ 31 (0, 0)] ss_3 wv_18 ss_4 wv_19 →
  Calls P 70 ⟨[(.bool t30), (.slice t36_p t36_n t36_c)]⟩ wv_19 fun e_4 wv_20 =>
  ∃ (t370 : Bool) (t371_p : Option Addr) (t371_n : Nat) (t371_c : Nat), e_4 = .returned (.agg #[(.bool t370), (.slice t371_p t371_n t371_c)]) ∧
  ∀ (ss_5 : List (Option Nat)) (wv_21 : World) (r_4 : Nat), Fl [.cells ⟨[(.bool false), (.slice none 0 0)]⟩ 31 (0, 0)] ss_4 wv_20 ss_5 wv_21 → ss_5[0]? = some (some r_4) →
  ∃ wv_22, Stores P 31 ⟨r_4, 0, none⟩ (.agg #[(.bool t370), (.slice t371_p t371_n t371_c)]) wv_21 wv_22 ∧
  ∃ (t380 : Bool) (t381_p : Option Addr) (t381_n : Nat) (t381_c : Nat), Loads P 31 ⟨r_3, 0, none⟩ (.agg #[(.bool t380), (.slice t381_p t381_n t381_c)]) wv_22 ∧ ∃ (t390 : Bool) (t391_p : Option Addr) (t391_n : Nat) (t391_c : Nat), Loads P 31 ⟨r_4, 0, none⟩ (.agg #[(.bool t390), (.slice t391_p t391_n t391_c)]) wv_22 ∧ Calls P 106 ⟨[(.agg #[(.bool t380), (.slice t381_p t381_n t381_c)]), (.agg #[(.bool t390), (.slice t391_p t391_n t391_c)])]⟩ wv_22 fun e_5 wv_23 =>
  ∃ (t400 : Bool) (t401_p : Option Addr) (t401_n : Nat) (t401_c : Nat), e_5 = .returned (.agg #[(.bool t400), (.slice t401_p t401_n t401_c)]) ∧
  ∀ (r_5 : Nat) (wv_24 : World), New wv_23 (.cells ⟨[(.bool false), (.slice none 0 0)]⟩ 31 (0, 0)) r_5 wv_24 →
  ∃ wv_25, Stores P 31 ⟨r_5, 0, none⟩ (.agg #[(.bool t400), (.slice t401_p t401_n t401_c)]) wv_24 wv_25 ∧
  ∃ (t42 : Bool), (∀ wv_26, Ext wv_25.drew wv_26 → Loads P 4 ((⟨r_5, 0, none⟩ : Addr).add 0) (.bool t42) wv_26) ∧ ∃ (t44_p : Option Addr) (t44_n : Nat) (t44_c : Nat), (∀ wv_27, Ext wv_25.drew wv_27 → Loads P 22 ((⟨r_5, 0, none⟩ : Addr).add 1) (.slice t44_p t44_n t44_c) wv_27) ∧ ∃ (t46_p : Option Addr) (t46_n : Nat) (t46_c : Nat), (∀ wv_28, Ext wv_25.drew wv_28 → Loads P 22 ((⟨r, 0, none⟩ : Addr).add 2) (.slice t46_p t46_n t46_c) wv_28) ∧ ∃ (t48_p : Option Addr) (t48_n : Nat) (t48_c : Nat), (∀ wv_29, Ext wv_25.drew wv_29 → Loads P 22 ((⟨r_1, 0, none⟩ : Addr).add 2) (.slice t48_p t48_n t48_c) wv_29) ∧ Calls P 87 ⟨[(.slice t46_p t46_n t46_c), (.slice t48_p t48_n t48_c)]⟩ wv_25.drew fun e_6 wv_30 =>
  ∃ (t49_p : Option Addr) (t49_n : Nat) (t49_c : Nat), e_6 = .returned (.slice t49_p t49_n t49_c) ∧
  Ext wv_25.drew wv_30 ∧ Calls P 86 ⟨[(.bool t42), (.slice t44_p t44_n t44_c), (.slice t49_p t49_n t49_c)]⟩ wv_30 fun e_7 wv_31 =>
  ∃ (t500 : Bool) (t501_p : Option Addr) (t501_n : Nat) (t501_c : Nat) (t502_p : Option Addr) (t502_n : Nat) (t502_c : Nat) (t50 : Bool), e_7 = .returned (.tuple #[(.agg #[(.bool t500), (.slice t501_p t501_n t501_c), (.slice t502_p t502_n t502_c)]), (.bool t50)]) ∧
  ∃ wv_32, Stores P 35 ⟨r_2, 0, none⟩ (.agg #[(.bool t500), (.slice t501_p t501_n t501_c), (.slice t502_p t502_n t502_c)]) wv_31 wv_32 ∧
  ∃ (r0_2 : Bool) (r1_p_2 : Option Addr) (r1_n_2 : Nat) (r1_c_2 : Nat) (r2_p_2 : Option Addr) (r2_n_2 : Nat) (r2_c_2 : Nat), Loads P 35 ⟨r_2, 0, none⟩ (.agg #[(.bool r0_2), (.slice r1_p_2 r1_n_2 r1_c_2), (.slice r2_p_2 r2_n_2 r2_c_2)]) wv_32 ∧ R (.tuple #[(.agg #[(.bool r0_2), (.slice r1_p_2 r1_n_2 r1_c_2), (.slice r2_p_2 r2_n_2 r2_c_2)]), (.bool t50)]) wv_32
def spec_RatAdd (r0 : Bool) (r1_p : Option Addr) (r1_n : Nat) (r1_c : Nat) (r2_p : Option Addr) (r2_n : Nat) (r2_c : Nat) (s0 : Bool) (s1_p : Option Addr) (s1_n : Nat) (s1_c : Nat) (s2_p : Option Addr) (s2_n : Nat) (s2_c : Nat) (w : World) (R : Value → World → Prop) : Prop :=
  ∀ (r : Nat) (wv : World), New w (.cells ⟨[(.bool r0), (.slice r1_p r1_n r1_c), (.slice r2_p r2_n r2_c)]⟩ 35 (0, 0)) r wv →
  ∀ (r_1 : Nat) (wv_1 : World), New wv (.cells ⟨[(.bool s0), (.slice s1_p s1_n s1_c), (.slice s2_p s2_n s2_c)]⟩ 35 (0, 0)) r_1 wv_1 →
  ∀ (r_2 : Nat) (wv_2 : World), New wv_1 (.cells ⟨[(.bool false), (.slice none 0 0), (.slice none 0 0)]⟩ 35 (0, 0)) r_2 wv_2 →
  ∃ (t90 : Bool) (t91_p : Option Addr) (t91_n : Nat) (t91_c : Nat) (t92_p : Option Addr) (t92_n : Nat) (t92_c : Nat), Loads P 35 ⟨r, 0, none⟩ (.agg #[(.bool t90), (.slice t91_p t91_n t91_c), (.slice t92_p t92_n t92_c)]) wv_2 ∧ Calls P 85 ⟨[(.agg #[(.bool t90), (.slice t91_p t91_n t91_c), (.slice t92_p t92_n t92_c)])]⟩ wv_2 fun e wv_3 =>
  ∃ (t10 : Bool), e = .returned (.bool t10) ∧
  ((!t10) = true →
    (true = true →
      ∃ wv_4, Stores P 35 ⟨r_2, 0, none⟩ (.agg #[(.bool false), (.slice none 0 0), (.slice none 0 0)]) wv_3 wv_4 ∧
      ∃ (r0_1 : Bool) (r1_p_1 : Option Addr) (r1_n_1 : Nat) (r1_c_1 : Nat) (r2_p_1 : Option Addr) (r2_n_1 : Nat) (r2_c_1 : Nat), Loads P 35 ⟨r_2, 0, none⟩ (.agg #[(.bool r0_1), (.slice r1_p_1 r1_n_1 r1_c_1), (.slice r2_p_1 r2_n_1 r2_c_1)]) wv_4 ∧ R (.tuple #[(.agg #[(.bool r0_1), (.slice r1_p_1 r1_n_1 r1_c_1), (.slice r2_p_1 r2_n_1 r2_c_1)]), (.bool false)]) wv_4) ∧
    (true = false →
      spec_RatAdd_j0 r r_1 r_2 wv_3 R)) ∧
  ((!t10) = false →
    ∃ (t130 : Bool) (t131_p : Option Addr) (t131_n : Nat) (t131_c : Nat) (t132_p : Option Addr) (t132_n : Nat) (t132_c : Nat), Loads P 35 ⟨r_1, 0, none⟩ (.agg #[(.bool t130), (.slice t131_p t131_n t131_c), (.slice t132_p t132_n t132_c)]) wv_3 ∧ Calls P 85 ⟨[(.agg #[(.bool t130), (.slice t131_p t131_n t131_c), (.slice t132_p t132_n t132_c)])]⟩ wv_3 fun e_8 wv_33 =>
    ∃ (t14 : Bool), e_8 = .returned (.bool t14) ∧
    ((!t14) = true →
      ∃ wv_34, Stores P 35 ⟨r_2, 0, none⟩ (.agg #[(.bool false), (.slice none 0 0), (.slice none 0 0)]) wv_33 wv_34 ∧
      ∃ (r0_3 : Bool) (r1_p_3 : Option Addr) (r1_n_3 : Nat) (r1_c_3 : Nat) (r2_p_3 : Option Addr) (r2_n_3 : Nat) (r2_c_3 : Nat), Loads P 35 ⟨r_2, 0, none⟩ (.agg #[(.bool r0_3), (.slice r1_p_3 r1_n_3 r1_c_3), (.slice r2_p_3 r2_n_3 r2_c_3)]) wv_34 ∧ R (.tuple #[(.agg #[(.bool r0_3), (.slice r1_p_3 r1_n_3 r1_c_3), (.slice r2_p_3 r2_n_3 r2_c_3)]), (.bool false)]) wv_34) ∧
    ((!t14) = false →
      spec_RatAdd_j0 r r_1 r_2 wv_33 R))
theorem spec_RatAdd_eq (r0 : Bool) (r1_p : Option Addr) (r1_n : Nat) (r1_c : Nat) (r2_p : Option Addr) (r2_n : Nat) (r2_c : Nat) (s0 : Bool) (s1_p : Option Addr) (s1_n : Nat) (s1_c : Nat) (s2_p : Option Addr) (s2_n : Nat) (s2_c : Nat) (w : World) (R : Value → World → Prop) : spec_RatAdd r0 r1_p r1_n r1_c r2_p r2_n r2_c s0 s1_p s1_n s1_c s2_p s2_n s2_c w R = fsem P Tryz.f59 (fun k => []) [(.agg #[(.bool r0), (.slice r1_p r1_n r1_c), (.slice r2_p r2_n r2_c)]), (.agg #[(.bool s0), (.slice s1_p s1_n s1_c), (.slice s2_p s2_n s2_c)])] R w := by kernel_rfl
theorem spec_RatAdd_ret {r0 : Bool} {r1_p : Option Addr} {r1_n : Nat} {r1_c : Nat} {r2_p : Option Addr} {r2_n : Nat} {r2_c : Nat} {s0 : Bool} {s1_p : Option Addr} {s1_n : Nat} {s1_c : Nat} {s2_p : Option Addr} {s2_n : Nat} {s2_c : Nat} {w : World} {R : Value → World → Prop} (h : spec_RatAdd r0 r1_p r1_n r1_c r2_p r2_n r2_c s0 s1_p s1_n s1_c s2_p s2_n s2_c w R) : Ret P 59 [(.agg #[(.bool r0), (.slice r1_p r1_n r1_c), (.slice r2_p r2_n r2_c)]), (.agg #[(.bool s0), (.slice s1_p s1_n s1_c), (.slice s2_p s2_n s2_c)])] w R :=
  Ret.of_fsem Tryz.func59 rfl (Eq.mp (spec_RatAdd_eq r0 r1_p r1_n r1_c r2_p r2_n r2_c s0 s1_p s1_n s1_c s2_p s2_n s2_c w R) h)
def spec_MoneySub (m0 : ByteArray) (m1 : Bool) (m2_p : Option Addr) (m2_n : Nat) (m2_c : Nat) (n0 : ByteArray) (n1 : Bool) (n2_p : Option Addr) (n2_n : Nat) (n2_c : Nat) (w : World) (R : Value → World → Prop) : Prop :=
  ∀ (r : Nat) (wv : World), New w (.cells ⟨[(.string m0), (.bool m1), (.slice m2_p m2_n m2_c)]⟩ 33 (0, 0)) r wv →
  ∀ (r_1 : Nat) (wv_1 : World), New wv (.cells ⟨[(.string n0), (.bool n1), (.slice n2_p n2_n n2_c)]⟩ 33 (0, 0)) r_1 wv_1 →
  ∀ (r_2 : Nat) (wv_2 : World), New wv_1 (.cells ⟨[(.string ByteArray.empty), (.bool false), (.slice none 0 0)]⟩ 33 (0, 0)) r_2 wv_2 →
  ∃ (t60 : ByteArray) (t61 : Bool) (t62_p : Option Addr) (t62_n : Nat) (t62_c : Nat), Loads P 33 ⟨r, 0, none⟩ (.agg #[(.string t60), (.bool t61), (.slice t62_p t62_n t62_c)]) wv_2 ∧ ∃ (t70 : ByteArray) (t71 : Bool) (t72_p : Option Addr) (t72_n : Nat) (t72_c : Nat), Loads P 33 ⟨r_1, 0, none⟩ (.agg #[(.string t70), (.bool t71), (.slice t72_p t72_n t72_c)]) wv_2 ∧ Calls P 67 ⟨[(.agg #[(.string t60), (.bool t61), (.slice t62_p t62_n t62_c)]), (.agg #[(.string t70), (.bool t71), (.slice t72_p t72_n t72_c)])]⟩ wv_2 fun e wv_3 =>
  ∃ (t8 : Bool), e = .returned (.bool t8) ∧
  ((!t8) = true →
    ∃ wv_4, Stores P 33 ⟨r_2, 0, none⟩ (.agg #[(.string ByteArray.empty), (.bool false), (.slice none 0 0)]) wv_3 wv_4 ∧
    ∃ (r0 : ByteArray) (r1 : Bool) (r2_p : Option Addr) (r2_n : Nat) (r2_c : Nat), Loads P 33 ⟨r_2, 0, none⟩ (.agg #[(.string r0), (.bool r1), (.slice r2_p r2_n r2_c)]) wv_4 ∧ R (.tuple #[(.agg #[(.string r0), (.bool r1), (.slice r2_p r2_n r2_c)]), (.bool false)]) wv_4) ∧
  ((!t8) = false →
    ∃ (t12 : ByteArray), (∀ wv_5, Ext wv_3.drew wv_5 → Loads P 9 ((⟨r, 0, none⟩ : Addr).add 0) (.string t12) wv_5) ∧ ∃ (t140 : Bool) (t141_p : Option Addr) (t141_n : Nat) (t141_c : Nat), (∀ wv_6, Ext wv_3.drew wv_6 → Loads P 31 ((⟨r, 0, none⟩ : Addr).add 1) (.agg #[(.bool t140), (.slice t141_p t141_n t141_c)]) wv_6) ∧ ∃ (t160 : Bool) (t161_p : Option Addr) (t161_n : Nat) (t161_c : Nat), (∀ wv_7, Ext wv_3.drew wv_7 → Loads P 31 ((⟨r_1, 0, none⟩ : Addr).add 1) (.agg #[(.bool t160), (.slice t161_p t161_n t161_c)]) wv_7) ∧ Calls P 107 ⟨[(.agg #[(.bool t140), (.slice t141_p t141_n t141_c)]), (.agg #[(.bool t160), (.slice t161_p t161_n t161_c)])]⟩ wv_3.drew fun e_1 wv_8 =>
    ∃ (t170 : Bool) (t171_p : Option Addr) (t171_n : Nat) (t171_c : Nat), e_1 = .returned (.agg #[(.bool t170), (.slice t171_p t171_n t171_c)]) ∧
    Ext wv_3.drew wv_8 ∧ Calls P 91 ⟨[(.string t12), (.agg #[(.bool t170), (.slice t171_p t171_n t171_c)])]⟩ wv_8 fun e_2 wv_9 =>
    ∃ (t180 : ByteArray) (t181 : Bool) (t182_p : Option Addr) (t182_n : Nat) (t182_c : Nat) (t18 : Bool), e_2 = .returned (.tuple #[(.agg #[(.string t180), (.bool t181), (.slice t182_p t182_n t182_c)]), (.bool t18)]) ∧
    ∃ wv_10, Stores P 33 ⟨r_2, 0, none⟩ (.agg #[(.string t180), (.bool t181), (.slice t182_p t182_n t182_c)]) wv_9 wv_10 ∧
    ∃ (r0_1 : ByteArray) (r1_1 : Bool) (r2_p_1 : Option Addr) (r2_n_1 : Nat) (r2_c_1 : Nat), Loads P 33 ⟨r_2, 0, none⟩ (.agg #[(.string r0_1), (.bool r1_1), (.slice r2_p_1 r2_n_1 r2_c_1)]) wv_10 ∧ R (.tuple #[(.agg #[(.string r0_1), (.bool r1_1), (.slice r2_p_1 r2_n_1 r2_c_1)]), (.bool t18)]) wv_10)
theorem spec_MoneySub_eq (m0 : ByteArray) (m1 : Bool) (m2_p : Option Addr) (m2_n : Nat) (m2_c : Nat) (n0 : ByteArray) (n1 : Bool) (n2_p : Option Addr) (n2_n : Nat) (n2_c : Nat) (w : World) (R : Value → World → Prop) : spec_MoneySub m0 m1 m2_p m2_n m2_c n0 n1 n2_p n2_n n2_c w R = fsem P Tryz.f61 (fun k => []) [(.agg #[(.string m0), (.bool m1), (.slice m2_p m2_n m2_c)]), (.agg #[(.string n0), (.bool n1), (.slice n2_p n2_n n2_c)])] R w := by kernel_rfl
theorem spec_MoneySub_ret {m0 : ByteArray} {m1 : Bool} {m2_p : Option Addr} {m2_n : Nat} {m2_c : Nat} {n0 : ByteArray} {n1 : Bool} {n2_p : Option Addr} {n2_n : Nat} {n2_c : Nat} {w : World} {R : Value → World → Prop} (h : spec_MoneySub m0 m1 m2_p m2_n m2_c n0 n1 n2_p n2_n n2_c w R) : Ret P 61 [(.agg #[(.string m0), (.bool m1), (.slice m2_p m2_n m2_c)]), (.agg #[(.string n0), (.bool n1), (.slice n2_p n2_n n2_c)])] w R :=
  Ret.of_fsem Tryz.func61 rfl (Eq.mp (spec_MoneySub_eq m0 m1 m2_p m2_n m2_c n0 n1 n2_p n2_n n2_c w R) h)
def impl_RatInt (x0 : Bool) (x1_p : Option Addr) (x1_n : Nat) (x1_c : Nat) (w : World) (R : Value → World → Prop) : Prop :=
  ∀ (r : Nat) (wv : World), New w (.cells ⟨[(.bool x0), (.slice x1_p x1_n x1_c)]⟩ 31 (0, 0)) r wv →
  ∀ (r_1 : Nat) (wv_1 : World), New wv (.cells ⟨[(.bool false), (.slice none 0 0), (.slice none 0 0)]⟩ 35 (0, 0)) r_1 wv_1 →
  ∃ (t40 : Bool) (t41_p : Option Addr) (t41_n : Nat) (t41_c : Nat), (∀ wv_2, Ext wv_1.drew wv_2 → Loads P 31 ⟨r, 0, none⟩ (.agg #[(.bool t40), (.slice t41_p t41_n t41_c)]) wv_2) ∧ Calls P 63 ⟨[(.int .i64 1)]⟩ wv_1.drew fun e wv_3 =>
  ∃ (t50 : Bool) (t51_p : Option Addr) (t51_n : Nat) (t51_c : Nat), e = .returned (.agg #[(.bool t50), (.slice t51_p t51_n t51_c)]) ∧
  Ext wv_1.drew wv_3 ∧ Calls P 108 ⟨[(.agg #[(.bool t40), (.slice t41_p t41_n t41_c)]), (.agg #[(.bool t50), (.slice t51_p t51_n t51_c)])]⟩ wv_3 fun e_1 wv_4 =>
  ∃ (t60 : Bool) (t61_p : Option Addr) (t61_n : Nat) (t61_c : Nat) (t62_p : Option Addr) (t62_n : Nat) (t62_c : Nat) (t6 : Bool), e_1 = .returned (.tuple #[(.agg #[(.bool t60), (.slice t61_p t61_n t61_c), (.slice t62_p t62_n t62_c)]), (.bool t6)]) ∧
  ∃ wv_5, Stores P 35 ⟨r_1, 0, none⟩ (.agg #[(.bool t60), (.slice t61_p t61_n t61_c), (.slice t62_p t62_n t62_c)]) wv_4 wv_5 ∧
  ∃ (r0 : Bool) (r1_p : Option Addr) (r1_n : Nat) (r1_c : Nat) (r2_p : Option Addr) (r2_n : Nat) (r2_c : Nat), Loads P 35 ⟨r_1, 0, none⟩ (.agg #[(.bool r0), (.slice r1_p r1_n r1_c), (.slice r2_p r2_n r2_c)]) wv_5 ∧ R (.tuple #[(.agg #[(.bool r0), (.slice r1_p r1_n r1_c), (.slice r2_p r2_n r2_c)]), (.bool t6)]) wv_5
theorem impl_RatInt_eq (x0 : Bool) (x1_p : Option Addr) (x1_n : Nat) (x1_c : Nat) (w : World) (R : Value → World → Prop) : impl_RatInt x0 x1_p x1_n x1_c w R = fsem P Tryz.f62 (fun k => []) [(.agg #[(.bool x0), (.slice x1_p x1_n x1_c)])] R w := by kernel_rfl
theorem impl_RatInt_ret {x0 : Bool} {x1_p : Option Addr} {x1_n : Nat} {x1_c : Nat} {w : World} {R : Value → World → Prop} (h : impl_RatInt x0 x1_p x1_n x1_c w R) : Ret P 62 [(.agg #[(.bool x0), (.slice x1_p x1_n x1_c)])] w R :=
  Ret.of_fsem Tryz.func62 rfl (Eq.mp (impl_RatInt_eq x0 x1_p x1_n x1_c w R) h)
def impl_IntOf (n : Int) (w : World) (R : Value → World → Prop) : Prop :=
  ∀ (r : Nat) (wv : World), New w (.cells ⟨[(.bool false), (.slice none 0 0)]⟩ 31 (0, 0)) r wv →
  ((decide ((n : Int) < 0)) = true →
    ∃ t6 : Int, t6 = IntKind.wrap .u64 n ∧ ∃ t7 : Int, t7 = IntKind.wrap .u64 (0 - t6) ∧ Calls P 109 ⟨[(.int .u64 t7)]⟩ wv fun e wv_1 =>
    ∃ (t8_p : Option Addr) (t8_n : Nat) (t8_c : Nat), e = .returned (.slice t8_p t8_n t8_c) ∧
    ∃ wv_2, Stores P 31 ⟨r, 0, none⟩ (.agg #[(.bool true), (.slice t8_p t8_n t8_c)]) wv_1 wv_2 ∧
    ∃ (r0 : Bool) (r1_p : Option Addr) (r1_n : Nat) (r1_c : Nat), Loads P 31 ⟨r, 0, none⟩ (.agg #[(.bool r0), (.slice r1_p r1_n r1_c)]) wv_2 ∧ R (.agg #[(.bool r0), (.slice r1_p r1_n r1_c)]) wv_2) ∧
  ((decide ((n : Int) < 0)) = false →
    ∃ t11 : Int, t11 = IntKind.wrap .u64 n ∧ Calls P 109 ⟨[(.int .u64 t11)]⟩ wv fun e_1 wv_3 =>
    ∃ (t12_p : Option Addr) (t12_n : Nat) (t12_c : Nat), e_1 = .returned (.slice t12_p t12_n t12_c) ∧
    ∃ wv_4, Stores P 31 ⟨r, 0, none⟩ (.agg #[(.bool false), (.slice t12_p t12_n t12_c)]) wv_3 wv_4 ∧
    ∃ (r0_1 : Bool) (r1_p_1 : Option Addr) (r1_n_1 : Nat) (r1_c_1 : Nat), Loads P 31 ⟨r, 0, none⟩ (.agg #[(.bool r0_1), (.slice r1_p_1 r1_n_1 r1_c_1)]) wv_4 ∧ R (.agg #[(.bool r0_1), (.slice r1_p_1 r1_n_1 r1_c_1)]) wv_4)
theorem impl_IntOf_eq (n : Int) (w : World) (R : Value → World → Prop) : impl_IntOf n w R = fsem P Tryz.f63 (fun k => []) [(.int .i64 n)] R w := by kernel_rfl
theorem impl_IntOf_ret {n : Int} {w : World} {R : Value → World → Prop} (h : impl_IntOf n w R) : Ret P 63 [(.int .i64 n)] w R :=
  Ret.of_fsem Tryz.func63 rfl (Eq.mp (impl_IntOf_eq n w R) h)
def impl_RatAdd (r0 : Bool) (r1_p : Option Addr) (r1_n : Nat) (r1_c : Nat) (r2_p : Option Addr) (r2_n : Nat) (r2_c : Nat) (s0 : Bool) (s1_p : Option Addr) (s1_n : Nat) (s1_c : Nat) (s2_p : Option Addr) (s2_n : Nat) (s2_c : Nat) (w : World) (R : Value → World → Prop) : Prop :=
  ∀ (r : Nat) (wv : World), New w (.cells ⟨[(.bool r0), (.slice r1_p r1_n r1_c), (.slice r2_p r2_n r2_c)]⟩ 35 (0, 0)) r wv →
  ∀ (r_1 : Nat) (wv_1 : World), New wv (.cells ⟨[(.bool s0), (.slice s1_p s1_n s1_c), (.slice s2_p s2_n s2_c)]⟩ 35 (0, 0)) r_1 wv_1 →
  ∀ (r_2 : Nat) (wv_2 : World), New wv_1 (.cells ⟨[(.bool false), (.slice none 0 0), (.slice none 0 0)]⟩ 35 (0, 0)) r_2 wv_2 →
  ∃ (t80 : Bool) (t81_p : Option Addr) (t81_n : Nat) (t81_c : Nat) (t82_p : Option Addr) (t82_n : Nat) (t82_c : Nat), Loads P 35 ⟨r, 0, none⟩ (.agg #[(.bool t80), (.slice t81_p t81_n t81_c), (.slice t82_p t82_n t82_c)]) wv_2 ∧ ∃ (t90 : Bool) (t91_p : Option Addr) (t91_n : Nat) (t91_c : Nat) (t92_p : Option Addr) (t92_n : Nat) (t92_c : Nat), Loads P 35 ⟨r_1, 0, none⟩ (.agg #[(.bool t90), (.slice t91_p t91_n t91_c), (.slice t92_p t92_n t92_c)]) wv_2 ∧ Calls P 97 ⟨[(.agg #[(.bool t80), (.slice t81_p t81_n t81_c), (.slice t82_p t82_n t82_c)]), (.agg #[(.bool t90), (.slice t91_p t91_n t91_c), (.slice t92_p t92_n t92_c)])]⟩ wv_2 fun e wv_3 =>
  ∃ (t10 : Bool), e = .returned (.bool t10) ∧
  ((!t10) = true →
    ∃ wv_4, Stores P 35 ⟨r_2, 0, none⟩ (.agg #[(.bool false), (.slice none 0 0), (.slice none 0 0)]) wv_3 wv_4 ∧
    ∃ (r0_1 : Bool) (r1_p_1 : Option Addr) (r1_n_1 : Nat) (r1_c_1 : Nat) (r2_p_1 : Option Addr) (r2_n_1 : Nat) (r2_c_1 : Nat), Loads P 35 ⟨r_2, 0, none⟩ (.agg #[(.bool r0_1), (.slice r1_p_1 r1_n_1 r1_c_1), (.slice r2_p_1 r2_n_1 r2_c_1)]) wv_4 ∧ R (.tuple #[(.agg #[(.bool r0_1), (.slice r1_p_1 r1_n_1 r1_c_1), (.slice r2_p_1 r2_n_1 r2_c_1)]), (.bool false)]) wv_4) ∧
  ((!t10) = false →
    ∃ (t130 : Bool) (t131_p : Option Addr) (t131_n : Nat) (t131_c : Nat) (t132_p : Option Addr) (t132_n : Nat) (t132_c : Nat), (∀ wv_5, Ext wv_3.drew wv_5 → Loads P 35 ⟨r, 0, none⟩ (.agg #[(.bool t130), (.slice t131_p t131_n t131_c), (.slice t132_p t132_n t132_c)]) wv_5) ∧ ∃ (t150 : Bool) (t151_p : Option Addr) (t151_n : Nat) (t151_c : Nat) (t152_p : Option Addr) (t152_n : Nat) (t152_c : Nat), (∀ wv_6, Ext wv_3.drew wv_6 → Loads P 35 ⟨r_1, 0, none⟩ (.agg #[(.bool t150), (.slice t151_p t151_n t151_c), (.slice t152_p t152_n t152_c)]) wv_6) ∧ ∃ (t19_p : Option Addr) (t19_n : Nat) (t19_c : Nat), (∀ wv_7, Ext wv_3.drew.drew wv_7 → Loads P 22 ((⟨r_1, 0, none⟩ : Addr).add 2) (.slice t19_p t19_n t19_c) wv_7) ∧ CallW P (.func (.func 110) #[(.agg #[(.bool t130), (.slice t131_p t131_n t131_c), (.slice t132_p t132_n t132_c)])] #[]) [(.slice t19_p t19_n t19_c)] wv_3.drew.drew fun e_1 wv_8 =>
    ∃ (t200 : Bool) (t201_p : Option Addr) (t201_n : Nat) (t201_c : Nat), e_1 = .returned (.agg #[(.bool t200), (.slice t201_p t201_n t201_c)]) ∧
    Ext wv_3.drew.drew wv_8 ∧ ∃ (t23_p : Option Addr) (t23_n : Nat) (t23_c : Nat), (∀ wv_9, Ext wv_3.drew.drew wv_9 → Loads P 22 ((⟨r, 0, none⟩ : Addr).add 2) (.slice t23_p t23_n t23_c) wv_9) ∧ CallW P (.func (.func 110) #[(.agg #[(.bool t150), (.slice t151_p t151_n t151_c), (.slice t152_p t152_n t152_c)])] #[]) [(.slice t23_p t23_n t23_c)] wv_8 fun e_2 wv_10 =>
    ∃ (t240 : Bool) (t241_p : Option Addr) (t241_n : Nat) (t241_c : Nat), e_2 = .returned (.agg #[(.bool t240), (.slice t241_p t241_n t241_c)]) ∧
    Ext wv_8 wv_10 ∧ Calls P 111 ⟨[(.agg #[(.bool t200), (.slice t201_p t201_n t201_c)]), (.agg #[(.bool t240), (.slice t241_p t241_n t241_c)])]⟩ wv_10 fun e_3 wv_11 =>
    ∃ (t250 : Bool) (t251_p : Option Addr) (t251_n : Nat) (t251_c : Nat), e_3 = .returned (.agg #[(.bool t250), (.slice t251_p t251_n t251_c)]) ∧
    Ext wv_10 wv_11 ∧ ∃ (t27_p : Option Addr) (t27_n : Nat) (t27_c : Nat), (∀ wv_12, Ext wv_3.drew.drew wv_12 → Loads P 22 ((⟨r, 0, none⟩ : Addr).add 2) (.slice t27_p t27_n t27_c) wv_12) ∧ ∃ (t29_p : Option Addr) (t29_n : Nat) (t29_c : Nat), (∀ wv_13, Ext wv_3.drew.drew wv_13 → Loads P 22 ((⟨r_1, 0, none⟩ : Addr).add 2) (.slice t29_p t29_n t29_c) wv_13) ∧ Calls P 100 ⟨[(.slice t27_p t27_n t27_c), (.slice t29_p t29_n t29_c)]⟩ wv_11 fun e_4 wv_14 =>
    ∃ (t30_p : Option Addr) (t30_n : Nat) (t30_c : Nat), e_4 = .returned (.slice t30_p t30_n t30_c) ∧
    Calls P 98 ⟨[(.agg #[(.bool t250), (.slice t251_p t251_n t251_c)]), (.slice t30_p t30_n t30_c)]⟩ wv_14 fun e_5 wv_15 =>
    ∃ (t310 : Bool) (t311_p : Option Addr) (t311_n : Nat) (t311_c : Nat) (t312_p : Option Addr) (t312_n : Nat) (t312_c : Nat) (t31 : Bool), e_5 = .returned (.tuple #[(.agg #[(.bool t310), (.slice t311_p t311_n t311_c), (.slice t312_p t312_n t312_c)]), (.bool t31)]) ∧
    ∃ wv_16, Stores P 35 ⟨r_2, 0, none⟩ (.agg #[(.bool t310), (.slice t311_p t311_n t311_c), (.slice t312_p t312_n t312_c)]) wv_15 wv_16 ∧
    ∃ (r0_2 : Bool) (r1_p_2 : Option Addr) (r1_n_2 : Nat) (r1_c_2 : Nat) (r2_p_2 : Option Addr) (r2_n_2 : Nat) (r2_c_2 : Nat), Loads P 35 ⟨r_2, 0, none⟩ (.agg #[(.bool r0_2), (.slice r1_p_2 r1_n_2 r1_c_2), (.slice r2_p_2 r2_n_2 r2_c_2)]) wv_16 ∧ R (.tuple #[(.agg #[(.bool r0_2), (.slice r1_p_2 r1_n_2 r1_c_2), (.slice r2_p_2 r2_n_2 r2_c_2)]), (.bool t31)]) wv_16)
theorem impl_RatAdd_eq (r0 : Bool) (r1_p : Option Addr) (r1_n : Nat) (r1_c : Nat) (r2_p : Option Addr) (r2_n : Nat) (r2_c : Nat) (s0 : Bool) (s1_p : Option Addr) (s1_n : Nat) (s1_c : Nat) (s2_p : Option Addr) (s2_n : Nat) (s2_c : Nat) (w : World) (R : Value → World → Prop) : impl_RatAdd r0 r1_p r1_n r1_c r2_p r2_n r2_c s0 s1_p s1_n s1_c s2_p s2_n s2_c w R = fsem P Tryz.f64 (fun k => []) [(.agg #[(.bool r0), (.slice r1_p r1_n r1_c), (.slice r2_p r2_n r2_c)]), (.agg #[(.bool s0), (.slice s1_p s1_n s1_c), (.slice s2_p s2_n s2_c)])] R w := by kernel_rfl
theorem impl_RatAdd_ret {r0 : Bool} {r1_p : Option Addr} {r1_n : Nat} {r1_c : Nat} {r2_p : Option Addr} {r2_n : Nat} {r2_c : Nat} {s0 : Bool} {s1_p : Option Addr} {s1_n : Nat} {s1_c : Nat} {s2_p : Option Addr} {s2_n : Nat} {s2_c : Nat} {w : World} {R : Value → World → Prop} (h : impl_RatAdd r0 r1_p r1_n r1_c r2_p r2_n r2_c s0 s1_p s1_n s1_c s2_p s2_n s2_c w R) : Ret P 64 [(.agg #[(.bool r0), (.slice r1_p r1_n r1_c), (.slice r2_p r2_n r2_c)]), (.agg #[(.bool s0), (.slice s1_p s1_n s1_c), (.slice s2_p s2_n s2_c)])] w R :=
  Ret.of_fsem Tryz.func64 rfl (Eq.mp (impl_RatAdd_eq r0 r1_p r1_n r1_c r2_p r2_n r2_c s0 s1_p s1_n s1_c s2_p s2_n s2_c w R) h)
def impl_MoneySub (m0 : ByteArray) (m1 : Bool) (m2_p : Option Addr) (m2_n : Nat) (m2_c : Nat) (n0 : ByteArray) (n1 : Bool) (n2_p : Option Addr) (n2_n : Nat) (n2_c : Nat) (w : World) (R : Value → World → Prop) : Prop :=
  ∀ (r : Nat) (wv : World), New w (.cells ⟨[(.string m0), (.bool m1), (.slice m2_p m2_n m2_c)]⟩ 33 (0, 0)) r wv →
  ∀ (r_1 : Nat) (wv_1 : World), New wv (.cells ⟨[(.string n0), (.bool n1), (.slice n2_p n2_n n2_c)]⟩ 33 (0, 0)) r_1 wv_1 →
  ∀ (r_2 : Nat) (wv_2 : World), New wv_1 (.cells ⟨[(.string ByteArray.empty), (.bool false), (.slice none 0 0)]⟩ 33 (0, 0)) r_2 wv_2 →
  ∃ (t60 : ByteArray) (t61 : Bool) (t62_p : Option Addr) (t62_n : Nat) (t62_c : Nat), Loads P 33 ⟨r, 0, none⟩ (.agg #[(.string t60), (.bool t61), (.slice t62_p t62_n t62_c)]) wv_2 ∧ ∃ (t70 : ByteArray) (t71 : Bool) (t72_p : Option Addr) (t72_n : Nat) (t72_c : Nat), Loads P 33 ⟨r_1, 0, none⟩ (.agg #[(.string t70), (.bool t71), (.slice t72_p t72_n t72_c)]) wv_2 ∧ Calls P 71 ⟨[(.agg #[(.string t60), (.bool t61), (.slice t62_p t62_n t62_c)]), (.agg #[(.string t70), (.bool t71), (.slice t72_p t72_n t72_c)])]⟩ wv_2 fun e wv_3 =>
  ∃ (t8 : Bool), e = .returned (.bool t8) ∧
  ((!t8) = true →
    ∃ wv_4, Stores P 33 ⟨r_2, 0, none⟩ (.agg #[(.string ByteArray.empty), (.bool false), (.slice none 0 0)]) wv_3 wv_4 ∧
    ∃ (r0 : ByteArray) (r1 : Bool) (r2_p : Option Addr) (r2_n : Nat) (r2_c : Nat), Loads P 33 ⟨r_2, 0, none⟩ (.agg #[(.string r0), (.bool r1), (.slice r2_p r2_n r2_c)]) wv_4 ∧ R (.tuple #[(.agg #[(.string r0), (.bool r1), (.slice r2_p r2_n r2_c)]), (.bool false)]) wv_4) ∧
  ((!t8) = false →
    ∃ (t12 : ByteArray), (∀ wv_5, Ext wv_3.drew wv_5 → Loads P 9 ((⟨r, 0, none⟩ : Addr).add 0) (.string t12) wv_5) ∧ ∃ (t140 : Bool) (t141_p : Option Addr) (t141_n : Nat) (t141_c : Nat), (∀ wv_6, Ext wv_3.drew wv_6 → Loads P 31 ((⟨r, 0, none⟩ : Addr).add 1) (.agg #[(.bool t140), (.slice t141_p t141_n t141_c)]) wv_6) ∧ ∃ (t160 : Bool) (t161_p : Option Addr) (t161_n : Nat) (t161_c : Nat), (∀ wv_7, Ext wv_3.drew wv_7 → Loads P 31 ((⟨r_1, 0, none⟩ : Addr).add 1) (.agg #[(.bool t160), (.slice t161_p t161_n t161_c)]) wv_7) ∧ Calls P 113 ⟨[(.agg #[(.bool t160), (.slice t161_p t161_n t161_c)])]⟩ wv_3.drew fun e_1 wv_8 =>
    ∃ (t170 : Bool) (t171_p : Option Addr) (t171_n : Nat) (t171_c : Nat), e_1 = .returned (.agg #[(.bool t170), (.slice t171_p t171_n t171_c)]) ∧
    Ext wv_3.drew wv_8 ∧ Calls P 111 ⟨[(.agg #[(.bool t140), (.slice t141_p t141_n t141_c)]), (.agg #[(.bool t170), (.slice t171_p t171_n t171_c)])]⟩ wv_8 fun e_2 wv_9 =>
    ∃ (t180 : Bool) (t181_p : Option Addr) (t181_n : Nat) (t181_c : Nat), e_2 = .returned (.agg #[(.bool t180), (.slice t181_p t181_n t181_c)]) ∧
    Ext wv_8 wv_9 ∧ Calls P 104 ⟨[(.string t12), (.agg #[(.bool t180), (.slice t181_p t181_n t181_c)])]⟩ wv_9 fun e_3 wv_10 =>
    ∃ (t190 : ByteArray) (t191 : Bool) (t192_p : Option Addr) (t192_n : Nat) (t192_c : Nat) (t19 : Bool), e_3 = .returned (.tuple #[(.agg #[(.string t190), (.bool t191), (.slice t192_p t192_n t192_c)]), (.bool t19)]) ∧
    ∃ wv_11, Stores P 33 ⟨r_2, 0, none⟩ (.agg #[(.string t190), (.bool t191), (.slice t192_p t192_n t192_c)]) wv_10 wv_11 ∧
    ∃ (r0_1 : ByteArray) (r1_1 : Bool) (r2_p_1 : Option Addr) (r2_n_1 : Nat) (r2_c_1 : Nat), Loads P 33 ⟨r_2, 0, none⟩ (.agg #[(.string r0_1), (.bool r1_1), (.slice r2_p_1 r2_n_1 r2_c_1)]) wv_11 ∧ R (.tuple #[(.agg #[(.string r0_1), (.bool r1_1), (.slice r2_p_1 r2_n_1 r2_c_1)]), (.bool t19)]) wv_11)
theorem impl_MoneySub_eq (m0 : ByteArray) (m1 : Bool) (m2_p : Option Addr) (m2_n : Nat) (m2_c : Nat) (n0 : ByteArray) (n1 : Bool) (n2_p : Option Addr) (n2_n : Nat) (n2_c : Nat) (w : World) (R : Value → World → Prop) : impl_MoneySub m0 m1 m2_p m2_n m2_c n0 n1 n2_p n2_n n2_c w R = fsem P Tryz.f66 (fun k => []) [(.agg #[(.string m0), (.bool m1), (.slice m2_p m2_n m2_c)]), (.agg #[(.string n0), (.bool n1), (.slice n2_p n2_n n2_c)])] R w := by kernel_rfl
theorem impl_MoneySub_ret {m0 : ByteArray} {m1 : Bool} {m2_p : Option Addr} {m2_n : Nat} {m2_c : Nat} {n0 : ByteArray} {n1 : Bool} {n2_p : Option Addr} {n2_n : Nat} {n2_c : Nat} {w : World} {R : Value → World → Prop} (h : impl_MoneySub m0 m1 m2_p m2_n m2_c n0 n1 n2_p n2_n n2_c w R) : Ret P 66 [(.agg #[(.string m0), (.bool m1), (.slice m2_p m2_n m2_c)]), (.agg #[(.string n0), (.bool n1), (.slice n2_p n2_n n2_c)])] w R :=
  Ret.of_fsem Tryz.func66 rfl (Eq.mp (impl_MoneySub_eq m0 m1 m2_p m2_n m2_c n0 n1 n2_p n2_n n2_c w R) h)
def spec_l09Both (m0 : ByteArray) (m1 : Bool) (m2_p : Option Addr) (m2_n : Nat) (m2_c : Nat) (n0 : ByteArray) (n1 : Bool) (n2_p : Option Addr) (n2_n : Nat) (n2_c : Nat) (w : World) (R : Value → World → Prop) : Prop :=
  ∀ (r : Nat) (wv : World), New w (.cells ⟨[(.string m0), (.bool m1), (.slice m2_p m2_n m2_c)]⟩ 33 (0, 0)) r wv →
  ∀ (r_1 : Nat) (wv_1 : World), New wv (.cells ⟨[(.string n0), (.bool n1), (.slice n2_p n2_n n2_c)]⟩ 33 (0, 0)) r_1 wv_1 →
  ∃ (t50 : ByteArray) (t51 : Bool) (t52_p : Option Addr) (t52_n : Nat) (t52_c : Nat), Loads P 33 ⟨r, 0, none⟩ (.agg #[(.string t50), (.bool t51), (.slice t52_p t52_n t52_c)]) wv_1 ∧ Calls P 38 ⟨[(.agg #[(.string t50), (.bool t51), (.slice t52_p t52_n t52_c)])]⟩ wv_1 fun e wv_2 =>
  ∃ (t6 : Bool), e = .returned (.bool t6) ∧
  (t6 = true →
    ∃ (t80 : ByteArray) (t81 : Bool) (t82_p : Option Addr) (t82_n : Nat) (t82_c : Nat), Loads P 33 ⟨r_1, 0, none⟩ (.agg #[(.string t80), (.bool t81), (.slice t82_p t82_n t82_c)]) wv_2 ∧ Calls P 38 ⟨[(.agg #[(.string t80), (.bool t81), (.slice t82_p t82_n t82_c)])]⟩ wv_2 fun e_1 wv_3 =>
    ∃ (t9 : Bool), e_1 = .returned (.bool t9) ∧
    (t9 = true →
      ∃ (t13 : ByteArray), Loads P 9 ((⟨r, 0, none⟩ : Addr).add 0) (.string t13) wv_3 ∧ ∃ (t15 : ByteArray), Loads P 9 ((⟨r_1, 0, none⟩ : Addr).add 0) (.string t15) wv_3 ∧ R (.bool (decide (t13 = t15))) wv_3) ∧
    (t9 = false →
      R (.bool false) wv_3)) ∧
  (t6 = false →
    (false = true →
      ∃ (t13_1 : ByteArray), Loads P 9 ((⟨r, 0, none⟩ : Addr).add 0) (.string t13_1) wv_2 ∧ ∃ (t15_1 : ByteArray), Loads P 9 ((⟨r_1, 0, none⟩ : Addr).add 0) (.string t15_1) wv_2 ∧ R (.bool (decide (t13_1 = t15_1))) wv_2) ∧
    (false = false →
      R (.bool false) wv_2))
theorem spec_l09Both_eq (m0 : ByteArray) (m1 : Bool) (m2_p : Option Addr) (m2_n : Nat) (m2_c : Nat) (n0 : ByteArray) (n1 : Bool) (n2_p : Option Addr) (n2_n : Nat) (n2_c : Nat) (w : World) (R : Value → World → Prop) : spec_l09Both m0 m1 m2_p m2_n m2_c n0 n1 n2_p n2_n n2_c w R = fsem P Tryz.f67 (fun k => []) [(.agg #[(.string m0), (.bool m1), (.slice m2_p m2_n m2_c)]), (.agg #[(.string n0), (.bool n1), (.slice n2_p n2_n n2_c)])] R w := by kernel_rfl
theorem spec_l09Both_ret {m0 : ByteArray} {m1 : Bool} {m2_p : Option Addr} {m2_n : Nat} {m2_c : Nat} {n0 : ByteArray} {n1 : Bool} {n2_p : Option Addr} {n2_n : Nat} {n2_c : Nat} {w : World} {R : Value → World → Prop} (h : spec_l09Both m0 m1 m2_p m2_n m2_c n0 n1 n2_p n2_n n2_c w R) : Ret P 67 [(.agg #[(.string m0), (.bool m1), (.slice m2_p m2_n m2_c)]), (.agg #[(.string n0), (.bool n1), (.slice n2_p n2_n n2_c)])] w R :=
  Ret.of_fsem Tryz.func67 rfl (Eq.mp (spec_l09Both_eq m0 m1 m2_p m2_n m2_c n0 n1 n2_p n2_n n2_c w R) h)
end Go.Proofs.YtfemmmbkhhemaaaGreatDoor

namespace Go.Proofs.YtfemmmbkhhemaaaGreatDoor
open Go Go.Proofs.YtfemmmbkhhemaaaGreatDoor.Sx
set_option linter.unusedVariables false
set_option maxRecDepth 100000
def spec_MoneyAdd (m0 : ByteArray) (m1 : Bool) (m2_p : Option Addr) (m2_n : Nat) (m2_c : Nat) (n0 : ByteArray) (n1 : Bool) (n2_p : Option Addr) (n2_n : Nat) (n2_c : Nat) (w : World) (R : Value → World → Prop) : Prop :=
  ∀ (r : Nat) (wv : World), New w (.cells ⟨[(.string m0), (.bool m1), (.slice m2_p m2_n m2_c)]⟩ 33 (0, 0)) r wv →
  ∀ (r_1 : Nat) (wv_1 : World), New wv (.cells ⟨[(.string n0), (.bool n1), (.slice n2_p n2_n n2_c)]⟩ 33 (0, 0)) r_1 wv_1 →
  ∀ (r_2 : Nat) (wv_2 : World), New wv_1 (.cells ⟨[(.string ByteArray.empty), (.bool false), (.slice none 0 0)]⟩ 33 (0, 0)) r_2 wv_2 →
  ∃ (t60 : ByteArray) (t61 : Bool) (t62_p : Option Addr) (t62_n : Nat) (t62_c : Nat), Loads P 33 ⟨r, 0, none⟩ (.agg #[(.string t60), (.bool t61), (.slice t62_p t62_n t62_c)]) wv_2 ∧ ∃ (t70 : ByteArray) (t71 : Bool) (t72_p : Option Addr) (t72_n : Nat) (t72_c : Nat), Loads P 33 ⟨r_1, 0, none⟩ (.agg #[(.string t70), (.bool t71), (.slice t72_p t72_n t72_c)]) wv_2 ∧ Calls P 67 ⟨[(.agg #[(.string t60), (.bool t61), (.slice t62_p t62_n t62_c)]), (.agg #[(.string t70), (.bool t71), (.slice t72_p t72_n t72_c)])]⟩ wv_2 fun e wv_3 =>
  ∃ (t8 : Bool), e = .returned (.bool t8) ∧
  ((!t8) = true →
    ∃ wv_4, Stores P 33 ⟨r_2, 0, none⟩ (.agg #[(.string ByteArray.empty), (.bool false), (.slice none 0 0)]) wv_3 wv_4 ∧
    ∃ (r0 : ByteArray) (r1 : Bool) (r2_p : Option Addr) (r2_n : Nat) (r2_c : Nat), Loads P 33 ⟨r_2, 0, none⟩ (.agg #[(.string r0), (.bool r1), (.slice r2_p r2_n r2_c)]) wv_4 ∧ R (.tuple #[(.agg #[(.string r0), (.bool r1), (.slice r2_p r2_n r2_c)]), (.bool false)]) wv_4) ∧
  ((!t8) = false →
    ∃ (t12 : ByteArray), (∀ wv_5, Ext wv_3.drew wv_5 → Loads P 9 ((⟨r, 0, none⟩ : Addr).add 0) (.string t12) wv_5) ∧ ∃ (t140 : Bool) (t141_p : Option Addr) (t141_n : Nat) (t141_c : Nat), (∀ wv_6, Ext wv_3.drew wv_6 → Loads P 31 ((⟨r, 0, none⟩ : Addr).add 1) (.agg #[(.bool t140), (.slice t141_p t141_n t141_c)]) wv_6) ∧ ∃ (t160 : Bool) (t161_p : Option Addr) (t161_n : Nat) (t161_c : Nat), (∀ wv_7, Ext wv_3.drew wv_7 → Loads P 31 ((⟨r_1, 0, none⟩ : Addr).add 1) (.agg #[(.bool t160), (.slice t161_p t161_n t161_c)]) wv_7) ∧ Calls P 114 ⟨[(.agg #[(.bool t140), (.slice t141_p t141_n t141_c)]), (.agg #[(.bool t160), (.slice t161_p t161_n t161_c)])]⟩ wv_3.drew fun e_1 wv_8 =>
    ∃ (t170 : Bool) (t171_p : Option Addr) (t171_n : Nat) (t171_c : Nat), e_1 = .returned (.agg #[(.bool t170), (.slice t171_p t171_n t171_c)]) ∧
    Ext wv_3.drew wv_8 ∧ Calls P 91 ⟨[(.string t12), (.agg #[(.bool t170), (.slice t171_p t171_n t171_c)])]⟩ wv_8 fun e_2 wv_9 =>
    ∃ (t180 : ByteArray) (t181 : Bool) (t182_p : Option Addr) (t182_n : Nat) (t182_c : Nat) (t18 : Bool), e_2 = .returned (.tuple #[(.agg #[(.string t180), (.bool t181), (.slice t182_p t182_n t182_c)]), (.bool t18)]) ∧
    ∃ wv_10, Stores P 33 ⟨r_2, 0, none⟩ (.agg #[(.string t180), (.bool t181), (.slice t182_p t182_n t182_c)]) wv_9 wv_10 ∧
    ∃ (r0_1 : ByteArray) (r1_1 : Bool) (r2_p_1 : Option Addr) (r2_n_1 : Nat) (r2_c_1 : Nat), Loads P 33 ⟨r_2, 0, none⟩ (.agg #[(.string r0_1), (.bool r1_1), (.slice r2_p_1 r2_n_1 r2_c_1)]) wv_10 ∧ R (.tuple #[(.agg #[(.string r0_1), (.bool r1_1), (.slice r2_p_1 r2_n_1 r2_c_1)]), (.bool t18)]) wv_10)
theorem spec_MoneyAdd_eq (m0 : ByteArray) (m1 : Bool) (m2_p : Option Addr) (m2_n : Nat) (m2_c : Nat) (n0 : ByteArray) (n1 : Bool) (n2_p : Option Addr) (n2_n : Nat) (n2_c : Nat) (w : World) (R : Value → World → Prop) : spec_MoneyAdd m0 m1 m2_p m2_n m2_c n0 n1 n2_p n2_n n2_c w R = fsem P Tryz.f68 (fun k => []) [(.agg #[(.string m0), (.bool m1), (.slice m2_p m2_n m2_c)]), (.agg #[(.string n0), (.bool n1), (.slice n2_p n2_n n2_c)])] R w := by kernel_rfl
theorem spec_MoneyAdd_ret {m0 : ByteArray} {m1 : Bool} {m2_p : Option Addr} {m2_n : Nat} {m2_c : Nat} {n0 : ByteArray} {n1 : Bool} {n2_p : Option Addr} {n2_n : Nat} {n2_c : Nat} {w : World} {R : Value → World → Prop} (h : spec_MoneyAdd m0 m1 m2_p m2_n m2_c n0 n1 n2_p n2_n n2_c w R) : Ret P 68 [(.agg #[(.string m0), (.bool m1), (.slice m2_p m2_n m2_c)]), (.agg #[(.string n0), (.bool n1), (.slice n2_p n2_n n2_c)])] w R :=
  Ret.of_fsem Tryz.func68 rfl (Eq.mp (spec_MoneyAdd_eq m0 m1 m2_p m2_n m2_c n0 n1 n2_p n2_n n2_c w R) h)
def spec_IntCmp_j1 (r : Nat) (r_1 : Nat) (t14 : Bool) (W_1 : World) (R : Value → World → Prop) : Prop :=
  (t14 = true →
    R (.int .i64 (-1)) W_1) ∧
  (t14 = false →
    ∃ (t24 : Bool), Loads P 4 ((⟨r, 0, none⟩ : Addr).add 0) (.bool t24) W_1 ∧ ((!t24) = true →
      ∃ (t28 : Bool), Loads P 4 ((⟨r_1, 0, none⟩ : Addr).add 0) (.bool t28) W_1 ∧ (t28 = true →
        R (.int .i64 1) W_1) ∧
      (t28 = false →
        ∃ (t32 : Bool), Loads P 4 ((⟨r, 0, none⟩ : Addr).add 0) (.bool t32) W_1 ∧ (t32 = true →
          ∃ (t34_p : Option Addr) (t34_n : Nat) (t34_c : Nat), Loads P 22 ((⟨r_1, 0, none⟩ : Addr).add 1) (.slice t34_p t34_n t34_c) W_1 ∧ ∃ (t36_p : Option Addr) (t36_n : Nat) (t36_c : Nat), Loads P 22 ((⟨r, 0, none⟩ : Addr).add 1) (.slice t36_p t36_n t36_c) W_1 ∧ Calls P 115 ⟨[(.slice t34_p t34_n t34_c), (.slice t36_p t36_n t36_c)]⟩ W_1 fun e_1 wv_3 =>
          ∃ (t37 : Int), e_1 = .returned (.int .i64 t37) ∧
          R (.int .i64 t37) wv_3) ∧
        (t32 = false →
          ∃ (t39_p : Option Addr) (t39_n : Nat) (t39_c : Nat), Loads P 22 ((⟨r, 0, none⟩ : Addr).add 1) (.slice t39_p t39_n t39_c) W_1 ∧ ∃ (t41_p : Option Addr) (t41_n : Nat) (t41_c : Nat), Loads P 22 ((⟨r_1, 0, none⟩ : Addr).add 1) (.slice t41_p t41_n t41_c) W_1 ∧ Calls P 115 ⟨[(.slice t39_p t39_n t39_c), (.slice t41_p t41_n t41_c)]⟩ W_1 fun e_2 wv_4 =>
          ∃ (t42 : Int), e_2 = .returned (.int .i64 t42) ∧
          R (.int .i64 t42) wv_4))) ∧
    ((!t24) = false →
      (false = true →
        R (.int .i64 1) W_1) ∧
      (false = false →
        ∃ (t32_1 : Bool), Loads P 4 ((⟨r, 0, none⟩ : Addr).add 0) (.bool t32_1) W_1 ∧ (t32_1 = true →
          ∃ (t34_p_1 : Option Addr) (t34_n_1 : Nat) (t34_c_1 : Nat), Loads P 22 ((⟨r_1, 0, none⟩ : Addr).add 1) (.slice t34_p_1 t34_n_1 t34_c_1) W_1 ∧ ∃ (t36_p_1 : Option Addr) (t36_n_1 : Nat) (t36_c_1 : Nat), Loads P 22 ((⟨r, 0, none⟩ : Addr).add 1) (.slice t36_p_1 t36_n_1 t36_c_1) W_1 ∧ Calls P 115 ⟨[(.slice t34_p_1 t34_n_1 t34_c_1), (.slice t36_p_1 t36_n_1 t36_c_1)]⟩ W_1 fun e_3 wv_5 =>
          ∃ (t37_1 : Int), e_3 = .returned (.int .i64 t37_1) ∧
          R (.int .i64 t37_1) wv_5) ∧
        (t32_1 = false →
          ∃ (t39_p_1 : Option Addr) (t39_n_1 : Nat) (t39_c_1 : Nat), Loads P 22 ((⟨r, 0, none⟩ : Addr).add 1) (.slice t39_p_1 t39_n_1 t39_c_1) W_1 ∧ ∃ (t41_p_1 : Option Addr) (t41_n_1 : Nat) (t41_c_1 : Nat), Loads P 22 ((⟨r_1, 0, none⟩ : Addr).add 1) (.slice t41_p_1 t41_n_1 t41_c_1) W_1 ∧ Calls P 115 ⟨[(.slice t39_p_1 t39_n_1 t39_c_1), (.slice t41_p_1 t41_n_1 t41_c_1)]⟩ W_1 fun e_4 wv_6 =>
          ∃ (t42_1 : Int), e_4 = .returned (.int .i64 t42_1) ∧
          R (.int .i64 t42_1) wv_6))))
def spec_IntCmp_j0 (r : Nat) (r_1 : Nat) (t5 : Bool) (W : World) (R : Value → World → Prop) : Prop :=
  (t5 = true →
    R (.int .i64 0) W) ∧
  (t5 = false →
    ∃ (t16 : Bool), Loads P 4 ((⟨r, 0, none⟩ : Addr).add 0) (.bool t16) W ∧ (t16 = true →
      ∃ (t19 : Bool), Loads P 4 ((⟨r_1, 0, none⟩ : Addr).add 0) (.bool t19) W ∧ spec_IntCmp_j1 r r_1 (!t19) W R) ∧
    (t16 = false →
      spec_IntCmp_j1 r r_1 false W R))
def spec_IntCmp (x0 : Bool) (x1_p : Option Addr) (x1_n : Nat) (x1_c : Nat) (y0 : Bool) (y1_p : Option Addr) (y1_n : Nat) (y1_c : Nat) (w : World) (R : Value → World → Prop) : Prop :=
  ∀ (r : Nat) (wv : World), New w (.cells ⟨[(.bool x0), (.slice x1_p x1_n x1_c)]⟩ 31 (0, 0)) r wv →
  ∀ (r_1 : Nat) (wv_1 : World), New wv (.cells ⟨[(.bool y0), (.slice y1_p y1_n y1_c)]⟩ 31 (0, 0)) r_1 wv_1 →
  ∃ (t60 : Bool) (t61_p : Option Addr) (t61_n : Nat) (t61_c : Nat), Loads P 31 ⟨r, 0, none⟩ (.agg #[(.bool t60), (.slice t61_p t61_n t61_c)]) wv_1 ∧ Calls P 82 ⟨[(.agg #[(.bool t60), (.slice t61_p t61_n t61_c)])]⟩ wv_1 fun e wv_2 =>
  ∃ (t7 : Bool), e = .returned (.bool t7) ∧
  ((!t7) = true →
    spec_IntCmp_j0 r r_1 true wv_2 R) ∧
  ((!t7) = false →
    ∃ (t100 : Bool) (t101_p : Option Addr) (t101_n : Nat) (t101_c : Nat), Loads P 31 ⟨r_1, 0, none⟩ (.agg #[(.bool t100), (.slice t101_p t101_n t101_c)]) wv_2 ∧ Calls P 82 ⟨[(.agg #[(.bool t100), (.slice t101_p t101_n t101_c)])]⟩ wv_2 fun e_5 wv_7 =>
    ∃ (t11 : Bool), e_5 = .returned (.bool t11) ∧
    spec_IntCmp_j0 r r_1 (!t11) wv_7 R)
theorem spec_IntCmp_eq (x0 : Bool) (x1_p : Option Addr) (x1_n : Nat) (x1_c : Nat) (y0 : Bool) (y1_p : Option Addr) (y1_n : Nat) (y1_c : Nat) (w : World) (R : Value → World → Prop) : spec_IntCmp x0 x1_p x1_n x1_c y0 y1_p y1_n y1_c w R = fsem P Tryz.f69 (fun k => []) [(.agg #[(.bool x0), (.slice x1_p x1_n x1_c)]), (.agg #[(.bool y0), (.slice y1_p y1_n y1_c)])] R w := by kernel_rfl
theorem spec_IntCmp_ret {x0 : Bool} {x1_p : Option Addr} {x1_n : Nat} {x1_c : Nat} {y0 : Bool} {y1_p : Option Addr} {y1_n : Nat} {y1_c : Nat} {w : World} {R : Value → World → Prop} (h : spec_IntCmp x0 x1_p x1_n x1_c y0 y1_p y1_n y1_c w R) : Ret P 69 [(.agg #[(.bool x0), (.slice x1_p x1_n x1_c)]), (.agg #[(.bool y0), (.slice y1_p y1_n y1_c)])] w R :=
  Ret.of_fsem Tryz.func69 rfl (Eq.mp (spec_IntCmp_eq x0 x1_p x1_n x1_c y0 y1_p y1_n y1_c w R) h)
def spec_l04Make (neg : Bool) (a_p : Option Addr) (a_n : Nat) (a_c : Nat) (w : World) (R : Value → World → Prop) : Prop :=
  ∀ (r : Nat) (wv : World), New w (.cells ⟨[(.bool false), (.slice none 0 0)]⟩ 31 (0, 0)) r wv →
  Calls P 116 ⟨[(.slice a_p a_n a_c)]⟩ wv fun e wv_1 =>
  ∃ (t7_p : Option Addr) (t7_n : Nat) (t7_c : Nat), e = .returned (.slice t7_p t7_n t7_c) ∧
  (neg = true →
    ∀ (r_1 : Nat) (wv_2 : World), New wv_1 (.cells ⟨[]⟩ 3 (0, 0)) r_1 wv_2 →
    ∃ (t16_p : Option Addr) (t16_n : Nat) (t16_c : Nat) (wv_3 : World), Appends P [22, 22] [(.slice (some ⟨r_1, 0, none⟩) 0 0), (.slice t7_p t7_n t7_c)] (.slice t16_p t16_n t16_c) wv_2 wv_3 ∧
    ∃ wv_4, Stores P 31 ⟨r, 0, none⟩ (.agg #[(.bool (decide ((0 : Int) < ((t7_n : Nat) : Int)))), (.slice t16_p t16_n t16_c)]) wv_3 wv_4 ∧
    ∃ (r0 : Bool) (r1_p : Option Addr) (r1_n : Nat) (r1_c : Nat), Loads P 31 ⟨r, 0, none⟩ (.agg #[(.bool r0), (.slice r1_p r1_n r1_c)]) wv_4 ∧ R (.agg #[(.bool r0), (.slice r1_p r1_n r1_c)]) wv_4) ∧
  (neg = false →
    ∀ (r_2 : Nat) (wv_5 : World), New wv_1 (.cells ⟨[]⟩ 3 (0, 0)) r_2 wv_5 →
    ∃ (t16_p_1 : Option Addr) (t16_n_1 : Nat) (t16_c_1 : Nat) (wv_6 : World), Appends P [22, 22] [(.slice (some ⟨r_2, 0, none⟩) 0 0), (.slice t7_p t7_n t7_c)] (.slice t16_p_1 t16_n_1 t16_c_1) wv_5 wv_6 ∧
    ∃ wv_7, Stores P 31 ⟨r, 0, none⟩ (.agg #[(.bool false), (.slice t16_p_1 t16_n_1 t16_c_1)]) wv_6 wv_7 ∧
    ∃ (r0_1 : Bool) (r1_p_1 : Option Addr) (r1_n_1 : Nat) (r1_c_1 : Nat), Loads P 31 ⟨r, 0, none⟩ (.agg #[(.bool r0_1), (.slice r1_p_1 r1_n_1 r1_c_1)]) wv_7 ∧ R (.agg #[(.bool r0_1), (.slice r1_p_1 r1_n_1 r1_c_1)]) wv_7)
theorem spec_l04Make_eq (neg : Bool) (a_p : Option Addr) (a_n : Nat) (a_c : Nat) (w : World) (R : Value → World → Prop) : spec_l04Make neg a_p a_n a_c w R = fsem P Tryz.f70 (fun k => []) [(.bool neg), (.slice a_p a_n a_c)] R w := by kernel_rfl
theorem spec_l04Make_ret {neg : Bool} {a_p : Option Addr} {a_n : Nat} {a_c : Nat} {w : World} {R : Value → World → Prop} (h : spec_l04Make neg a_p a_n a_c w R) : Ret P 70 [(.bool neg), (.slice a_p a_n a_c)] w R :=
  Ret.of_fsem Tryz.func70 rfl (Eq.mp (spec_l04Make_eq neg a_p a_n a_c w R) h)
def impl_alike (m0 : ByteArray) (m1 : Bool) (m2_p : Option Addr) (m2_n : Nat) (m2_c : Nat) (n0 : ByteArray) (n1 : Bool) (n2_p : Option Addr) (n2_n : Nat) (n2_c : Nat) (w : World) (R : Value → World → Prop) : Prop :=
  ∀ (r : Nat) (wv : World), New w (.cells ⟨[(.string m0), (.bool m1), (.slice m2_p m2_n m2_c)]⟩ 33 (0, 0)) r wv →
  ∀ (r_1 : Nat) (wv_1 : World), New wv (.cells ⟨[(.string n0), (.bool n1), (.slice n2_p n2_n n2_c)]⟩ 33 (0, 0)) r_1 wv_1 →
  ∃ (t50 : ByteArray) (t51 : Bool) (t52_p : Option Addr) (t52_n : Nat) (t52_c : Nat), Loads P 33 ⟨r, 0, none⟩ (.agg #[(.string t50), (.bool t51), (.slice t52_p t52_n t52_c)]) wv_1 ∧ Calls P 45 ⟨[(.agg #[(.string t50), (.bool t51), (.slice t52_p t52_n t52_c)])]⟩ wv_1 fun e wv_2 =>
  ∃ (t6 : Bool), e = .returned (.bool t6) ∧
  (t6 = true →
    ∃ (t80 : ByteArray) (t81 : Bool) (t82_p : Option Addr) (t82_n : Nat) (t82_c : Nat), Loads P 33 ⟨r_1, 0, none⟩ (.agg #[(.string t80), (.bool t81), (.slice t82_p t82_n t82_c)]) wv_2 ∧ Calls P 45 ⟨[(.agg #[(.string t80), (.bool t81), (.slice t82_p t82_n t82_c)])]⟩ wv_2 fun e_1 wv_3 =>
    ∃ (t9 : Bool), e_1 = .returned (.bool t9) ∧
    (t9 = true →
      ∃ (t13 : ByteArray), Loads P 9 ((⟨r, 0, none⟩ : Addr).add 0) (.string t13) wv_3 ∧ ∃ (t15 : ByteArray), Loads P 9 ((⟨r_1, 0, none⟩ : Addr).add 0) (.string t15) wv_3 ∧ R (.bool (decide (t13 = t15))) wv_3) ∧
    (t9 = false →
      R (.bool false) wv_3)) ∧
  (t6 = false →
    (false = true →
      ∃ (t13_1 : ByteArray), Loads P 9 ((⟨r, 0, none⟩ : Addr).add 0) (.string t13_1) wv_2 ∧ ∃ (t15_1 : ByteArray), Loads P 9 ((⟨r_1, 0, none⟩ : Addr).add 0) (.string t15_1) wv_2 ∧ R (.bool (decide (t13_1 = t15_1))) wv_2) ∧
    (false = false →
      R (.bool false) wv_2))
theorem impl_alike_eq (m0 : ByteArray) (m1 : Bool) (m2_p : Option Addr) (m2_n : Nat) (m2_c : Nat) (n0 : ByteArray) (n1 : Bool) (n2_p : Option Addr) (n2_n : Nat) (n2_c : Nat) (w : World) (R : Value → World → Prop) : impl_alike m0 m1 m2_p m2_n m2_c n0 n1 n2_p n2_n n2_c w R = fsem P Tryz.f71 (fun k => []) [(.agg #[(.string m0), (.bool m1), (.slice m2_p m2_n m2_c)]), (.agg #[(.string n0), (.bool n1), (.slice n2_p n2_n n2_c)])] R w := by kernel_rfl
theorem impl_alike_ret {m0 : ByteArray} {m1 : Bool} {m2_p : Option Addr} {m2_n : Nat} {m2_c : Nat} {n0 : ByteArray} {n1 : Bool} {n2_p : Option Addr} {n2_n : Nat} {n2_c : Nat} {w : World} {R : Value → World → Prop} (h : impl_alike m0 m1 m2_p m2_n m2_c n0 n1 n2_p n2_n n2_c w R) : Ret P 71 [(.agg #[(.string m0), (.bool m1), (.slice m2_p m2_n m2_c)]), (.agg #[(.string n0), (.bool n1), (.slice n2_p n2_n n2_c)])] w R :=
  Ret.of_fsem Tryz.func71 rfl (Eq.mp (impl_alike_eq m0 m1 m2_p m2_n m2_c n0 n1 n2_p n2_n n2_c w R) h)
def impl_MoneyAdd (m0 : ByteArray) (m1 : Bool) (m2_p : Option Addr) (m2_n : Nat) (m2_c : Nat) (n0 : ByteArray) (n1 : Bool) (n2_p : Option Addr) (n2_n : Nat) (n2_c : Nat) (w : World) (R : Value → World → Prop) : Prop :=
  ∀ (r : Nat) (wv : World), New w (.cells ⟨[(.string m0), (.bool m1), (.slice m2_p m2_n m2_c)]⟩ 33 (0, 0)) r wv →
  ∀ (r_1 : Nat) (wv_1 : World), New wv (.cells ⟨[(.string n0), (.bool n1), (.slice n2_p n2_n n2_c)]⟩ 33 (0, 0)) r_1 wv_1 →
  ∀ (r_2 : Nat) (wv_2 : World), New wv_1 (.cells ⟨[(.string ByteArray.empty), (.bool false), (.slice none 0 0)]⟩ 33 (0, 0)) r_2 wv_2 →
  ∃ (t60 : ByteArray) (t61 : Bool) (t62_p : Option Addr) (t62_n : Nat) (t62_c : Nat), Loads P 33 ⟨r, 0, none⟩ (.agg #[(.string t60), (.bool t61), (.slice t62_p t62_n t62_c)]) wv_2 ∧ ∃ (t70 : ByteArray) (t71 : Bool) (t72_p : Option Addr) (t72_n : Nat) (t72_c : Nat), Loads P 33 ⟨r_1, 0, none⟩ (.agg #[(.string t70), (.bool t71), (.slice t72_p t72_n t72_c)]) wv_2 ∧ Calls P 71 ⟨[(.agg #[(.string t60), (.bool t61), (.slice t62_p t62_n t62_c)]), (.agg #[(.string t70), (.bool t71), (.slice t72_p t72_n t72_c)])]⟩ wv_2 fun e wv_3 =>
  ∃ (t8 : Bool), e = .returned (.bool t8) ∧
  ((!t8) = true →
    ∃ wv_4, Stores P 33 ⟨r_2, 0, none⟩ (.agg #[(.string ByteArray.empty), (.bool false), (.slice none 0 0)]) wv_3 wv_4 ∧
    ∃ (r0 : ByteArray) (r1 : Bool) (r2_p : Option Addr) (r2_n : Nat) (r2_c : Nat), Loads P 33 ⟨r_2, 0, none⟩ (.agg #[(.string r0), (.bool r1), (.slice r2_p r2_n r2_c)]) wv_4 ∧ R (.tuple #[(.agg #[(.string r0), (.bool r1), (.slice r2_p r2_n r2_c)]), (.bool false)]) wv_4) ∧
  ((!t8) = false →
    ∃ (t12 : ByteArray), (∀ wv_5, Ext wv_3.drew wv_5 → Loads P 9 ((⟨r, 0, none⟩ : Addr).add 0) (.string t12) wv_5) ∧ ∃ (t140 : Bool) (t141_p : Option Addr) (t141_n : Nat) (t141_c : Nat), (∀ wv_6, Ext wv_3.drew wv_6 → Loads P 31 ((⟨r, 0, none⟩ : Addr).add 1) (.agg #[(.bool t140), (.slice t141_p t141_n t141_c)]) wv_6) ∧ ∃ (t160 : Bool) (t161_p : Option Addr) (t161_n : Nat) (t161_c : Nat), (∀ wv_7, Ext wv_3.drew wv_7 → Loads P 31 ((⟨r_1, 0, none⟩ : Addr).add 1) (.agg #[(.bool t160), (.slice t161_p t161_n t161_c)]) wv_7) ∧ Calls P 111 ⟨[(.agg #[(.bool t140), (.slice t141_p t141_n t141_c)]), (.agg #[(.bool t160), (.slice t161_p t161_n t161_c)])]⟩ wv_3.drew fun e_1 wv_8 =>
    ∃ (t170 : Bool) (t171_p : Option Addr) (t171_n : Nat) (t171_c : Nat), e_1 = .returned (.agg #[(.bool t170), (.slice t171_p t171_n t171_c)]) ∧
    Ext wv_3.drew wv_8 ∧ Calls P 104 ⟨[(.string t12), (.agg #[(.bool t170), (.slice t171_p t171_n t171_c)])]⟩ wv_8 fun e_2 wv_9 =>
    ∃ (t180 : ByteArray) (t181 : Bool) (t182_p : Option Addr) (t182_n : Nat) (t182_c : Nat) (t18 : Bool), e_2 = .returned (.tuple #[(.agg #[(.string t180), (.bool t181), (.slice t182_p t182_n t182_c)]), (.bool t18)]) ∧
    ∃ wv_10, Stores P 33 ⟨r_2, 0, none⟩ (.agg #[(.string t180), (.bool t181), (.slice t182_p t182_n t182_c)]) wv_9 wv_10 ∧
    ∃ (r0_1 : ByteArray) (r1_1 : Bool) (r2_p_1 : Option Addr) (r2_n_1 : Nat) (r2_c_1 : Nat), Loads P 33 ⟨r_2, 0, none⟩ (.agg #[(.string r0_1), (.bool r1_1), (.slice r2_p_1 r2_n_1 r2_c_1)]) wv_10 ∧ R (.tuple #[(.agg #[(.string r0_1), (.bool r1_1), (.slice r2_p_1 r2_n_1 r2_c_1)]), (.bool t18)]) wv_10)
theorem impl_MoneyAdd_eq (m0 : ByteArray) (m1 : Bool) (m2_p : Option Addr) (m2_n : Nat) (m2_c : Nat) (n0 : ByteArray) (n1 : Bool) (n2_p : Option Addr) (n2_n : Nat) (n2_c : Nat) (w : World) (R : Value → World → Prop) : impl_MoneyAdd m0 m1 m2_p m2_n m2_c n0 n1 n2_p n2_n n2_c w R = fsem P Tryz.f72 (fun k => []) [(.agg #[(.string m0), (.bool m1), (.slice m2_p m2_n m2_c)]), (.agg #[(.string n0), (.bool n1), (.slice n2_p n2_n n2_c)])] R w := by kernel_rfl
theorem impl_MoneyAdd_ret {m0 : ByteArray} {m1 : Bool} {m2_p : Option Addr} {m2_n : Nat} {m2_c : Nat} {n0 : ByteArray} {n1 : Bool} {n2_p : Option Addr} {n2_n : Nat} {n2_c : Nat} {w : World} {R : Value → World → Prop} (h : impl_MoneyAdd m0 m1 m2_p m2_n m2_c n0 n1 n2_p n2_n n2_c w R) : Ret P 72 [(.agg #[(.string m0), (.bool m1), (.slice m2_p m2_n m2_c)]), (.agg #[(.string n0), (.bool n1), (.slice n2_p n2_n n2_c)])] w R :=
  Ret.of_fsem Tryz.func72 rfl (Eq.mp (impl_MoneyAdd_eq m0 m1 m2_p m2_n m2_c n0 n1 n2_p n2_n n2_c w R) h)
def impl_intCmp (x0 : Bool) (x1_p : Option Addr) (x1_n : Nat) (x1_c : Nat) (y0 : Bool) (y1_p : Option Addr) (y1_n : Nat) (y1_c : Nat) (w : World) (R : Value → World → Prop) : Prop :=
  ∀ (r : Nat) (wv : World), New w (.cells ⟨[(.bool x0), (.slice x1_p x1_n x1_c)]⟩ 31 (0, 0)) r wv →
  ∀ (r_1 : Nat) (wv_1 : World), New wv (.cells ⟨[(.bool y0), (.slice y1_p y1_n y1_c)]⟩ 31 (0, 0)) r_1 wv_1 →
  ∃ (t50 : Bool) (t51_p : Option Addr) (t51_n : Nat) (t51_c : Nat), (∀ wv_2, Ext wv_1.drew wv_2 → Loads P 31 ⟨r, 0, none⟩ (.agg #[(.bool t50), (.slice t51_p t51_n t51_c)]) wv_2) ∧ ∃ (t60 : Bool) (t61_p : Option Addr) (t61_n : Nat) (t61_c : Nat), (∀ wv_3, Ext wv_1.drew wv_3 → Loads P 31 ⟨r_1, 0, none⟩ (.agg #[(.bool t60), (.slice t61_p t61_n t61_c)]) wv_3) ∧ Calls P 113 ⟨[(.agg #[(.bool t60), (.slice t61_p t61_n t61_c)])]⟩ wv_1.drew fun e wv_4 =>
  ∃ (t70 : Bool) (t71_p : Option Addr) (t71_n : Nat) (t71_c : Nat), e = .returned (.agg #[(.bool t70), (.slice t71_p t71_n t71_c)]) ∧
  Ext wv_1.drew wv_4 ∧ Calls P 111 ⟨[(.agg #[(.bool t50), (.slice t51_p t51_n t51_c)]), (.agg #[(.bool t70), (.slice t71_p t71_n t71_c)])]⟩ wv_4 fun e_1 wv_5 =>
  ∃ (t80 : Bool) (t81_p : Option Addr) (t81_n : Nat) (t81_c : Nat), e_1 = .returned (.agg #[(.bool t80), (.slice t81_p t81_n t81_c)]) ∧
  Calls P 117 ⟨[(.agg #[(.bool t80), (.slice t81_p t81_n t81_c)])]⟩ wv_5 fun e_2 wv_6 =>
  ∃ (t9 : Int), e_2 = .returned (.int .i64 t9) ∧
  R (.int .i64 t9) wv_6
theorem impl_intCmp_eq (x0 : Bool) (x1_p : Option Addr) (x1_n : Nat) (x1_c : Nat) (y0 : Bool) (y1_p : Option Addr) (y1_n : Nat) (y1_c : Nat) (w : World) (R : Value → World → Prop) : impl_intCmp x0 x1_p x1_n x1_c y0 y1_p y1_n y1_c w R = fsem P Tryz.f73 (fun k => []) [(.agg #[(.bool x0), (.slice x1_p x1_n x1_c)]), (.agg #[(.bool y0), (.slice y1_p y1_n y1_c)])] R w := by kernel_rfl
theorem impl_intCmp_ret {x0 : Bool} {x1_p : Option Addr} {x1_n : Nat} {x1_c : Nat} {y0 : Bool} {y1_p : Option Addr} {y1_n : Nat} {y1_c : Nat} {w : World} {R : Value → World → Prop} (h : impl_intCmp x0 x1_p x1_n x1_c y0 y1_p y1_n y1_c w R) : Ret P 73 [(.agg #[(.bool x0), (.slice x1_p x1_n x1_c)]), (.agg #[(.bool y0), (.slice y1_p y1_n y1_c)])] w R :=
  Ret.of_fsem Tryz.func73 rfl (Eq.mp (impl_intCmp_eq x0 x1_p x1_n x1_c y0 y1_p y1_n y1_c w R) h)
def impl_moneyCopy (m0 : ByteArray) (m1 : Bool) (m2_p : Option Addr) (m2_n : Nat) (m2_c : Nat) (w : World) (R : Value → World → Prop) : Prop :=
  ∀ (r : Nat) (wv : World), New w (.cells ⟨[(.string m0), (.bool m1), (.slice m2_p m2_n m2_c)]⟩ 33 (0, 0)) r wv →
  ∀ (r_1 : Nat) (wv_1 : World), New wv (.cells ⟨[(.string ByteArray.empty), (.bool false), (.slice none 0 0)]⟩ 33 (0, 0)) r_1 wv_1 →
  ∃ (t6_p : Option Addr) (t6_n : Nat) (t6_c : Nat), Loads P 22 (((⟨r, 0, none⟩ : Addr).add 1).add 1) (.slice t6_p t6_n t6_c) wv_1 ∧ (0 ≤ (((t6_n : Nat) : Int) : Int) ∧ (((t6_n : Nat) : Int) : Int) ≤ ((t6_n : Nat) : Int) ∧ ((8 : Nat) : Int) * ((t6_n : Nat) : Int) ≤ 281474976710656) ∧
  ∀ (r_2 : Nat) (wv_2 : World), New wv_1 (.cells ⟨zeroRow (.int .i64 0) (t6_n * 1)⟩ 3 (0, 0)) r_2 wv_2 →
  ∃ (t12_p : Option Addr) (t12_n : Nat) (t12_c : Nat), Loads P 22 (((⟨r, 0, none⟩ : Addr).add 1).add 1) (.slice t12_p t12_n t12_c) wv_2 ∧ ∃ (t13 : Int) (wv_3 : World), Copies P [22, 22] [(.slice (some ⟨r_2, 0, none⟩) t6_n t6_n), (.slice t12_p t12_n t12_c)] (.int .i64 t13) wv_2 wv_3 ∧
  ∃ (t15 : ByteArray), (∀ wv_4, Ext wv_3.drew wv_4 → Loads P 9 ((⟨r, 0, none⟩ : Addr).add 0) (.string t15) wv_4) ∧ ∃ (t18 : Bool), (∀ wv_5, Ext wv_3.drew wv_5 → Loads P 4 (((⟨r, 0, none⟩ : Addr).add 1).add 0) (.bool t18) wv_5) ∧ (0 ≤ (((t6_n : Nat) : Int) : Int) ∧ (((t6_n : Nat) : Int) : Int) ≤ (t6_n : Nat)) ∧ (0 ≤ (((t6_n : Nat) : Int) : Int) ∧ (((t6_n : Nat) : Int) : Int) ≤ (t6_n : Nat)) ∧ ∃ wv_6, Stores P 33 ⟨r_1, 0, none⟩ (.agg #[(.string t15), (.bool t18), (.slice (sub (some ⟨r_2, 0, none⟩) 0 t6_n 1) (t6_n - 0) (t6_n - 0))]) wv_3.drew wv_6 ∧
  ∃ (r0 : ByteArray) (r1 : Bool) (r2_p : Option Addr) (r2_n : Nat) (r2_c : Nat), Loads P 33 ⟨r_1, 0, none⟩ (.agg #[(.string r0), (.bool r1), (.slice r2_p r2_n r2_c)]) wv_6 ∧ R (.agg #[(.string r0), (.bool r1), (.slice r2_p r2_n r2_c)]) wv_6
theorem impl_moneyCopy_eq (m0 : ByteArray) (m1 : Bool) (m2_p : Option Addr) (m2_n : Nat) (m2_c : Nat) (w : World) (R : Value → World → Prop) : impl_moneyCopy m0 m1 m2_p m2_n m2_c w R = fsem P Tryz.f74 (fun k => []) [(.agg #[(.string m0), (.bool m1), (.slice m2_p m2_n m2_c)])] R w := by kernel_rfl
theorem impl_moneyCopy_ret {m0 : ByteArray} {m1 : Bool} {m2_p : Option Addr} {m2_n : Nat} {m2_c : Nat} {w : World} {R : Value → World → Prop} (h : impl_moneyCopy m0 m1 m2_p m2_n m2_c w R) : Ret P 74 [(.agg #[(.string m0), (.bool m1), (.slice m2_p m2_n m2_c)])] w R :=
  Ret.of_fsem Tryz.func74 rfl (Eq.mp (impl_moneyCopy_eq m0 m1 m2_p m2_n m2_c w R) h)
def spec_CurKnown (code : ByteArray) (w : World) (R : Value → World → Prop) : Prop :=
  Calls P 128 ⟨[(.string code)]⟩ w fun e wv =>
  ∃ (t40 : ByteArray) (t41 : ByteArray) (t42 : Int) (t43 : Int), e = .returned (.agg #[(.string t40), (.string t41), (.int .i64 t42), (.int .i64 t43)]) ∧
  R (.bool (decide (t40 ≠ (S [])))) wv
theorem spec_CurKnown_eq (code : ByteArray) (w : World) (R : Value → World → Prop) : spec_CurKnown code w R = fsem P Tryz.f81 (fun k => []) [(.string code)] R w := by kernel_rfl
theorem spec_CurKnown_ret {code : ByteArray} {w : World} {R : Value → World → Prop} (h : spec_CurKnown code w R) : Ret P 81 [(.string code)] w R :=
  Ret.of_fsem Tryz.func81 rfl (Eq.mp (spec_CurKnown_eq code w R) h)
def spec_IntOk (x0 : Bool) (x1_p : Option Addr) (x1_n : Nat) (x1_c : Nat) (w : World) (R : Value → World → Prop) : Prop :=
  ∀ (r : Nat) (wv : World), New w (.cells ⟨[(.bool x0), (.slice x1_p x1_n x1_c)]⟩ 31 (0, 0)) r wv →
  ∃ (t4_p : Option Addr) (t4_n : Nat) (t4_c : Nat), Loads P 22 ((⟨r, 0, none⟩ : Addr).add 1) (.slice t4_p t4_n t4_c) wv ∧ Calls P 129 ⟨[(.slice t4_p t4_n t4_c)]⟩ wv fun e wv_1 =>
  ∃ (t5 : Bool), e = .returned (.bool t5) ∧
  (t5 = true →
    ∃ (t8 : Bool), Loads P 4 ((⟨r, 0, none⟩ : Addr).add 0) (.bool t8) wv_1 ∧ ((!t8) = true →
      R (.bool true) wv_1) ∧
    ((!t8) = false →
      ∃ (t12_p : Option Addr) (t12_n : Nat) (t12_c : Nat), Loads P 22 ((⟨r, 0, none⟩ : Addr).add 1) (.slice t12_p t12_n t12_c) wv_1 ∧ R (.bool (decide ((0 : Int) < ((t12_n : Nat) : Int)))) wv_1)) ∧
  (t5 = false →
    R (.bool false) wv_1)
theorem spec_IntOk_eq (x0 : Bool) (x1_p : Option Addr) (x1_n : Nat) (x1_c : Nat) (w : World) (R : Value → World → Prop) : spec_IntOk x0 x1_p x1_n x1_c w R = fsem P Tryz.f82 (fun k => []) [(.agg #[(.bool x0), (.slice x1_p x1_n x1_c)])] R w := by kernel_rfl
theorem spec_IntOk_ret {x0 : Bool} {x1_p : Option Addr} {x1_n : Nat} {x1_c : Nat} {w : World} {R : Value → World → Prop} (h : spec_IntOk x0 x1_p x1_n x1_c w R) : Ret P 82 [(.agg #[(.bool x0), (.slice x1_p x1_n x1_c)])] w R :=
  Ret.of_fsem Tryz.func82 rfl (Eq.mp (spec_IntOk_eq x0 x1_p x1_n x1_c w R) h)
def spec_DecOk (d0 : Bool) (d1_p : Option Addr) (d1_n : Nat) (d1_c : Nat) (d2 : Int) (w : World) (R : Value → World → Prop) : Prop :=
  ∀ (r : Nat) (wv : World), New w (.cells ⟨[(.bool d0), (.slice d1_p d1_n d1_c), (.int .i64 d2)]⟩ 40 (0, 0)) r wv →
  ∃ (t40 : Bool) (t41_p : Option Addr) (t41_n : Nat) (t41_c : Nat), Loads P 31 ((⟨r, 0, none⟩ : Addr).add 0) (.agg #[(.bool t40), (.slice t41_p t41_n t41_c)]) wv ∧ Calls P 82 ⟨[(.agg #[(.bool t40), (.slice t41_p t41_n t41_c)])]⟩ wv fun e wv_1 =>
  ∃ (t5 : Bool), e = .returned (.bool t5) ∧
  (t5 = true →
    ∃ (t9_p : Option Addr) (t9_n : Nat) (t9_c : Nat), Loads P 22 (((⟨r, 0, none⟩ : Addr).add 0).add 1) (.slice t9_p t9_n t9_c) wv_1 ∧ ((decide ((((t9_n : Nat) : Int) : Int) ≤ 6)) = true →
      ∃ (t15 : Int), Loads P 3 ((⟨r, 0, none⟩ : Addr).add 2) (.int .i64 t15) wv_1 ∧ Calls P 130 ⟨[(.int .i64 t15), (.int .i64 0), (.int .i64 30)]⟩ wv_1 fun e_1 wv_2 =>
      ∃ (t16 : Bool), e_1 = .returned (.bool t16) ∧
      R (.bool t16) wv_2) ∧
    ((decide ((((t9_n : Nat) : Int) : Int) ≤ 6)) = false →
      R (.bool false) wv_1)) ∧
  (t5 = false →
    (false = true →
      ∃ (t15_1 : Int), Loads P 3 ((⟨r, 0, none⟩ : Addr).add 2) (.int .i64 t15_1) wv_1 ∧ Calls P 130 ⟨[(.int .i64 t15_1), (.int .i64 0), (.int .i64 30)]⟩ wv_1 fun e_2 wv_3 =>
      ∃ (t16_1 : Bool), e_2 = .returned (.bool t16_1) ∧
      R (.bool t16_1) wv_3) ∧
    (false = false →
      R (.bool false) wv_1))
theorem spec_DecOk_eq (d0 : Bool) (d1_p : Option Addr) (d1_n : Nat) (d1_c : Nat) (d2 : Int) (w : World) (R : Value → World → Prop) : spec_DecOk d0 d1_p d1_n d1_c d2 w R = fsem P Tryz.f83 (fun k => []) [(.agg #[(.bool d0), (.slice d1_p d1_n d1_c), (.int .i64 d2)])] R w := by kernel_rfl
theorem spec_DecOk_ret {d0 : Bool} {d1_p : Option Addr} {d1_n : Nat} {d1_c : Nat} {d2 : Int} {w : World} {R : Value → World → Prop} (h : spec_DecOk d0 d1_p d1_n d1_c d2 w R) : Ret P 83 [(.agg #[(.bool d0), (.slice d1_p d1_n d1_c), (.int .i64 d2)])] w R :=
  Ret.of_fsem Tryz.func83 rfl (Eq.mp (spec_DecOk_eq d0 d1_p d1_n d1_c d2 w R) h)
def spec_DecCmp_j0 (r : Nat) (r_1 : Nat) (W : World) (R : Value → World → Prop) : Prop :=
  ∃ (t170 : Bool) (t171_p : Option Addr) (t171_n : Nat) (t171_c : Nat) (t172 : Int), Loads P 40 ⟨r, 0, none⟩ (.agg #[(.bool t170), (.slice t171_p t171_n t171_c), (.int .i64 t172)]) W ∧ ∃ (t180 : Bool) (t181_p : Option Addr) (t181_n : Nat) (t181_c : Nat) (t182 : Int), Loads P 40 ⟨r_1, 0, none⟩ (.agg #[(.bool t180), (.slice t181_p t181_n t181_c), (.int .i64 t182)]) W ∧ Calls P 131 ⟨[(.agg #[(.bool t170), (.slice t171_p t171_n t171_c), (.int .i64 t172)]), (.agg #[(.bool t180), (.slice t181_p t181_n t181_c), (.int .i64 t182)])]⟩ W fun e_1 wv_3 =>
  ∃ (t190 : Bool) (t191_p : Option Addr) (t191_n : Nat) (t191_c : Nat) (t190_1 : Bool) (t191_p_1 : Option Addr) (t191_n_1 : Nat) (t191_c_1 : Nat) (t19 : Int), e_1 = .returned (.tuple #[(.agg #[(.bool t190), (.slice t191_p t191_n t191_c)]), (.agg #[(.bool t190_1), (.slice t191_p_1 t191_n_1 t191_c_1)]), (.int .i64 t19)]) ∧
  ∀ (r_2 : Nat) (wv_4 : World), New wv_3 (.cells ⟨[(.bool false), (.slice none 0 0)]⟩ 31 (0, 0)) r_2 wv_4 →
  ∀ (r_3 : Nat) (wv_5 : World), New wv_4 (.cells ⟨[(.bool false), (.slice none 0 0)]⟩ 31 (0, 0)) r_3 wv_5 →
  ∃ wv_6, Stores P 31 ⟨r_2, 0, none⟩ (.agg #[(.bool t190), (.slice t191_p t191_n t191_c)]) wv_5 wv_6 ∧
  ∃ wv_7, Stores P 31 ⟨r_3, 0, none⟩ (.agg #[(.bool t190_1), (.slice t191_p_1 t191_n_1 t191_c_1)]) wv_6 wv_7 ∧
  ∃ (t230 : Bool) (t231_p : Option Addr) (t231_n : Nat) (t231_c : Nat), Loads P 31 ⟨r_2, 0, none⟩ (.agg #[(.bool t230), (.slice t231_p t231_n t231_c)]) wv_7 ∧ ∃ (t240 : Bool) (t241_p : Option Addr) (t241_n : Nat) (t241_c : Nat), Loads P 31 ⟨r_3, 0, none⟩ (.agg #[(.bool t240), (.slice t241_p t241_n t241_c)]) wv_7 ∧ Calls P 69 ⟨[(.agg #[(.bool t230), (.slice t231_p t231_n t231_c)]), (.agg #[(.bool t240), (.slice t241_p t241_n t241_c)])]⟩ wv_7 fun e_2 wv_8 =>
  ∃ (t25 : Int), e_2 = .returned (.int .i64 t25) ∧
  R (.int .i64 t25) wv_8
def spec_DecCmp (d0 : Bool) (d1_p : Option Addr) (d1_n : Nat) (d1_c : Nat) (d2 : Int) (e0 : Bool) (e1_p : Option Addr) (e1_n : Nat) (e1_c : Nat) (e2 : Int) (w : World) (R : Value → World → Prop) : Prop :=
  ∀ (r : Nat) (wv : World), New w (.cells ⟨[(.bool d0), (.slice d1_p d1_n d1_c), (.int .i64 d2)]⟩ 40 (0, 0)) r wv →
  ∀ (r_1 : Nat) (wv_1 : World), New wv (.cells ⟨[(.bool e0), (.slice e1_p e1_n e1_c), (.int .i64 e2)]⟩ 40 (0, 0)) r_1 wv_1 →
  ∃ (t80 : Bool) (t81_p : Option Addr) (t81_n : Nat) (t81_c : Nat) (t82 : Int), Loads P 40 ⟨r, 0, none⟩ (.agg #[(.bool t80), (.slice t81_p t81_n t81_c), (.int .i64 t82)]) wv_1 ∧ Calls P 83 ⟨[(.agg #[(.bool t80), (.slice t81_p t81_n t81_c), (.int .i64 t82)])]⟩ wv_1 fun e wv_2 =>
  ∃ (t9 : Bool), e = .returned (.bool t9) ∧
  ((!t9) = true →
    (true = true →
      R (.int .i64 0) wv_2) ∧
    (true = false →
      spec_DecCmp_j0 r r_1 wv_2 R)) ∧
  ((!t9) = false →
    ∃ (t120 : Bool) (t121_p : Option Addr) (t121_n : Nat) (t121_c : Nat) (t122 : Int), Loads P 40 ⟨r_1, 0, none⟩ (.agg #[(.bool t120), (.slice t121_p t121_n t121_c), (.int .i64 t122)]) wv_2 ∧ Calls P 83 ⟨[(.agg #[(.bool t120), (.slice t121_p t121_n t121_c), (.int .i64 t122)])]⟩ wv_2 fun e_3 wv_9 =>
    ∃ (t13 : Bool), e_3 = .returned (.bool t13) ∧
    ((!t13) = true →
      R (.int .i64 0) wv_9) ∧
    ((!t13) = false →
      spec_DecCmp_j0 r r_1 wv_9 R))
theorem spec_DecCmp_eq (d0 : Bool) (d1_p : Option Addr) (d1_n : Nat) (d1_c : Nat) (d2 : Int) (e0 : Bool) (e1_p : Option Addr) (e1_n : Nat) (e1_c : Nat) (e2 : Int) (w : World) (R : Value → World → Prop) : spec_DecCmp d0 d1_p d1_n d1_c d2 e0 e1_p e1_n e1_c e2 w R = fsem P Tryz.f84 (fun k => []) [(.agg #[(.bool d0), (.slice d1_p d1_n d1_c), (.int .i64 d2)]), (.agg #[(.bool e0), (.slice e1_p e1_n e1_c), (.int .i64 e2)])] R w := by kernel_rfl
theorem spec_DecCmp_ret {d0 : Bool} {d1_p : Option Addr} {d1_n : Nat} {d1_c : Nat} {d2 : Int} {e0 : Bool} {e1_p : Option Addr} {e1_n : Nat} {e1_c : Nat} {e2 : Int} {w : World} {R : Value → World → Prop} (h : spec_DecCmp d0 d1_p d1_n d1_c d2 e0 e1_p e1_n e1_c e2 w R) : Ret P 84 [(.agg #[(.bool d0), (.slice d1_p d1_n d1_c), (.int .i64 d2)]), (.agg #[(.bool e0), (.slice e1_p e1_n e1_c), (.int .i64 e2)])] w R :=
  Ret.of_fsem Tryz.func84 rfl (Eq.mp (spec_DecCmp_eq d0 d1_p d1_n d1_c d2 e0 e1_p e1_n e1_c e2 w R) h)
def spec_RatOk (r0 : Bool) (r1_p : Option Addr) (r1_n : Nat) (r1_c : Nat) (r2_p : Option Addr) (r2_n : Nat) (r2_c : Nat) (w : World) (R : Value → World → Prop) : Prop :=
  ∀ (r : Nat) (wv : World), New w (.cells ⟨[(.bool r0), (.slice r1_p r1_n r1_c), (.slice r2_p r2_n r2_c)]⟩ 35 (0, 0)) r wv →
  ∃ (t40 : Bool) (t41_p : Option Addr) (t41_n : Nat) (t41_c : Nat), Loads P 31 ((⟨r, 0, none⟩ : Addr).add 0) (.agg #[(.bool t40), (.slice t41_p t41_n t41_c)]) wv ∧ Calls P 82 ⟨[(.agg #[(.bool t40), (.slice t41_p t41_n t41_c)])]⟩ wv fun e wv_1 =>
  ∃ (t5 : Bool), e = .returned (.bool t5) ∧
  ((!t5) = true →
    (true = true →
      (true = true →
        (true = true →
          (true = true →
            R (.bool false) wv_1) ∧
          (true = false →
            ∃ (t34_p : Option Addr) (t34_n : Nat) (t34_c : Nat), Loads P 22 (((⟨r, 0, none⟩ : Addr).add 0).add 1) (.slice t34_p t34_n t34_c) wv_1 ∧ ∃ (t36_p : Option Addr) (t36_n : Nat) (t36_c : Nat), Loads P 22 ((⟨r, 0, none⟩ : Addr).add 2) (.slice t36_p t36_n t36_c) wv_1 ∧ Calls P 132 ⟨[(.slice t34_p t34_n t34_c), (.slice t36_p t36_n t36_c)]⟩ wv_1 fun e_1 wv_2 =>
            ∃ (t37_p : Option Addr) (t37_n : Nat) (t37_c : Nat), e_1 = .returned (.slice t37_p t37_n t37_c) ∧
            ∀ (r_1 : Nat) (wv_3 : World), New wv_2 (.cells ⟨[(.int .i64 1)]⟩ 3 (0, 0)) r_1 wv_3 →
            Calls P 115 ⟨[(.slice t37_p t37_n t37_c), (.slice (some ⟨r_1, 0, none⟩) 1 1)]⟩ wv_3 fun e_2 wv_4 =>
            ∃ (t39 : Int), e_2 = .returned (.int .i64 t39) ∧
            R (.bool (decide ((t39 : Int) = 0))) wv_4)) ∧
        (true = false →
          ∃ (t28_p : Option Addr) (t28_n : Nat) (t28_c : Nat), Loads P 22 (((⟨r, 0, none⟩ : Addr).add 0).add 1) (.slice t28_p t28_n t28_c) wv_1 ∧ ((decide ((18 : Int) < ((t28_n : Nat) : Int))) = true →
            R (.bool false) wv_1) ∧
          ((decide ((18 : Int) < ((t28_n : Nat) : Int))) = false →
            ∃ (t34_p_1 : Option Addr) (t34_n_1 : Nat) (t34_c_1 : Nat), Loads P 22 (((⟨r, 0, none⟩ : Addr).add 0).add 1) (.slice t34_p_1 t34_n_1 t34_c_1) wv_1 ∧ ∃ (t36_p_1 : Option Addr) (t36_n_1 : Nat) (t36_c_1 : Nat), Loads P 22 ((⟨r, 0, none⟩ : Addr).add 2) (.slice t36_p_1 t36_n_1 t36_c_1) wv_1 ∧ Calls P 132 ⟨[(.slice t34_p_1 t34_n_1 t34_c_1), (.slice t36_p_1 t36_n_1 t36_c_1)]⟩ wv_1 fun e_3 wv_5 =>
            ∃ (t37_p_1 : Option Addr) (t37_n_1 : Nat) (t37_c_1 : Nat), e_3 = .returned (.slice t37_p_1 t37_n_1 t37_c_1) ∧
            ∀ (r_2 : Nat) (wv_6 : World), New wv_5 (.cells ⟨[(.int .i64 1)]⟩ 3 (0, 0)) r_2 wv_6 →
            Calls P 115 ⟨[(.slice t37_p_1 t37_n_1 t37_c_1), (.slice (some ⟨r_2, 0, none⟩) 1 1)]⟩ wv_6 fun e_4 wv_7 =>
            ∃ (t39_1 : Int), e_4 = .returned (.int .i64 t39_1) ∧
            R (.bool (decide ((t39_1 : Int) = 0))) wv_7))) ∧
      (true = false →
        ∃ (t21_p : Option Addr) (t21_n : Nat) (t21_c : Nat), Loads P 22 ((⟨r, 0, none⟩ : Addr).add 2) (.slice t21_p t21_n t21_c) wv_1 ∧ ((decide ((18 : Int) < ((t21_n : Nat) : Int))) = true →
          (true = true →
            R (.bool false) wv_1) ∧
          (true = false →
            ∃ (t34_p_2 : Option Addr) (t34_n_2 : Nat) (t34_c_2 : Nat), Loads P 22 (((⟨r, 0, none⟩ : Addr).add 0).add 1) (.slice t34_p_2 t34_n_2 t34_c_2) wv_1 ∧ ∃ (t36_p_2 : Option Addr) (t36_n_2 : Nat) (t36_c_2 : Nat), Loads P 22 ((⟨r, 0, none⟩ : Addr).add 2) (.slice t36_p_2 t36_n_2 t36_c_2) wv_1 ∧ Calls P 132 ⟨[(.slice t34_p_2 t34_n_2 t34_c_2), (.slice t36_p_2 t36_n_2 t36_c_2)]⟩ wv_1 fun e_5 wv_8 =>
            ∃ (t37_p_2 : Option Addr) (t37_n_2 : Nat) (t37_c_2 : Nat), e_5 = .returned (.slice t37_p_2 t37_n_2 t37_c_2) ∧
            ∀ (r_3 : Nat) (wv_9 : World), New wv_8 (.cells ⟨[(.int .i64 1)]⟩ 3 (0, 0)) r_3 wv_9 →
            Calls P 115 ⟨[(.slice t37_p_2 t37_n_2 t37_c_2), (.slice (some ⟨r_3, 0, none⟩) 1 1)]⟩ wv_9 fun e_6 wv_10 =>
            ∃ (t39_2 : Int), e_6 = .returned (.int .i64 t39_2) ∧
            R (.bool (decide ((t39_2 : Int) = 0))) wv_10)) ∧
        ((decide ((18 : Int) < ((t21_n : Nat) : Int))) = false →
          ∃ (t28_p_1 : Option Addr) (t28_n_1 : Nat) (t28_c_1 : Nat), Loads P 22 (((⟨r, 0, none⟩ : Addr).add 0).add 1) (.slice t28_p_1 t28_n_1 t28_c_1) wv_1 ∧ ((decide ((18 : Int) < ((t28_n_1 : Nat) : Int))) = true →
            R (.bool false) wv_1) ∧
          ((decide ((18 : Int) < ((t28_n_1 : Nat) : Int))) = false →
            ∃ (t34_p_3 : Option Addr) (t34_n_3 : Nat) (t34_c_3 : Nat), Loads P 22 (((⟨r, 0, none⟩ : Addr).add 0).add 1) (.slice t34_p_3 t34_n_3 t34_c_3) wv_1 ∧ ∃ (t36_p_3 : Option Addr) (t36_n_3 : Nat) (t36_c_3 : Nat), Loads P 22 ((⟨r, 0, none⟩ : Addr).add 2) (.slice t36_p_3 t36_n_3 t36_c_3) wv_1 ∧ Calls P 132 ⟨[(.slice t34_p_3 t34_n_3 t34_c_3), (.slice t36_p_3 t36_n_3 t36_c_3)]⟩ wv_1 fun e_7 wv_11 =>
            ∃ (t37_p_3 : Option Addr) (t37_n_3 : Nat) (t37_c_3 : Nat), e_7 = .returned (.slice t37_p_3 t37_n_3 t37_c_3) ∧
            ∀ (r_4 : Nat) (wv_12 : World), New wv_11 (.cells ⟨[(.int .i64 1)]⟩ 3 (0, 0)) r_4 wv_12 →
            Calls P 115 ⟨[(.slice t37_p_3 t37_n_3 t37_c_3), (.slice (some ⟨r_4, 0, none⟩) 1 1)]⟩ wv_12 fun e_8 wv_13 =>
            ∃ (t39_3 : Int), e_8 = .returned (.int .i64 t39_3) ∧
            R (.bool (decide ((t39_3 : Int) = 0))) wv_13)))) ∧
    (true = false →
      ∃ (t15_p : Option Addr) (t15_n : Nat) (t15_c : Nat), Loads P 22 ((⟨r, 0, none⟩ : Addr).add 2) (.slice t15_p t15_n t15_c) wv_1 ∧ ((decide ((((t15_n : Nat) : Int) : Int) = 0)) = true →
        (true = true →
          (true = true →
            R (.bool false) wv_1) ∧
          (true = false →
            ∃ (t34_p_4 : Option Addr) (t34_n_4 : Nat) (t34_c_4 : Nat), Loads P 22 (((⟨r, 0, none⟩ : Addr).add 0).add 1) (.slice t34_p_4 t34_n_4 t34_c_4) wv_1 ∧ ∃ (t36_p_4 : Option Addr) (t36_n_4 : Nat) (t36_c_4 : Nat), Loads P 22 ((⟨r, 0, none⟩ : Addr).add 2) (.slice t36_p_4 t36_n_4 t36_c_4) wv_1 ∧ Calls P 132 ⟨[(.slice t34_p_4 t34_n_4 t34_c_4), (.slice t36_p_4 t36_n_4 t36_c_4)]⟩ wv_1 fun e_9 wv_14 =>
            ∃ (t37_p_4 : Option Addr) (t37_n_4 : Nat) (t37_c_4 : Nat), e_9 = .returned (.slice t37_p_4 t37_n_4 t37_c_4) ∧
            ∀ (r_5 : Nat) (wv_15 : World), New wv_14 (.cells ⟨[(.int .i64 1)]⟩ 3 (0, 0)) r_5 wv_15 →
            Calls P 115 ⟨[(.slice t37_p_4 t37_n_4 t37_c_4), (.slice (some ⟨r_5, 0, none⟩) 1 1)]⟩ wv_15 fun e_10 wv_16 =>
            ∃ (t39_4 : Int), e_10 = .returned (.int .i64 t39_4) ∧
            R (.bool (decide ((t39_4 : Int) = 0))) wv_16)) ∧
        (true = false →
          ∃ (t28_p_2 : Option Addr) (t28_n_2 : Nat) (t28_c_2 : Nat), Loads P 22 (((⟨r, 0, none⟩ : Addr).add 0).add 1) (.slice t28_p_2 t28_n_2 t28_c_2) wv_1 ∧ ((decide ((18 : Int) < ((t28_n_2 : Nat) : Int))) = true →
            R (.bool false) wv_1) ∧
          ((decide ((18 : Int) < ((t28_n_2 : Nat) : Int))) = false →
            ∃ (t34_p_5 : Option Addr) (t34_n_5 : Nat) (t34_c_5 : Nat), Loads P 22 (((⟨r, 0, none⟩ : Addr).add 0).add 1) (.slice t34_p_5 t34_n_5 t34_c_5) wv_1 ∧ ∃ (t36_p_5 : Option Addr) (t36_n_5 : Nat) (t36_c_5 : Nat), Loads P 22 ((⟨r, 0, none⟩ : Addr).add 2) (.slice t36_p_5 t36_n_5 t36_c_5) wv_1 ∧ Calls P 132 ⟨[(.slice t34_p_5 t34_n_5 t34_c_5), (.slice t36_p_5 t36_n_5 t36_c_5)]⟩ wv_1 fun e_11 wv_17 =>
            ∃ (t37_p_5 : Option Addr) (t37_n_5 : Nat) (t37_c_5 : Nat), e_11 = .returned (.slice t37_p_5 t37_n_5 t37_c_5) ∧
            ∀ (r_6 : Nat) (wv_18 : World), New wv_17 (.cells ⟨[(.int .i64 1)]⟩ 3 (0, 0)) r_6 wv_18 →
            Calls P 115 ⟨[(.slice t37_p_5 t37_n_5 t37_c_5), (.slice (some ⟨r_6, 0, none⟩) 1 1)]⟩ wv_18 fun e_12 wv_19 =>
            ∃ (t39_5 : Int), e_12 = .returned (.int .i64 t39_5) ∧
            R (.bool (decide ((t39_5 : Int) = 0))) wv_19))) ∧
      ((decide ((((t15_n : Nat) : Int) : Int) = 0)) = false →
        ∃ (t21_p_1 : Option Addr) (t21_n_1 : Nat) (t21_c_1 : Nat), Loads P 22 ((⟨r, 0, none⟩ : Addr).add 2) (.slice t21_p_1 t21_n_1 t21_c_1) wv_1 ∧ ((decide ((18 : Int) < ((t21_n_1 : Nat) : Int))) = true →
          (true = true →
            R (.bool false) wv_1) ∧
          (true = false →
            ∃ (t34_p_6 : Option Addr) (t34_n_6 : Nat) (t34_c_6 : Nat), Loads P 22 (((⟨r, 0, none⟩ : Addr).add 0).add 1) (.slice t34_p_6 t34_n_6 t34_c_6) wv_1 ∧ ∃ (t36_p_6 : Option Addr) (t36_n_6 : Nat) (t36_c_6 : Nat), Loads P 22 ((⟨r, 0, none⟩ : Addr).add 2) (.slice t36_p_6 t36_n_6 t36_c_6) wv_1 ∧ Calls P 132 ⟨[(.slice t34_p_6 t34_n_6 t34_c_6), (.slice t36_p_6 t36_n_6 t36_c_6)]⟩ wv_1 fun e_13 wv_20 =>
            ∃ (t37_p_6 : Option Addr) (t37_n_6 : Nat) (t37_c_6 : Nat), e_13 = .returned (.slice t37_p_6 t37_n_6 t37_c_6) ∧
            ∀ (r_7 : Nat) (wv_21 : World), New wv_20 (.cells ⟨[(.int .i64 1)]⟩ 3 (0, 0)) r_7 wv_21 →
            Calls P 115 ⟨[(.slice t37_p_6 t37_n_6 t37_c_6), (.slice (some ⟨r_7, 0, none⟩) 1 1)]⟩ wv_21 fun e_14 wv_22 =>
            ∃ (t39_6 : Int), e_14 = .returned (.int .i64 t39_6) ∧
            R (.bool (decide ((t39_6 : Int) = 0))) wv_22)) ∧
        ((decide ((18 : Int) < ((t21_n_1 : Nat) : Int))) = false →
          ∃ (t28_p_3 : Option Addr) (t28_n_3 : Nat) (t28_c_3 : Nat), Loads P 22 (((⟨r, 0, none⟩ : Addr).add 0).add 1) (.slice t28_p_3 t28_n_3 t28_c_3) wv_1 ∧ ((decide ((18 : Int) < ((t28_n_3 : Nat) : Int))) = true →
            R (.bool false) wv_1) ∧
          ((decide ((18 : Int) < ((t28_n_3 : Nat) : Int))) = false →
            ∃ (t34_p_7 : Option Addr) (t34_n_7 : Nat) (t34_c_7 : Nat), Loads P 22 (((⟨r, 0, none⟩ : Addr).add 0).add 1) (.slice t34_p_7 t34_n_7 t34_c_7) wv_1 ∧ ∃ (t36_p_7 : Option Addr) (t36_n_7 : Nat) (t36_c_7 : Nat), Loads P 22 ((⟨r, 0, none⟩ : Addr).add 2) (.slice t36_p_7 t36_n_7 t36_c_7) wv_1 ∧ Calls P 132 ⟨[(.slice t34_p_7 t34_n_7 t34_c_7), (.slice t36_p_7 t36_n_7 t36_c_7)]⟩ wv_1 fun e_15 wv_23 =>
            ∃ (t37_p_7 : Option Addr) (t37_n_7 : Nat) (t37_c_7 : Nat), e_15 = .returned (.slice t37_p_7 t37_n_7 t37_c_7) ∧
            ∀ (r_8 : Nat) (wv_24 : World), New wv_23 (.cells ⟨[(.int .i64 1)]⟩ 3 (0, 0)) r_8 wv_24 →
            Calls P 115 ⟨[(.slice t37_p_7 t37_n_7 t37_c_7), (.slice (some ⟨r_8, 0, none⟩) 1 1)]⟩ wv_24 fun e_16 wv_25 =>
            ∃ (t39_7 : Int), e_16 = .returned (.int .i64 t39_7) ∧
            R (.bool (decide ((t39_7 : Int) = 0))) wv_25))))) ∧
  ((!t5) = false →
    ∃ (t9_p : Option Addr) (t9_n : Nat) (t9_c : Nat), Loads P 22 ((⟨r, 0, none⟩ : Addr).add 2) (.slice t9_p t9_n t9_c) wv_1 ∧ Calls P 129 ⟨[(.slice t9_p t9_n t9_c)]⟩ wv_1 fun e_17 wv_26 =>
    ∃ (t10 : Bool), e_17 = .returned (.bool t10) ∧
    ((!t10) = true →
      (true = true →
        (true = true →
          (true = true →
            R (.bool false) wv_26) ∧
          (true = false →
            ∃ (t34_p_8 : Option Addr) (t34_n_8 : Nat) (t34_c_8 : Nat), Loads P 22 (((⟨r, 0, none⟩ : Addr).add 0).add 1) (.slice t34_p_8 t34_n_8 t34_c_8) wv_26 ∧ ∃ (t36_p_8 : Option Addr) (t36_n_8 : Nat) (t36_c_8 : Nat), Loads P 22 ((⟨r, 0, none⟩ : Addr).add 2) (.slice t36_p_8 t36_n_8 t36_c_8) wv_26 ∧ Calls P 132 ⟨[(.slice t34_p_8 t34_n_8 t34_c_8), (.slice t36_p_8 t36_n_8 t36_c_8)]⟩ wv_26 fun e_18 wv_27 =>
            ∃ (t37_p_8 : Option Addr) (t37_n_8 : Nat) (t37_c_8 : Nat), e_18 = .returned (.slice t37_p_8 t37_n_8 t37_c_8) ∧
            ∀ (r_9 : Nat) (wv_28 : World), New wv_27 (.cells ⟨[(.int .i64 1)]⟩ 3 (0, 0)) r_9 wv_28 →
            Calls P 115 ⟨[(.slice t37_p_8 t37_n_8 t37_c_8), (.slice (some ⟨r_9, 0, none⟩) 1 1)]⟩ wv_28 fun e_19 wv_29 =>
            ∃ (t39_8 : Int), e_19 = .returned (.int .i64 t39_8) ∧
            R (.bool (decide ((t39_8 : Int) = 0))) wv_29)) ∧
        (true = false →
          ∃ (t28_p_4 : Option Addr) (t28_n_4 : Nat) (t28_c_4 : Nat), Loads P 22 (((⟨r, 0, none⟩ : Addr).add 0).add 1) (.slice t28_p_4 t28_n_4 t28_c_4) wv_26 ∧ ((decide ((18 : Int) < ((t28_n_4 : Nat) : Int))) = true →
            R (.bool false) wv_26) ∧
          ((decide ((18 : Int) < ((t28_n_4 : Nat) : Int))) = false →
            ∃ (t34_p_9 : Option Addr) (t34_n_9 : Nat) (t34_c_9 : Nat), Loads P 22 (((⟨r, 0, none⟩ : Addr).add 0).add 1) (.slice t34_p_9 t34_n_9 t34_c_9) wv_26 ∧ ∃ (t36_p_9 : Option Addr) (t36_n_9 : Nat) (t36_c_9 : Nat), Loads P 22 ((⟨r, 0, none⟩ : Addr).add 2) (.slice t36_p_9 t36_n_9 t36_c_9) wv_26 ∧ Calls P 132 ⟨[(.slice t34_p_9 t34_n_9 t34_c_9), (.slice t36_p_9 t36_n_9 t36_c_9)]⟩ wv_26 fun e_20 wv_30 =>
            ∃ (t37_p_9 : Option Addr) (t37_n_9 : Nat) (t37_c_9 : Nat), e_20 = .returned (.slice t37_p_9 t37_n_9 t37_c_9) ∧
            ∀ (r_10 : Nat) (wv_31 : World), New wv_30 (.cells ⟨[(.int .i64 1)]⟩ 3 (0, 0)) r_10 wv_31 →
            Calls P 115 ⟨[(.slice t37_p_9 t37_n_9 t37_c_9), (.slice (some ⟨r_10, 0, none⟩) 1 1)]⟩ wv_31 fun e_21 wv_32 =>
            ∃ (t39_9 : Int), e_21 = .returned (.int .i64 t39_9) ∧
            R (.bool (decide ((t39_9 : Int) = 0))) wv_32))) ∧
      (true = false →
        ∃ (t21_p_2 : Option Addr) (t21_n_2 : Nat) (t21_c_2 : Nat), Loads P 22 ((⟨r, 0, none⟩ : Addr).add 2) (.slice t21_p_2 t21_n_2 t21_c_2) wv_26 ∧ ((decide ((18 : Int) < ((t21_n_2 : Nat) : Int))) = true →
          (true = true →
            R (.bool false) wv_26) ∧
          (true = false →
            ∃ (t34_p_10 : Option Addr) (t34_n_10 : Nat) (t34_c_10 : Nat), Loads P 22 (((⟨r, 0, none⟩ : Addr).add 0).add 1) (.slice t34_p_10 t34_n_10 t34_c_10) wv_26 ∧ ∃ (t36_p_10 : Option Addr) (t36_n_10 : Nat) (t36_c_10 : Nat), Loads P 22 ((⟨r, 0, none⟩ : Addr).add 2) (.slice t36_p_10 t36_n_10 t36_c_10) wv_26 ∧ Calls P 132 ⟨[(.slice t34_p_10 t34_n_10 t34_c_10), (.slice t36_p_10 t36_n_10 t36_c_10)]⟩ wv_26 fun e_22 wv_33 =>
            ∃ (t37_p_10 : Option Addr) (t37_n_10 : Nat) (t37_c_10 : Nat), e_22 = .returned (.slice t37_p_10 t37_n_10 t37_c_10) ∧
            ∀ (r_11 : Nat) (wv_34 : World), New wv_33 (.cells ⟨[(.int .i64 1)]⟩ 3 (0, 0)) r_11 wv_34 →
            Calls P 115 ⟨[(.slice t37_p_10 t37_n_10 t37_c_10), (.slice (some ⟨r_11, 0, none⟩) 1 1)]⟩ wv_34 fun e_23 wv_35 =>
            ∃ (t39_10 : Int), e_23 = .returned (.int .i64 t39_10) ∧
            R (.bool (decide ((t39_10 : Int) = 0))) wv_35)) ∧
        ((decide ((18 : Int) < ((t21_n_2 : Nat) : Int))) = false →
          ∃ (t28_p_5 : Option Addr) (t28_n_5 : Nat) (t28_c_5 : Nat), Loads P 22 (((⟨r, 0, none⟩ : Addr).add 0).add 1) (.slice t28_p_5 t28_n_5 t28_c_5) wv_26 ∧ ((decide ((18 : Int) < ((t28_n_5 : Nat) : Int))) = true →
            R (.bool false) wv_26) ∧
          ((decide ((18 : Int) < ((t28_n_5 : Nat) : Int))) = false →
            ∃ (t34_p_11 : Option Addr) (t34_n_11 : Nat) (t34_c_11 : Nat), Loads P 22 (((⟨r, 0, none⟩ : Addr).add 0).add 1) (.slice t34_p_11 t34_n_11 t34_c_11) wv_26 ∧ ∃ (t36_p_11 : Option Addr) (t36_n_11 : Nat) (t36_c_11 : Nat), Loads P 22 ((⟨r, 0, none⟩ : Addr).add 2) (.slice t36_p_11 t36_n_11 t36_c_11) wv_26 ∧ Calls P 132 ⟨[(.slice t34_p_11 t34_n_11 t34_c_11), (.slice t36_p_11 t36_n_11 t36_c_11)]⟩ wv_26 fun e_24 wv_36 =>
            ∃ (t37_p_11 : Option Addr) (t37_n_11 : Nat) (t37_c_11 : Nat), e_24 = .returned (.slice t37_p_11 t37_n_11 t37_c_11) ∧
            ∀ (r_12 : Nat) (wv_37 : World), New wv_36 (.cells ⟨[(.int .i64 1)]⟩ 3 (0, 0)) r_12 wv_37 →
            Calls P 115 ⟨[(.slice t37_p_11 t37_n_11 t37_c_11), (.slice (some ⟨r_12, 0, none⟩) 1 1)]⟩ wv_37 fun e_25 wv_38 =>
            ∃ (t39_11 : Int), e_25 = .returned (.int .i64 t39_11) ∧
            R (.bool (decide ((t39_11 : Int) = 0))) wv_38)))) ∧
    ((!t10) = false →
      ∃ (t15_p_1 : Option Addr) (t15_n_1 : Nat) (t15_c_1 : Nat), Loads P 22 ((⟨r, 0, none⟩ : Addr).add 2) (.slice t15_p_1 t15_n_1 t15_c_1) wv_26 ∧ ((decide ((((t15_n_1 : Nat) : Int) : Int) = 0)) = true →
        (true = true →
          (true = true →
            R (.bool false) wv_26) ∧
          (true = false →
            ∃ (t34_p_12 : Option Addr) (t34_n_12 : Nat) (t34_c_12 : Nat), Loads P 22 (((⟨r, 0, none⟩ : Addr).add 0).add 1) (.slice t34_p_12 t34_n_12 t34_c_12) wv_26 ∧ ∃ (t36_p_12 : Option Addr) (t36_n_12 : Nat) (t36_c_12 : Nat), Loads P 22 ((⟨r, 0, none⟩ : Addr).add 2) (.slice t36_p_12 t36_n_12 t36_c_12) wv_26 ∧ Calls P 132 ⟨[(.slice t34_p_12 t34_n_12 t34_c_12), (.slice t36_p_12 t36_n_12 t36_c_12)]⟩ wv_26 fun e_26 wv_39 =>
            ∃ (t37_p_12 : Option Addr) (t37_n_12 : Nat) (t37_c_12 : Nat), e_26 = .returned (.slice t37_p_12 t37_n_12 t37_c_12) ∧
            ∀ (r_13 : Nat) (wv_40 : World), New wv_39 (.cells ⟨[(.int .i64 1)]⟩ 3 (0, 0)) r_13 wv_40 →
            Calls P 115 ⟨[(.slice t37_p_12 t37_n_12 t37_c_12), (.slice (some ⟨r_13, 0, none⟩) 1 1)]⟩ wv_40 fun e_27 wv_41 =>
            ∃ (t39_12 : Int), e_27 = .returned (.int .i64 t39_12) ∧
            R (.bool (decide ((t39_12 : Int) = 0))) wv_41)) ∧
        (true = false →
          ∃ (t28_p_6 : Option Addr) (t28_n_6 : Nat) (t28_c_6 : Nat), Loads P 22 (((⟨r, 0, none⟩ : Addr).add 0).add 1) (.slice t28_p_6 t28_n_6 t28_c_6) wv_26 ∧ ((decide ((18 : Int) < ((t28_n_6 : Nat) : Int))) = true →
            R (.bool false) wv_26) ∧
          ((decide ((18 : Int) < ((t28_n_6 : Nat) : Int))) = false →
            ∃ (t34_p_13 : Option Addr) (t34_n_13 : Nat) (t34_c_13 : Nat), Loads P 22 (((⟨r, 0, none⟩ : Addr).add 0).add 1) (.slice t34_p_13 t34_n_13 t34_c_13) wv_26 ∧ ∃ (t36_p_13 : Option Addr) (t36_n_13 : Nat) (t36_c_13 : Nat), Loads P 22 ((⟨r, 0, none⟩ : Addr).add 2) (.slice t36_p_13 t36_n_13 t36_c_13) wv_26 ∧ Calls P 132 ⟨[(.slice t34_p_13 t34_n_13 t34_c_13), (.slice t36_p_13 t36_n_13 t36_c_13)]⟩ wv_26 fun e_28 wv_42 =>
            ∃ (t37_p_13 : Option Addr) (t37_n_13 : Nat) (t37_c_13 : Nat), e_28 = .returned (.slice t37_p_13 t37_n_13 t37_c_13) ∧
            ∀ (r_14 : Nat) (wv_43 : World), New wv_42 (.cells ⟨[(.int .i64 1)]⟩ 3 (0, 0)) r_14 wv_43 →
            Calls P 115 ⟨[(.slice t37_p_13 t37_n_13 t37_c_13), (.slice (some ⟨r_14, 0, none⟩) 1 1)]⟩ wv_43 fun e_29 wv_44 =>
            ∃ (t39_13 : Int), e_29 = .returned (.int .i64 t39_13) ∧
            R (.bool (decide ((t39_13 : Int) = 0))) wv_44))) ∧
      ((decide ((((t15_n_1 : Nat) : Int) : Int) = 0)) = false →
        ∃ (t21_p_3 : Option Addr) (t21_n_3 : Nat) (t21_c_3 : Nat), Loads P 22 ((⟨r, 0, none⟩ : Addr).add 2) (.slice t21_p_3 t21_n_3 t21_c_3) wv_26 ∧ ((decide ((18 : Int) < ((t21_n_3 : Nat) : Int))) = true →
          (true = true →
            R (.bool false) wv_26) ∧
          (true = false →
            ∃ (t34_p_14 : Option Addr) (t34_n_14 : Nat) (t34_c_14 : Nat), Loads P 22 (((⟨r, 0, none⟩ : Addr).add 0).add 1) (.slice t34_p_14 t34_n_14 t34_c_14) wv_26 ∧ ∃ (t36_p_14 : Option Addr) (t36_n_14 : Nat) (t36_c_14 : Nat), Loads P 22 ((⟨r, 0, none⟩ : Addr).add 2) (.slice t36_p_14 t36_n_14 t36_c_14) wv_26 ∧ Calls P 132 ⟨[(.slice t34_p_14 t34_n_14 t34_c_14), (.slice t36_p_14 t36_n_14 t36_c_14)]⟩ wv_26 fun e_30 wv_45 =>
            ∃ (t37_p_14 : Option Addr) (t37_n_14 : Nat) (t37_c_14 : Nat), e_30 = .returned (.slice t37_p_14 t37_n_14 t37_c_14) ∧
            ∀ (r_15 : Nat) (wv_46 : World), New wv_45 (.cells ⟨[(.int .i64 1)]⟩ 3 (0, 0)) r_15 wv_46 →
            Calls P 115 ⟨[(.slice t37_p_14 t37_n_14 t37_c_14), (.slice (some ⟨r_15, 0, none⟩) 1 1)]⟩ wv_46 fun e_31 wv_47 =>
            ∃ (t39_14 : Int), e_31 = .returned (.int .i64 t39_14) ∧
            R (.bool (decide ((t39_14 : Int) = 0))) wv_47)) ∧
        ((decide ((18 : Int) < ((t21_n_3 : Nat) : Int))) = false →
          ∃ (t28_p_7 : Option Addr) (t28_n_7 : Nat) (t28_c_7 : Nat), Loads P 22 (((⟨r, 0, none⟩ : Addr).add 0).add 1) (.slice t28_p_7 t28_n_7 t28_c_7) wv_26 ∧ ((decide ((18 : Int) < ((t28_n_7 : Nat) : Int))) = true →
            R (.bool false) wv_26) ∧
          ((decide ((18 : Int) < ((t28_n_7 : Nat) : Int))) = false →
            ∃ (t34_p_15 : Option Addr) (t34_n_15 : Nat) (t34_c_15 : Nat), Loads P 22 (((⟨r, 0, none⟩ : Addr).add 0).add 1) (.slice t34_p_15 t34_n_15 t34_c_15) wv_26 ∧ ∃ (t36_p_15 : Option Addr) (t36_n_15 : Nat) (t36_c_15 : Nat), Loads P 22 ((⟨r, 0, none⟩ : Addr).add 2) (.slice t36_p_15 t36_n_15 t36_c_15) wv_26 ∧ Calls P 132 ⟨[(.slice t34_p_15 t34_n_15 t34_c_15), (.slice t36_p_15 t36_n_15 t36_c_15)]⟩ wv_26 fun e_32 wv_48 =>
            ∃ (t37_p_15 : Option Addr) (t37_n_15 : Nat) (t37_c_15 : Nat), e_32 = .returned (.slice t37_p_15 t37_n_15 t37_c_15) ∧
            ∀ (r_16 : Nat) (wv_49 : World), New wv_48 (.cells ⟨[(.int .i64 1)]⟩ 3 (0, 0)) r_16 wv_49 →
            Calls P 115 ⟨[(.slice t37_p_15 t37_n_15 t37_c_15), (.slice (some ⟨r_16, 0, none⟩) 1 1)]⟩ wv_49 fun e_33 wv_50 =>
            ∃ (t39_15 : Int), e_33 = .returned (.int .i64 t39_15) ∧
            R (.bool (decide ((t39_15 : Int) = 0))) wv_50)))))
theorem spec_RatOk_eq (r0 : Bool) (r1_p : Option Addr) (r1_n : Nat) (r1_c : Nat) (r2_p : Option Addr) (r2_n : Nat) (r2_c : Nat) (w : World) (R : Value → World → Prop) : spec_RatOk r0 r1_p r1_n r1_c r2_p r2_n r2_c w R = fsem P Tryz.f85 (fun k => []) [(.agg #[(.bool r0), (.slice r1_p r1_n r1_c), (.slice r2_p r2_n r2_c)])] R w := by kernel_rfl
theorem spec_RatOk_ret {r0 : Bool} {r1_p : Option Addr} {r1_n : Nat} {r1_c : Nat} {r2_p : Option Addr} {r2_n : Nat} {r2_c : Nat} {w : World} {R : Value → World → Prop} (h : spec_RatOk r0 r1_p r1_n r1_c r2_p r2_n r2_c w R) : Ret P 85 [(.agg #[(.bool r0), (.slice r1_p r1_n r1_c), (.slice r2_p r2_n r2_c)])] w R :=
  Ret.of_fsem Tryz.func85 rfl (Eq.mp (spec_RatOk_eq r0 r1_p r1_n r1_c r2_p r2_n r2_c w R) h)
def spec_l05Low (neg : Bool) (a_p : Option Addr) (a_n : Nat) (a_c : Nat) (b_p : Option Addr) (b_n : Nat) (b_c : Nat) (w : World) (R : Value → World → Prop) : Prop :=
  ∀ (r : Nat) (wv : World), New w (.cells ⟨[(.bool false), (.slice none 0 0), (.slice none 0 0)]⟩ 35 (0, 0)) r wv →
  Calls P 133 ⟨[(.slice a_p a_n a_c)]⟩ wv fun e wv_1 =>
  ∃ (t16_p : Option Addr) (t16_n : Nat) (t16_c : Nat), e = .returned (.slice t16_p t16_n t16_c) ∧
  Calls P 133 ⟨[(.slice b_p b_n b_c)]⟩ wv_1 fun e_1 wv_2 =>
  ∃ (t18_p : Option Addr) (t18_n : Nat) (t18_c : Nat), e_1 = .returned (.slice t18_p t18_n t18_c) ∧
  ((decide ((((t18_n : Nat) : Int) : Int) = 0)) = true →
    ∃ wv_3, Stores P 35 ⟨r, 0, none⟩ (.agg #[(.bool false), (.slice none 0 0), (.slice none 0 0)]) wv_2 wv_3 ∧
    ∃ (r0 : Bool) (r1_p : Option Addr) (r1_n : Nat) (r1_c : Nat) (r2_p : Option Addr) (r2_n : Nat) (r2_c : Nat), Loads P 35 ⟨r, 0, none⟩ (.agg #[(.bool r0), (.slice r1_p r1_n r1_c), (.slice r2_p r2_n r2_c)]) wv_3 ∧ R (.tuple #[(.agg #[(.bool r0), (.slice r1_p r1_n r1_c), (.slice r2_p r2_n r2_c)]), (.bool false)]) wv_3) ∧
  ((decide ((((t18_n : Nat) : Int) : Int) = 0)) = false →
    Calls P 134 ⟨[(.slice t16_p t16_n t16_c), (.slice t18_p t18_n t18_c)]⟩ wv_2 fun e_2 wv_4 =>
    ∃ (t25_p : Option Addr) (t25_n : Nat) (t25_c : Nat), e_2 = .returned (.slice t25_p t25_n t25_c) ∧
    Calls P 135 ⟨[(.slice t16_p t16_n t16_c), (.slice t25_p t25_n t25_c)]⟩ wv_4 fun e_3 wv_5 =>
    ∃ (t29_p : Option Addr) (t29_n : Nat) (t29_c : Nat) (t29_p_1 : Option Addr) (t29_n_1 : Nat) (t29_c_1 : Nat), e_3 = .returned (.tuple #[(.slice t29_p t29_n t29_c), (.slice t29_p_1 t29_n_1 t29_c_1)]) ∧
    Calls P 135 ⟨[(.slice t18_p t18_n t18_c), (.slice t25_p t25_n t25_c)]⟩ wv_5 fun e_4 wv_6 =>
    ∃ (t35_p : Option Addr) (t35_n : Nat) (t35_c : Nat) (t35_p_1 : Option Addr) (t35_n_1 : Nat) (t35_c_1 : Nat), e_4 = .returned (.tuple #[(.slice t35_p t35_n t35_c), (.slice t35_p_1 t35_n_1 t35_c_1)]) ∧
    ((decide ((18 : Int) < ((t29_n : Nat) : Int))) = true →
      (true = true →
        ∃ wv_7, Stores P 35 ⟨r, 0, none⟩ (.agg #[(.bool false), (.slice none 0 0), (.slice none 0 0)]) wv_6 wv_7 ∧
        ∃ (r0_1 : Bool) (r1_p_1 : Option Addr) (r1_n_1 : Nat) (r1_c_1 : Nat) (r2_p_1 : Option Addr) (r2_n_1 : Nat) (r2_c_1 : Nat), Loads P 35 ⟨r, 0, none⟩ (.agg #[(.bool r0_1), (.slice r1_p_1 r1_n_1 r1_c_1), (.slice r2_p_1 r2_n_1 r2_c_1)]) wv_7 ∧ R (.tuple #[(.agg #[(.bool r0_1), (.slice r1_p_1 r1_n_1 r1_c_1), (.slice r2_p_1 r2_n_1 r2_c_1)]), (.bool false)]) wv_7) ∧
      (true = false →
        Calls P 70 ⟨[(.bool neg), (.slice t29_p t29_n t29_c)]⟩ wv_6 fun e_5 wv_8 =>
        ∃ (t490 : Bool) (t491_p : Option Addr) (t491_n : Nat) (t491_c : Nat), e_5 = .returned (.agg #[(.bool t490), (.slice t491_p t491_n t491_c)]) ∧
        ∀ (r_1 : Nat) (wv_9 : World), New wv_8 (.cells ⟨[]⟩ 3 (0, 0)) r_1 wv_9 →
        ∃ (t52_p : Option Addr) (t52_n : Nat) (t52_c : Nat) (wv_10 : World), Appends P [22, 22] [(.slice (some ⟨r_1, 0, none⟩) 0 0), (.slice t35_p t35_n t35_c)] (.slice t52_p t52_n t52_c) wv_9 wv_10 ∧
        ∃ wv_11, Stores P 35 ⟨r, 0, none⟩ (.agg #[(.bool t490), (.slice t491_p t491_n t491_c), (.slice t52_p t52_n t52_c)]) wv_10 wv_11 ∧
        ∃ (r0_2 : Bool) (r1_p_2 : Option Addr) (r1_n_2 : Nat) (r1_c_2 : Nat) (r2_p_2 : Option Addr) (r2_n_2 : Nat) (r2_c_2 : Nat), Loads P 35 ⟨r, 0, none⟩ (.agg #[(.bool r0_2), (.slice r1_p_2 r1_n_2 r1_c_2), (.slice r2_p_2 r2_n_2 r2_c_2)]) wv_11 ∧ R (.tuple #[(.agg #[(.bool r0_2), (.slice r1_p_2 r1_n_2 r1_c_2), (.slice r2_p_2 r2_n_2 r2_c_2)]), (.bool true)]) wv_11)) ∧
    ((decide ((18 : Int) < ((t29_n : Nat) : Int))) = false →
      ((decide ((18 : Int) < ((t35_n : Nat) : Int))) = true →
        ∃ wv_12, Stores P 35 ⟨r, 0, none⟩ (.agg #[(.bool false), (.slice none 0 0), (.slice none 0 0)]) wv_6 wv_12 ∧
        ∃ (r0_3 : Bool) (r1_p_3 : Option Addr) (r1_n_3 : Nat) (r1_c_3 : Nat) (r2_p_3 : Option Addr) (r2_n_3 : Nat) (r2_c_3 : Nat), Loads P 35 ⟨r, 0, none⟩ (.agg #[(.bool r0_3), (.slice r1_p_3 r1_n_3 r1_c_3), (.slice r2_p_3 r2_n_3 r2_c_3)]) wv_12 ∧ R (.tuple #[(.agg #[(.bool r0_3), (.slice r1_p_3 r1_n_3 r1_c_3), (.slice r2_p_3 r2_n_3 r2_c_3)]), (.bool false)]) wv_12) ∧
      ((decide ((18 : Int) < ((t35_n : Nat) : Int))) = false →
        Calls P 70 ⟨[(.bool neg), (.slice t29_p t29_n t29_c)]⟩ wv_6 fun e_6 wv_13 =>
        ∃ (t490_1 : Bool) (t491_p_1 : Option Addr) (t491_n_1 : Nat) (t491_c_1 : Nat), e_6 = .returned (.agg #[(.bool t490_1), (.slice t491_p_1 t491_n_1 t491_c_1)]) ∧
        ∀ (r_2 : Nat) (wv_14 : World), New wv_13 (.cells ⟨[]⟩ 3 (0, 0)) r_2 wv_14 →
        ∃ (t52_p_1 : Option Addr) (t52_n_1 : Nat) (t52_c_1 : Nat) (wv_15 : World), Appends P [22, 22] [(.slice (some ⟨r_2, 0, none⟩) 0 0), (.slice t35_p t35_n t35_c)] (.slice t52_p_1 t52_n_1 t52_c_1) wv_14 wv_15 ∧
        ∃ wv_16, Stores P 35 ⟨r, 0, none⟩ (.agg #[(.bool t490_1), (.slice t491_p_1 t491_n_1 t491_c_1), (.slice t52_p_1 t52_n_1 t52_c_1)]) wv_15 wv_16 ∧
        ∃ (r0_4 : Bool) (r1_p_4 : Option Addr) (r1_n_4 : Nat) (r1_c_4 : Nat) (r2_p_4 : Option Addr) (r2_n_4 : Nat) (r2_c_4 : Nat), Loads P 35 ⟨r, 0, none⟩ (.agg #[(.bool r0_4), (.slice r1_p_4 r1_n_4 r1_c_4), (.slice r2_p_4 r2_n_4 r2_c_4)]) wv_16 ∧ R (.tuple #[(.agg #[(.bool r0_4), (.slice r1_p_4 r1_n_4 r1_c_4), (.slice r2_p_4 r2_n_4 r2_c_4)]), (.bool true)]) wv_16)))
theorem spec_l05Low_eq (neg : Bool) (a_p : Option Addr) (a_n : Nat) (a_c : Nat) (b_p : Option Addr) (b_n : Nat) (b_c : Nat) (w : World) (R : Value → World → Prop) : spec_l05Low neg a_p a_n a_c b_p b_n b_c w R = fsem P Tryz.f86 (fun k => []) [(.bool neg), (.slice a_p a_n a_c), (.slice b_p b_n b_c)] R w := by kernel_rfl
theorem spec_l05Low_ret {neg : Bool} {a_p : Option Addr} {a_n : Nat} {a_c : Nat} {b_p : Option Addr} {b_n : Nat} {b_c : Nat} {w : World} {R : Value → World → Prop} (h : spec_l05Low neg a_p a_n a_c b_p b_n b_c w R) : Ret P 86 [(.bool neg), (.slice a_p a_n a_c), (.slice b_p b_n b_c)] w R :=
  Ret.of_fsem Tryz.func86 rfl (Eq.mp (spec_l05Low_eq neg a_p a_n a_c b_p b_n b_c w R) h)
def spec_l02Mul_j0 (a_p : Option Addr) (a_n : Nat) (b_p : Option Addr) (b_n : Nat) (W : World) (R : Value → World → Prop) : Prop :=
  ∃ t24 : Int, t24 = IntKind.wrap .i64 (((a_n : Nat) : Int) + ((b_n : Nat) : Int)) ∧ (0 ≤ (t24 : Int) ∧ (t24 : Int) ≤ t24 ∧ ((8 : Nat) : Int) * t24 ≤ 281474976710656) ∧
  ∀ (r : Nat) (wv : World), New W (.cells ⟨zeroRow (.int .i64 0) (t24.toNat * 1)⟩ 3 (0, 0)) r wv →
  ∃ (Inv : Int → World → Prop) (mu : Int → World → Nat), Inv 0 wv ∧
  ∀ (junk : Fr) (wv_1 : World) (t28 : Int), Inv t28 wv_1 →
    ((decide ((t28 : Int) < ((a_n : Nat) : Int))) = true →
      (0 ≤ (t28 : Int) ∧ (t28 : Int) < (a_n : Nat)) ∧ ptrS a_p fun ad => ∃ (t32 : Int), Loads P 3 (ad.add (t28.toNat * 1)) (.int .i64 t32) wv_1 ∧ ∃ (Inv_1 : Int → Int → World → Prop) (mu_1 : Int → Int → World → Nat), Inv_1 0 0 wv_1 ∧
      ∀ (junk_1 : Fr) (wv_2 : World) (carry : Int) (t35 : Int), Inv_1 carry t35 wv_2 →
        ((decide ((t35 : Int) < ((b_n : Nat) : Int))) = true →
          (0 ≤ (t35 : Int) ∧ (t35 : Int) < (b_n : Nat)) ∧ ptrS b_p fun ad_1 => ∃ (t39 : Int), Loads P 3 (ad_1.add (t35.toNat * 1)) (.int .i64 t39) wv_2 ∧ ∃ t43 : Int, t43 = IntKind.wrap .i64 (t28 + t35) ∧ (0 ≤ (t43 : Int) ∧ (t43 : Int) < (t24.toNat : Nat)) ∧ ∃ (t45 : Int), Loads P 3 ((⟨r, 0, none⟩ : Addr).add (t43.toNat * 1)) (.int .i64 t45) wv_2 ∧ ∃ t48 : Int, t48 = IntKind.wrap .i64 (t32 * t39) ∧ ∃ t49 : Int, t49 = IntKind.wrap .i64 (t45 + t48) ∧ ∃ t51 : Int, t51 = IntKind.wrap .i64 (t49 + carry) ∧ ∃ t55 : Int, t55 = IntKind.wrap .i64 (t28 + t35) ∧ (1000000000 : Int) ≠ 0 ∧ ∃ t57 : Int, t57 = Int.tmod t51 1000000000 ∧ (0 ≤ (t55 : Int) ∧ (t55 : Int) < (t24.toNat : Nat)) ∧ ∃ wv_3, Stores P 3 ((⟨r, 0, none⟩ : Addr).add (t55.toNat * 1)) (.int .i64 t57) wv_2 wv_3 ∧
          (1000000000 : Int) ≠ 0 ∧ ∃ t60 : Int, t60 = IntKind.wrap .i64 (Int.tdiv t51 1000000000) ∧ ∃ t61 : Int, t61 = IntKind.wrap .i64 (t35 + 1) ∧ Inv_1 t60 t61 wv_3 ∧ mu_1 t60 t61 wv_3 < mu_1 carry t35 wv_2) ∧
        ((decide ((t35 : Int) < ((b_n : Nat) : Int))) = false →
          ∃ t66 : Int, t66 = IntKind.wrap .i64 (t28 + ((b_n : Nat) : Int)) ∧ (0 ≤ (t66 : Int) ∧ (t66 : Int) < (t24.toNat : Nat)) ∧ ∃ wv_4, Stores P 3 ((⟨r, 0, none⟩ : Addr).add (t66.toNat * 1)) (.int .i64 carry) wv_2 wv_4 ∧
          ∃ t69 : Int, t69 = IntKind.wrap .i64 (t28 + 1) ∧ Inv t69 wv_4 ∧ mu t69 wv_4 < mu t28 wv_1)) ∧
    ((decide ((t28 : Int) < ((a_n : Nat) : Int))) = false →
      Calls P 133 ⟨[(.slice (some ⟨r, 0, none⟩) t24.toNat t24.toNat)]⟩ wv_1 fun e wv_5 =>
      ∃ (t71_p : Option Addr) (t71_n : Nat) (t71_c : Nat), e = .returned (.slice t71_p t71_n t71_c) ∧
      R (.slice t71_p t71_n t71_c) wv_5)
def spec_l02Mul (a_p : Option Addr) (a_n : Nat) (a_c : Nat) (b_p : Option Addr) (b_n : Nat) (b_c : Nat) (w : World) (R : Value → World → Prop) : Prop :=
  ((decide ((((a_n : Nat) : Int) : Int) = 0)) = true →
    (true = true →
      R (.slice none 0 0) w) ∧
    (true = false →
      spec_l02Mul_j0 a_p a_n b_p b_n w R)) ∧
  ((decide ((((a_n : Nat) : Int) : Int) = 0)) = false →
    ((decide ((((b_n : Nat) : Int) : Int) = 0)) = true →
      R (.slice none 0 0) w) ∧
    ((decide ((((b_n : Nat) : Int) : Int) = 0)) = false →
      spec_l02Mul_j0 a_p a_n b_p b_n w R))
theorem spec_l02Mul_eq (a_p : Option Addr) (a_n : Nat) (a_c : Nat) (b_p : Option Addr) (b_n : Nat) (b_c : Nat) (w : World) (R : Value → World → Prop) : spec_l02Mul a_p a_n a_c b_p b_n b_c w R = fsem P Tryz.f87 (fun k => cond (Nat.beq k 6) [(28, .one (.int .i64))] (cond (Nat.beq k 10) [(8, .one (.int .i64)), (35, .one (.int .i64))] ([]))) [(.slice a_p a_n a_c), (.slice b_p b_n b_c)] R w := by kernel_rfl
theorem spec_l02Mul_ret {a_p : Option Addr} {a_n : Nat} {a_c : Nat} {b_p : Option Addr} {b_n : Nat} {b_c : Nat} {w : World} {R : Value → World → Prop} (h : spec_l02Mul a_p a_n a_c b_p b_n b_c w R) : Ret P 87 [(.slice a_p a_n a_c), (.slice b_p b_n b_c)] w R :=
  Ret.of_fsem Tryz.func87 rfl (Eq.mp (spec_l02Mul_eq a_p a_n a_c b_p b_n b_c w R) h)
def spec_RatMake_j0 (r : Nat) (r_1 : Nat) (r_2 : Nat) (W : World) (R : Value → World → Prop) : Prop :=
  ∃ (t16 : Bool), Loads P 4 ((⟨r, 0, none⟩ : Addr).add 0) (.bool t16) W ∧ ∃ (t18 : Bool), Loads P 4 ((⟨r_1, 0, none⟩ : Addr).add 0) (.bool t18) W ∧ ∃ (t21_p : Option Addr) (t21_n : Nat) (t21_c : Nat), Loads P 22 ((⟨r, 0, none⟩ : Addr).add 1) (.slice t21_p t21_n t21_c) W ∧ ∃ (t23_p : Option Addr) (t23_n : Nat) (t23_c : Nat), Loads P 22 ((⟨r_1, 0, none⟩ : Addr).add 1) (.slice t23_p t23_n t23_c) W ∧ Calls P 86 ⟨[(.bool (!(t16 == t18))), (.slice t21_p t21_n t21_c), (.slice t23_p t23_n t23_c)]⟩ W fun e_1 wv_5 =>
  ∃ (t240 : Bool) (t241_p : Option Addr) (t241_n : Nat) (t241_c : Nat) (t242_p : Option Addr) (t242_n : Nat) (t242_c : Nat) (t24 : Bool), e_1 = .returned (.tuple #[(.agg #[(.bool t240), (.slice t241_p t241_n t241_c), (.slice t242_p t242_n t242_c)]), (.bool t24)]) ∧
  ∃ wv_6, Stores P 35 ⟨r_2, 0, none⟩ (.agg #[(.bool t240), (.slice t241_p t241_n t241_c), (.slice t242_p t242_n t242_c)]) wv_5 wv_6 ∧
  ∃ (r0_1 : Bool) (r1_p_1 : Option Addr) (r1_n_1 : Nat) (r1_c_1 : Nat) (r2_p_1 : Option Addr) (r2_n_1 : Nat) (r2_c_1 : Nat), Loads P 35 ⟨r_2, 0, none⟩ (.agg #[(.bool r0_1), (.slice r1_p_1 r1_n_1 r1_c_1), (.slice r2_p_1 r2_n_1 r2_c_1)]) wv_6 ∧ R (.tuple #[(.agg #[(.bool r0_1), (.slice r1_p_1 r1_n_1 r1_c_1), (.slice r2_p_1 r2_n_1 r2_c_1)]), (.bool t24)]) wv_6
def spec_RatMake (num0 : Bool) (num1_p : Option Addr) (num1_n : Nat) (num1_c : Nat) (den0 : Bool) (den1_p : Option Addr) (den1_n : Nat) (den1_c : Nat) (w : World) (R : Value → World → Prop) : Prop :=
  ∀ (r : Nat) (wv : World), New w (.cells ⟨[(.bool num0), (.slice num1_p num1_n num1_c)]⟩ 31 (0, 0)) r wv →
  ∀ (r_1 : Nat) (wv_1 : World), New wv (.cells ⟨[(.bool den0), (.slice den1_p den1_n den1_c)]⟩ 31 (0, 0)) r_1 wv_1 →
  ∀ (r_2 : Nat) (wv_2 : World), New wv_1 (.cells ⟨[(.bool false), (.slice none 0 0), (.slice none 0 0)]⟩ 35 (0, 0)) r_2 wv_2 →
  ∃ (t60 : Bool) (t61_p : Option Addr) (t61_n : Nat) (t61_c : Nat), Loads P 31 ⟨r, 0, none⟩ (.agg #[(.bool t60), (.slice t61_p t61_n t61_c)]) wv_2 ∧ Calls P 82 ⟨[(.agg #[(.bool t60), (.slice t61_p t61_n t61_c)])]⟩ wv_2 fun e wv_3 =>
  ∃ (t7 : Bool), e = .returned (.bool t7) ∧
  ((!t7) = true →
    (true = true →
      ∃ wv_4, Stores P 35 ⟨r_2, 0, none⟩ (.agg #[(.bool false), (.slice none 0 0), (.slice none 0 0)]) wv_3 wv_4 ∧
      ∃ (r0 : Bool) (r1_p : Option Addr) (r1_n : Nat) (r1_c : Nat) (r2_p : Option Addr) (r2_n : Nat) (r2_c : Nat), Loads P 35 ⟨r_2, 0, none⟩ (.agg #[(.bool r0), (.slice r1_p r1_n r1_c), (.slice r2_p r2_n r2_c)]) wv_4 ∧ R (.tuple #[(.agg #[(.bool r0), (.slice r1_p r1_n r1_c), (.slice r2_p r2_n r2_c)]), (.bool false)]) wv_4) ∧
    (true = false →
      spec_RatMake_j0 r r_1 r_2 wv_3 R)) ∧
  ((!t7) = false →
    ∃ (t100 : Bool) (t101_p : Option Addr) (t101_n : Nat) (t101_c : Nat), Loads P 31 ⟨r_1, 0, none⟩ (.agg #[(.bool t100), (.slice t101_p t101_n t101_c)]) wv_3 ∧ Calls P 82 ⟨[(.agg #[(.bool t100), (.slice t101_p t101_n t101_c)])]⟩ wv_3 fun e_2 wv_7 =>
    ∃ (t11 : Bool), e_2 = .returned (.bool t11) ∧
    ((!t11) = true →
      ∃ wv_8, Stores P 35 ⟨r_2, 0, none⟩ (.agg #[(.bool false), (.slice none 0 0), (.slice none 0 0)]) wv_7 wv_8 ∧
      ∃ (r0_2 : Bool) (r1_p_2 : Option Addr) (r1_n_2 : Nat) (r1_c_2 : Nat) (r2_p_2 : Option Addr) (r2_n_2 : Nat) (r2_c_2 : Nat), Loads P 35 ⟨r_2, 0, none⟩ (.agg #[(.bool r0_2), (.slice r1_p_2 r1_n_2 r1_c_2), (.slice r2_p_2 r2_n_2 r2_c_2)]) wv_8 ∧ R (.tuple #[(.agg #[(.bool r0_2), (.slice r1_p_2 r1_n_2 r1_c_2), (.slice r2_p_2 r2_n_2 r2_c_2)]), (.bool false)]) wv_8) ∧
    ((!t11) = false →
      spec_RatMake_j0 r r_1 r_2 wv_7 R))
theorem spec_RatMake_eq (num0 : Bool) (num1_p : Option Addr) (num1_n : Nat) (num1_c : Nat) (den0 : Bool) (den1_p : Option Addr) (den1_n : Nat) (den1_c : Nat) (w : World) (R : Value → World → Prop) : spec_RatMake num0 num1_p num1_n num1_c den0 den1_p den1_n den1_c w R = fsem P Tryz.f88 (fun k => []) [(.agg #[(.bool num0), (.slice num1_p num1_n num1_c)]), (.agg #[(.bool den0), (.slice den1_p den1_n den1_c)])] R w := by kernel_rfl
theorem spec_RatMake_ret {num0 : Bool} {num1_p : Option Addr} {num1_n : Nat} {num1_c : Nat} {den0 : Bool} {den1_p : Option Addr} {den1_n : Nat} {den1_c : Nat} {w : World} {R : Value → World → Prop} (h : spec_RatMake num0 num1_p num1_n num1_c den0 den1_p den1_n den1_c w R) : Ret P 88 [(.agg #[(.bool num0), (.slice num1_p num1_n num1_c)]), (.agg #[(.bool den0), (.slice den1_p den1_n den1_c)])] w R :=
  Ret.of_fsem Tryz.func88 rfl (Eq.mp (spec_RatMake_eq num0 num1_p num1_n num1_c den0 den1_p den1_n den1_c w R) h)
def spec_l07Ten (k : Int) (w : World) (R : Value → World → Prop) : Prop :=
  ∀ (r : Nat) (wv : World), New w (.cells ⟨[(.bool false), (.slice none 0 0)]⟩ 31 (0, 0)) r wv →
  Calls P 136 ⟨[(.int .i64 k)]⟩ wv fun e wv_1 =>
  ∃ (t4_p : Option Addr) (t4_n : Nat) (t4_c : Nat), e = .returned (.slice t4_p t4_n t4_c) ∧
  ∃ wv_2, Stores P 31 ⟨r, 0, none⟩ (.agg #[(.bool false), (.slice t4_p t4_n t4_c)]) wv_1 wv_2 ∧
  ∃ (r0 : Bool) (r1_p : Option Addr) (r1_n : Nat) (r1_c : Nat), Loads P 31 ⟨r, 0, none⟩ (.agg #[(.bool r0), (.slice r1_p r1_n r1_c)]) wv_2 ∧ R (.agg #[(.bool r0), (.slice r1_p r1_n r1_c)]) wv_2
theorem spec_l07Ten_eq (k : Int) (w : World) (R : Value → World → Prop) : spec_l07Ten k w R = fsem P Tryz.f89 (fun k => []) [(.int .i64 k)] R w := by kernel_rfl
theorem spec_l07Ten_ret {k : Int} {w : World} {R : Value → World → Prop} (h : spec_l07Ten k w R) : Ret P 89 [(.int .i64 k)] w R :=
  Ret.of_fsem Tryz.func89 rfl (Eq.mp (spec_l07Ten_eq k w R) h)
def spec_RatRest (r0 : Bool) (r1_p : Option Addr) (r1_n : Nat) (r1_c : Nat) (r2_p : Option Addr) (r2_n : Nat) (r2_c : Nat) (m : Int) (w : World) (R : Value → World → Prop) : Prop :=
  ∀ (r : Nat) (wv : World), New w (.cells ⟨[(.bool r0), (.slice r1_p r1_n r1_c), (.slice r2_p r2_n r2_c)]⟩ 35 (0, 0)) r wv →
  ∀ (r_1 : Nat) (wv_1 : World), New wv (.cells ⟨[(.bool false), (.slice none 0 0)]⟩ 31 (0, 0)) r_1 wv_1 →
  ∀ (r_2 : Nat) (wv_2 : World), New wv_1 (.cells ⟨[(.bool false), (.slice none 0 0), (.slice none 0 0)]⟩ 35 (0, 0)) r_2 wv_2 →
  ∃ (t140 : Bool) (t141_p : Option Addr) (t141_n : Nat) (t141_c : Nat) (t142_p : Option Addr) (t142_n : Nat) (t142_c : Nat), Loads P 35 ⟨r, 0, none⟩ (.agg #[(.bool t140), (.slice t141_p t141_n t141_c), (.slice t142_p t142_n t142_c)]) wv_2 ∧ Calls P 137 ⟨[(.agg #[(.bool t140), (.slice t141_p t141_n t141_c), (.slice t142_p t142_n t142_c)]), (.int .i64 m)]⟩ wv_2 fun e wv_3 =>
  ∃ (t160 : Bool) (t161_p : Option Addr) (t161_n : Nat) (t161_c : Nat) (t16 : Bool), e = .returned (.tuple #[(.agg #[(.bool t160), (.slice t161_p t161_n t161_c)]), (.bool t16)]) ∧
  ∀ (r_3 : Nat) (wv_4 : World), New wv_3 (.cells ⟨[(.bool false), (.slice none 0 0)]⟩ 31 (0, 0)) r_3 wv_4 →
  ∃ wv_5, Stores P 31 ⟨r_3, 0, none⟩ (.agg #[(.bool t160), (.slice t161_p t161_n t161_c)]) wv_4 wv_5 ∧
  ∃ (t200 : Bool) (t201_p : Option Addr) (t201_n : Nat) (t201_c : Nat), Loads P 31 ⟨r_3, 0, none⟩ (.agg #[(.bool t200), (.slice t201_p t201_n t201_c)]) wv_5 ∧ Calls P 57 ⟨[(.agg #[(.bool t200), (.slice t201_p t201_n t201_c)])]⟩ wv_5 fun e_1 wv_6 =>
  ∃ (t210 : Bool) (t211_p : Option Addr) (t211_n : Nat) (t211_c : Nat) (t212_p : Option Addr) (t212_n : Nat) (t212_c : Nat) (t21 : Bool), e_1 = .returned (.tuple #[(.agg #[(.bool t210), (.slice t211_p t211_n t211_c), (.slice t212_p t212_n t212_c)]), (.bool t21)]) ∧
  ∀ (r_4 : Nat) (wv_7 : World), New wv_6 (.cells ⟨[(.bool false), (.slice none 0 0), (.slice none 0 0)]⟩ 35 (0, 0)) r_4 wv_7 →
  ∃ wv_8, Stores P 35 ⟨r_4, 0, none⟩ (.agg #[(.bool t210), (.slice t211_p t211_n t211_c), (.slice t212_p t212_n t212_c)]) wv_7 wv_8 ∧
  ∃ (t250 : Bool) (t251_p : Option Addr) (t251_n : Nat) (t251_c : Nat) (t252_p : Option Addr) (t252_n : Nat) (t252_c : Nat), Loads P 35 ⟨r, 0, none⟩ (.agg #[(.bool t250), (.slice t251_p t251_n t251_c), (.slice t252_p t252_n t252_c)]) wv_8 ∧ ∃ (t260 : Bool) (t261_p : Option Addr) (t261_n : Nat) (t261_c : Nat) (t262_p : Option Addr) (t262_n : Nat) (t262_c : Nat), Loads P 35 ⟨r_4, 0, none⟩ (.agg #[(.bool t260), (.slice t261_p t261_n t261_c), (.slice t262_p t262_n t262_c)]) wv_8 ∧ Calls P 138 ⟨[(.agg #[(.bool t250), (.slice t251_p t251_n t251_c), (.slice t252_p t252_n t252_c)]), (.agg #[(.bool t260), (.slice t261_p t261_n t261_c), (.slice t262_p t262_n t262_c)])]⟩ wv_8 fun e_2 wv_9 =>
  ∃ (t270 : Bool) (t271_p : Option Addr) (t271_n : Nat) (t271_c : Nat) (t272_p : Option Addr) (t272_n : Nat) (t272_c : Nat) (t27 : Bool), e_2 = .returned (.tuple #[(.agg #[(.bool t270), (.slice t271_p t271_n t271_c), (.slice t272_p t272_n t272_c)]), (.bool t27)]) ∧
  ∀ (r_5 : Nat) (wv_10 : World), New wv_9 (.cells ⟨[(.bool false), (.slice none 0 0), (.slice none 0 0)]⟩ 35 (0, 0)) r_5 wv_10 →
  ∃ wv_11, Stores P 35 ⟨r_5, 0, none⟩ (.agg #[(.bool t270), (.slice t271_p t271_n t271_c), (.slice t272_p t272_n t272_c)]) wv_10 wv_11 ∧
  ((!t16) = true →
    (true = true →
      (true = true →
        ∃ wv_12, Stores P 31 ⟨r_1, 0, none⟩ (.agg #[(.bool false), (.slice none 0 0)]) wv_11 wv_12 ∧
        ∃ wv_13, Stores P 35 ⟨r_2, 0, none⟩ (.agg #[(.bool false), (.slice none 0 0), (.slice none 0 0)]) wv_12 wv_13 ∧
        ∃ (r0_1 : Bool) (r1_p_1 : Option Addr) (r1_n_1 : Nat) (r1_c_1 : Nat), Loads P 31 ⟨r_1, 0, none⟩ (.agg #[(.bool r0_1), (.slice r1_p_1 r1_n_1 r1_c_1)]) wv_13 ∧ ∃ (r0_2 : Bool) (r1_p_2 : Option Addr) (r1_n_2 : Nat) (r1_c_2 : Nat) (r2_p_1 : Option Addr) (r2_n_1 : Nat) (r2_c_1 : Nat), Loads P 35 ⟨r_2, 0, none⟩ (.agg #[(.bool r0_2), (.slice r1_p_2 r1_n_2 r1_c_2), (.slice r2_p_1 r2_n_1 r2_c_1)]) wv_13 ∧ R (.tuple #[(.agg #[(.bool r0_1), (.slice r1_p_1 r1_n_1 r1_c_1)]), (.agg #[(.bool r0_2), (.slice r1_p_2 r1_n_2 r1_c_2), (.slice r2_p_1 r2_n_1 r2_c_1)]), (.bool false)]) wv_13) ∧
      (true = false →
        ∃ blks : List Nat, ∃ (t420 : Bool) (t421_p : Option Addr) (t421_n : Nat) (t421_c : Nat), (∀ wv_14, EX blks wv_11.drew wv_14 → Loads P 31 ⟨r_3, 0, none⟩ (.agg #[(.bool t420), (.slice t421_p t421_n t421_c)]) wv_14) ∧ ∃ (t430 : Bool) (t431_p : Option Addr) (t431_n : Nat) (t431_c : Nat) (t432_p : Option Addr) (t432_n : Nat) (t432_c : Nat), (∀ wv_15, EX blks wv_11.drew wv_15 → Loads P 35 ⟨r_5, 0, none⟩ (.agg #[(.bool t430), (.slice t431_p t431_n t431_c), (.slice t432_p t432_n t432_c)]) wv_15) ∧ ∃ wv_16, Stores P 31 ⟨r_1, 0, none⟩ (.agg #[(.bool t420), (.slice t421_p t421_n t421_c)]) wv_11.drew wv_16 ∧
        EX blks wv_11.drew wv_16 ∧ ∃ wv_17, Stores P 35 ⟨r_2, 0, none⟩ (.agg #[(.bool t430), (.slice t431_p t431_n t431_c), (.slice t432_p t432_n t432_c)]) wv_16 wv_17 ∧
        ∃ (r0_3 : Bool) (r1_p_3 : Option Addr) (r1_n_3 : Nat) (r1_c_3 : Nat), Loads P 31 ⟨r_1, 0, none⟩ (.agg #[(.bool r0_3), (.slice r1_p_3 r1_n_3 r1_c_3)]) wv_17 ∧ ∃ (r0_4 : Bool) (r1_p_4 : Option Addr) (r1_n_4 : Nat) (r1_c_4 : Nat) (r2_p_2 : Option Addr) (r2_n_2 : Nat) (r2_c_2 : Nat), Loads P 35 ⟨r_2, 0, none⟩ (.agg #[(.bool r0_4), (.slice r1_p_4 r1_n_4 r1_c_4), (.slice r2_p_2 r2_n_2 r2_c_2)]) wv_17 ∧ R (.tuple #[(.agg #[(.bool r0_3), (.slice r1_p_3 r1_n_3 r1_c_3)]), (.agg #[(.bool r0_4), (.slice r1_p_4 r1_n_4 r1_c_4), (.slice r2_p_2 r2_n_2 r2_c_2)]), (.bool true)]) wv_17)) ∧
    (true = false →
      ((!t27) = true →
        ∃ wv_18, Stores P 31 ⟨r_1, 0, none⟩ (.agg #[(.bool false), (.slice none 0 0)]) wv_11 wv_18 ∧
        ∃ wv_19, Stores P 35 ⟨r_2, 0, none⟩ (.agg #[(.bool false), (.slice none 0 0), (.slice none 0 0)]) wv_18 wv_19 ∧
        ∃ (r0_5 : Bool) (r1_p_5 : Option Addr) (r1_n_5 : Nat) (r1_c_5 : Nat), Loads P 31 ⟨r_1, 0, none⟩ (.agg #[(.bool r0_5), (.slice r1_p_5 r1_n_5 r1_c_5)]) wv_19 ∧ ∃ (r0_6 : Bool) (r1_p_6 : Option Addr) (r1_n_6 : Nat) (r1_c_6 : Nat) (r2_p_3 : Option Addr) (r2_n_3 : Nat) (r2_c_3 : Nat), Loads P 35 ⟨r_2, 0, none⟩ (.agg #[(.bool r0_6), (.slice r1_p_6 r1_n_6 r1_c_6), (.slice r2_p_3 r2_n_3 r2_c_3)]) wv_19 ∧ R (.tuple #[(.agg #[(.bool r0_5), (.slice r1_p_5 r1_n_5 r1_c_5)]), (.agg #[(.bool r0_6), (.slice r1_p_6 r1_n_6 r1_c_6), (.slice r2_p_3 r2_n_3 r2_c_3)]), (.bool false)]) wv_19) ∧
      ((!t27) = false →
        ∃ blks_1 : List Nat, ∃ (t420_1 : Bool) (t421_p_1 : Option Addr) (t421_n_1 : Nat) (t421_c_1 : Nat), (∀ wv_20, EX blks_1 wv_11.drew wv_20 → Loads P 31 ⟨r_3, 0, none⟩ (.agg #[(.bool t420_1), (.slice t421_p_1 t421_n_1 t421_c_1)]) wv_20) ∧ ∃ (t430_1 : Bool) (t431_p_1 : Option Addr) (t431_n_1 : Nat) (t431_c_1 : Nat) (t432_p_1 : Option Addr) (t432_n_1 : Nat) (t432_c_1 : Nat), (∀ wv_21, EX blks_1 wv_11.drew wv_21 → Loads P 35 ⟨r_5, 0, none⟩ (.agg #[(.bool t430_1), (.slice t431_p_1 t431_n_1 t431_c_1), (.slice t432_p_1 t432_n_1 t432_c_1)]) wv_21) ∧ ∃ wv_22, Stores P 31 ⟨r_1, 0, none⟩ (.agg #[(.bool t420_1), (.slice t421_p_1 t421_n_1 t421_c_1)]) wv_11.drew wv_22 ∧
        EX blks_1 wv_11.drew wv_22 ∧ ∃ wv_23, Stores P 35 ⟨r_2, 0, none⟩ (.agg #[(.bool t430_1), (.slice t431_p_1 t431_n_1 t431_c_1), (.slice t432_p_1 t432_n_1 t432_c_1)]) wv_22 wv_23 ∧
        ∃ (r0_7 : Bool) (r1_p_7 : Option Addr) (r1_n_7 : Nat) (r1_c_7 : Nat), Loads P 31 ⟨r_1, 0, none⟩ (.agg #[(.bool r0_7), (.slice r1_p_7 r1_n_7 r1_c_7)]) wv_23 ∧ ∃ (r0_8 : Bool) (r1_p_8 : Option Addr) (r1_n_8 : Nat) (r1_c_8 : Nat) (r2_p_4 : Option Addr) (r2_n_4 : Nat) (r2_c_4 : Nat), Loads P 35 ⟨r_2, 0, none⟩ (.agg #[(.bool r0_8), (.slice r1_p_8 r1_n_8 r1_c_8), (.slice r2_p_4 r2_n_4 r2_c_4)]) wv_23 ∧ R (.tuple #[(.agg #[(.bool r0_7), (.slice r1_p_7 r1_n_7 r1_c_7)]), (.agg #[(.bool r0_8), (.slice r1_p_8 r1_n_8 r1_c_8), (.slice r2_p_4 r2_n_4 r2_c_4)]), (.bool true)]) wv_23))) ∧
  ((!t16) = false →
    ((!t21) = true →
      (true = true →
        ∃ wv_24, Stores P 31 ⟨r_1, 0, none⟩ (.agg #[(.bool false), (.slice none 0 0)]) wv_11 wv_24 ∧
        ∃ wv_25, Stores P 35 ⟨r_2, 0, none⟩ (.agg #[(.bool false), (.slice none 0 0), (.slice none 0 0)]) wv_24 wv_25 ∧
        ∃ (r0_9 : Bool) (r1_p_9 : Option Addr) (r1_n_9 : Nat) (r1_c_9 : Nat), Loads P 31 ⟨r_1, 0, none⟩ (.agg #[(.bool r0_9), (.slice r1_p_9 r1_n_9 r1_c_9)]) wv_25 ∧ ∃ (r0_10 : Bool) (r1_p_10 : Option Addr) (r1_n_10 : Nat) (r1_c_10 : Nat) (r2_p_5 : Option Addr) (r2_n_5 : Nat) (r2_c_5 : Nat), Loads P 35 ⟨r_2, 0, none⟩ (.agg #[(.bool r0_10), (.slice r1_p_10 r1_n_10 r1_c_10), (.slice r2_p_5 r2_n_5 r2_c_5)]) wv_25 ∧ R (.tuple #[(.agg #[(.bool r0_9), (.slice r1_p_9 r1_n_9 r1_c_9)]), (.agg #[(.bool r0_10), (.slice r1_p_10 r1_n_10 r1_c_10), (.slice r2_p_5 r2_n_5 r2_c_5)]), (.bool false)]) wv_25) ∧
      (true = false →
        ∃ blks_2 : List Nat, ∃ (t420_2 : Bool) (t421_p_2 : Option Addr) (t421_n_2 : Nat) (t421_c_2 : Nat), (∀ wv_26, EX blks_2 wv_11.drew wv_26 → Loads P 31 ⟨r_3, 0, none⟩ (.agg #[(.bool t420_2), (.slice t421_p_2 t421_n_2 t421_c_2)]) wv_26) ∧ ∃ (t430_2 : Bool) (t431_p_2 : Option Addr) (t431_n_2 : Nat) (t431_c_2 : Nat) (t432_p_2 : Option Addr) (t432_n_2 : Nat) (t432_c_2 : Nat), (∀ wv_27, EX blks_2 wv_11.drew wv_27 → Loads P 35 ⟨r_5, 0, none⟩ (.agg #[(.bool t430_2), (.slice t431_p_2 t431_n_2 t431_c_2), (.slice t432_p_2 t432_n_2 t432_c_2)]) wv_27) ∧ ∃ wv_28, Stores P 31 ⟨r_1, 0, none⟩ (.agg #[(.bool t420_2), (.slice t421_p_2 t421_n_2 t421_c_2)]) wv_11.drew wv_28 ∧
        EX blks_2 wv_11.drew wv_28 ∧ ∃ wv_29, Stores P 35 ⟨r_2, 0, none⟩ (.agg #[(.bool t430_2), (.slice t431_p_2 t431_n_2 t431_c_2), (.slice t432_p_2 t432_n_2 t432_c_2)]) wv_28 wv_29 ∧
        ∃ (r0_11 : Bool) (r1_p_11 : Option Addr) (r1_n_11 : Nat) (r1_c_11 : Nat), Loads P 31 ⟨r_1, 0, none⟩ (.agg #[(.bool r0_11), (.slice r1_p_11 r1_n_11 r1_c_11)]) wv_29 ∧ ∃ (r0_12 : Bool) (r1_p_12 : Option Addr) (r1_n_12 : Nat) (r1_c_12 : Nat) (r2_p_6 : Option Addr) (r2_n_6 : Nat) (r2_c_6 : Nat), Loads P 35 ⟨r_2, 0, none⟩ (.agg #[(.bool r0_12), (.slice r1_p_12 r1_n_12 r1_c_12), (.slice r2_p_6 r2_n_6 r2_c_6)]) wv_29 ∧ R (.tuple #[(.agg #[(.bool r0_11), (.slice r1_p_11 r1_n_11 r1_c_11)]), (.agg #[(.bool r0_12), (.slice r1_p_12 r1_n_12 r1_c_12), (.slice r2_p_6 r2_n_6 r2_c_6)]), (.bool true)]) wv_29)) ∧
    ((!t21) = false →
      ((!t27) = true →
        ∃ wv_30, Stores P 31 ⟨r_1, 0, none⟩ (.agg #[(.bool false), (.slice none 0 0)]) wv_11 wv_30 ∧
        ∃ wv_31, Stores P 35 ⟨r_2, 0, none⟩ (.agg #[(.bool false), (.slice none 0 0), (.slice none 0 0)]) wv_30 wv_31 ∧
        ∃ (r0_13 : Bool) (r1_p_13 : Option Addr) (r1_n_13 : Nat) (r1_c_13 : Nat), Loads P 31 ⟨r_1, 0, none⟩ (.agg #[(.bool r0_13), (.slice r1_p_13 r1_n_13 r1_c_13)]) wv_31 ∧ ∃ (r0_14 : Bool) (r1_p_14 : Option Addr) (r1_n_14 : Nat) (r1_c_14 : Nat) (r2_p_7 : Option Addr) (r2_n_7 : Nat) (r2_c_7 : Nat), Loads P 35 ⟨r_2, 0, none⟩ (.agg #[(.bool r0_14), (.slice r1_p_14 r1_n_14 r1_c_14), (.slice r2_p_7 r2_n_7 r2_c_7)]) wv_31 ∧ R (.tuple #[(.agg #[(.bool r0_13), (.slice r1_p_13 r1_n_13 r1_c_13)]), (.agg #[(.bool r0_14), (.slice r1_p_14 r1_n_14 r1_c_14), (.slice r2_p_7 r2_n_7 r2_c_7)]), (.bool false)]) wv_31) ∧
      ((!t27) = false →
        ∃ blks_3 : List Nat, ∃ (t420_3 : Bool) (t421_p_3 : Option Addr) (t421_n_3 : Nat) (t421_c_3 : Nat), (∀ wv_32, EX blks_3 wv_11.drew wv_32 → Loads P 31 ⟨r_3, 0, none⟩ (.agg #[(.bool t420_3), (.slice t421_p_3 t421_n_3 t421_c_3)]) wv_32) ∧ ∃ (t430_3 : Bool) (t431_p_3 : Option Addr) (t431_n_3 : Nat) (t431_c_3 : Nat) (t432_p_3 : Option Addr) (t432_n_3 : Nat) (t432_c_3 : Nat), (∀ wv_33, EX blks_3 wv_11.drew wv_33 → Loads P 35 ⟨r_5, 0, none⟩ (.agg #[(.bool t430_3), (.slice t431_p_3 t431_n_3 t431_c_3), (.slice t432_p_3 t432_n_3 t432_c_3)]) wv_33) ∧ ∃ wv_34, Stores P 31 ⟨r_1, 0, none⟩ (.agg #[(.bool t420_3), (.slice t421_p_3 t421_n_3 t421_c_3)]) wv_11.drew wv_34 ∧
        EX blks_3 wv_11.drew wv_34 ∧ ∃ wv_35, Stores P 35 ⟨r_2, 0, none⟩ (.agg #[(.bool t430_3), (.slice t431_p_3 t431_n_3 t431_c_3), (.slice t432_p_3 t432_n_3 t432_c_3)]) wv_34 wv_35 ∧
        ∃ (r0_15 : Bool) (r1_p_15 : Option Addr) (r1_n_15 : Nat) (r1_c_15 : Nat), Loads P 31 ⟨r_1, 0, none⟩ (.agg #[(.bool r0_15), (.slice r1_p_15 r1_n_15 r1_c_15)]) wv_35 ∧ ∃ (r0_16 : Bool) (r1_p_16 : Option Addr) (r1_n_16 : Nat) (r1_c_16 : Nat) (r2_p_8 : Option Addr) (r2_n_8 : Nat) (r2_c_8 : Nat), Loads P 35 ⟨r_2, 0, none⟩ (.agg #[(.bool r0_16), (.slice r1_p_16 r1_n_16 r1_c_16), (.slice r2_p_8 r2_n_8 r2_c_8)]) wv_35 ∧ R (.tuple #[(.agg #[(.bool r0_15), (.slice r1_p_15 r1_n_15 r1_c_15)]), (.agg #[(.bool r0_16), (.slice r1_p_16 r1_n_16 r1_c_16), (.slice r2_p_8 r2_n_8 r2_c_8)]), (.bool true)]) wv_35)))
theorem spec_RatRest_eq (r0 : Bool) (r1_p : Option Addr) (r1_n : Nat) (r1_c : Nat) (r2_p : Option Addr) (r2_n : Nat) (r2_c : Nat) (m : Int) (w : World) (R : Value → World → Prop) : spec_RatRest r0 r1_p r1_n r1_c r2_p r2_n r2_c m w R = fsem P Tryz.f90 (fun k => []) [(.agg #[(.bool r0), (.slice r1_p r1_n r1_c), (.slice r2_p r2_n r2_c)]), (.int .i64 m)] R w := by kernel_rfl
theorem spec_RatRest_ret {r0 : Bool} {r1_p : Option Addr} {r1_n : Nat} {r1_c : Nat} {r2_p : Option Addr} {r2_n : Nat} {r2_c : Nat} {m : Int} {w : World} {R : Value → World → Prop} (h : spec_RatRest r0 r1_p r1_n r1_c r2_p r2_n r2_c m w R) : Ret P 90 [(.agg #[(.bool r0), (.slice r1_p r1_n r1_c), (.slice r2_p r2_n r2_c)]), (.int .i64 m)] w R :=
  Ret.of_fsem Tryz.func90 rfl (Eq.mp (spec_RatRest_eq r0 r1_p r1_n r1_c r2_p r2_n r2_c m w R) h)
def spec_l09Make (cur : ByteArray) (x0 : Bool) (x1_p : Option Addr) (x1_n : Nat) (x1_c : Nat) (w : World) (R : Value → World → Prop) : Prop :=
  ∀ (r : Nat) (wv : World), New w (.cells ⟨[(.bool x0), (.slice x1_p x1_n x1_c)]⟩ 31 (0, 0)) r wv →
  ∀ (r_1 : Nat) (wv_1 : World), New wv (.cells ⟨[(.string ByteArray.empty), (.bool false), (.slice none 0 0)]⟩ 33 (0, 0)) r_1 wv_1 →
  ∃ (t80 : Bool) (t81_p : Option Addr) (t81_n : Nat) (t81_c : Nat), Loads P 31 ⟨r, 0, none⟩ (.agg #[(.bool t80), (.slice t81_p t81_n t81_c)]) wv_1 ∧ ∀ (r_2 : Nat) (wv_2 : World), New wv_1 (.cells ⟨[(.string ByteArray.empty), (.bool false), (.slice none 0 0)]⟩ 33 (0, 0)) r_2 wv_2 →
  ∃ wv_3, Stores P 33 ⟨r_2, 0, none⟩ (.agg #[(.string cur), (.bool t80), (.slice t81_p t81_n t81_c)]) wv_2 wv_3 ∧
  ∃ (t100 : ByteArray) (t101 : Bool) (t102_p : Option Addr) (t102_n : Nat) (t102_c : Nat), Loads P 33 ⟨r_2, 0, none⟩ (.agg #[(.string t100), (.bool t101), (.slice t102_p t102_n t102_c)]) wv_3 ∧ Calls P 38 ⟨[(.agg #[(.string t100), (.bool t101), (.slice t102_p t102_n t102_c)])]⟩ wv_3 fun e wv_4 =>
  ∃ (t11 : Bool), e = .returned (.bool t11) ∧
  ((!t11) = true →
    ∃ wv_5, Stores P 33 ⟨r_1, 0, none⟩ (.agg #[(.string ByteArray.empty), (.bool false), (.slice none 0 0)]) wv_4 wv_5 ∧
    ∃ (r0 : ByteArray) (r1 : Bool) (r2_p : Option Addr) (r2_n : Nat) (r2_c : Nat), Loads P 33 ⟨r_1, 0, none⟩ (.agg #[(.string r0), (.bool r1), (.slice r2_p r2_n r2_c)]) wv_5 ∧ R (.tuple #[(.agg #[(.string r0), (.bool r1), (.slice r2_p r2_n r2_c)]), (.bool false)]) wv_5) ∧
  ((!t11) = false →
    ∃ (t140 : ByteArray) (t141 : Bool) (t142_p : Option Addr) (t142_n : Nat) (t142_c : Nat), Loads P 33 ⟨r_2, 0, none⟩ (.agg #[(.string t140), (.bool t141), (.slice t142_p t142_n t142_c)]) wv_4 ∧ ∃ wv_6, Stores P 33 ⟨r_1, 0, none⟩ (.agg #[(.string t140), (.bool t141), (.slice t142_p t142_n t142_c)]) wv_4 wv_6 ∧
    ∃ (r0_1 : ByteArray) (r1_1 : Bool) (r2_p_1 : Option Addr) (r2_n_1 : Nat) (r2_c_1 : Nat), Loads P 33 ⟨r_1, 0, none⟩ (.agg #[(.string r0_1), (.bool r1_1), (.slice r2_p_1 r2_n_1 r2_c_1)]) wv_6 ∧ R (.tuple #[(.agg #[(.string r0_1), (.bool r1_1), (.slice r2_p_1 r2_n_1 r2_c_1)]), (.bool true)]) wv_6)
theorem spec_l09Make_eq (cur : ByteArray) (x0 : Bool) (x1_p : Option Addr) (x1_n : Nat) (x1_c : Nat) (w : World) (R : Value → World → Prop) : spec_l09Make cur x0 x1_p x1_n x1_c w R = fsem P Tryz.f91 (fun k => []) [(.string cur), (.agg #[(.bool x0), (.slice x1_p x1_n x1_c)])] R w := by kernel_rfl
theorem spec_l09Make_ret {cur : ByteArray} {x0 : Bool} {x1_p : Option Addr} {x1_n : Nat} {x1_c : Nat} {w : World} {R : Value → World → Prop} (h : spec_l09Make cur x0 x1_p x1_n x1_c w R) : Ret P 91 [(.string cur), (.agg #[(.bool x0), (.slice x1_p x1_n x1_c)])] w R :=
  Ret.of_fsem Tryz.func91 rfl (Eq.mp (spec_l09Make_eq cur x0 x1_p x1_n x1_c w R) h)
def impl_CurKnown (code : ByteArray) (w : World) (R : Value → World → Prop) : Prop :=
  Calls P 139 ⟨[(.string code)]⟩ w fun e wv =>
  ∃ (t70 : ByteArray) (t71 : ByteArray) (t72 : Int) (t73 : Int) (t7 : Bool), e = .returned (.tuple #[(.agg #[(.string t70), (.string t71), (.int .i64 t72), (.int .i64 t73)]), (.bool t7)]) ∧
  ∀ (r : Nat) (wv_1 : World), New wv (.cells ⟨[(.string ByteArray.empty), (.string ByteArray.empty), (.int .i64 0), (.int .i64 0)]⟩ 133 (0, 0)) r wv_1 →
  ∃ wv_2, Stores P 133 ⟨r, 0, none⟩ (.agg #[(.string t70), (.string t71), (.int .i64 t72), (.int .i64 t73)]) wv_1 wv_2 ∧
  R (.bool t7) wv_2
theorem impl_CurKnown_eq (code : ByteArray) (w : World) (R : Value → World → Prop) : impl_CurKnown code w R = fsem P Tryz.f93 (fun k => []) [(.string code)] R w := by kernel_rfl
theorem impl_CurKnown_ret {code : ByteArray} {w : World} {R : Value → World → Prop} (h : impl_CurKnown code w R) : Ret P 93 [(.string code)] w R :=
  Ret.of_fsem Tryz.func93 rfl (Eq.mp (impl_CurKnown_eq code w R) h)
def impl_IntOk (x0 : Bool) (x1_p : Option Addr) (x1_n : Nat) (x1_c : Nat) (w : World) (R : Value → World → Prop) : Prop :=
  ∀ (r : Nat) (wv : World), New w (.cells ⟨[(.bool x0), (.slice x1_p x1_n x1_c)]⟩ 31 (0, 0)) r wv →
  ∃ (t4_p : Option Addr) (t4_n : Nat) (t4_c : Nat), Loads P 22 ((⟨r, 0, none⟩ : Addr).add 1) (.slice t4_p t4_n t4_c) wv ∧ Calls P 140 ⟨[(.slice t4_p t4_n t4_c)]⟩ wv fun e wv_1 =>
  ∃ (t5 : Bool), e = .returned (.bool t5) ∧
  (t5 = true →
    ∃ (t8 : Bool), Loads P 4 ((⟨r, 0, none⟩ : Addr).add 0) (.bool t8) wv_1 ∧ ((!t8) = true →
      R (.bool true) wv_1) ∧
    ((!t8) = false →
      ∃ (t12_p : Option Addr) (t12_n : Nat) (t12_c : Nat), Loads P 22 ((⟨r, 0, none⟩ : Addr).add 1) (.slice t12_p t12_n t12_c) wv_1 ∧ R (.bool (decide ((0 : Int) < ((t12_n : Nat) : Int)))) wv_1)) ∧
  (t5 = false →
    R (.bool false) wv_1)
theorem impl_IntOk_eq (x0 : Bool) (x1_p : Option Addr) (x1_n : Nat) (x1_c : Nat) (w : World) (R : Value → World → Prop) : impl_IntOk x0 x1_p x1_n x1_c w R = fsem P Tryz.f94 (fun k => []) [(.agg #[(.bool x0), (.slice x1_p x1_n x1_c)])] R w := by kernel_rfl
theorem impl_IntOk_ret {x0 : Bool} {x1_p : Option Addr} {x1_n : Nat} {x1_c : Nat} {w : World} {R : Value → World → Prop} (h : impl_IntOk x0 x1_p x1_n x1_c w R) : Ret P 94 [(.agg #[(.bool x0), (.slice x1_p x1_n x1_c)])] w R :=
  Ret.of_fsem Tryz.func94 rfl (Eq.mp (impl_IntOk_eq x0 x1_p x1_n x1_c w R) h)
def impl_DecOk (d0 : Bool) (d1_p : Option Addr) (d1_n : Nat) (d1_c : Nat) (d2 : Int) (w : World) (R : Value → World → Prop) : Prop :=
  ∀ (r : Nat) (wv : World), New w (.cells ⟨[(.bool d0), (.slice d1_p d1_n d1_c), (.int .i64 d2)]⟩ 40 (0, 0)) r wv →
  ∃ (t40 : Bool) (t41_p : Option Addr) (t41_n : Nat) (t41_c : Nat), Loads P 31 ((⟨r, 0, none⟩ : Addr).add 0) (.agg #[(.bool t40), (.slice t41_p t41_n t41_c)]) wv ∧ Calls P 94 ⟨[(.agg #[(.bool t40), (.slice t41_p t41_n t41_c)])]⟩ wv fun e wv_1 =>
  ∃ (t5 : Bool), e = .returned (.bool t5) ∧
  (t5 = true →
    ∃ (t9_p : Option Addr) (t9_n : Nat) (t9_c : Nat), Loads P 22 (((⟨r, 0, none⟩ : Addr).add 0).add 1) (.slice t9_p t9_n t9_c) wv_1 ∧ ((decide ((((t9_n : Nat) : Int) : Int) ≤ 6)) = true →
      ∃ (t15 : Int), Loads P 3 ((⟨r, 0, none⟩ : Addr).add 2) (.int .i64 t15) wv_1 ∧ Calls P 141 ⟨[(.int .i64 t15)]⟩ wv_1 fun e_1 wv_2 =>
      ∃ (t16 : Bool), e_1 = .returned (.bool t16) ∧
      R (.bool t16) wv_2) ∧
    ((decide ((((t9_n : Nat) : Int) : Int) ≤ 6)) = false →
      R (.bool false) wv_1)) ∧
  (t5 = false →
    (false = true →
      ∃ (t15_1 : Int), Loads P 3 ((⟨r, 0, none⟩ : Addr).add 2) (.int .i64 t15_1) wv_1 ∧ Calls P 141 ⟨[(.int .i64 t15_1)]⟩ wv_1 fun e_2 wv_3 =>
      ∃ (t16_1 : Bool), e_2 = .returned (.bool t16_1) ∧
      R (.bool t16_1) wv_3) ∧
    (false = false →
      R (.bool false) wv_1))
theorem impl_DecOk_eq (d0 : Bool) (d1_p : Option Addr) (d1_n : Nat) (d1_c : Nat) (d2 : Int) (w : World) (R : Value → World → Prop) : impl_DecOk d0 d1_p d1_n d1_c d2 w R = fsem P Tryz.f95 (fun k => []) [(.agg #[(.bool d0), (.slice d1_p d1_n d1_c), (.int .i64 d2)])] R w := by kernel_rfl
theorem impl_DecOk_ret {d0 : Bool} {d1_p : Option Addr} {d1_n : Nat} {d1_c : Nat} {d2 : Int} {w : World} {R : Value → World → Prop} (h : impl_DecOk d0 d1_p d1_n d1_c d2 w R) : Ret P 95 [(.agg #[(.bool d0), (.slice d1_p d1_n d1_c), (.int .i64 d2)])] w R :=
  Ret.of_fsem Tryz.func95 rfl (Eq.mp (impl_DecOk_eq d0 d1_p d1_n d1_c d2 w R) h)
def impl_DecCmp_j0 (r : Nat) (r_1 : Nat) (W : World) (R : Value → World → Prop) : Prop :=
  ∃ (t15 : Int), Loads P 3 ((⟨r, 0, none⟩ : Addr).add 2) (.int .i64 t15) W ∧ ∃ (t17 : Int), Loads P 3 ((⟨r_1, 0, none⟩ : Addr).add 2) (.int .i64 t17) W ∧ ∃ t18 : Int, t18 = (if t17 > t15 then t17 else t15) ∧ Calls P 142 ⟨[(.int .i64 t18)]⟩ W fun e_1 wv_3 =>
  ∃ (t19 : Value), e_1 = .returned t19 ∧
  ∃ (t210 : Bool) (t211_p : Option Addr) (t211_n : Nat) (t211_c : Nat) (t212 : Int), (∀ wv_4, Ext wv_3.drew wv_4 → Loads P 40 ⟨r, 0, none⟩ (.agg #[(.bool t210), (.slice t211_p t211_n t211_c), (.int .i64 t212)]) wv_4) ∧ CallW P t19 [(.agg #[(.bool t210), (.slice t211_p t211_n t211_c), (.int .i64 t212)])] wv_3.drew fun e_2 wv_5 =>
  ∃ (t220 : Bool) (t221_p : Option Addr) (t221_n : Nat) (t221_c : Nat), e_2 = .returned (.agg #[(.bool t220), (.slice t221_p t221_n t221_c)]) ∧
  Ext wv_3.drew wv_5 ∧ ∃ (t240 : Bool) (t241_p : Option Addr) (t241_n : Nat) (t241_c : Nat) (t242 : Int), (∀ wv_6, Ext wv_3.drew wv_6 → Loads P 40 ⟨r_1, 0, none⟩ (.agg #[(.bool t240), (.slice t241_p t241_n t241_c), (.int .i64 t242)]) wv_6) ∧ CallW P t19 [(.agg #[(.bool t240), (.slice t241_p t241_n t241_c), (.int .i64 t242)])] wv_5 fun e_3 wv_7 =>
  ∃ (t250 : Bool) (t251_p : Option Addr) (t251_n : Nat) (t251_c : Nat), e_3 = .returned (.agg #[(.bool t250), (.slice t251_p t251_n t251_c)]) ∧
  Calls P 73 ⟨[(.agg #[(.bool t220), (.slice t221_p t221_n t221_c)]), (.agg #[(.bool t250), (.slice t251_p t251_n t251_c)])]⟩ wv_7 fun e_4 wv_8 =>
  ∃ (t26 : Int), e_4 = .returned (.int .i64 t26) ∧
  R (.int .i64 t26) wv_8
def impl_DecCmp (d0 : Bool) (d1_p : Option Addr) (d1_n : Nat) (d1_c : Nat) (d2 : Int) (e0 : Bool) (e1_p : Option Addr) (e1_n : Nat) (e1_c : Nat) (e2 : Int) (w : World) (R : Value → World → Prop) : Prop :=
  ∀ (r : Nat) (wv : World), New w (.cells ⟨[(.bool d0), (.slice d1_p d1_n d1_c), (.int .i64 d2)]⟩ 40 (0, 0)) r wv →
  ∀ (r_1 : Nat) (wv_1 : World), New wv (.cells ⟨[(.bool e0), (.slice e1_p e1_n e1_c), (.int .i64 e2)]⟩ 40 (0, 0)) r_1 wv_1 →
  ∃ (t60 : Bool) (t61_p : Option Addr) (t61_n : Nat) (t61_c : Nat) (t62 : Int), Loads P 40 ⟨r, 0, none⟩ (.agg #[(.bool t60), (.slice t61_p t61_n t61_c), (.int .i64 t62)]) wv_1 ∧ Calls P 95 ⟨[(.agg #[(.bool t60), (.slice t61_p t61_n t61_c), (.int .i64 t62)])]⟩ wv_1 fun e wv_2 =>
  ∃ (t7 : Bool), e = .returned (.bool t7) ∧
  ((!t7) = true →
    (true = true →
      R (.int .i64 0) wv_2) ∧
    (true = false →
      impl_DecCmp_j0 r r_1 wv_2 R)) ∧
  ((!t7) = false →
    ∃ (t100 : Bool) (t101_p : Option Addr) (t101_n : Nat) (t101_c : Nat) (t102 : Int), Loads P 40 ⟨r_1, 0, none⟩ (.agg #[(.bool t100), (.slice t101_p t101_n t101_c), (.int .i64 t102)]) wv_2 ∧ Calls P 95 ⟨[(.agg #[(.bool t100), (.slice t101_p t101_n t101_c), (.int .i64 t102)])]⟩ wv_2 fun e_5 wv_9 =>
    ∃ (t11 : Bool), e_5 = .returned (.bool t11) ∧
    ((!t11) = true →
      R (.int .i64 0) wv_9) ∧
    ((!t11) = false →
      impl_DecCmp_j0 r r_1 wv_9 R))
theorem impl_DecCmp_eq (d0 : Bool) (d1_p : Option Addr) (d1_n : Nat) (d1_c : Nat) (d2 : Int) (e0 : Bool) (e1_p : Option Addr) (e1_n : Nat) (e1_c : Nat) (e2 : Int) (w : World) (R : Value → World → Prop) : impl_DecCmp d0 d1_p d1_n d1_c d2 e0 e1_p e1_n e1_c e2 w R = fsem P Tryz.f96 (fun k => []) [(.agg #[(.bool d0), (.slice d1_p d1_n d1_c), (.int .i64 d2)]), (.agg #[(.bool e0), (.slice e1_p e1_n e1_c), (.int .i64 e2)])] R w := by kernel_rfl
theorem impl_DecCmp_ret {d0 : Bool} {d1_p : Option Addr} {d1_n : Nat} {d1_c : Nat} {d2 : Int} {e0 : Bool} {e1_p : Option Addr} {e1_n : Nat} {e1_c : Nat} {e2 : Int} {w : World} {R : Value → World → Prop} (h : impl_DecCmp d0 d1_p d1_n d1_c d2 e0 e1_p e1_n e1_c e2 w R) : Ret P 96 [(.agg #[(.bool d0), (.slice d1_p d1_n d1_c), (.int .i64 d2)]), (.agg #[(.bool e0), (.slice e1_p e1_n e1_c), (.int .i64 e2)])] w R :=
  Ret.of_fsem Tryz.func96 rfl (Eq.mp (impl_DecCmp_eq d0 d1_p d1_n d1_c d2 e0 e1_p e1_n e1_c e2 w R) h)
end Go.Proofs.YtfemmmbkhhemaaaGreatDoor
