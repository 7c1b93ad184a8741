/-
  Parts of the proof of bookPost_holds: G1, G2, GData, SxMem, SxData.
  Conditions: none.
-/
import Derived.Laws.AppendOwn
import Derived.Laws.CopyRow
import Derived.Test.YteakifedfnnmeaaDoorBp1

namespace Go.Proofs.YteakifedfnnmeaaDoor
open Go Go.Proofs.YteakifedfnnmeaaDoor.Sx
set_option linter.unusedVariables false
set_option maxRecDepth 100000
def laws_FnExactBookPost_j2 (r_5 : Nat) (t92 : Int) (W_2 : World) (R : Value → World → Prop) : Prop :=
  ∃ (t1190_p : Option Addr) (t1190_n : Nat) (t1190_c : Nat), Loads P 28 ⟨r_5, 0, none⟩ (.agg #[(.slice t1190_p t1190_n t1190_c)]) W_2 ∧ Calls P 11 ⟨[(.agg #[(.slice t1190_p t1190_n t1190_c)]), (.int .i64 1)]⟩ W_2 fun e_21 wv_47 =>
  ∃ (t121 : Int), e_21 = .returned (.int .i64 t121) ∧
  ((decide ((t121 : Int) < 0)) = true →
    R (.bool false) wv_47) ∧
  ((decide ((t121 : Int) < 0)) = false →
    ((decide ((t121 : Int) ≠ t92)) = true →
      R (.bool false) wv_47) ∧
    ((decide ((t121 : Int) ≠ t92)) = false →
      R (.bool true) wv_47))
def laws_FnExactBookPost_j1 (aName : ByteArray) (r : Nat) (r_1 : Nat) (t38 : Bool) (r_2 : Nat) (r_5 : Nat) (W_1 : World) (R : Value → World → Prop) : Prop :=
  ∃ (t900_p : Option Addr) (t900_n : Nat) (t900_c : Nat), Loads P 28 ⟨r_5, 0, none⟩ (.agg #[(.slice t900_p t900_n t900_c)]) W_1 ∧ Calls P 10 ⟨[(.agg #[(.slice t900_p t900_n t900_c)]), (.int .i64 1)]⟩ W_1 fun e_15 wv_34 =>
  ∃ (t92 : Int), e_15 = .returned (.int .i64 t92) ∧
  ∃ (t930_p : Option Addr) (t930_n : Nat) (t930_c : Nat), Loads P 28 ⟨r_5, 0, none⟩ (.agg #[(.slice t930_p t930_n t930_c)]) wv_34 ∧ Calls P 11 ⟨[(.agg #[(.slice t930_p t930_n t930_c)]), (.int .i64 1)]⟩ wv_34 fun e_16 wv_35 =>
  ∃ (t95 : Int), e_16 = .returned (.int .i64 t95) ∧
  ((decide ((t95 : Int) < 0)) = true →
    R (.bool false) wv_35) ∧
  ((decide ((t95 : Int) < 0)) = false →
    ((decide ((t95 : Int) ≠ t92)) = true →
      R (.bool false) wv_35) ∧
    ((decide ((t95 : Int) ≠ t92)) = false →
      ∃ (t1020_p : Option Addr) (t1020_n : Nat) (t1020_c : Nat), (∀ wv_36, Ext wv_35.drew wv_36 → Loads P 24 ⟨r, 0, none⟩ (.agg #[(.slice t1020_p t1020_n t1020_c)]) wv_36) ∧ ∀ (ss_4 : List (Option Nat)) (wv_37 : World), Fl [.cells ⟨[(.slice none 0 0)]⟩ 28 (0, 0)] [none] wv_35.drew ss_4 wv_37 →
      Calls P 7 ⟨[(.agg #[(.slice t1020_p t1020_n t1020_c)])]⟩ wv_37 fun e_17 wv_38 =>
      ∃ (t1030_p : Option Addr) (t1030_n : Nat) (t1030_c : Nat), e_17 = .returned (.agg #[(.slice t1030_p t1030_n t1030_c)]) ∧
      Ext wv_37 wv_38 ∧ ∃ (t1050 : ByteArray) (t1051 : Bool) (t1052_p : Option Addr) (t1052_n : Nat) (t1052_c : Nat), (∀ wv_39, Ext wv_35.drew wv_39 → Loads P 39 ⟨r_1, 0, none⟩ (.agg #[(.string t1050), (.bool t1051), (.slice t1052_p t1052_n t1052_c)]) wv_39) ∧ ∀ (ss_5 : List (Option Nat)) (wv_40 : World), Fl [.cells ⟨[(.slice none 0 0)]⟩ 28 (0, 0)] ss_4 wv_38 ss_5 wv_40 →
      Calls P 14 ⟨[(.agg #[(.string t1050), (.bool t1051), (.slice t1052_p t1052_n t1052_c)])]⟩ wv_40 fun e_18 wv_41 =>
      ∃ (t1060 : ByteArray) (t1061 : Bool) (t1062_p : Option Addr) (t1062_n : Nat) (t1062_c : Nat), e_18 = .returned (.agg #[(.string t1060), (.bool t1061), (.slice t1062_p t1062_n t1062_c)]) ∧
      ∀ (ss_6 : List (Option Nat)) (wv_42 : World), Fl [.cells ⟨[(.slice none 0 0)]⟩ 28 (0, 0)] ss_5 wv_41 ss_6 wv_42 →
      Calls P 15 ⟨[(.agg #[(.slice t1030_p t1030_n t1030_c)]), (.string aName), (.agg #[(.string t1060), (.bool t1061), (.slice t1062_p t1062_n t1062_c)])]⟩ wv_42 fun e_19 wv_43 =>
      ∃ (t1070_p : Option Addr) (t1070_n : Nat) (t1070_c : Nat) (t107 : Bool), e_19 = .returned (.tuple #[(.agg #[(.slice t1070_p t1070_n t1070_c)]), (.bool t107)]) ∧
      ∀ (ss_7 : List (Option Nat)) (wv_44 : World) (r_6 : Nat), Fl [.cells ⟨[(.slice none 0 0)]⟩ 28 (0, 0)] ss_6 wv_43 ss_7 wv_44 → ss_7[0]? = some (some r_6) →
      ∃ wv_45, Stores P 28 ⟨r_6, 0, none⟩ (.agg #[(.slice t1070_p t1070_n t1070_c)]) wv_44 wv_45 ∧
      ∃ (t1100_p : Option Addr) (t1100_n : Nat) (t1100_c : Nat), Loads P 28 ⟨r_6, 0, none⟩ (.agg #[(.slice t1100_p t1100_n t1100_c)]) wv_45 ∧ ∃ (t1110_p : Option Addr) (t1110_n : Nat) (t1110_c : Nat), Loads P 28 ⟨r_2, 0, none⟩ (.agg #[(.slice t1110_p t1110_n t1110_c)]) wv_45 ∧ Calls P 9 ⟨[(.agg #[(.slice t1100_p t1100_n t1100_c)]), (.agg #[(.slice t1110_p t1110_n t1110_c)])]⟩ wv_45 fun e_20 wv_46 =>
      ∃ (t112 : Bool), e_20 = .returned (.bool t112) ∧
      ((!t112) = true →
        (true = true →
          R (.bool false) wv_46) ∧
        (true = false →
          laws_FnExactBookPost_j2 r_5 t92 wv_46 R)) ∧
      ((!t112) = false →
        ((!(t107 == t38)) = true →
          R (.bool false) wv_46) ∧
        ((!(t107 == t38)) = false →
          laws_FnExactBookPost_j2 r_5 t92 wv_46 R))))
def laws_FnExactBookPost_j0 (aName : ByteArray) (r : Nat) (r_1 : Nat) (t38 : Bool) (r_2 : Nat) (r_3 : Nat) (r_4 : Nat) (t49 : Bool) (r_5 : Nat) (W : World) (R : Value → World → Prop) : Prop :=
  ∃ (t610_p : Option Addr) (t610_n : Nat) (t610_c : Nat), (∀ wv_24, Ext W.drew wv_24 → Loads P 28 ⟨r_3, 0, none⟩ (.agg #[(.slice t610_p t610_n t610_c)]) wv_24) ∧ ∃ (t620_p : Option Addr) (t620_n : Nat) (t620_c : Nat), (∀ wv_25, Ext W.drew wv_25 → Loads P 24 ⟨r, 0, none⟩ (.agg #[(.slice t620_p t620_n t620_c)]) wv_25) ∧ Calls P 7 ⟨[(.agg #[(.slice t620_p t620_n t620_c)])]⟩ W.drew fun e_9 wv_26 =>
  ∃ (t630_p : Option Addr) (t630_n : Nat) (t630_c : Nat), e_9 = .returned (.agg #[(.slice t630_p t630_n t630_c)]) ∧
  Ext W.drew wv_26 ∧ Calls P 9 ⟨[(.agg #[(.slice t610_p t610_n t610_c)]), (.agg #[(.slice t630_p t630_n t630_c)])]⟩ wv_26 fun e_10 wv_27 =>
  ∃ (t64 : Bool), e_10 = .returned (.bool t64) ∧
  ((!t64) = true →
    R (.bool false) wv_27) ∧
  ((!t64) = false →
    ∃ (t660 : ByteArray) (t661 : Bool) (t662_p : Option Addr) (t662_n : Nat) (t662_c : Nat), (∀ wv_28, Ext wv_27.drew wv_28 → Loads P 44 ⟨r_4, 0, none⟩ (.agg #[(.string t660), (.bool t661), (.slice t662_p t662_n t662_c)]) wv_28) ∧ ∃ (t670 : ByteArray) (t671 : Bool) (t672_p : Option Addr) (t672_n : Nat) (t672_c : Nat), (∀ wv_29, Ext wv_27.drew wv_29 → Loads P 39 ⟨r_1, 0, none⟩ (.agg #[(.string t670), (.bool t671), (.slice t672_p t672_n t672_c)]) wv_29) ∧ Calls P 14 ⟨[(.agg #[(.string t670), (.bool t671), (.slice t672_p t672_n t672_c)])]⟩ wv_27.drew fun e_11 wv_30 =>
    ∃ (t680 : ByteArray) (t681 : Bool) (t682_p : Option Addr) (t682_n : Nat) (t682_c : Nat), e_11 = .returned (.agg #[(.string t680), (.bool t681), (.slice t682_p t682_n t682_c)]) ∧
    Ext wv_27.drew wv_30 ∧ Calls P 16 ⟨[(.agg #[(.string t660), (.bool t661), (.slice t662_p t662_n t662_c)]), (.agg #[(.string t680), (.bool t681), (.slice t682_p t682_n t682_c)])]⟩ wv_30 fun e_12 wv_31 =>
    ∃ (t69 : Bool), e_12 = .returned (.bool t69) ∧
    ((!t69) = true →
      R (.bool false) wv_31) ∧
    ((!t69) = false →
      ∃ (t710_p : Option Addr) (t710_n : Nat) (t710_c : Nat), Loads P 28 ⟨r_3, 0, none⟩ (.agg #[(.slice t710_p t710_n t710_c)]) wv_31 ∧ Calls P 10 ⟨[(.agg #[(.slice t710_p t710_n t710_c)]), (.int .i64 1)]⟩ wv_31 fun e_13 wv_32 =>
      ∃ (t73 : Int), e_13 = .returned (.int .i64 t73) ∧
      ∃ (t740 : ByteArray) (t741 : Bool) (t742_p : Option Addr) (t742_n : Nat) (t742_c : Nat), Loads P 44 ⟨r_4, 0, none⟩ (.agg #[(.string t740), (.bool t741), (.slice t742_p t742_n t742_c)]) wv_32 ∧ Calls P 17 ⟨[(.agg #[(.string t740), (.bool t741), (.slice t742_p t742_n t742_c)]), (.int .i64 t73)]⟩ wv_32 fun e_14 wv_33 =>
      ∃ (t76 : Int), e_14 = .returned (.int .i64 t76) ∧
      ((decide ((t76 : Int) < 0)) = true →
        (true = true →
          (true = true →
            R (.bool false) wv_33) ∧
          (true = false →
            laws_FnExactBookPost_j1 aName r r_1 t38 r_2 r_5 wv_33 R)) ∧
        (true = false →
          ((!(t49 == t38)) = true →
            R (.bool false) wv_33) ∧
          ((!(t49 == t38)) = false →
            laws_FnExactBookPost_j1 aName r r_1 t38 r_2 r_5 wv_33 R))) ∧
      ((decide ((t76 : Int) < 0)) = false →
        ∃ (t800_p : Option Addr) (t800_n : Nat) (t800_c : Nat), Loads P 28 ⟨r_5, 0, none⟩ (.agg #[(.slice t800_p t800_n t800_c)]) wv_33 ∧ ∃ (t810_p : Option Addr) (t810_n : Nat) (t810_c : Nat), Loads P 28 ⟨r_2, 0, none⟩ (.agg #[(.slice t810_p t810_n t810_c)]) wv_33 ∧ Calls P 9 ⟨[(.agg #[(.slice t800_p t800_n t800_c)]), (.agg #[(.slice t810_p t810_n t810_c)])]⟩ wv_33 fun e_22 wv_48 =>
        ∃ (t82 : Bool), e_22 = .returned (.bool t82) ∧
        ((!t82) = true →
          (true = true →
            R (.bool false) wv_48) ∧
          (true = false →
            laws_FnExactBookPost_j1 aName r r_1 t38 r_2 r_5 wv_48 R)) ∧
        ((!t82) = false →
          ((!(t49 == t38)) = true →
            R (.bool false) wv_48) ∧
          ((!(t49 == t38)) = false →
            laws_FnExactBookPost_j1 aName r r_1 t38 r_2 r_5 wv_48 R)))))
def laws_FnExactBookPost (aB0_p : Option Addr) (aB0_n : Nat) (aB0_c : Nat) (aName : ByteArray) (aM0 : ByteArray) (aM1 : Bool) (aM2_p : Option Addr) (aM2_n : Nat) (aM2_c : Nat) (w : World) (R : Value → World → Prop) : Prop :=
  ∀ (r : Nat) (wv : World), New w (.cells ⟨[(.slice aB0_p aB0_n aB0_c)]⟩ 24 (0, 0)) r wv →
  ∀ (r_1 : Nat) (wv_1 : World), New wv (.cells ⟨[(.string aM0), (.bool aM1), (.slice aM2_p aM2_n aM2_c)]⟩ 39 (0, 0)) r_1 wv_1 →
  ((decide ((1048576 : Int) < ((aName.size : Nat) : Int))) = true →
    R (.bool true) wv_1) ∧
  ((decide ((1048576 : Int) < ((aName.size : Nat) : Int))) = false →
    ∃ (t220_p : Option Addr) (t220_n : Nat) (t220_c : Nat), Loads P 24 ⟨r, 0, none⟩ (.agg #[(.slice t220_p t220_n t220_c)]) wv_1 ∧ Calls P 5 ⟨[(.agg #[(.slice t220_p t220_n t220_c)]), (.int .i64 1048576)]⟩ wv_1 fun e wv_2 =>
    ∃ (t24 : Int), e = .returned (.int .i64 t24) ∧
    ((decide ((t24 : Int) < 0)) = true →
      R (.bool true) wv_2) ∧
    ((decide ((t24 : Int) < 0)) = false →
      ∃ (t270 : ByteArray) (t271 : Bool) (t272_p : Option Addr) (t272_n : Nat) (t272_c : Nat), Loads P 39 ⟨r_1, 0, none⟩ (.agg #[(.string t270), (.bool t271), (.slice t272_p t272_n t272_c)]) wv_2 ∧ Calls P 12 ⟨[(.agg #[(.string t270), (.bool t271), (.slice t272_p t272_n t272_c)]), (.int .i64 t24)]⟩ wv_2 fun e_1 wv_3 =>
      ∃ (t29 : Int), e_1 = .returned (.int .i64 t29) ∧
      ((decide ((t29 : Int) < 0)) = true →
        R (.bool true) wv_3) ∧
      ((decide ((t29 : Int) < 0)) = false →
        ∃ (t330_p : Option Addr) (t330_n : Nat) (t330_c : Nat), (∀ wv_4, Ext wv_3.drew wv_4 → Loads P 24 ⟨r, 0, none⟩ (.agg #[(.slice t330_p t330_n t330_c)]) wv_4) ∧ ∀ (ss : List (Option Nat)) (wv_5 : World), Fl [.cells ⟨[(.slice none 0 0)]⟩ 28 (0, 0)] [none] wv_3.drew ss wv_5 →
        Calls P 7 ⟨[(.agg #[(.slice t330_p t330_n t330_c)])]⟩ wv_5 fun e_2 wv_6 =>
        ∃ (t340_p : Option Addr) (t340_n : Nat) (t340_c : Nat), e_2 = .returned (.agg #[(.slice t340_p t340_n t340_c)]) ∧
        Ext wv_5 wv_6 ∧ ∃ (t360 : ByteArray) (t361 : Bool) (t362_p : Option Addr) (t362_n : Nat) (t362_c : Nat), (∀ wv_7, Ext wv_3.drew wv_7 → Loads P 39 ⟨r_1, 0, none⟩ (.agg #[(.string t360), (.bool t361), (.slice t362_p t362_n t362_c)]) wv_7) ∧ ∀ (ss_1 : List (Option Nat)) (wv_8 : World), Fl [.cells ⟨[(.slice none 0 0)]⟩ 28 (0, 0)] ss wv_6 ss_1 wv_8 →
        Calls P 14 ⟨[(.agg #[(.string t360), (.bool t361), (.slice t362_p t362_n t362_c)])]⟩ wv_8 fun e_3 wv_9 =>
        ∃ (t370 : ByteArray) (t371 : Bool) (t372_p : Option Addr) (t372_n : Nat) (t372_c : Nat), e_3 = .returned (.agg #[(.string t370), (.bool t371), (.slice t372_p t372_n t372_c)]) ∧
        ∀ (ss_2 : List (Option Nat)) (wv_10 : World), Fl [.cells ⟨[(.slice none 0 0)]⟩ 28 (0, 0)] ss_1 wv_9 ss_2 wv_10 →
        Calls P 13 ⟨[(.agg #[(.slice t340_p t340_n t340_c)]), (.string aName), (.agg #[(.string t370), (.bool t371), (.slice t372_p t372_n t372_c)])]⟩ wv_10 fun e_4 wv_11 =>
        ∃ (t380_p : Option Addr) (t380_n : Nat) (t380_c : Nat) (t38 : Bool), e_4 = .returned (.tuple #[(.agg #[(.slice t380_p t380_n t380_c)]), (.bool t38)]) ∧
        ∀ (ss_3 : List (Option Nat)) (wv_12 : World) (r_2 : Nat), Fl [.cells ⟨[(.slice none 0 0)]⟩ 28 (0, 0)] ss_2 wv_11 ss_3 wv_12 → ss_3[0]? = some (some r_2) →
        ∃ wv_13, Stores P 28 ⟨r_2, 0, none⟩ (.agg #[(.slice t380_p t380_n t380_c)]) wv_12 wv_13 ∧
        ∃ (t410_p : Option Addr) (t410_n : Nat) (t410_c : Nat), Loads P 24 ⟨r, 0, none⟩ (.agg #[(.slice t410_p t410_n t410_c)]) wv_13 ∧ Calls P 7 ⟨[(.agg #[(.slice t410_p t410_n t410_c)])]⟩ wv_13 fun e_5 wv_14 =>
        ∃ (t420_p : Option Addr) (t420_n : Nat) (t420_c : Nat), e_5 = .returned (.agg #[(.slice t420_p t420_n t420_c)]) ∧
        ∀ (r_3 : Nat) (wv_15 : World), New wv_14 (.cells ⟨[(.slice none 0 0)]⟩ 28 (0, 0)) r_3 wv_15 →
        ∃ wv_16, Stores P 28 ⟨r_3, 0, none⟩ (.agg #[(.slice t420_p t420_n t420_c)]) wv_15 wv_16 ∧
        ∃ (t430 : ByteArray) (t431 : Bool) (t432_p : Option Addr) (t432_n : Nat) (t432_c : Nat), Loads P 39 ⟨r_1, 0, none⟩ (.agg #[(.string t430), (.bool t431), (.slice t432_p t432_n t432_c)]) wv_16 ∧ Calls P 14 ⟨[(.agg #[(.string t430), (.bool t431), (.slice t432_p t432_n t432_c)])]⟩ wv_16 fun e_6 wv_17 =>
        ∃ (t440 : ByteArray) (t441 : Bool) (t442_p : Option Addr) (t442_n : Nat) (t442_c : Nat), e_6 = .returned (.agg #[(.string t440), (.bool t441), (.slice t442_p t442_n t442_c)]) ∧
        ∀ (r_4 : Nat) (wv_18 : World), New wv_17 (.cells ⟨[(.string ByteArray.empty), (.bool false), (.slice none 0 0)]⟩ 44 (0, 0)) r_4 wv_18 →
        ∃ wv_19, Stores P 44 ⟨r_4, 0, none⟩ (.agg #[(.string t440), (.bool t441), (.slice t442_p t442_n t442_c)]) wv_18 wv_19 ∧
        ∃ (t460_p : Option Addr) (t460_n : Nat) (t460_c : Nat), Loads P 28 ⟨r_3, 0, none⟩ (.agg #[(.slice t460_p t460_n t460_c)]) wv_19 ∧ ∃ (t480 : ByteArray) (t481 : Bool) (t482_p : Option Addr) (t482_n : Nat) (t482_c : Nat), Loads P 44 ⟨r_4, 0, none⟩ (.agg #[(.string t480), (.bool t481), (.slice t482_p t482_n t482_c)]) wv_19 ∧ Calls P 15 ⟨[(.agg #[(.slice t460_p t460_n t460_c)]), (.string aName), (.agg #[(.string t480), (.bool t481), (.slice t482_p t482_n t482_c)])]⟩ wv_19 fun e_7 wv_20 =>
        ∃ (t490_p : Option Addr) (t490_n : Nat) (t490_c : Nat) (t49 : Bool), e_7 = .returned (.tuple #[(.agg #[(.slice t490_p t490_n t490_c)]), (.bool t49)]) ∧
        ∀ (r_5 : Nat) (wv_21 : World), New wv_20 (.cells ⟨[(.slice none 0 0)]⟩ 28 (0, 0)) r_5 wv_21 →
        ∃ wv_22, Stores P 28 ⟨r_5, 0, none⟩ (.agg #[(.slice t490_p t490_n t490_c)]) wv_21 wv_22 ∧
        ∃ (t520_p : Option Addr) (t520_n : Nat) (t520_c : Nat), Loads P 28 ⟨r_5, 0, none⟩ (.agg #[(.slice t520_p t520_n t520_c)]) wv_22 ∧ ∃ (t530_p : Option Addr) (t530_n : Nat) (t530_c : Nat), Loads P 28 ⟨r_2, 0, none⟩ (.agg #[(.slice t530_p t530_n t530_c)]) wv_22 ∧ Calls P 9 ⟨[(.agg #[(.slice t520_p t520_n t520_c)]), (.agg #[(.slice t530_p t530_n t530_c)])]⟩ wv_22 fun e_8 wv_23 =>
        ∃ (t54 : Bool), e_8 = .returned (.bool t54) ∧
        ((!t54) = true →
          (true = true →
            R (.bool false) wv_23) ∧
          (true = false →
            laws_FnExactBookPost_j0 aName r r_1 t38 r_2 r_3 r_4 t49 r_5 wv_23 R)) ∧
        ((!t54) = false →
          ((!(t49 == t38)) = true →
            R (.bool false) wv_23) ∧
          ((!(t49 == t38)) = false →
            laws_FnExactBookPost_j0 aName r r_1 t38 r_2 r_3 r_4 t49 r_5 wv_23 R)))))
theorem laws_FnExactBookPost_eq (aB0_p : Option Addr) (aB0_n : Nat) (aB0_c : Nat) (aName : ByteArray) (aM0 : ByteArray) (aM1 : Bool) (aM2_p : Option Addr) (aM2_n : Nat) (aM2_c : Nat) (w : World) (R : Value → World → Prop) : laws_FnExactBookPost aB0_p aB0_n aB0_c aName aM0 aM1 aM2_p aM2_n aM2_c w R = fsem P Tryd.f4 (fun k => []) [(.agg #[(.slice aB0_p aB0_n aB0_c)]), (.string aName), (.agg #[(.string aM0), (.bool aM1), (.slice aM2_p aM2_n aM2_c)])] R w := by kernel_rfl
theorem laws_FnExactBookPost_ret {aB0_p : Option Addr} {aB0_n : Nat} {aB0_c : Nat} {aName : ByteArray} {aM0 : ByteArray} {aM1 : Bool} {aM2_p : Option Addr} {aM2_n : Nat} {aM2_c : Nat} {w : World} {R : Value → World → Prop} (h : laws_FnExactBookPost aB0_p aB0_n aB0_c aName aM0 aM1 aM2_p aM2_n aM2_c w R) : Ret P 4 [(.agg #[(.slice aB0_p aB0_n aB0_c)]), (.string aName), (.agg #[(.string aM0), (.bool aM1), (.slice aM2_p aM2_n aM2_c)])] w R :=
  Ret.of_fsem Tryd.func4 rfl (Eq.mp (laws_FnExactBookPost_eq aB0_p aB0_n aB0_c aName aM0 aM1 aM2_p aM2_n aM2_c w R) h)
def spec_BookPost_j0 (r : Nat) (r_1 : Nat) (r_2 : Nat) (t14 : Int) (W : World) (R : Value → World → Prop) : Prop :=
  ∃ (t25_p : Option Addr) (t25_n : Nat) (t25_c : Nat), (∀ wv_6, Ext W.drew wv_6 → Loads P 26 ((⟨r, 0, none⟩ : Addr).add 0) (.slice t25_p t25_n t25_c) wv_6) ∧ (0 ≤ (t14 : Int) ∧ (t14 : Int) < (t25_n : Nat)) ∧ ptrS t25_p fun ad => ∃ (t290 : ByteArray) (t291 : Bool) (t292_p : Option Addr) (t292_n : Nat) (t292_c : Nat), (∀ wv_7, Ext W.drew wv_7 → Loads P 44 ((ad.add (t14.toNat * 4)).add 1) (.agg #[(.string t290), (.bool t291), (.slice t292_p t292_n t292_c)]) wv_7) ∧ ∃ (t300 : ByteArray) (t301 : Bool) (t302_p : Option Addr) (t302_n : Nat) (t302_c : Nat), (∀ wv_8, Ext W.drew wv_8 → Loads P 44 ⟨r_1, 0, none⟩ (.agg #[(.string t300), (.bool t301), (.slice t302_p t302_n t302_c)]) wv_8) ∧ ∀ (ss : List (Option Nat)) (wv_9 : World), Fl [.cells ⟨[(.string ByteArray.empty), (.bool false), (.slice none 0 0)]⟩ 44 (0, 0)] [none] W.drew ss wv_9 →
  Calls P 32 ⟨[(.agg #[(.string t290), (.bool t291), (.slice t292_p t292_n t292_c)]), (.agg #[(.string t300), (.bool t301), (.slice t302_p t302_n t302_c)])]⟩ wv_9 fun e_2 wv_10 =>
  ∃ (t310 : ByteArray) (t311 : Bool) (t312_p : Option Addr) (t312_n : Nat) (t312_c : Nat) (t31 : Bool), e_2 = .returned (.tuple #[(.agg #[(.string t310), (.bool t311), (.slice t312_p t312_n t312_c)]), (.bool t31)]) ∧
  ∀ (ss_1 : List (Option Nat)) (wv_11 : World) (r_3 : Nat), Fl [.cells ⟨[(.string ByteArray.empty), (.bool false), (.slice none 0 0)]⟩ 44 (0, 0)] ss wv_10 ss_1 wv_11 → ss_1[0]? = some (some r_3) →
  ∃ wv_12, Stores P 44 ⟨r_3, 0, none⟩ (.agg #[(.string t310), (.bool t311), (.slice t312_p t312_n t312_c)]) wv_11 wv_12 ∧
  ((!t31) = true →
    ∃ wv_13, Stores P 28 ⟨r_2, 0, none⟩ (.agg #[(.slice none 0 0)]) wv_12 wv_13 ∧
    ∃ (r0_p_1 : Option Addr) (r0_n_1 : Nat) (r0_c_1 : Nat), Loads P 28 ⟨r_2, 0, none⟩ (.agg #[(.slice r0_p_1 r0_n_1 r0_c_1)]) wv_13 ∧ R (.tuple #[(.agg #[(.slice r0_p_1 r0_n_1 r0_c_1)]), (.bool false)]) wv_13) ∧
  ((!t31) = false →
    ∃ (t370_p : Option Addr) (t370_n : Nat) (t370_c : Nat), Loads P 28 ⟨r, 0, none⟩ (.agg #[(.slice t370_p t370_n t370_c)]) wv_12 ∧ Calls P 21 ⟨[(.agg #[(.slice t370_p t370_n t370_c)])]⟩ wv_12 fun e_3 wv_14 =>
    ∃ (t380_p : Option Addr) (t380_n : Nat) (t380_c : Nat), e_3 = .returned (.agg #[(.slice t380_p t380_n t380_c)]) ∧
    ∀ (r_4 : Nat) (wv_15 : World), New wv_14 (.cells ⟨[(.slice none 0 0)]⟩ 28 (0, 0)) r_4 wv_15 →
    ∃ wv_16, Stores P 28 ⟨r_4, 0, none⟩ (.agg #[(.slice t380_p t380_n t380_c)]) wv_15 wv_16 ∧
    ∃ (t40_p : Option Addr) (t40_n : Nat) (t40_c : Nat), Loads P 26 ((⟨r_4, 0, none⟩ : Addr).add 0) (.slice t40_p t40_n t40_c) wv_16 ∧ ∃ (t420 : ByteArray) (t421 : Bool) (t422_p : Option Addr) (t422_n : Nat) (t422_c : Nat), Loads P 44 ⟨r_3, 0, none⟩ (.agg #[(.string t420), (.bool t421), (.slice t422_p t422_n t422_c)]) wv_16 ∧ (0 ≤ (t14 : Int) ∧ (t14 : Int) < (t40_n : Nat)) ∧ ptrS t40_p fun ad_1 => ∃ wv_17, Stores P 44 ((ad_1.add (t14.toNat * 4)).add 1) (.agg #[(.string t420), (.bool t421), (.slice t422_p t422_n t422_c)]) wv_16 wv_17 ∧
    ∃ (t450_p : Option Addr) (t450_n : Nat) (t450_c : Nat), Loads P 28 ⟨r_4, 0, none⟩ (.agg #[(.slice t450_p t450_n t450_c)]) wv_17 ∧ ∃ wv_18, Stores P 28 ⟨r_2, 0, none⟩ (.agg #[(.slice t450_p t450_n t450_c)]) wv_17 wv_18 ∧
    ∃ (r0_p_2 : Option Addr) (r0_n_2 : Nat) (r0_c_2 : Nat), Loads P 28 ⟨r_2, 0, none⟩ (.agg #[(.slice r0_p_2 r0_n_2 r0_c_2)]) wv_18 ∧ R (.tuple #[(.agg #[(.slice r0_p_2 r0_n_2 r0_c_2)]), (.bool true)]) wv_18)
def spec_BookPost (b0_p : Option Addr) (b0_n : Nat) (b0_c : Nat) (name : ByteArray) (m0 : ByteArray) (m1 : Bool) (m2_p : Option Addr) (m2_n : Nat) (m2_c : Nat) (w : World) (R : Value → World → Prop) : Prop :=
  ∀ (r : Nat) (wv : World), New w (.cells ⟨[(.slice b0_p b0_n b0_c)]⟩ 28 (0, 0)) r wv →
  ∀ (r_1 : Nat) (wv_1 : World), New wv (.cells ⟨[(.string m0), (.bool m1), (.slice m2_p m2_n m2_c)]⟩ 44 (0, 0)) r_1 wv_1 →
  ∀ (r_2 : Nat) (wv_2 : World), New wv_1 (.cells ⟨[(.slice none 0 0)]⟩ 28 (0, 0)) r_2 wv_2 →
  ∃ (t120_p : Option Addr) (t120_n : Nat) (t120_c : Nat), Loads P 28 ⟨r, 0, none⟩ (.agg #[(.slice t120_p t120_n t120_c)]) wv_2 ∧ Calls P 20 ⟨[(.agg #[(.slice t120_p t120_n t120_c)]), (.string name)]⟩ wv_2 fun e wv_3 =>
  ∃ (t14 : Int), e = .returned (.int .i64 t14) ∧
  ∃ (t150_p : Option Addr) (t150_n : Nat) (t150_c : Nat), Loads P 28 ⟨r, 0, none⟩ (.agg #[(.slice t150_p t150_n t150_c)]) wv_3 ∧ Calls P 19 ⟨[(.agg #[(.slice t150_p t150_n t150_c)])]⟩ wv_3 fun e_1 wv_4 =>
  ∃ (t16 : Bool), e_1 = .returned (.bool t16) ∧
  ((!t16) = true →
    (true = true →
      ∃ wv_5, Stores P 28 ⟨r_2, 0, none⟩ (.agg #[(.slice none 0 0)]) wv_4 wv_5 ∧
      ∃ (r0_p : Option Addr) (r0_n : Nat) (r0_c : Nat), Loads P 28 ⟨r_2, 0, none⟩ (.agg #[(.slice r0_p r0_n r0_c)]) wv_5 ∧ R (.tuple #[(.agg #[(.slice r0_p r0_n r0_c)]), (.bool false)]) wv_5) ∧
    (true = false →
      spec_BookPost_j0 r r_1 r_2 t14 wv_4 R)) ∧
  ((!t16) = false →
    ((decide ((t14 : Int) < 0)) = true →
      ∃ wv_19, Stores P 28 ⟨r_2, 0, none⟩ (.agg #[(.slice none 0 0)]) wv_4 wv_19 ∧
      ∃ (r0_p_3 : Option Addr) (r0_n_3 : Nat) (r0_c_3 : Nat), Loads P 28 ⟨r_2, 0, none⟩ (.agg #[(.slice r0_p_3 r0_n_3 r0_c_3)]) wv_19 ∧ R (.tuple #[(.agg #[(.slice r0_p_3 r0_n_3 r0_c_3)]), (.bool false)]) wv_19) ∧
    ((decide ((t14 : Int) < 0)) = false →
      spec_BookPost_j0 r r_1 r_2 t14 wv_4 R))
theorem spec_BookPost_eq (b0_p : Option Addr) (b0_n : Nat) (b0_c : Nat) (name : ByteArray) (m0 : ByteArray) (m1 : Bool) (m2_p : Option Addr) (m2_n : Nat) (m2_c : Nat) (w : World) (R : Value → World → Prop) : spec_BookPost b0_p b0_n b0_c name m0 m1 m2_p m2_n m2_c w R = fsem P Tryd.f13 (fun k => []) [(.agg #[(.slice b0_p b0_n b0_c)]), (.string name), (.agg #[(.string m0), (.bool m1), (.slice m2_p m2_n m2_c)])] R w := by kernel_rfl
theorem spec_BookPost_ret {b0_p : Option Addr} {b0_n : Nat} {b0_c : Nat} {name : ByteArray} {m0 : ByteArray} {m1 : Bool} {m2_p : Option Addr} {m2_n : Nat} {m2_c : Nat} {w : World} {R : Value → World → Prop} (h : spec_BookPost b0_p b0_n b0_c name m0 m1 m2_p m2_n m2_c w R) : Ret P 13 [(.agg #[(.slice b0_p b0_n b0_c)]), (.string name), (.agg #[(.string m0), (.bool m1), (.slice m2_p m2_n m2_c)])] w R :=
  Ret.of_fsem Tryd.func13 rfl (Eq.mp (spec_BookPost_eq b0_p b0_n b0_c name m0 m1 m2_p m2_n m2_c w R) h)
def impl_BookPost (b0_p : Option Addr) (b0_n : Nat) (b0_c : Nat) (name : ByteArray) (m0 : ByteArray) (m1 : Bool) (m2_p : Option Addr) (m2_n : Nat) (m2_c : Nat) (w : World) (R : Value → World → Prop) : Prop :=
  ∀ (r : Nat) (wv : World), New w (.cells ⟨[(.slice b0_p b0_n b0_c)]⟩ 28 (0, 0)) r wv →
  ∀ (r_1 : Nat) (wv_1 : World), New wv (.cells ⟨[(.string m0), (.bool m1), (.slice m2_p m2_n m2_c)]⟩ 44 (0, 0)) r_1 wv_1 →
  ∀ (r_2 : Nat) (wv_2 : World), New wv_1 (.cells ⟨[(.slice none 0 0)]⟩ 28 (0, 0)) r_2 wv_2 →
  ∃ (t90_p : Option Addr) (t90_n : Nat) (t90_c : Nat), Loads P 28 ⟨r, 0, none⟩ (.agg #[(.slice t90_p t90_n t90_c)]) wv_2 ∧ Calls P 24 ⟨[(.agg #[(.slice t90_p t90_n t90_c)]), (.string name)]⟩ wv_2 fun e wv_3 =>
  ∃ (t11 : Int), e = .returned (.int .i64 t11) ∧
  ∀ (r_3 : Nat) (wv_4 : World), New wv_3 (.cells ⟨[(.int .i64 0)]⟩ 3 (0, 0)) r_3 wv_4 →
  ∃ wv_5, Stores P 3 ⟨r_3, 0, none⟩ (.int .i64 t11) wv_4 wv_5 ∧
  ∃ (t120_p : Option Addr) (t120_n : Nat) (t120_c : Nat), Loads P 28 ⟨r, 0, none⟩ (.agg #[(.slice t120_p t120_n t120_c)]) wv_5 ∧ Calls P 23 ⟨[(.agg #[(.slice t120_p t120_n t120_c)])]⟩ wv_5 fun e_1 wv_6 =>
  ∃ (t13 : Bool), e_1 = .returned (.bool t13) ∧
  ((!t13) = true →
    (true = true →
      ∃ wv_7, Stores P 28 ⟨r_2, 0, none⟩ (.agg #[(.slice none 0 0)]) wv_6 wv_7 ∧
      ∃ (r0_p : Option Addr) (r0_n : Nat) (r0_c : Nat), Loads P 28 ⟨r_2, 0, none⟩ (.agg #[(.slice r0_p r0_n r0_c)]) wv_7 ∧ R (.tuple #[(.agg #[(.slice r0_p r0_n r0_c)]), (.bool false)]) wv_7) ∧
    (true = false →
      ∃ (t200_p : Option Addr) (t200_n : Nat) (t200_c : Nat), Loads P 28 ⟨r, 0, none⟩ (.agg #[(.slice t200_p t200_n t200_c)]) wv_6 ∧ Calls P 25 ⟨[(.agg #[(.slice t200_p t200_n t200_c)]), (.func (.func 34) #[] #[(.pointer (some ⟨r_3, 0, none⟩)), (.pointer (some ⟨r_1, 0, none⟩))])]⟩ wv_6 fun e_2 wv_8 =>
      ∃ (t220_p : Option Addr) (t220_n : Nat) (t220_c : Nat) (t22 : Bool), e_2 = .returned (.tuple #[(.agg #[(.slice t220_p t220_n t220_c)]), (.bool t22)]) ∧
      ∃ wv_9, Stores P 28 ⟨r_2, 0, none⟩ (.agg #[(.slice t220_p t220_n t220_c)]) wv_8 wv_9 ∧
      ∃ (r0_p_1 : Option Addr) (r0_n_1 : Nat) (r0_c_1 : Nat), Loads P 28 ⟨r_2, 0, none⟩ (.agg #[(.slice r0_p_1 r0_n_1 r0_c_1)]) wv_9 ∧ R (.tuple #[(.agg #[(.slice r0_p_1 r0_n_1 r0_c_1)]), (.bool t22)]) wv_9)) ∧
  ((!t13) = false →
    ∃ (t16 : Int), Loads P 3 ⟨r_3, 0, none⟩ (.int .i64 t16) wv_6 ∧ ((decide ((t16 : Int) < 0)) = true →
      ∃ wv_10, Stores P 28 ⟨r_2, 0, none⟩ (.agg #[(.slice none 0 0)]) wv_6 wv_10 ∧
      ∃ (r0_p_2 : Option Addr) (r0_n_2 : Nat) (r0_c_2 : Nat), Loads P 28 ⟨r_2, 0, none⟩ (.agg #[(.slice r0_p_2 r0_n_2 r0_c_2)]) wv_10 ∧ R (.tuple #[(.agg #[(.slice r0_p_2 r0_n_2 r0_c_2)]), (.bool false)]) wv_10) ∧
    ((decide ((t16 : Int) < 0)) = false →
      ∃ (t200_p_1 : Option Addr) (t200_n_1 : Nat) (t200_c_1 : Nat), Loads P 28 ⟨r, 0, none⟩ (.agg #[(.slice t200_p_1 t200_n_1 t200_c_1)]) wv_6 ∧ Calls P 25 ⟨[(.agg #[(.slice t200_p_1 t200_n_1 t200_c_1)]), (.func (.func 34) #[] #[(.pointer (some ⟨r_3, 0, none⟩)), (.pointer (some ⟨r_1, 0, none⟩))])]⟩ wv_6 fun e_3 wv_11 =>
      ∃ (t220_p_1 : Option Addr) (t220_n_1 : Nat) (t220_c_1 : Nat) (t22_1 : Bool), e_3 = .returned (.tuple #[(.agg #[(.slice t220_p_1 t220_n_1 t220_c_1)]), (.bool t22_1)]) ∧
      ∃ wv_12, Stores P 28 ⟨r_2, 0, none⟩ (.agg #[(.slice t220_p_1 t220_n_1 t220_c_1)]) wv_11 wv_12 ∧
      ∃ (r0_p_3 : Option Addr) (r0_n_3 : Nat) (r0_c_3 : Nat), Loads P 28 ⟨r_2, 0, none⟩ (.agg #[(.slice r0_p_3 r0_n_3 r0_c_3)]) wv_12 ∧ R (.tuple #[(.agg #[(.slice r0_p_3 r0_n_3 r0_c_3)]), (.bool t22_1)]) wv_12))
theorem impl_BookPost_eq (b0_p : Option Addr) (b0_n : Nat) (b0_c : Nat) (name : ByteArray) (m0 : ByteArray) (m1 : Bool) (m2_p : Option Addr) (m2_n : Nat) (m2_c : Nat) (w : World) (R : Value → World → Prop) : impl_BookPost b0_p b0_n b0_c name m0 m1 m2_p m2_n m2_c w R = fsem P Tryd.f15 (fun k => []) [(.agg #[(.slice b0_p b0_n b0_c)]), (.string name), (.agg #[(.string m0), (.bool m1), (.slice m2_p m2_n m2_c)])] R w := by kernel_rfl
theorem impl_BookPost_ret {b0_p : Option Addr} {b0_n : Nat} {b0_c : Nat} {name : ByteArray} {m0 : ByteArray} {m1 : Bool} {m2_p : Option Addr} {m2_n : Nat} {m2_c : Nat} {w : World} {R : Value → World → Prop} (h : impl_BookPost b0_p b0_n b0_c name m0 m1 m2_p m2_n m2_c w R) : Ret P 15 [(.agg #[(.slice b0_p b0_n b0_c)]), (.string name), (.agg #[(.string m0), (.bool m1), (.slice m2_p m2_n m2_c)])] w R :=
  Ret.of_fsem Tryd.func15 rfl (Eq.mp (impl_BookPost_eq b0_p b0_n b0_c name m0 m1 m2_p m2_n m2_c w R) h)
def spec_BookOk (b0_p : Option Addr) (b0_n : Nat) (b0_c : Nat) (w : World) (R : Value → World → Prop) : Prop :=
  ∀ (r : Nat) (wv : World), New w (.cells ⟨[(.slice b0_p b0_n b0_c)]⟩ 28 (0, 0)) r wv →
  ∃ (t6_p : Option Addr) (t6_n : Nat) (t6_c : Nat), Loads P 26 ((⟨r, 0, none⟩ : Addr).add 0) (.slice t6_p t6_n t6_c) wv ∧ ∃ (Inv : Int → World → Prop) (mu : Int → World → Nat), Inv 0 wv ∧
  ∀ (junk : Fr) (wv_1 : World) (t8 : Int), Inv t8 wv_1 →
    ((decide ((t8 : Int) < ((t6_n : Nat) : Int))) = true →
      (0 ≤ (t8 : Int) ∧ (t8 : Int) < (t6_n : Nat)) ∧ ptrS t6_p fun ad => ∃ (t120 : ByteArray) (t121 : ByteArray) (t122 : Bool) (t123_p : Option Addr) (t123_n : Nat) (t123_c : Nat), Loads P 54 (ad.add (t8.toNat * 4)) (.agg #[(.string t120), (.string t121), (.bool t122), (.slice t123_p t123_n t123_c)]) wv_1 ∧ ∀ (r_1 : Nat) (wv_2 : World), New wv_1 (.cells ⟨[(.string ByteArray.empty), (.string ByteArray.empty), (.bool false), (.slice none 0 0)]⟩ 54 (0, 0)) r_1 wv_2 →
      ∃ wv_3, Stores P 54 ⟨r_1, 0, none⟩ (.agg #[(.string t120), (.string t121), (.bool t122), (.slice t123_p t123_n t123_c)]) wv_2 wv_3 ∧
      ∃ (t14 : ByteArray), (∀ wv_4, Ext wv_3.drew wv_4 → Loads P 9 ((⟨r_1, 0, none⟩ : Addr).add 0) (.string t14) wv_4) ∧ Calls P 39 ⟨[(.string t14)]⟩ wv_3.drew fun e wv_5 =>
      ∃ (t15 : Bool), e = .returned (.bool t15) ∧
      ((!t15) = true →
        (true = true →
          (true = true →
            R (.bool false) wv_5) ∧
          (true = false →
            ∃ t39 : Int, t39 = IntKind.wrap .i64 (t8 + 1) ∧ Inv t39 wv_5 ∧ mu t39 wv_5 < mu t8 wv_1)) ∧
        (true = false →
          ((decide ((0 : Int) < t8)) = true →
            ∃ (t28_p : Option Addr) (t28_n : Nat) (t28_c : Nat), (∀ wv_6, Ext wv_5 wv_6 → Loads P 26 ((⟨r, 0, none⟩ : Addr).add 0) (.slice t28_p t28_n t28_c) wv_6) ∧ ∃ t30 : Int, t30 = IntKind.wrap .i64 (t8 - 1) ∧ (0 ≤ (t30 : Int) ∧ (t30 : Int) < (t28_n : Nat)) ∧ ptrS t28_p fun ad_1 => ∃ (t33 : ByteArray), (∀ wv_7, Ext wv_5 wv_7 → Loads P 9 ((ad_1.add (t30.toNat * 4)).add 0) (.string t33) wv_7) ∧ ∃ (t35 : ByteArray), (∀ wv_8, Ext wv_5 wv_8 → Loads P 9 ((⟨r_1, 0, none⟩ : Addr).add 0) (.string t35) wv_8) ∧ ((!(Op.bytesLess t33.toList t35.toList)) = true →
              R (.bool false) wv_5) ∧
            ((!(Op.bytesLess t33.toList t35.toList)) = false →
              ∃ t39_1 : Int, t39_1 = IntKind.wrap .i64 (t8 + 1) ∧ Inv t39_1 wv_5 ∧ mu t39_1 wv_5 < mu t8 wv_1)) ∧
          ((decide ((0 : Int) < t8)) = false →
            (false = true →
              R (.bool false) wv_5) ∧
            (false = false →
              ∃ t39_2 : Int, t39_2 = IntKind.wrap .i64 (t8 + 1) ∧ Inv t39_2 wv_5 ∧ mu t39_2 wv_5 < mu t8 wv_1)))) ∧
      ((!t15) = false →
        ∃ (t190 : ByteArray) (t191 : Bool) (t192_p : Option Addr) (t192_n : Nat) (t192_c : Nat), (∀ wv_9, Ext wv_5 wv_9 → Loads P 44 ((⟨r_1, 0, none⟩ : Addr).add 1) (.agg #[(.string t190), (.bool t191), (.slice t192_p t192_n t192_c)]) wv_9) ∧ Calls P 40 ⟨[(.agg #[(.string t190), (.bool t191), (.slice t192_p t192_n t192_c)])]⟩ wv_5 fun e_1 wv_10 =>
        ∃ (t20 : Bool), e_1 = .returned (.bool t20) ∧
        ((!t20) = true →
          (true = true →
            R (.bool false) wv_10) ∧
          (true = false →
            ∃ t39_3 : Int, t39_3 = IntKind.wrap .i64 (t8 + 1) ∧ Inv t39_3 wv_10 ∧ mu t39_3 wv_10 < mu t8 wv_1)) ∧
        ((!t20) = false →
          ((decide ((0 : Int) < t8)) = true →
            ∃ (t28_p_1 : Option Addr) (t28_n_1 : Nat) (t28_c_1 : Nat), (∀ wv_11, Ext wv_10 wv_11 → Loads P 26 ((⟨r, 0, none⟩ : Addr).add 0) (.slice t28_p_1 t28_n_1 t28_c_1) wv_11) ∧ ∃ t30_1 : Int, t30_1 = IntKind.wrap .i64 (t8 - 1) ∧ (0 ≤ (t30_1 : Int) ∧ (t30_1 : Int) < (t28_n_1 : Nat)) ∧ ptrS t28_p_1 fun ad_2 => ∃ (t33_1 : ByteArray), (∀ wv_12, Ext wv_10 wv_12 → Loads P 9 ((ad_2.add (t30_1.toNat * 4)).add 0) (.string t33_1) wv_12) ∧ ∃ (t35_1 : ByteArray), (∀ wv_13, Ext wv_10 wv_13 → Loads P 9 ((⟨r_1, 0, none⟩ : Addr).add 0) (.string t35_1) wv_13) ∧ ((!(Op.bytesLess t33_1.toList t35_1.toList)) = true →
              R (.bool false) wv_10) ∧
            ((!(Op.bytesLess t33_1.toList t35_1.toList)) = false →
              ∃ t39_4 : Int, t39_4 = IntKind.wrap .i64 (t8 + 1) ∧ Inv t39_4 wv_10 ∧ mu t39_4 wv_10 < mu t8 wv_1)) ∧
          ((decide ((0 : Int) < t8)) = false →
            (false = true →
              R (.bool false) wv_10) ∧
            (false = false →
              ∃ t39_5 : Int, t39_5 = IntKind.wrap .i64 (t8 + 1) ∧ Inv t39_5 wv_10 ∧ mu t39_5 wv_10 < mu t8 wv_1))))) ∧
    ((decide ((t8 : Int) < ((t6_n : Nat) : Int))) = false →
      ∃ (t41_p : Option Addr) (t41_n : Nat) (t41_c : Nat), Loads P 26 ((⟨r, 0, none⟩ : Addr).add 0) (.slice t41_p t41_n t41_c) wv_1 ∧ R (.bool (decide ((((t41_n : Nat) : Int) : Int) ≤ 12))) wv_1)
theorem spec_BookOk_eq (b0_p : Option Addr) (b0_n : Nat) (b0_c : Nat) (w : World) (R : Value → World → Prop) : spec_BookOk b0_p b0_n b0_c w R = fsem P Tryd.f19 (fun k => cond (Nat.beq k 3) [(8, .one (.int .i64))] ([])) [(.agg #[(.slice b0_p b0_n b0_c)])] R w := by kernel_rfl
theorem spec_BookOk_ret {b0_p : Option Addr} {b0_n : Nat} {b0_c : Nat} {w : World} {R : Value → World → Prop} (h : spec_BookOk b0_p b0_n b0_c w R) : Ret P 19 [(.agg #[(.slice b0_p b0_n b0_c)])] w R :=
  Ret.of_fsem Tryd.func19 rfl (Eq.mp (spec_BookOk_eq b0_p b0_n b0_c w R) h)
def spec_AcctAt (b0_p : Option Addr) (b0_n : Nat) (b0_c : Nat) (name : ByteArray) (w : World) (R : Value → World → Prop) : Prop :=
  ∀ (r : Nat) (wv : World), New w (.cells ⟨[(.slice b0_p b0_n b0_c)]⟩ 28 (0, 0)) r wv →
  ∃ (t8_p : Option Addr) (t8_n : Nat) (t8_c : Nat), Loads P 26 ((⟨r, 0, none⟩ : Addr).add 0) (.slice t8_p t8_n t8_c) wv ∧ ∃ (Inv : Int → World → Prop) (mu : Int → World → Nat), Inv 0 wv ∧
  ∀ (junk : Fr) (wv_1 : World) (t10 : Int), Inv t10 wv_1 →
    ((decide ((t10 : Int) < ((t8_n : Nat) : Int))) = true →
      (0 ≤ (t10 : Int) ∧ (t10 : Int) < (t8_n : Nat)) ∧ ptrS t8_p fun ad => ∃ (t140 : ByteArray) (t141 : ByteArray) (t142 : Bool) (t143_p : Option Addr) (t143_n : Nat) (t143_c : Nat), Loads P 54 (ad.add (t10.toNat * 4)) (.agg #[(.string t140), (.string t141), (.bool t142), (.slice t143_p t143_n t143_c)]) wv_1 ∧ ∀ (r_1 : Nat) (wv_2 : World), New wv_1 (.cells ⟨[(.string ByteArray.empty), (.string ByteArray.empty), (.bool false), (.slice none 0 0)]⟩ 54 (0, 0)) r_1 wv_2 →
      ∃ wv_3, Stores P 54 ⟨r_1, 0, none⟩ (.agg #[(.string t140), (.string t141), (.bool t142), (.slice t143_p t143_n t143_c)]) wv_2 wv_3 ∧
      ∃ (t16 : ByteArray), Loads P 9 ((⟨r_1, 0, none⟩ : Addr).add 0) (.string t16) wv_3 ∧ ((decide (t16 = name)) = true →
        R (.int .i64 t10) wv_3) ∧
      ((decide (t16 = name)) = false →
        ∃ t20 : Int, t20 = IntKind.wrap .i64 (t10 + 1) ∧ Inv t20 wv_3 ∧ mu t20 wv_3 < mu t10 wv_1)) ∧
    ((decide ((t10 : Int) < ((t8_n : Nat) : Int))) = false →
      R (.int .i64 (-1)) wv_1)
theorem spec_AcctAt_eq (b0_p : Option Addr) (b0_n : Nat) (b0_c : Nat) (name : ByteArray) (w : World) (R : Value → World → Prop) : spec_AcctAt b0_p b0_n b0_c name w R = fsem P Tryd.f20 (fun k => cond (Nat.beq k 3) [(10, .one (.int .i64))] ([])) [(.agg #[(.slice b0_p b0_n b0_c)]), (.string name)] R w := by kernel_rfl
theorem spec_AcctAt_ret {b0_p : Option Addr} {b0_n : Nat} {b0_c : Nat} {name : ByteArray} {w : World} {R : Value → World → Prop} (h : spec_AcctAt b0_p b0_n b0_c name w R) : Ret P 20 [(.agg #[(.slice b0_p b0_n b0_c)]), (.string name)] w R :=
  Ret.of_fsem Tryd.func20 rfl (Eq.mp (spec_AcctAt_eq b0_p b0_n b0_c name w R) h)
def spec_l17Copy (b0_p : Option Addr) (b0_n : Nat) (b0_c : Nat) (w : World) (R : Value → World → Prop) : Prop :=
  ∀ (r : Nat) (wv : World), New w (.cells ⟨[(.slice b0_p b0_n b0_c)]⟩ 28 (0, 0)) r wv →
  ∀ (r_1 : Nat) (wv_1 : World), New wv (.cells ⟨[(.slice none 0 0)]⟩ 28 (0, 0)) r_1 wv_1 →
  ∀ (r_2 : Nat) (wv_2 : World), New wv_1 (.cells ⟨[(.slice none 0 0)]⟩ 28 (0, 0)) r_2 wv_2 →
  ∃ wv_3, Stores P 28 ⟨r_2, 0, none⟩ (.agg #[(.slice none 0 0)]) wv_2 wv_3 ∧
  ∃ (t8_p : Option Addr) (t8_n : Nat) (t8_c : Nat), Loads P 26 ((⟨r, 0, none⟩ : Addr).add 0) (.slice t8_p t8_n t8_c) wv_3 ∧ ∃ (Inv : Int → World → Prop) (mu : Int → World → Nat), Inv 0 wv_3 ∧
  ∀ (junk : Fr) (wv_4 : World) (t10 : Int), Inv t10 wv_4 →
    ((decide ((t10 : Int) < ((t8_n : Nat) : Int))) = true →
      (0 ≤ (t10 : Int) ∧ (t10 : Int) < (t8_n : Nat)) ∧ ptrS t8_p fun ad => ∃ (t130 : ByteArray) (t131 : ByteArray) (t132 : Bool) (t133_p : Option Addr) (t133_n : Nat) (t133_c : Nat), Loads P 54 (ad.add (t10.toNat * 4)) (.agg #[(.string t130), (.string t131), (.bool t132), (.slice t133_p t133_n t133_c)]) wv_4 ∧ ∀ (r_3 : Nat) (wv_5 : World), New wv_4 (.cells ⟨[(.string ByteArray.empty), (.string ByteArray.empty), (.bool false), (.slice none 0 0)]⟩ 54 (0, 0)) r_3 wv_5 →
      ∃ wv_6, Stores P 54 ⟨r_3, 0, none⟩ (.agg #[(.string t130), (.string t131), (.bool t132), (.slice t133_p t133_n t133_c)]) wv_5 wv_6 ∧
      ∃ (t15_p : Option Addr) (t15_n : Nat) (t15_c : Nat), (∀ wv_7, Ext wv_6.drew wv_7 → Loads P 26 ((⟨r_2, 0, none⟩ : Addr).add 0) (.slice t15_p t15_n t15_c) wv_7) ∧ ∃ (t17 : ByteArray), (∀ wv_8, Ext wv_6.drew wv_8 → Loads P 9 ((⟨r_3, 0, none⟩ : Addr).add 0) (.string t17) wv_8) ∧ ∃ (t190 : ByteArray) (t191 : Bool) (t192_p : Option Addr) (t192_n : Nat) (t192_c : Nat), (∀ wv_9, Ext wv_6.drew wv_9 → Loads P 44 ((⟨r_3, 0, none⟩ : Addr).add 1) (.agg #[(.string t190), (.bool t191), (.slice t192_p t192_n t192_c)]) wv_9) ∧ Calls P 41 ⟨[(.agg #[(.string t190), (.bool t191), (.slice t192_p t192_n t192_c)])]⟩ wv_6.drew fun e wv_10 =>
      ∃ (t200 : ByteArray) (t201 : Bool) (t202_p : Option Addr) (t202_n : Nat) (t202_c : Nat), e = .returned (.agg #[(.string t200), (.bool t201), (.slice t202_p t202_n t202_c)]) ∧
      Ext wv_6.drew wv_10 ∧ ∀ (r_4 : Nat) (wv_11 : World), New wv_10 (.cells ⟨[(.string t17), (.string t200), (.bool t201), (.slice t202_p t202_n t202_c)]⟩ 54 (0, 0)) r_4 wv_11 →
      Ext wv_10 wv_11 ∧ ∃ (t23_p : Option Addr) (t23_n : Nat) (t23_c : Nat) (wv_12 : World), Appends P [26, 26] [(.slice t15_p t15_n t15_c), (.slice (some ⟨r_4, 0, none⟩) 1 1)] (.slice t23_p t23_n t23_c) wv_11 wv_12 ∧
      ∃ wv_13, Stores P 26 ((⟨r_2, 0, none⟩ : Addr).add 0) (.slice t23_p t23_n t23_c) wv_12 wv_13 ∧
      ∃ t25 : Int, t25 = IntKind.wrap .i64 (t10 + 1) ∧ Inv t25 wv_13 ∧ mu t25 wv_13 < mu t10 wv_4) ∧
    ((decide ((t10 : Int) < ((t8_n : Nat) : Int))) = false →
      ∃ (t260_p : Option Addr) (t260_n : Nat) (t260_c : Nat), Loads P 28 ⟨r_2, 0, none⟩ (.agg #[(.slice t260_p t260_n t260_c)]) wv_4 ∧ ∃ wv_14, Stores P 28 ⟨r_1, 0, none⟩ (.agg #[(.slice t260_p t260_n t260_c)]) wv_4 wv_14 ∧
      ∃ (r0_p : Option Addr) (r0_n : Nat) (r0_c : Nat), Loads P 28 ⟨r_1, 0, none⟩ (.agg #[(.slice r0_p r0_n r0_c)]) wv_14 ∧ R (.agg #[(.slice r0_p r0_n r0_c)]) wv_14)
theorem spec_l17Copy_eq (b0_p : Option Addr) (b0_n : Nat) (b0_c : Nat) (w : World) (R : Value → World → Prop) : spec_l17Copy b0_p b0_n b0_c w R = fsem P Tryd.f21 (fun k => cond (Nat.beq k 4) [(10, .one (.int .i64))] ([])) [(.agg #[(.slice b0_p b0_n b0_c)])] R w := by kernel_rfl
theorem spec_l17Copy_ret {b0_p : Option Addr} {b0_n : Nat} {b0_c : Nat} {w : World} {R : Value → World → Prop} (h : spec_l17Copy b0_p b0_n b0_c w R) : Ret P 21 [(.agg #[(.slice b0_p b0_n b0_c)])] w R :=
  Ret.of_fsem Tryd.func21 rfl (Eq.mp (spec_l17Copy_eq b0_p b0_n b0_c w R) h)
def impl_BookOk (b0_p : Option Addr) (b0_n : Nat) (b0_c : Nat) (w : World) (R : Value → World → Prop) : Prop :=
  ∀ (r : Nat) (wv : World), New w (.cells ⟨[(.slice b0_p b0_n b0_c)]⟩ 28 (0, 0)) r wv →
  ∃ (t6_p : Option Addr) (t6_n : Nat) (t6_c : Nat), Loads P 26 ((⟨r, 0, none⟩ : Addr).add 0) (.slice t6_p t6_n t6_c) wv ∧ ((decide ((12 : Int) < ((t6_n : Nat) : Int))) = true →
    R (.bool false) wv) ∧
  ((decide ((12 : Int) < ((t6_n : Nat) : Int))) = false →
    ∃ (t10_p : Option Addr) (t10_n : Nat) (t10_c : Nat), Loads P 26 ((⟨r, 0, none⟩ : Addr).add 0) (.slice t10_p t10_n t10_c) wv ∧ ∃ (Inv : Int → World → Prop) (mu : Int → World → Nat), Inv 0 wv ∧
    ∀ (junk : Fr) (wv_1 : World) (t12 : Int), Inv t12 wv_1 →
      ((decide ((t12 : Int) < ((t10_n : Nat) : Int))) = true →
        (0 ≤ (t12 : Int) ∧ (t12 : Int) < (t10_n : Nat)) ∧ ptrS t10_p fun ad => ∃ (t160 : ByteArray) (t161 : ByteArray) (t162 : Bool) (t163_p : Option Addr) (t163_n : Nat) (t163_c : Nat), Loads P 54 (ad.add (t12.toNat * 4)) (.agg #[(.string t160), (.string t161), (.bool t162), (.slice t163_p t163_n t163_c)]) wv_1 ∧ ∀ (r_1 : Nat) (wv_2 : World), New wv_1 (.cells ⟨[(.string ByteArray.empty), (.string ByteArray.empty), (.bool false), (.slice none 0 0)]⟩ 54 (0, 0)) r_1 wv_2 →
        ∃ wv_3, Stores P 54 ⟨r_1, 0, none⟩ (.agg #[(.string t160), (.string t161), (.bool t162), (.slice t163_p t163_n t163_c)]) wv_2 wv_3 ∧
        ∃ (t18 : ByteArray), (∀ wv_4, Ext wv_3.drew wv_4 → Loads P 9 ((⟨r_1, 0, none⟩ : Addr).add 0) (.string t18) wv_4) ∧ Calls P 43 ⟨[(.string t18)]⟩ wv_3.drew fun e wv_5 =>
        ∃ (t19 : Bool), e = .returned (.bool t19) ∧
        ((!t19) = true →
          (true = true →
            (true = true →
              R (.bool false) wv_5) ∧
            (true = false →
              ∃ t43 : Int, t43 = IntKind.wrap .i64 (t12 + 1) ∧ Inv t43 wv_5 ∧ mu t43 wv_5 < mu t12 wv_1)) ∧
          (true = false →
            ((decide ((0 : Int) < t12)) = true →
              ∃ (t32_p : Option Addr) (t32_n : Nat) (t32_c : Nat), (∀ wv_6, Ext wv_5 wv_6 → Loads P 26 ((⟨r, 0, none⟩ : Addr).add 0) (.slice t32_p t32_n t32_c) wv_6) ∧ ∃ t34 : Int, t34 = IntKind.wrap .i64 (t12 - 1) ∧ (0 ≤ (t34 : Int) ∧ (t34 : Int) < (t32_n : Nat)) ∧ ptrS t32_p fun ad_1 => ∃ (t37 : ByteArray), (∀ wv_7, Ext wv_5 wv_7 → Loads P 9 ((ad_1.add (t34.toNat * 4)).add 0) (.string t37) wv_7) ∧ ∃ (t39 : ByteArray), (∀ wv_8, Ext wv_5 wv_8 → Loads P 9 ((⟨r_1, 0, none⟩ : Addr).add 0) (.string t39) wv_8) ∧ ((!(Op.bytesLess t37.toList t39.toList)) = true →
                R (.bool false) wv_5) ∧
              ((!(Op.bytesLess t37.toList t39.toList)) = false →
                ∃ t43_1 : Int, t43_1 = IntKind.wrap .i64 (t12 + 1) ∧ Inv t43_1 wv_5 ∧ mu t43_1 wv_5 < mu t12 wv_1)) ∧
            ((decide ((0 : Int) < t12)) = false →
              (false = true →
                R (.bool false) wv_5) ∧
              (false = false →
                ∃ t43_2 : Int, t43_2 = IntKind.wrap .i64 (t12 + 1) ∧ Inv t43_2 wv_5 ∧ mu t43_2 wv_5 < mu t12 wv_1)))) ∧
        ((!t19) = false →
          ∃ (t230 : ByteArray) (t231 : Bool) (t232_p : Option Addr) (t232_n : Nat) (t232_c : Nat), (∀ wv_9, Ext wv_5 wv_9 → Loads P 44 ((⟨r_1, 0, none⟩ : Addr).add 1) (.agg #[(.string t230), (.bool t231), (.slice t232_p t232_n t232_c)]) wv_9) ∧ Calls P 44 ⟨[(.agg #[(.string t230), (.bool t231), (.slice t232_p t232_n t232_c)])]⟩ wv_5 fun e_1 wv_10 =>
          ∃ (t24 : Bool), e_1 = .returned (.bool t24) ∧
          ((!t24) = true →
            (true = true →
              R (.bool false) wv_10) ∧
            (true = false →
              ∃ t43_3 : Int, t43_3 = IntKind.wrap .i64 (t12 + 1) ∧ Inv t43_3 wv_10 ∧ mu t43_3 wv_10 < mu t12 wv_1)) ∧
          ((!t24) = false →
            ((decide ((0 : Int) < t12)) = true →
              ∃ (t32_p_1 : Option Addr) (t32_n_1 : Nat) (t32_c_1 : Nat), (∀ wv_11, Ext wv_10 wv_11 → Loads P 26 ((⟨r, 0, none⟩ : Addr).add 0) (.slice t32_p_1 t32_n_1 t32_c_1) wv_11) ∧ ∃ t34_1 : Int, t34_1 = IntKind.wrap .i64 (t12 - 1) ∧ (0 ≤ (t34_1 : Int) ∧ (t34_1 : Int) < (t32_n_1 : Nat)) ∧ ptrS t32_p_1 fun ad_2 => ∃ (t37_1 : ByteArray), (∀ wv_12, Ext wv_10 wv_12 → Loads P 9 ((ad_2.add (t34_1.toNat * 4)).add 0) (.string t37_1) wv_12) ∧ ∃ (t39_1 : ByteArray), (∀ wv_13, Ext wv_10 wv_13 → Loads P 9 ((⟨r_1, 0, none⟩ : Addr).add 0) (.string t39_1) wv_13) ∧ ((!(Op.bytesLess t37_1.toList t39_1.toList)) = true →
                R (.bool false) wv_10) ∧
              ((!(Op.bytesLess t37_1.toList t39_1.toList)) = false →
                ∃ t43_4 : Int, t43_4 = IntKind.wrap .i64 (t12 + 1) ∧ Inv t43_4 wv_10 ∧ mu t43_4 wv_10 < mu t12 wv_1)) ∧
            ((decide ((0 : Int) < t12)) = false →
              (false = true →
                R (.bool false) wv_10) ∧
              (false = false →
                ∃ t43_5 : Int, t43_5 = IntKind.wrap .i64 (t12 + 1) ∧ Inv t43_5 wv_10 ∧ mu t43_5 wv_10 < mu t12 wv_1))))) ∧
      ((decide ((t12 : Int) < ((t10_n : Nat) : Int))) = false →
        R (.bool true) wv_1))
theorem impl_BookOk_eq (b0_p : Option Addr) (b0_n : Nat) (b0_c : Nat) (w : World) (R : Value → World → Prop) : impl_BookOk b0_p b0_n b0_c w R = fsem P Tryd.f23 (fun k => cond (Nat.beq k 5) [(12, .one (.int .i64))] ([])) [(.agg #[(.slice b0_p b0_n b0_c)])] R w := by kernel_rfl
theorem impl_BookOk_ret {b0_p : Option Addr} {b0_n : Nat} {b0_c : Nat} {w : World} {R : Value → World → Prop} (h : impl_BookOk b0_p b0_n b0_c w R) : Ret P 23 [(.agg #[(.slice b0_p b0_n b0_c)])] w R :=
  Ret.of_fsem Tryd.func23 rfl (Eq.mp (impl_BookOk_eq b0_p b0_n b0_c w R) h)
def impl_AcctAt (b0_p : Option Addr) (b0_n : Nat) (b0_c : Nat) (name : ByteArray) (w : World) (R : Value → World → Prop) : Prop :=
  ∀ (r : Nat) (wv : World), New w (.cells ⟨[(.slice b0_p b0_n b0_c)]⟩ 28 (0, 0)) r wv →
  ∀ (r_1 : Nat) (wv_1 : World), New wv (.cells ⟨[(.string name)]⟩ 9 (0, 0)) r_1 wv_1 →
  ∃ (t6_p : Option Addr) (t6_n : Nat) (t6_c : Nat), Loads P 26 ((⟨r, 0, none⟩ : Addr).add 0) (.slice t6_p t6_n t6_c) wv_1 ∧ Calls P 45 ⟨[(.slice t6_p t6_n t6_c), (.func (.func 46) #[] #[(.pointer (some ⟨r_1, 0, none⟩))])]⟩ wv_1 fun e wv_2 =>
  ∃ (t8 : Int), e = .returned (.int .i64 t8) ∧
  R (.int .i64 t8) wv_2
theorem impl_AcctAt_eq (b0_p : Option Addr) (b0_n : Nat) (b0_c : Nat) (name : ByteArray) (w : World) (R : Value → World → Prop) : impl_AcctAt b0_p b0_n b0_c name w R = fsem P Tryd.f24 (fun k => []) [(.agg #[(.slice b0_p b0_n b0_c)]), (.string name)] R w := by kernel_rfl
theorem impl_AcctAt_ret {b0_p : Option Addr} {b0_n : Nat} {b0_c : Nat} {name : ByteArray} {w : World} {R : Value → World → Prop} (h : impl_AcctAt b0_p b0_n b0_c name w R) : Ret P 24 [(.agg #[(.slice b0_p b0_n b0_c)]), (.string name)] w R :=
  Ret.of_fsem Tryd.func24 rfl (Eq.mp (impl_AcctAt_eq b0_p b0_n b0_c name w R) h)
def impl_changed (b0_p : Option Addr) (b0_n : Nat) (b0_c : Nat) (dov : Value) (w : World) (R : Value → World → Prop) : Prop :=
  ∀ (r : Nat) (wv : World), New w (.cells ⟨[(.slice b0_p b0_n b0_c)]⟩ 28 (0, 0)) r wv →
  ∀ (r_1 : Nat) (wv_1 : World), New wv (.cells ⟨[(.slice none 0 0)]⟩ 28 (0, 0)) r_1 wv_1 →
  ∃ (t70_p : Option Addr) (t70_n : Nat) (t70_c : Nat), Loads P 28 ⟨r, 0, none⟩ (.agg #[(.slice t70_p t70_n t70_c)]) wv_1 ∧ Calls P 47 ⟨[(.agg #[(.slice t70_p t70_n t70_c)])]⟩ wv_1 fun e wv_2 =>
  ∃ (t80_p : Option Addr) (t80_n : Nat) (t80_c : Nat), e = .returned (.agg #[(.slice t80_p t80_n t80_c)]) ∧
  ∀ (r_2 : Nat) (wv_3 : World), New wv_2 (.cells ⟨[(.int .i32 0), (.int .u32 0), (.slice none 0 0)]⟩ 85 (0, 0)) r_2 wv_3 →
  ∃ wv_4, Stores P 85 ⟨r_2, 0, none⟩ (.agg #[(.int .i32 0), (.int .u32 0), (.slice t80_p t80_n t80_c)]) wv_3 wv_4 ∧
  Calls P 48 ⟨[(.pointer (some ⟨r_2, 0, none⟩)), dov]⟩ wv_4 fun e_1 wv_5 =>
  ∃ (t11 : Bool), e_1 = .returned (.bool t11) ∧
  ((!t11) = true →
    ∃ wv_6, Stores P 28 ⟨r_1, 0, none⟩ (.agg #[(.slice none 0 0)]) wv_5 wv_6 ∧
    ∃ (r0_p : Option Addr) (r0_n : Nat) (r0_c : Nat), Loads P 28 ⟨r_1, 0, none⟩ (.agg #[(.slice r0_p r0_n r0_c)]) wv_6 ∧ R (.tuple #[(.agg #[(.slice r0_p r0_n r0_c)]), (.bool false)]) wv_6) ∧
  ((!t11) = false →
    ∃ (t150_p : Option Addr) (t150_n : Nat) (t150_c : Nat), Loads P 28 ((⟨r_2, 0, none⟩ : Addr).add 2) (.agg #[(.slice t150_p t150_n t150_c)]) wv_5 ∧ ∃ wv_7, Stores P 28 ⟨r_1, 0, none⟩ (.agg #[(.slice t150_p t150_n t150_c)]) wv_5 wv_7 ∧
    ∃ (r0_p_1 : Option Addr) (r0_n_1 : Nat) (r0_c_1 : Nat), Loads P 28 ⟨r_1, 0, none⟩ (.agg #[(.slice r0_p_1 r0_n_1 r0_c_1)]) wv_7 ∧ R (.tuple #[(.agg #[(.slice r0_p_1 r0_n_1 r0_c_1)]), (.bool true)]) wv_7)
theorem impl_changed_eq (b0_p : Option Addr) (b0_n : Nat) (b0_c : Nat) (dov : Value) (w : World) (R : Value → World → Prop) : impl_changed b0_p b0_n b0_c dov w R = fsem P Tryd.f25 (fun k => []) [(.agg #[(.slice b0_p b0_n b0_c)]), dov] R w := by kernel_rfl
theorem impl_changed_ret {b0_p : Option Addr} {b0_n : Nat} {b0_c : Nat} {dov : Value} {w : World} {R : Value → World → Prop} (h : impl_changed b0_p b0_n b0_c dov w R) : Ret P 25 [(.agg #[(.slice b0_p b0_n b0_c)]), dov] w R :=
  Ret.of_fsem Tryd.func25 rfl (Eq.mp (impl_changed_eq b0_p b0_n b0_c dov w R) h)
def spec_MoneyAdd (m0 : ByteArray) (m1 : Bool) (m2_p : Option Addr) (m2_n : Nat) (m2_c : Nat) (n0 : ByteArray) (n1 : Bool) (n2_p : Option Addr) (n2_n : Nat) (n2_c : Nat) (w : World) (R : Value → World → Prop) : Prop :=
  ∀ (r : Nat) (wv : World), New w (.cells ⟨[(.string m0), (.bool m1), (.slice m2_p m2_n m2_c)]⟩ 44 (0, 0)) r wv →
  ∀ (r_1 : Nat) (wv_1 : World), New wv (.cells ⟨[(.string n0), (.bool n1), (.slice n2_p n2_n n2_c)]⟩ 44 (0, 0)) r_1 wv_1 →
  ∀ (r_2 : Nat) (wv_2 : World), New wv_1 (.cells ⟨[(.string ByteArray.empty), (.bool false), (.slice none 0 0)]⟩ 44 (0, 0)) r_2 wv_2 →
  ∃ (t60 : ByteArray) (t61 : Bool) (t62_p : Option Addr) (t62_n : Nat) (t62_c : Nat), Loads P 44 ⟨r, 0, none⟩ (.agg #[(.string t60), (.bool t61), (.slice t62_p t62_n t62_c)]) wv_2 ∧ ∃ (t70 : ByteArray) (t71 : Bool) (t72_p : Option Addr) (t72_n : Nat) (t72_c : Nat), Loads P 44 ⟨r_1, 0, none⟩ (.agg #[(.string t70), (.bool t71), (.slice t72_p t72_n t72_c)]) wv_2 ∧ Calls P 56 ⟨[(.agg #[(.string t60), (.bool t61), (.slice t62_p t62_n t62_c)]), (.agg #[(.string t70), (.bool t71), (.slice t72_p t72_n t72_c)])]⟩ wv_2 fun e wv_3 =>
  ∃ (t8 : Bool), e = .returned (.bool t8) ∧
  ((!t8) = true →
    ∃ wv_4, Stores P 44 ⟨r_2, 0, none⟩ (.agg #[(.string ByteArray.empty), (.bool false), (.slice none 0 0)]) wv_3 wv_4 ∧
    ∃ (r0 : ByteArray) (r1 : Bool) (r2_p : Option Addr) (r2_n : Nat) (r2_c : Nat), Loads P 44 ⟨r_2, 0, none⟩ (.agg #[(.string r0), (.bool r1), (.slice r2_p r2_n r2_c)]) wv_4 ∧ R (.tuple #[(.agg #[(.string r0), (.bool r1), (.slice r2_p r2_n r2_c)]), (.bool false)]) wv_4) ∧
  ((!t8) = false →
    ∃ (t12 : ByteArray), (∀ wv_5, Ext wv_3.drew wv_5 → Loads P 9 ((⟨r, 0, none⟩ : Addr).add 0) (.string t12) wv_5) ∧ ∃ (t140 : Bool) (t141_p : Option Addr) (t141_n : Nat) (t141_c : Nat), (∀ wv_6, Ext wv_3.drew wv_6 → Loads P 42 ((⟨r, 0, none⟩ : Addr).add 1) (.agg #[(.bool t140), (.slice t141_p t141_n t141_c)]) wv_6) ∧ ∃ (t160 : Bool) (t161_p : Option Addr) (t161_n : Nat) (t161_c : Nat), (∀ wv_7, Ext wv_3.drew wv_7 → Loads P 42 ((⟨r_1, 0, none⟩ : Addr).add 1) (.agg #[(.bool t160), (.slice t161_p t161_n t161_c)]) wv_7) ∧ Calls P 58 ⟨[(.agg #[(.bool t140), (.slice t141_p t141_n t141_c)]), (.agg #[(.bool t160), (.slice t161_p t161_n t161_c)])]⟩ wv_3.drew fun e_1 wv_8 =>
    ∃ (t170 : Bool) (t171_p : Option Addr) (t171_n : Nat) (t171_c : Nat), e_1 = .returned (.agg #[(.bool t170), (.slice t171_p t171_n t171_c)]) ∧
    Ext wv_3.drew wv_8 ∧ Calls P 57 ⟨[(.string t12), (.agg #[(.bool t170), (.slice t171_p t171_n t171_c)])]⟩ wv_8 fun e_2 wv_9 =>
    ∃ (t180 : ByteArray) (t181 : Bool) (t182_p : Option Addr) (t182_n : Nat) (t182_c : Nat) (t18 : Bool), e_2 = .returned (.tuple #[(.agg #[(.string t180), (.bool t181), (.slice t182_p t182_n t182_c)]), (.bool t18)]) ∧
    ∃ wv_10, Stores P 44 ⟨r_2, 0, none⟩ (.agg #[(.string t180), (.bool t181), (.slice t182_p t182_n t182_c)]) wv_9 wv_10 ∧
    ∃ (r0_1 : ByteArray) (r1_1 : Bool) (r2_p_1 : Option Addr) (r2_n_1 : Nat) (r2_c_1 : Nat), Loads P 44 ⟨r_2, 0, none⟩ (.agg #[(.string r0_1), (.bool r1_1), (.slice r2_p_1 r2_n_1 r2_c_1)]) wv_10 ∧ R (.tuple #[(.agg #[(.string r0_1), (.bool r1_1), (.slice r2_p_1 r2_n_1 r2_c_1)]), (.bool t18)]) wv_10)
theorem spec_MoneyAdd_eq (m0 : ByteArray) (m1 : Bool) (m2_p : Option Addr) (m2_n : Nat) (m2_c : Nat) (n0 : ByteArray) (n1 : Bool) (n2_p : Option Addr) (n2_n : Nat) (n2_c : Nat) (w : World) (R : Value → World → Prop) : spec_MoneyAdd m0 m1 m2_p m2_n m2_c n0 n1 n2_p n2_n n2_c w R = fsem P Tryd.f32 (fun k => []) [(.agg #[(.string m0), (.bool m1), (.slice m2_p m2_n m2_c)]), (.agg #[(.string n0), (.bool n1), (.slice n2_p n2_n n2_c)])] R w := by kernel_rfl
theorem spec_MoneyAdd_ret {m0 : ByteArray} {m1 : Bool} {m2_p : Option Addr} {m2_n : Nat} {m2_c : Nat} {n0 : ByteArray} {n1 : Bool} {n2_p : Option Addr} {n2_n : Nat} {n2_c : Nat} {w : World} {R : Value → World → Prop} (h : spec_MoneyAdd m0 m1 m2_p m2_n m2_c n0 n1 n2_p n2_n n2_c w R) : Ret P 32 [(.agg #[(.string m0), (.bool m1), (.slice m2_p m2_n m2_c)]), (.agg #[(.string n0), (.bool n1), (.slice n2_p n2_n n2_c)])] w R :=
  Ret.of_fsem Tryd.func32 rfl (Eq.mp (spec_MoneyAdd_eq m0 m1 m2_p m2_n m2_c n0 n1 n2_p n2_n n2_c w R) h)
def impl_BookPost_1 (b : Option Addr) (cap0 : Option Addr) (cap1 : Option Addr) (w : World) (R : Value → World → Prop) : Prop :=
  ptrS b fun ad => ∃ (t11_p : Option Addr) (t11_n : Nat) (t11_c : Nat), (∀ wv, Ext w.drew wv → Loads P 26 (ad.add 0) (.slice t11_p t11_n t11_c) wv) ∧ ptrS cap0 fun ad_1 => ∃ (t12 : Int), (∀ wv_1, Ext w.drew wv_1 → Loads P 3 ad_1 (.int .i64 t12) wv_1) ∧ (0 ≤ (t12 : Int) ∧ (t12 : Int) < (t11_n : Nat)) ∧ ptrS t11_p fun ad_2 => ∃ (t150 : ByteArray) (t151 : Bool) (t152_p : Option Addr) (t152_n : Nat) (t152_c : Nat), (∀ wv_2, Ext w.drew wv_2 → Loads P 44 ((ad_2.add (t12.toNat * 4)).add 1) (.agg #[(.string t150), (.bool t151), (.slice t152_p t152_n t152_c)]) wv_2) ∧ ptrS cap1 fun ad_3 => ∃ (t160 : ByteArray) (t161 : Bool) (t162_p : Option Addr) (t162_n : Nat) (t162_c : Nat), (∀ wv_3, Ext w.drew wv_3 → Loads P 44 ad_3 (.agg #[(.string t160), (.bool t161), (.slice t162_p t162_n t162_c)]) wv_3) ∧ ∀ (ss : List (Option Nat)) (wv_4 : World), Fl [.cells ⟨[(.string ByteArray.empty), (.bool false), (.slice none 0 0)]⟩ 44 (0, 0)] [none] w.drew ss wv_4 →
  Calls P 35 ⟨[(.agg #[(.string t150), (.bool t151), (.slice t152_p t152_n t152_c)]), (.agg #[(.string t160), (.bool t161), (.slice t162_p t162_n t162_c)])]⟩ wv_4 fun e wv_5 =>
  ∃ (t170 : ByteArray) (t171 : Bool) (t172_p : Option Addr) (t172_n : Nat) (t172_c : Nat) (t17 : Bool), e = .returned (.tuple #[(.agg #[(.string t170), (.bool t171), (.slice t172_p t172_n t172_c)]), (.bool t17)]) ∧
  ∀ (ss_1 : List (Option Nat)) (wv_6 : World) (r : Nat), Fl [.cells ⟨[(.string ByteArray.empty), (.bool false), (.slice none 0 0)]⟩ 44 (0, 0)] ss wv_5 ss_1 wv_6 → ss_1[0]? = some (some r) →
  ∃ wv_7, Stores P 44 ⟨r, 0, none⟩ (.agg #[(.string t170), (.bool t171), (.slice t172_p t172_n t172_c)]) wv_6 wv_7 ∧
  ptrS b fun ad_4 => ∃ (t23_p : Option Addr) (t23_n : Nat) (t23_c : Nat), (∀ wv_8, Ext wv_7.drew wv_8 → Loads P 26 (ad_4.add 0) (.slice t23_p t23_n t23_c) wv_8) ∧ ptrS cap0 fun ad_5 => ∃ (t24 : Int), (∀ wv_9, Ext wv_7.drew wv_9 → Loads P 3 ad_5 (.int .i64 t24) wv_9) ∧ ∃ (t250 : ByteArray) (t251 : Bool) (t252_p : Option Addr) (t252_n : Nat) (t252_c : Nat), (∀ wv_10, Ext wv_7.drew wv_10 → Loads P 44 ⟨r, 0, none⟩ (.agg #[(.string t250), (.bool t251), (.slice t252_p t252_n t252_c)]) wv_10) ∧ (0 ≤ (t24 : Int) ∧ (t24 : Int) < (t23_n : Nat)) ∧ ptrS t23_p fun ad_6 => ∃ wv_11, Stores P 44 ((ad_6.add (t24.toNat * 4)).add 1) (.agg #[(.string t250), (.bool t251), (.slice t252_p t252_n t252_c)]) wv_7.drew wv_11 ∧
  R (.bool t17) wv_11
theorem impl_BookPost_1_eq (b : Option Addr) (cap0 : Option Addr) (cap1 : Option Addr) (w : World) (R : Value → World → Prop) : impl_BookPost_1 b cap0 cap1 w R = fsem P Tryd.f34 (fun k => []) [(.pointer b), (.pointer cap0), (.pointer cap1)] R w := by kernel_rfl
theorem impl_BookPost_1_ret {b : Option Addr} {cap0 : Option Addr} {cap1 : Option Addr} {w : World} {R : Value → World → Prop} (h : impl_BookPost_1 b cap0 cap1 w R) : Ret P 34 [(.pointer b), (.pointer cap0), (.pointer cap1)] w R :=
  Ret.of_fsem Tryd.func34 rfl (Eq.mp (impl_BookPost_1_eq b cap0 cap1 w R) h)
def impl_MoneyAdd (m0 : ByteArray) (m1 : Bool) (m2_p : Option Addr) (m2_n : Nat) (m2_c : Nat) (n0 : ByteArray) (n1 : Bool) (n2_p : Option Addr) (n2_n : Nat) (n2_c : Nat) (w : World) (R : Value → World → Prop) : Prop :=
  ∀ (r : Nat) (wv : World), New w (.cells ⟨[(.string m0), (.bool m1), (.slice m2_p m2_n m2_c)]⟩ 44 (0, 0)) r wv →
  ∀ (r_1 : Nat) (wv_1 : World), New wv (.cells ⟨[(.string n0), (.bool n1), (.slice n2_p n2_n n2_c)]⟩ 44 (0, 0)) r_1 wv_1 →
  ∀ (r_2 : Nat) (wv_2 : World), New wv_1 (.cells ⟨[(.string ByteArray.empty), (.bool false), (.slice none 0 0)]⟩ 44 (0, 0)) r_2 wv_2 →
  ∃ (t60 : ByteArray) (t61 : Bool) (t62_p : Option Addr) (t62_n : Nat) (t62_c : Nat), Loads P 44 ⟨r, 0, none⟩ (.agg #[(.string t60), (.bool t61), (.slice t62_p t62_n t62_c)]) wv_2 ∧ ∃ (t70 : ByteArray) (t71 : Bool) (t72_p : Option Addr) (t72_n : Nat) (t72_c : Nat), Loads P 44 ⟨r_1, 0, none⟩ (.agg #[(.string t70), (.bool t71), (.slice t72_p t72_n t72_c)]) wv_2 ∧ Calls P 60 ⟨[(.agg #[(.string t60), (.bool t61), (.slice t62_p t62_n t62_c)]), (.agg #[(.string t70), (.bool t71), (.slice t72_p t72_n t72_c)])]⟩ wv_2 fun e wv_3 =>
  ∃ (t8 : Bool), e = .returned (.bool t8) ∧
  ((!t8) = true →
    ∃ wv_4, Stores P 44 ⟨r_2, 0, none⟩ (.agg #[(.string ByteArray.empty), (.bool false), (.slice none 0 0)]) wv_3 wv_4 ∧
    ∃ (r0 : ByteArray) (r1 : Bool) (r2_p : Option Addr) (r2_n : Nat) (r2_c : Nat), Loads P 44 ⟨r_2, 0, none⟩ (.agg #[(.string r0), (.bool r1), (.slice r2_p r2_n r2_c)]) wv_4 ∧ R (.tuple #[(.agg #[(.string r0), (.bool r1), (.slice r2_p r2_n r2_c)]), (.bool false)]) wv_4) ∧
  ((!t8) = false →
    ∃ (t12 : ByteArray), (∀ wv_5, Ext wv_3.drew wv_5 → Loads P 9 ((⟨r, 0, none⟩ : Addr).add 0) (.string t12) wv_5) ∧ ∃ (t140 : Bool) (t141_p : Option Addr) (t141_n : Nat) (t141_c : Nat), (∀ wv_6, Ext wv_3.drew wv_6 → Loads P 42 ((⟨r, 0, none⟩ : Addr).add 1) (.agg #[(.bool t140), (.slice t141_p t141_n t141_c)]) wv_6) ∧ ∃ (t160 : Bool) (t161_p : Option Addr) (t161_n : Nat) (t161_c : Nat), (∀ wv_7, Ext wv_3.drew wv_7 → Loads P 42 ((⟨r_1, 0, none⟩ : Addr).add 1) (.agg #[(.bool t160), (.slice t161_p t161_n t161_c)]) wv_7) ∧ Calls P 62 ⟨[(.agg #[(.bool t140), (.slice t141_p t141_n t141_c)]), (.agg #[(.bool t160), (.slice t161_p t161_n t161_c)])]⟩ wv_3.drew fun e_1 wv_8 =>
    ∃ (t170 : Bool) (t171_p : Option Addr) (t171_n : Nat) (t171_c : Nat), e_1 = .returned (.agg #[(.bool t170), (.slice t171_p t171_n t171_c)]) ∧
    Ext wv_3.drew wv_8 ∧ Calls P 61 ⟨[(.string t12), (.agg #[(.bool t170), (.slice t171_p t171_n t171_c)])]⟩ wv_8 fun e_2 wv_9 =>
    ∃ (t180 : ByteArray) (t181 : Bool) (t182_p : Option Addr) (t182_n : Nat) (t182_c : Nat) (t18 : Bool), e_2 = .returned (.tuple #[(.agg #[(.string t180), (.bool t181), (.slice t182_p t182_n t182_c)]), (.bool t18)]) ∧
    ∃ wv_10, Stores P 44 ⟨r_2, 0, none⟩ (.agg #[(.string t180), (.bool t181), (.slice t182_p t182_n t182_c)]) wv_9 wv_10 ∧
    ∃ (r0_1 : ByteArray) (r1_1 : Bool) (r2_p_1 : Option Addr) (r2_n_1 : Nat) (r2_c_1 : Nat), Loads P 44 ⟨r_2, 0, none⟩ (.agg #[(.string r0_1), (.bool r1_1), (.slice r2_p_1 r2_n_1 r2_c_1)]) wv_10 ∧ R (.tuple #[(.agg #[(.string r0_1), (.bool r1_1), (.slice r2_p_1 r2_n_1 r2_c_1)]), (.bool t18)]) wv_10)
theorem impl_MoneyAdd_eq (m0 : ByteArray) (m1 : Bool) (m2_p : Option Addr) (m2_n : Nat) (m2_c : Nat) (n0 : ByteArray) (n1 : Bool) (n2_p : Option Addr) (n2_n : Nat) (n2_c : Nat) (w : World) (R : Value → World → Prop) : impl_MoneyAdd m0 m1 m2_p m2_n m2_c n0 n1 n2_p n2_n n2_c w R = fsem P Tryd.f35 (fun k => []) [(.agg #[(.string m0), (.bool m1), (.slice m2_p m2_n m2_c)]), (.agg #[(.string n0), (.bool n1), (.slice n2_p n2_n n2_c)])] R w := by kernel_rfl
theorem impl_MoneyAdd_ret {m0 : ByteArray} {m1 : Bool} {m2_p : Option Addr} {m2_n : Nat} {m2_c : Nat} {n0 : ByteArray} {n1 : Bool} {n2_p : Option Addr} {n2_n : Nat} {n2_c : Nat} {w : World} {R : Value → World → Prop} (h : impl_MoneyAdd m0 m1 m2_p m2_n m2_c n0 n1 n2_p n2_n n2_c w R) : Ret P 35 [(.agg #[(.string m0), (.bool m1), (.slice m2_p m2_n m2_c)]), (.agg #[(.string n0), (.bool n1), (.slice n2_p n2_n n2_c)])] w R :=
  Ret.of_fsem Tryd.func35 rfl (Eq.mp (impl_MoneyAdd_eq m0 m1 m2_p m2_n m2_c n0 n1 n2_p n2_n n2_c w R) h)
def spec_IsWord (s : ByteArray) (w : World) (R : Value → World → Prop) : Prop :=
  Calls P 64 ⟨[(.string s), (.int .u8 97), (.int .u8 122), (.int .u8 48), (.int .u8 57)]⟩ w fun e wv =>
  ∃ (t4 : Bool), e = .returned (.bool t4) ∧
  (t4 = true →
    ((decide ((((s.size : Nat) : Int) : Int) ≤ 12)) = true →
      0 ≤ (0 : Int) ∧ ∃ b : UInt8, s[0]? = some b ∧ R (.bool (decide ((97 : Int) ≤ ((b.toNat : Nat) : Int)))) wv) ∧
    ((decide ((((s.size : Nat) : Int) : Int) ≤ 12)) = false →
      R (.bool false) wv)) ∧
  (t4 = false →
    (false = true →
      0 ≤ (0 : Int) ∧ ∃ b_1 : UInt8, s[0]? = some b_1 ∧ R (.bool (decide ((97 : Int) ≤ ((b_1.toNat : Nat) : Int)))) wv) ∧
    (false = false →
      R (.bool false) wv))
theorem spec_IsWord_eq (s : ByteArray) (w : World) (R : Value → World → Prop) : spec_IsWord s w R = fsem P Tryd.f39 (fun k => []) [(.string s)] R w := by kernel_rfl
theorem spec_IsWord_ret {s : ByteArray} {w : World} {R : Value → World → Prop} (h : spec_IsWord s w R) : Ret P 39 [(.string s)] w R :=
  Ret.of_fsem Tryd.func39 rfl (Eq.mp (spec_IsWord_eq s w R) h)
def spec_MoneyOk (m0 : ByteArray) (m1 : Bool) (m2_p : Option Addr) (m2_n : Nat) (m2_c : Nat) (w : World) (R : Value → World → Prop) : Prop :=
  ∀ (r : Nat) (wv : World), New w (.cells ⟨[(.string m0), (.bool m1), (.slice m2_p m2_n m2_c)]⟩ 44 (0, 0)) r wv →
  ∃ (t4 : ByteArray), Loads P 9 ((⟨r, 0, none⟩ : Addr).add 0) (.string t4) wv ∧ Calls P 65 ⟨[(.string t4)]⟩ wv fun e wv_1 =>
  ∃ (t5 : Bool), e = .returned (.bool t5) ∧
  (t5 = true →
    ∃ (t80 : Bool) (t81_p : Option Addr) (t81_n : Nat) (t81_c : Nat), Loads P 42 ((⟨r, 0, none⟩ : Addr).add 1) (.agg #[(.bool t80), (.slice t81_p t81_n t81_c)]) wv_1 ∧ Calls P 66 ⟨[(.agg #[(.bool t80), (.slice t81_p t81_n t81_c)])]⟩ wv_1 fun e_1 wv_2 =>
    ∃ (t9 : Bool), e_1 = .returned (.bool t9) ∧
    (t9 = true →
      ∃ (t14_p : Option Addr) (t14_n : Nat) (t14_c : Nat), Loads P 35 (((⟨r, 0, none⟩ : Addr).add 1).add 1) (.slice t14_p t14_n t14_c) wv_2 ∧ R (.bool (decide ((((t14_n : Nat) : Int) : Int) ≤ 4))) wv_2) ∧
    (t9 = false →
      R (.bool false) wv_2)) ∧
  (t5 = false →
    (false = true →
      ∃ (t14_p_1 : Option Addr) (t14_n_1 : Nat) (t14_c_1 : Nat), Loads P 35 (((⟨r, 0, none⟩ : Addr).add 1).add 1) (.slice t14_p_1 t14_n_1 t14_c_1) wv_1 ∧ R (.bool (decide ((((t14_n_1 : Nat) : Int) : Int) ≤ 4))) wv_1) ∧
    (false = false →
      R (.bool false) wv_1))
theorem spec_MoneyOk_eq (m0 : ByteArray) (m1 : Bool) (m2_p : Option Addr) (m2_n : Nat) (m2_c : Nat) (w : World) (R : Value → World → Prop) : spec_MoneyOk m0 m1 m2_p m2_n m2_c w R = fsem P Tryd.f40 (fun k => []) [(.agg #[(.string m0), (.bool m1), (.slice m2_p m2_n m2_c)])] R w := by kernel_rfl
theorem spec_MoneyOk_ret {m0 : ByteArray} {m1 : Bool} {m2_p : Option Addr} {m2_n : Nat} {m2_c : Nat} {w : World} {R : Value → World → Prop} (h : spec_MoneyOk m0 m1 m2_p m2_n m2_c w R) : Ret P 40 [(.agg #[(.string m0), (.bool m1), (.slice m2_p m2_n m2_c)])] w R :=
  Ret.of_fsem Tryd.func40 rfl (Eq.mp (spec_MoneyOk_eq m0 m1 m2_p m2_n m2_c w R) h)
def spec_l17Money (m0 : ByteArray) (m1 : Bool) (m2_p : Option Addr) (m2_n : Nat) (m2_c : Nat) (w : World) (R : Value → World → Prop) : Prop :=
  ∀ (r : Nat) (wv : World), New w (.cells ⟨[(.string m0), (.bool m1), (.slice m2_p m2_n m2_c)]⟩ 44 (0, 0)) r wv →
  ∀ (r_1 : Nat) (wv_1 : World), New wv (.cells ⟨[(.string ByteArray.empty), (.bool false), (.slice none 0 0)]⟩ 44 (0, 0)) r_1 wv_1 →
  ∃ (t4 : ByteArray), (∀ wv_2, Ext wv_1.drew wv_2 → Loads P 9 ((⟨r, 0, none⟩ : Addr).add 0) (.string t4) wv_2) ∧ ∃ (t7 : Bool), (∀ wv_3, Ext wv_1.drew wv_3 → Loads P 4 (((⟨r, 0, none⟩ : Addr).add 1).add 0) (.bool t7) wv_3) ∧ ∀ (r_2 : Nat) (wv_4 : World), New wv_1.drew (.cells ⟨[]⟩ 3 (0, 0)) r_2 wv_4 →
  Ext wv_1.drew wv_4 ∧ ∃ (t11_p : Option Addr) (t11_n : Nat) (t11_c : Nat), (∀ wv_5, Ext wv_1.drew wv_5 → Loads P 35 (((⟨r, 0, none⟩ : Addr).add 1).add 1) (.slice t11_p t11_n t11_c) wv_5) ∧ ∃ (t12_p : Option Addr) (t12_n : Nat) (t12_c : Nat) (wv_6 : World), Appends P [35, 35] [(.slice (some ⟨r_2, 0, none⟩) 0 0), (.slice t11_p t11_n t11_c)] (.slice t12_p t12_n t12_c) wv_4 wv_6 ∧
  Ext wv_4 wv_6 ∧ ∃ wv_7, Stores P 44 ⟨r_1, 0, none⟩ (.agg #[(.string t4), (.bool t7), (.slice t12_p t12_n t12_c)]) wv_6 wv_7 ∧
  ∃ (r0 : ByteArray) (r1 : Bool) (r2_p : Option Addr) (r2_n : Nat) (r2_c : Nat), Loads P 44 ⟨r_1, 0, none⟩ (.agg #[(.string r0), (.bool r1), (.slice r2_p r2_n r2_c)]) wv_7 ∧ R (.agg #[(.string r0), (.bool r1), (.slice r2_p r2_n r2_c)]) wv_7
theorem spec_l17Money_eq (m0 : ByteArray) (m1 : Bool) (m2_p : Option Addr) (m2_n : Nat) (m2_c : Nat) (w : World) (R : Value → World → Prop) : spec_l17Money m0 m1 m2_p m2_n m2_c w R = fsem P Tryd.f41 (fun k => []) [(.agg #[(.string m0), (.bool m1), (.slice m2_p m2_n m2_c)])] R w := by kernel_rfl
theorem spec_l17Money_ret {m0 : ByteArray} {m1 : Bool} {m2_p : Option Addr} {m2_n : Nat} {m2_c : Nat} {w : World} {R : Value → World → Prop} (h : spec_l17Money m0 m1 m2_p m2_n m2_c w R) : Ret P 41 [(.agg #[(.string m0), (.bool m1), (.slice m2_p m2_n m2_c)])] w R :=
  Ret.of_fsem Tryd.func41 rfl (Eq.mp (spec_l17Money_eq m0 m1 m2_p m2_n m2_c w R) h)
def impl_IsWord_j0 (s : ByteArray) (W : World) (R : Value → World → Prop) : Prop :=
  ∃ (Inv : Int → World → Prop) (mu : Int → World → Nat), Inv 1 W ∧
  ∀ (junk : Fr) (wv : World) (i : Int), Inv i wv →
    ((decide ((i : Int) < ((s.size : Nat) : Int))) = true →
      0 ≤ (i : Int) ∧ ∃ b : UInt8, s[i.toNat]? = some b ∧ Calls P 67 ⟨[(.int .u8 ((b.toNat : Nat) : Int))]⟩ wv fun e wv_1 =>
      ∃ (t27 : Bool), e = .returned (.bool t27) ∧
      ((!t27) = true →
        0 ≤ (i : Int) ∧ ∃ b_1 : UInt8, s[i.toNat]? = some b_1 ∧ Calls P 68 ⟨[(.int .u8 ((b_1.toNat : Nat) : Int))]⟩ wv_1 fun e_1 wv_2 =>
        ∃ (t33 : Bool), e_1 = .returned (.bool t33) ∧
        ((!t33) = true →
          R (.bool false) wv_2) ∧
        ((!t33) = false →
          ∃ t23 : Int, t23 = IntKind.wrap .i64 (i + 1) ∧ Inv t23 wv_2 ∧ mu t23 wv_2 < mu i wv)) ∧
      ((!t27) = false →
        (false = true →
          R (.bool false) wv_1) ∧
        (false = false →
          ∃ t23_1 : Int, t23_1 = IntKind.wrap .i64 (i + 1) ∧ Inv t23_1 wv_1 ∧ mu t23_1 wv_1 < mu i wv))) ∧
    ((decide ((i : Int) < ((s.size : Nat) : Int))) = false →
      R (.bool true) wv)
def impl_IsWord (s : ByteArray) (w : World) (R : Value → World → Prop) : Prop :=
  ((decide ((((s.size : Nat) : Int) : Int) < 1)) = true →
    (true = true →
      (true = true →
        R (.bool false) w) ∧
      (true = false →
        impl_IsWord_j0 s w R)) ∧
    (true = false →
      0 ≤ (0 : Int) ∧ ∃ b_2 : UInt8, s[0]? = some b_2 ∧ Calls P 67 ⟨[(.int .u8 ((b_2.toNat : Nat) : Int))]⟩ w fun e_2 wv_3 =>
      ∃ (t15 : Bool), e_2 = .returned (.bool t15) ∧
      ((!t15) = true →
        R (.bool false) wv_3) ∧
      ((!t15) = false →
        impl_IsWord_j0 s wv_3 R))) ∧
  ((decide ((((s.size : Nat) : Int) : Int) < 1)) = false →
    ((decide ((12 : Int) < ((s.size : Nat) : Int))) = true →
      (true = true →
        R (.bool false) w) ∧
      (true = false →
        impl_IsWord_j0 s w R)) ∧
    ((decide ((12 : Int) < ((s.size : Nat) : Int))) = false →
      0 ≤ (0 : Int) ∧ ∃ b_3 : UInt8, s[0]? = some b_3 ∧ Calls P 67 ⟨[(.int .u8 ((b_3.toNat : Nat) : Int))]⟩ w fun e_3 wv_4 =>
      ∃ (t15_1 : Bool), e_3 = .returned (.bool t15_1) ∧
      ((!t15_1) = true →
        R (.bool false) wv_4) ∧
      ((!t15_1) = false →
        impl_IsWord_j0 s wv_4 R)))
theorem impl_IsWord_eq (s : ByteArray) (w : World) (R : Value → World → Prop) : impl_IsWord s w R = fsem P Tryd.f43 (fun k => cond (Nat.beq k 5) [(3, .one (.int .i64))] ([])) [(.string s)] R w := by kernel_rfl
theorem impl_IsWord_ret {s : ByteArray} {w : World} {R : Value → World → Prop} (h : impl_IsWord s w R) : Ret P 43 [(.string s)] w R :=
  Ret.of_fsem Tryd.func43 rfl (Eq.mp (impl_IsWord_eq s w R) h)
def impl_MoneyOk (m0 : ByteArray) (m1 : Bool) (m2_p : Option Addr) (m2_n : Nat) (m2_c : Nat) (w : World) (R : Value → World → Prop) : Prop :=
  ∀ (r : Nat) (wv : World), New w (.cells ⟨[(.string m0), (.bool m1), (.slice m2_p m2_n m2_c)]⟩ 44 (0, 0)) r wv →
  ∃ (t4 : ByteArray), Loads P 9 ((⟨r, 0, none⟩ : Addr).add 0) (.string t4) wv ∧ Calls P 69 ⟨[(.string t4)]⟩ wv fun e wv_1 =>
  ∃ (t5 : Bool), e = .returned (.bool t5) ∧
  (t5 = true →
    ∃ (t80 : Bool) (t81_p : Option Addr) (t81_n : Nat) (t81_c : Nat), Loads P 42 ((⟨r, 0, none⟩ : Addr).add 1) (.agg #[(.bool t80), (.slice t81_p t81_n t81_c)]) wv_1 ∧ Calls P 70 ⟨[(.agg #[(.bool t80), (.slice t81_p t81_n t81_c)])]⟩ wv_1 fun e_1 wv_2 =>
    ∃ (t9 : Bool), e_1 = .returned (.bool t9) ∧
    (t9 = true →
      ∃ (t14_p : Option Addr) (t14_n : Nat) (t14_c : Nat), Loads P 35 (((⟨r, 0, none⟩ : Addr).add 1).add 1) (.slice t14_p t14_n t14_c) wv_2 ∧ R (.bool (decide ((((t14_n : Nat) : Int) : Int) ≤ 4))) wv_2) ∧
    (t9 = false →
      R (.bool false) wv_2)) ∧
  (t5 = false →
    (false = true →
      ∃ (t14_p_1 : Option Addr) (t14_n_1 : Nat) (t14_c_1 : Nat), Loads P 35 (((⟨r, 0, none⟩ : Addr).add 1).add 1) (.slice t14_p_1 t14_n_1 t14_c_1) wv_1 ∧ R (.bool (decide ((((t14_n_1 : Nat) : Int) : Int) ≤ 4))) wv_1) ∧
    (false = false →
      R (.bool false) wv_1))
theorem impl_MoneyOk_eq (m0 : ByteArray) (m1 : Bool) (m2_p : Option Addr) (m2_n : Nat) (m2_c : Nat) (w : World) (R : Value → World → Prop) : impl_MoneyOk m0 m1 m2_p m2_n m2_c w R = fsem P Tryd.f44 (fun k => []) [(.agg #[(.string m0), (.bool m1), (.slice m2_p m2_n m2_c)])] R w := by kernel_rfl
theorem impl_MoneyOk_ret {m0 : ByteArray} {m1 : Bool} {m2_p : Option Addr} {m2_n : Nat} {m2_c : Nat} {w : World} {R : Value → World → Prop} (h : impl_MoneyOk m0 m1 m2_p m2_n m2_c w R) : Ret P 44 [(.agg #[(.string m0), (.bool m1), (.slice m2_p m2_n m2_c)])] w R :=
  Ret.of_fsem Tryd.func44 rfl (Eq.mp (impl_MoneyOk_eq m0 m1 m2_p m2_n m2_c w R) h)
def slices_IndexFunc_impl_Acct_impl_Acct (s_p : Option Addr) (s_n : Nat) (s_c : Nat) (f : Value) (w : World) (R : Value → World → Prop) : Prop :=
  ∃ (Inv : Int → World → Prop) (mu : Int → World → Nat), Inv 0 w ∧
  ∀ (junk : Fr) (wv : World) (t8 : Int), Inv t8 wv →
    ((decide ((t8 : Int) < ((s_n : Nat) : Int))) = true →
      (0 ≤ (t8 : Int) ∧ (t8 : Int) < (s_n : Nat)) ∧ ptrS s_p fun ad => ∃ (t150 : ByteArray) (t151 : ByteArray) (t152 : Bool) (t153_p : Option Addr) (t153_n : Nat) (t153_c : Nat), Loads P 54 (ad.add (t8.toNat * 4)) (.agg #[(.string t150), (.string t151), (.bool t152), (.slice t153_p t153_n t153_c)]) wv ∧ CallW P f [(.agg #[(.string t150), (.string t151), (.bool t152), (.slice t153_p t153_n t153_c)])] wv fun e wv_1 =>
      ∃ (t16 : Bool), e = .returned (.bool t16) ∧
      (t16 = true →
        R (.int .i64 t8) wv_1) ∧
      (t16 = false →
        ∃ t18 : Int, t18 = IntKind.wrap .i64 (t8 + 1) ∧ Inv t18 wv_1 ∧ mu t18 wv_1 < mu t8 wv)) ∧
    ((decide ((t8 : Int) < ((s_n : Nat) : Int))) = false →
      R (.int .i64 (-1)) wv)
theorem slices_IndexFunc_impl_Acct_impl_Acct_eq (s_p : Option Addr) (s_n : Nat) (s_c : Nat) (f : Value) (w : World) (R : Value → World → Prop) : slices_IndexFunc_impl_Acct_impl_Acct s_p s_n s_c f w R = fsem P Tryd.f45 (fun k => cond (Nat.beq k 3) [(8, .one (.int .i64))] ([])) [(.slice s_p s_n s_c), f] R w := by kernel_rfl
theorem slices_IndexFunc_impl_Acct_impl_Acct_ret {s_p : Option Addr} {s_n : Nat} {s_c : Nat} {f : Value} {w : World} {R : Value → World → Prop} (h : slices_IndexFunc_impl_Acct_impl_Acct s_p s_n s_c f w R) : Ret P 45 [(.slice s_p s_n s_c), f] w R :=
  Ret.of_fsem Tryd.func45 rfl (Eq.mp (slices_IndexFunc_impl_Acct_impl_Acct_eq s_p s_n s_c f w R) h)
def impl_AcctAt_1 (a0 : ByteArray) (a1 : ByteArray) (a2 : Bool) (a3_p : Option Addr) (a3_n : Nat) (a3_c : Nat) (cap0 : Option Addr) (w : World) (R : Value → World → Prop) : Prop :=
  ∀ (r : Nat) (wv : World), New w (.cells ⟨[(.string a0), (.string a1), (.bool a2), (.slice a3_p a3_n a3_c)]⟩ 54 (0, 0)) r wv →
  ∃ (t5 : ByteArray), Loads P 9 ((⟨r, 0, none⟩ : Addr).add 0) (.string t5) wv ∧ ptrS cap0 fun ad => ∃ (t6 : ByteArray), Loads P 9 ad (.string t6) wv ∧ R (.bool (decide (t5 = t6))) wv
theorem impl_AcctAt_1_eq (a0 : ByteArray) (a1 : ByteArray) (a2 : Bool) (a3_p : Option Addr) (a3_n : Nat) (a3_c : Nat) (cap0 : Option Addr) (w : World) (R : Value → World → Prop) : impl_AcctAt_1 a0 a1 a2 a3_p a3_n a3_c cap0 w R = fsem P Tryd.f46 (fun k => []) [(.agg #[(.string a0), (.string a1), (.bool a2), (.slice a3_p a3_n a3_c)]), (.pointer cap0)] R w := by kernel_rfl
theorem impl_AcctAt_1_ret {a0 : ByteArray} {a1 : ByteArray} {a2 : Bool} {a3_p : Option Addr} {a3_n : Nat} {a3_c : Nat} {cap0 : Option Addr} {w : World} {R : Value → World → Prop} (h : impl_AcctAt_1 a0 a1 a2 a3_p a3_n a3_c cap0 w R) : Ret P 46 [(.agg #[(.string a0), (.string a1), (.bool a2), (.slice a3_p a3_n a3_c)]), (.pointer cap0)] w R :=
  Ret.of_fsem Tryd.func46 rfl (Eq.mp (impl_AcctAt_1_eq a0 a1 a2 a3_p a3_n a3_c cap0 w R) h)
end Go.Proofs.YteakifedfnnmeaaDoor

namespace Go.Proofs.YteakifedfnnmeaaDoor
open Go Go.Proofs.YteakifedfnnmeaaDoor.Sx
set_option linter.unusedVariables false
set_option maxRecDepth 100000
def impl_bookCopy (b0_p : Option Addr) (b0_n : Nat) (b0_c : Nat) (w : World) (R : Value → World → Prop) : Prop :=
  ∀ (r : Nat) (wv : World), New w (.cells ⟨[(.slice b0_p b0_n b0_c)]⟩ 28 (0, 0)) r wv →
  ∀ (r_1 : Nat) (wv_1 : World), New wv (.cells ⟨[(.slice none 0 0)]⟩ 28 (0, 0)) r_1 wv_1 →
  ∃ (t7_p : Option Addr) (t7_n : Nat) (t7_c : Nat), Loads P 26 ((⟨r, 0, none⟩ : Addr).add 0) (.slice t7_p t7_n t7_c) wv_1 ∧ ∃ t9 : Int, t9 = IntKind.wrap .i64 (((t7_n : Nat) : Int) + 1) ∧ (0 ≤ (0 : Int) ∧ (0 : Int) ≤ t9 ∧ ((64 : Nat) : Int) * t9 ≤ 281474976710656) ∧
  ∀ (r_2 : Nat) (wv_2 : World), New wv_1 (.cells ⟨zeroRow (.agg #[(.string ByteArray.empty), (.string ByteArray.empty), (.bool false), (.slice none 0 0)]) (t9.toNat * 4)⟩ 54 (0, 0)) r_2 wv_2 →
  ∀ (r_3 : Nat) (wv_3 : World), New wv_2 (.cells ⟨[(.slice none 0 0)]⟩ 28 (0, 0)) r_3 wv_3 →
  ∃ wv_4, Stores P 28 ⟨r_3, 0, none⟩ (.agg #[(.slice (some ⟨r_2, 0, none⟩) 0 t9.toNat)]) wv_3 wv_4 ∧
  ∃ (t13_p : Option Addr) (t13_n : Nat) (t13_c : Nat), Loads P 26 ((⟨r, 0, none⟩ : Addr).add 0) (.slice t13_p t13_n t13_c) wv_4 ∧ ∃ (Inv : Int → World → Prop) (mu : Int → World → Nat), Inv 0 wv_4 ∧
  ∀ (junk : Fr) (wv_5 : World) (t15 : Int), Inv t15 wv_5 →
    ((decide ((t15 : Int) < ((t13_n : Nat) : Int))) = true →
      (0 ≤ (t15 : Int) ∧ (t15 : Int) < (t13_n : Nat)) ∧ ptrS t13_p fun ad => ∃ (t180 : ByteArray) (t181 : ByteArray) (t182 : Bool) (t183_p : Option Addr) (t183_n : Nat) (t183_c : Nat), Loads P 54 (ad.add (t15.toNat * 4)) (.agg #[(.string t180), (.string t181), (.bool t182), (.slice t183_p t183_n t183_c)]) wv_5 ∧ ∀ (r_4 : Nat) (wv_6 : World), New wv_5 (.cells ⟨[(.string ByteArray.empty), (.string ByteArray.empty), (.bool false), (.slice none 0 0)]⟩ 54 (0, 0)) r_4 wv_6 →
      ∃ wv_7, Stores P 54 ⟨r_4, 0, none⟩ (.agg #[(.string t180), (.string t181), (.bool t182), (.slice t183_p t183_n t183_c)]) wv_6 wv_7 ∧
      ∃ (t20_p : Option Addr) (t20_n : Nat) (t20_c : Nat), (∀ wv_8, Ext wv_7.drew wv_8 → Loads P 26 ((⟨r_3, 0, none⟩ : Addr).add 0) (.slice t20_p t20_n t20_c) wv_8) ∧ ∃ (t22 : ByteArray), (∀ wv_9, Ext wv_7.drew wv_9 → Loads P 9 ((⟨r_4, 0, none⟩ : Addr).add 0) (.string t22) wv_9) ∧ ∃ (t240 : ByteArray) (t241 : Bool) (t242_p : Option Addr) (t242_n : Nat) (t242_c : Nat), (∀ wv_10, Ext wv_7.drew wv_10 → Loads P 44 ((⟨r_4, 0, none⟩ : Addr).add 1) (.agg #[(.string t240), (.bool t241), (.slice t242_p t242_n t242_c)]) wv_10) ∧ Calls P 71 ⟨[(.agg #[(.string t240), (.bool t241), (.slice t242_p t242_n t242_c)])]⟩ wv_7.drew fun e wv_11 =>
      ∃ (t250 : ByteArray) (t251 : Bool) (t252_p : Option Addr) (t252_n : Nat) (t252_c : Nat), e = .returned (.agg #[(.string t250), (.bool t251), (.slice t252_p t252_n t252_c)]) ∧
      Ext wv_7.drew wv_11 ∧ ∀ (r_5 : Nat) (wv_12 : World), New wv_11 (.cells ⟨[(.string t22), (.string t250), (.bool t251), (.slice t252_p t252_n t252_c)]⟩ 54 (0, 0)) r_5 wv_12 →
      Ext wv_11 wv_12 ∧ ∃ (t28_p : Option Addr) (t28_n : Nat) (t28_c : Nat) (wv_13 : World), Appends P [26, 26] [(.slice t20_p t20_n t20_c), (.slice (some ⟨r_5, 0, none⟩) 1 1)] (.slice t28_p t28_n t28_c) wv_12 wv_13 ∧
      ∃ wv_14, Stores P 26 ((⟨r_3, 0, none⟩ : Addr).add 0) (.slice t28_p t28_n t28_c) wv_13 wv_14 ∧
      ∃ t30 : Int, t30 = IntKind.wrap .i64 (t15 + 1) ∧ Inv t30 wv_14 ∧ mu t30 wv_14 < mu t15 wv_5) ∧
    ((decide ((t15 : Int) < ((t13_n : Nat) : Int))) = false →
      ∃ (t310_p : Option Addr) (t310_n : Nat) (t310_c : Nat), Loads P 28 ⟨r_3, 0, none⟩ (.agg #[(.slice t310_p t310_n t310_c)]) wv_5 ∧ ∃ wv_15, Stores P 28 ⟨r_1, 0, none⟩ (.agg #[(.slice t310_p t310_n t310_c)]) wv_5 wv_15 ∧
      ∃ (r0_p : Option Addr) (r0_n : Nat) (r0_c : Nat), Loads P 28 ⟨r_1, 0, none⟩ (.agg #[(.slice r0_p r0_n r0_c)]) wv_15 ∧ R (.agg #[(.slice r0_p r0_n r0_c)]) wv_15)
theorem impl_bookCopy_eq (b0_p : Option Addr) (b0_n : Nat) (b0_c : Nat) (w : World) (R : Value → World → Prop) : impl_bookCopy b0_p b0_n b0_c w R = fsem P Tryd.f47 (fun k => cond (Nat.beq k 4) [(15, .one (.int .i64))] ([])) [(.agg #[(.slice b0_p b0_n b0_c)])] R w := by kernel_rfl
theorem impl_bookCopy_ret {b0_p : Option Addr} {b0_n : Nat} {b0_c : Nat} {w : World} {R : Value → World → Prop} (h : impl_bookCopy b0_p b0_n b0_c w R) : Ret P 47 [(.agg #[(.slice b0_p b0_n b0_c)])] w R :=
  Ret.of_fsem Tryd.func47 rfl (Eq.mp (impl_bookCopy_eq b0_p b0_n b0_c w R) h)
def spec_l09Both (m0 : ByteArray) (m1 : Bool) (m2_p : Option Addr) (m2_n : Nat) (m2_c : Nat) (n0 : ByteArray) (n1 : Bool) (n2_p : Option Addr) (n2_n : Nat) (n2_c : Nat) (w : World) (R : Value → World → Prop) : Prop :=
  ∀ (r : Nat) (wv : World), New w (.cells ⟨[(.string m0), (.bool m1), (.slice m2_p m2_n m2_c)]⟩ 44 (0, 0)) r wv →
  ∀ (r_1 : Nat) (wv_1 : World), New wv (.cells ⟨[(.string n0), (.bool n1), (.slice n2_p n2_n n2_c)]⟩ 44 (0, 0)) r_1 wv_1 →
  ∃ (t50 : ByteArray) (t51 : Bool) (t52_p : Option Addr) (t52_n : Nat) (t52_c : Nat), Loads P 44 ⟨r, 0, none⟩ (.agg #[(.string t50), (.bool t51), (.slice t52_p t52_n t52_c)]) wv_1 ∧ Calls P 40 ⟨[(.agg #[(.string t50), (.bool t51), (.slice t52_p t52_n t52_c)])]⟩ wv_1 fun e wv_2 =>
  ∃ (t6 : Bool), e = .returned (.bool t6) ∧
  (t6 = true →
    ∃ (t80 : ByteArray) (t81 : Bool) (t82_p : Option Addr) (t82_n : Nat) (t82_c : Nat), Loads P 44 ⟨r_1, 0, none⟩ (.agg #[(.string t80), (.bool t81), (.slice t82_p t82_n t82_c)]) wv_2 ∧ Calls P 40 ⟨[(.agg #[(.string t80), (.bool t81), (.slice t82_p t82_n t82_c)])]⟩ wv_2 fun e_1 wv_3 =>
    ∃ (t9 : Bool), e_1 = .returned (.bool t9) ∧
    (t9 = true →
      ∃ (t13 : ByteArray), Loads P 9 ((⟨r, 0, none⟩ : Addr).add 0) (.string t13) wv_3 ∧ ∃ (t15 : ByteArray), Loads P 9 ((⟨r_1, 0, none⟩ : Addr).add 0) (.string t15) wv_3 ∧ R (.bool (decide (t13 = t15))) wv_3) ∧
    (t9 = false →
      R (.bool false) wv_3)) ∧
  (t6 = false →
    (false = true →
      ∃ (t13_1 : ByteArray), Loads P 9 ((⟨r, 0, none⟩ : Addr).add 0) (.string t13_1) wv_2 ∧ ∃ (t15_1 : ByteArray), Loads P 9 ((⟨r_1, 0, none⟩ : Addr).add 0) (.string t15_1) wv_2 ∧ R (.bool (decide (t13_1 = t15_1))) wv_2) ∧
    (false = false →
      R (.bool false) wv_2))
theorem spec_l09Both_eq (m0 : ByteArray) (m1 : Bool) (m2_p : Option Addr) (m2_n : Nat) (m2_c : Nat) (n0 : ByteArray) (n1 : Bool) (n2_p : Option Addr) (n2_n : Nat) (n2_c : Nat) (w : World) (R : Value → World → Prop) : spec_l09Both m0 m1 m2_p m2_n m2_c n0 n1 n2_p n2_n n2_c w R = fsem P Tryd.f56 (fun k => []) [(.agg #[(.string m0), (.bool m1), (.slice m2_p m2_n m2_c)]), (.agg #[(.string n0), (.bool n1), (.slice n2_p n2_n n2_c)])] R w := by kernel_rfl
theorem spec_l09Both_ret {m0 : ByteArray} {m1 : Bool} {m2_p : Option Addr} {m2_n : Nat} {m2_c : Nat} {n0 : ByteArray} {n1 : Bool} {n2_p : Option Addr} {n2_n : Nat} {n2_c : Nat} {w : World} {R : Value → World → Prop} (h : spec_l09Both m0 m1 m2_p m2_n m2_c n0 n1 n2_p n2_n n2_c w R) : Ret P 56 [(.agg #[(.string m0), (.bool m1), (.slice m2_p m2_n m2_c)]), (.agg #[(.string n0), (.bool n1), (.slice n2_p n2_n n2_c)])] w R :=
  Ret.of_fsem Tryd.func56 rfl (Eq.mp (spec_l09Both_eq m0 m1 m2_p m2_n m2_c n0 n1 n2_p n2_n n2_c w R) h)
def spec_l09Make (cur : ByteArray) (x0 : Bool) (x1_p : Option Addr) (x1_n : Nat) (x1_c : Nat) (w : World) (R : Value → World → Prop) : Prop :=
  ∀ (r : Nat) (wv : World), New w (.cells ⟨[(.bool x0), (.slice x1_p x1_n x1_c)]⟩ 42 (0, 0)) r wv →
  ∀ (r_1 : Nat) (wv_1 : World), New wv (.cells ⟨[(.string ByteArray.empty), (.bool false), (.slice none 0 0)]⟩ 44 (0, 0)) r_1 wv_1 →
  ∃ (t80 : Bool) (t81_p : Option Addr) (t81_n : Nat) (t81_c : Nat), Loads P 42 ⟨r, 0, none⟩ (.agg #[(.bool t80), (.slice t81_p t81_n t81_c)]) wv_1 ∧ ∀ (r_2 : Nat) (wv_2 : World), New wv_1 (.cells ⟨[(.string ByteArray.empty), (.bool false), (.slice none 0 0)]⟩ 44 (0, 0)) r_2 wv_2 →
  ∃ wv_3, Stores P 44 ⟨r_2, 0, none⟩ (.agg #[(.string cur), (.bool t80), (.slice t81_p t81_n t81_c)]) wv_2 wv_3 ∧
  ∃ (t100 : ByteArray) (t101 : Bool) (t102_p : Option Addr) (t102_n : Nat) (t102_c : Nat), Loads P 44 ⟨r_2, 0, none⟩ (.agg #[(.string t100), (.bool t101), (.slice t102_p t102_n t102_c)]) wv_3 ∧ Calls P 40 ⟨[(.agg #[(.string t100), (.bool t101), (.slice t102_p t102_n t102_c)])]⟩ wv_3 fun e wv_4 =>
  ∃ (t11 : Bool), e = .returned (.bool t11) ∧
  ((!t11) = true →
    ∃ wv_5, Stores P 44 ⟨r_1, 0, none⟩ (.agg #[(.string ByteArray.empty), (.bool false), (.slice none 0 0)]) wv_4 wv_5 ∧
    ∃ (r0 : ByteArray) (r1 : Bool) (r2_p : Option Addr) (r2_n : Nat) (r2_c : Nat), Loads P 44 ⟨r_1, 0, none⟩ (.agg #[(.string r0), (.bool r1), (.slice r2_p r2_n r2_c)]) wv_5 ∧ R (.tuple #[(.agg #[(.string r0), (.bool r1), (.slice r2_p r2_n r2_c)]), (.bool false)]) wv_5) ∧
  ((!t11) = false →
    ∃ (t140 : ByteArray) (t141 : Bool) (t142_p : Option Addr) (t142_n : Nat) (t142_c : Nat), Loads P 44 ⟨r_2, 0, none⟩ (.agg #[(.string t140), (.bool t141), (.slice t142_p t142_n t142_c)]) wv_4 ∧ ∃ wv_6, Stores P 44 ⟨r_1, 0, none⟩ (.agg #[(.string t140), (.bool t141), (.slice t142_p t142_n t142_c)]) wv_4 wv_6 ∧
    ∃ (r0_1 : ByteArray) (r1_1 : Bool) (r2_p_1 : Option Addr) (r2_n_1 : Nat) (r2_c_1 : Nat), Loads P 44 ⟨r_1, 0, none⟩ (.agg #[(.string r0_1), (.bool r1_1), (.slice r2_p_1 r2_n_1 r2_c_1)]) wv_6 ∧ R (.tuple #[(.agg #[(.string r0_1), (.bool r1_1), (.slice r2_p_1 r2_n_1 r2_c_1)]), (.bool true)]) wv_6)
theorem spec_l09Make_eq (cur : ByteArray) (x0 : Bool) (x1_p : Option Addr) (x1_n : Nat) (x1_c : Nat) (w : World) (R : Value → World → Prop) : spec_l09Make cur x0 x1_p x1_n x1_c w R = fsem P Tryd.f57 (fun k => []) [(.string cur), (.agg #[(.bool x0), (.slice x1_p x1_n x1_c)])] R w := by kernel_rfl
theorem spec_l09Make_ret {cur : ByteArray} {x0 : Bool} {x1_p : Option Addr} {x1_n : Nat} {x1_c : Nat} {w : World} {R : Value → World → Prop} (h : spec_l09Make cur x0 x1_p x1_n x1_c w R) : Ret P 57 [(.string cur), (.agg #[(.bool x0), (.slice x1_p x1_n x1_c)])] w R :=
  Ret.of_fsem Tryd.func57 rfl (Eq.mp (spec_l09Make_eq cur x0 x1_p x1_n x1_c w R) h)
def spec_IntAdd (x0 : Bool) (x1_p : Option Addr) (x1_n : Nat) (x1_c : Nat) (y0 : Bool) (y1_p : Option Addr) (y1_n : Nat) (y1_c : Nat) (w : World) (R : Value → World → Prop) : Prop :=
  ∀ (r : Nat) (wv : World), New w (.cells ⟨[(.bool x0), (.slice x1_p x1_n x1_c)]⟩ 42 (0, 0)) r wv →
  ∀ (r_1 : Nat) (wv_1 : World), New wv (.cells ⟨[(.bool y0), (.slice y1_p y1_n y1_c)]⟩ 42 (0, 0)) r_1 wv_1 →
  ∀ (r_2 : Nat) (wv_2 : World), New wv_1 (.cells ⟨[(.bool false), (.slice none 0 0)]⟩ 42 (0, 0)) r_2 wv_2 →
  ∃ (t50 : Bool) (t51_p : Option Addr) (t51_n : Nat) (t51_c : Nat), Loads P 42 ⟨r, 0, none⟩ (.agg #[(.bool t50), (.slice t51_p t51_n t51_c)]) wv_2 ∧ Calls P 66 ⟨[(.agg #[(.bool t50), (.slice t51_p t51_n t51_c)])]⟩ wv_2 fun e wv_3 =>
  ∃ (t6 : Bool), e = .returned (.bool t6) ∧
  ((!t6) = true →
    (true = true →
      ∃ wv_4, Stores P 42 ⟨r_2, 0, none⟩ (.agg #[(.bool false), (.slice none 0 0)]) wv_3 wv_4 ∧
      ∃ (r0 : Bool) (r1_p : Option Addr) (r1_n : Nat) (r1_c : Nat), Loads P 42 ⟨r_2, 0, none⟩ (.agg #[(.bool r0), (.slice r1_p r1_n r1_c)]) wv_4 ∧ R (.agg #[(.bool r0), (.slice r1_p r1_n r1_c)]) wv_4) ∧
    (true = false →
      ∃ (t140 : Bool) (t141_p : Option Addr) (t141_n : Nat) (t141_c : Nat), Loads P 42 ⟨r, 0, none⟩ (.agg #[(.bool t140), (.slice t141_p t141_n t141_c)]) wv_3 ∧ ∃ (t150 : Bool) (t151_p : Option Addr) (t151_n : Nat) (t151_c : Nat), Loads P 42 ⟨r_1, 0, none⟩ (.agg #[(.bool t150), (.slice t151_p t151_n t151_c)]) wv_3 ∧ Calls P 75 ⟨[(.agg #[(.bool t140), (.slice t141_p t141_n t141_c)]), (.agg #[(.bool t150), (.slice t151_p t151_n t151_c)])]⟩ wv_3 fun e_1 wv_5 =>
      ∃ (t160 : Bool) (t161_p : Option Addr) (t161_n : Nat) (t161_c : Nat), e_1 = .returned (.agg #[(.bool t160), (.slice t161_p t161_n t161_c)]) ∧
      ∃ wv_6, Stores P 42 ⟨r_2, 0, none⟩ (.agg #[(.bool t160), (.slice t161_p t161_n t161_c)]) wv_5 wv_6 ∧
      ∃ (r0_1 : Bool) (r1_p_1 : Option Addr) (r1_n_1 : Nat) (r1_c_1 : Nat), Loads P 42 ⟨r_2, 0, none⟩ (.agg #[(.bool r0_1), (.slice r1_p_1 r1_n_1 r1_c_1)]) wv_6 ∧ R (.agg #[(.bool r0_1), (.slice r1_p_1 r1_n_1 r1_c_1)]) wv_6)) ∧
  ((!t6) = false →
    ∃ (t90 : Bool) (t91_p : Option Addr) (t91_n : Nat) (t91_c : Nat), Loads P 42 ⟨r_1, 0, none⟩ (.agg #[(.bool t90), (.slice t91_p t91_n t91_c)]) wv_3 ∧ Calls P 66 ⟨[(.agg #[(.bool t90), (.slice t91_p t91_n t91_c)])]⟩ wv_3 fun e_2 wv_7 =>
    ∃ (t10 : Bool), e_2 = .returned (.bool t10) ∧
    ((!t10) = true →
      ∃ wv_8, Stores P 42 ⟨r_2, 0, none⟩ (.agg #[(.bool false), (.slice none 0 0)]) wv_7 wv_8 ∧
      ∃ (r0_2 : Bool) (r1_p_2 : Option Addr) (r1_n_2 : Nat) (r1_c_2 : Nat), Loads P 42 ⟨r_2, 0, none⟩ (.agg #[(.bool r0_2), (.slice r1_p_2 r1_n_2 r1_c_2)]) wv_8 ∧ R (.agg #[(.bool r0_2), (.slice r1_p_2 r1_n_2 r1_c_2)]) wv_8) ∧
    ((!t10) = false →
      ∃ (t140_1 : Bool) (t141_p_1 : Option Addr) (t141_n_1 : Nat) (t141_c_1 : Nat), Loads P 42 ⟨r, 0, none⟩ (.agg #[(.bool t140_1), (.slice t141_p_1 t141_n_1 t141_c_1)]) wv_7 ∧ ∃ (t150_1 : Bool) (t151_p_1 : Option Addr) (t151_n_1 : Nat) (t151_c_1 : Nat), Loads P 42 ⟨r_1, 0, none⟩ (.agg #[(.bool t150_1), (.slice t151_p_1 t151_n_1 t151_c_1)]) wv_7 ∧ Calls P 75 ⟨[(.agg #[(.bool t140_1), (.slice t141_p_1 t141_n_1 t141_c_1)]), (.agg #[(.bool t150_1), (.slice t151_p_1 t151_n_1 t151_c_1)])]⟩ wv_7 fun e_3 wv_9 =>
      ∃ (t160_1 : Bool) (t161_p_1 : Option Addr) (t161_n_1 : Nat) (t161_c_1 : Nat), e_3 = .returned (.agg #[(.bool t160_1), (.slice t161_p_1 t161_n_1 t161_c_1)]) ∧
      ∃ wv_10, Stores P 42 ⟨r_2, 0, none⟩ (.agg #[(.bool t160_1), (.slice t161_p_1 t161_n_1 t161_c_1)]) wv_9 wv_10 ∧
      ∃ (r0_3 : Bool) (r1_p_3 : Option Addr) (r1_n_3 : Nat) (r1_c_3 : Nat), Loads P 42 ⟨r_2, 0, none⟩ (.agg #[(.bool r0_3), (.slice r1_p_3 r1_n_3 r1_c_3)]) wv_10 ∧ R (.agg #[(.bool r0_3), (.slice r1_p_3 r1_n_3 r1_c_3)]) wv_10))
theorem spec_IntAdd_eq (x0 : Bool) (x1_p : Option Addr) (x1_n : Nat) (x1_c : Nat) (y0 : Bool) (y1_p : Option Addr) (y1_n : Nat) (y1_c : Nat) (w : World) (R : Value → World → Prop) : spec_IntAdd x0 x1_p x1_n x1_c y0 y1_p y1_n y1_c w R = fsem P Tryd.f58 (fun k => []) [(.agg #[(.bool x0), (.slice x1_p x1_n x1_c)]), (.agg #[(.bool y0), (.slice y1_p y1_n y1_c)])] R w := by kernel_rfl
theorem spec_IntAdd_ret {x0 : Bool} {x1_p : Option Addr} {x1_n : Nat} {x1_c : Nat} {y0 : Bool} {y1_p : Option Addr} {y1_n : Nat} {y1_c : Nat} {w : World} {R : Value → World → Prop} (h : spec_IntAdd x0 x1_p x1_n x1_c y0 y1_p y1_n y1_c w R) : Ret P 58 [(.agg #[(.bool x0), (.slice x1_p x1_n x1_c)]), (.agg #[(.bool y0), (.slice y1_p y1_n y1_c)])] w R :=
  Ret.of_fsem Tryd.func58 rfl (Eq.mp (spec_IntAdd_eq x0 x1_p x1_n x1_c y0 y1_p y1_n y1_c w R) h)
def impl_alike (m0 : ByteArray) (m1 : Bool) (m2_p : Option Addr) (m2_n : Nat) (m2_c : Nat) (n0 : ByteArray) (n1 : Bool) (n2_p : Option Addr) (n2_n : Nat) (n2_c : Nat) (w : World) (R : Value → World → Prop) : Prop :=
  ∀ (r : Nat) (wv : World), New w (.cells ⟨[(.string m0), (.bool m1), (.slice m2_p m2_n m2_c)]⟩ 44 (0, 0)) r wv →
  ∀ (r_1 : Nat) (wv_1 : World), New wv (.cells ⟨[(.string n0), (.bool n1), (.slice n2_p n2_n n2_c)]⟩ 44 (0, 0)) r_1 wv_1 →
  ∃ (t50 : ByteArray) (t51 : Bool) (t52_p : Option Addr) (t52_n : Nat) (t52_c : Nat), Loads P 44 ⟨r, 0, none⟩ (.agg #[(.string t50), (.bool t51), (.slice t52_p t52_n t52_c)]) wv_1 ∧ Calls P 44 ⟨[(.agg #[(.string t50), (.bool t51), (.slice t52_p t52_n t52_c)])]⟩ wv_1 fun e wv_2 =>
  ∃ (t6 : Bool), e = .returned (.bool t6) ∧
  (t6 = true →
    ∃ (t80 : ByteArray) (t81 : Bool) (t82_p : Option Addr) (t82_n : Nat) (t82_c : Nat), Loads P 44 ⟨r_1, 0, none⟩ (.agg #[(.string t80), (.bool t81), (.slice t82_p t82_n t82_c)]) wv_2 ∧ Calls P 44 ⟨[(.agg #[(.string t80), (.bool t81), (.slice t82_p t82_n t82_c)])]⟩ wv_2 fun e_1 wv_3 =>
    ∃ (t9 : Bool), e_1 = .returned (.bool t9) ∧
    (t9 = true →
      ∃ (t13 : ByteArray), Loads P 9 ((⟨r, 0, none⟩ : Addr).add 0) (.string t13) wv_3 ∧ ∃ (t15 : ByteArray), Loads P 9 ((⟨r_1, 0, none⟩ : Addr).add 0) (.string t15) wv_3 ∧ R (.bool (decide (t13 = t15))) wv_3) ∧
    (t9 = false →
      R (.bool false) wv_3)) ∧
  (t6 = false →
    (false = true →
      ∃ (t13_1 : ByteArray), Loads P 9 ((⟨r, 0, none⟩ : Addr).add 0) (.string t13_1) wv_2 ∧ ∃ (t15_1 : ByteArray), Loads P 9 ((⟨r_1, 0, none⟩ : Addr).add 0) (.string t15_1) wv_2 ∧ R (.bool (decide (t13_1 = t15_1))) wv_2) ∧
    (false = false →
      R (.bool false) wv_2))
theorem impl_alike_eq (m0 : ByteArray) (m1 : Bool) (m2_p : Option Addr) (m2_n : Nat) (m2_c : Nat) (n0 : ByteArray) (n1 : Bool) (n2_p : Option Addr) (n2_n : Nat) (n2_c : Nat) (w : World) (R : Value → World → Prop) : impl_alike m0 m1 m2_p m2_n m2_c n0 n1 n2_p n2_n n2_c w R = fsem P Tryd.f60 (fun k => []) [(.agg #[(.string m0), (.bool m1), (.slice m2_p m2_n m2_c)]), (.agg #[(.string n0), (.bool n1), (.slice n2_p n2_n n2_c)])] R w := by kernel_rfl
theorem impl_alike_ret {m0 : ByteArray} {m1 : Bool} {m2_p : Option Addr} {m2_n : Nat} {m2_c : Nat} {n0 : ByteArray} {n1 : Bool} {n2_p : Option Addr} {n2_n : Nat} {n2_c : Nat} {w : World} {R : Value → World → Prop} (h : impl_alike m0 m1 m2_p m2_n m2_c n0 n1 n2_p n2_n n2_c w R) : Ret P 60 [(.agg #[(.string m0), (.bool m1), (.slice m2_p m2_n m2_c)]), (.agg #[(.string n0), (.bool n1), (.slice n2_p n2_n n2_c)])] w R :=
  Ret.of_fsem Tryd.func60 rfl (Eq.mp (impl_alike_eq m0 m1 m2_p m2_n m2_c n0 n1 n2_p n2_n n2_c w R) h)
def impl_moneyOf (cur : ByteArray) (units0 : Bool) (units1_p : Option Addr) (units1_n : Nat) (units1_c : Nat) (w : World) (R : Value → World → Prop) : Prop :=
  ∀ (r : Nat) (wv : World), New w (.cells ⟨[(.bool units0), (.slice units1_p units1_n units1_c)]⟩ 42 (0, 0)) r wv →
  ∀ (r_1 : Nat) (wv_1 : World), New wv (.cells ⟨[(.string ByteArray.empty), (.bool false), (.slice none 0 0)]⟩ 44 (0, 0)) r_1 wv_1 →
  ∃ (t80 : Bool) (t81_p : Option Addr) (t81_n : Nat) (t81_c : Nat), Loads P 42 ⟨r, 0, none⟩ (.agg #[(.bool t80), (.slice t81_p t81_n t81_c)]) wv_1 ∧ ∀ (r_2 : Nat) (wv_2 : World), New wv_1 (.cells ⟨[(.string ByteArray.empty), (.bool false), (.slice none 0 0)]⟩ 44 (0, 0)) r_2 wv_2 →
  ∃ wv_3, Stores P 44 ⟨r_2, 0, none⟩ (.agg #[(.string cur), (.bool t80), (.slice t81_p t81_n t81_c)]) wv_2 wv_3 ∧
  ∃ (t100 : ByteArray) (t101 : Bool) (t102_p : Option Addr) (t102_n : Nat) (t102_c : Nat), Loads P 44 ⟨r_2, 0, none⟩ (.agg #[(.string t100), (.bool t101), (.slice t102_p t102_n t102_c)]) wv_3 ∧ Calls P 44 ⟨[(.agg #[(.string t100), (.bool t101), (.slice t102_p t102_n t102_c)])]⟩ wv_3 fun e wv_4 =>
  ∃ (t11 : Bool), e = .returned (.bool t11) ∧
  (t11 = true →
    ∃ (t120 : ByteArray) (t121 : Bool) (t122_p : Option Addr) (t122_n : Nat) (t122_c : Nat), Loads P 44 ⟨r_2, 0, none⟩ (.agg #[(.string t120), (.bool t121), (.slice t122_p t122_n t122_c)]) wv_4 ∧ ∃ wv_5, Stores P 44 ⟨r_1, 0, none⟩ (.agg #[(.string t120), (.bool t121), (.slice t122_p t122_n t122_c)]) wv_4 wv_5 ∧
    ∃ (r0 : ByteArray) (r1 : Bool) (r2_p : Option Addr) (r2_n : Nat) (r2_c : Nat), Loads P 44 ⟨r_1, 0, none⟩ (.agg #[(.string r0), (.bool r1), (.slice r2_p r2_n r2_c)]) wv_5 ∧ R (.tuple #[(.agg #[(.string r0), (.bool r1), (.slice r2_p r2_n r2_c)]), (.bool true)]) wv_5) ∧
  (t11 = false →
    ∃ wv_6, Stores P 44 ⟨r_1, 0, none⟩ (.agg #[(.string ByteArray.empty), (.bool false), (.slice none 0 0)]) wv_4 wv_6 ∧
    ∃ (r0_1 : ByteArray) (r1_1 : Bool) (r2_p_1 : Option Addr) (r2_n_1 : Nat) (r2_c_1 : Nat), Loads P 44 ⟨r_1, 0, none⟩ (.agg #[(.string r0_1), (.bool r1_1), (.slice r2_p_1 r2_n_1 r2_c_1)]) wv_6 ∧ R (.tuple #[(.agg #[(.string r0_1), (.bool r1_1), (.slice r2_p_1 r2_n_1 r2_c_1)]), (.bool false)]) wv_6)
theorem impl_moneyOf_eq (cur : ByteArray) (units0 : Bool) (units1_p : Option Addr) (units1_n : Nat) (units1_c : Nat) (w : World) (R : Value → World → Prop) : impl_moneyOf cur units0 units1_p units1_n units1_c w R = fsem P Tryd.f61 (fun k => []) [(.string cur), (.agg #[(.bool units0), (.slice units1_p units1_n units1_c)])] R w := by kernel_rfl
theorem impl_moneyOf_ret {cur : ByteArray} {units0 : Bool} {units1_p : Option Addr} {units1_n : Nat} {units1_c : Nat} {w : World} {R : Value → World → Prop} (h : impl_moneyOf cur units0 units1_p units1_n units1_c w R) : Ret P 61 [(.string cur), (.agg #[(.bool units0), (.slice units1_p units1_n units1_c)])] w R :=
  Ret.of_fsem Tryd.func61 rfl (Eq.mp (impl_moneyOf_eq cur units0 units1_p units1_n units1_c w R) h)
def impl_intAdd_j0 (r : Nat) (r_1 : Nat) (r_2 : Nat) (W : World) (R : Value → World → Prop) : Prop :=
  ∃ (t27 : Bool), (∀ wv_12, Ext W.drew wv_12 → Loads P 4 ((⟨r, 0, none⟩ : Addr).add 0) (.bool t27) wv_12) ∧ ∃ (t29_p : Option Addr) (t29_n : Nat) (t29_c : Nat), (∀ wv_13, Ext W.drew wv_13 → Loads P 35 ((⟨r, 0, none⟩ : Addr).add 1) (.slice t29_p t29_n t29_c) wv_13) ∧ ∃ (t31_p : Option Addr) (t31_n : Nat) (t31_c : Nat), (∀ wv_14, Ext W.drew wv_14 → Loads P 35 ((⟨r_1, 0, none⟩ : Addr).add 1) (.slice t31_p t31_n t31_c) wv_14) ∧ Calls P 79 ⟨[(.slice t29_p t29_n t29_c), (.slice t31_p t31_n t31_c)]⟩ W.drew fun e_3 wv_15 =>
  ∃ (t32_p : Option Addr) (t32_n : Nat) (t32_c : Nat), e_3 = .returned (.slice t32_p t32_n t32_c) ∧
  Ext W.drew wv_15 ∧ Calls P 76 ⟨[(.bool t27), (.slice t32_p t32_n t32_c)]⟩ wv_15 fun e_4 wv_16 =>
  ∃ (t330 : Bool) (t331_p : Option Addr) (t331_n : Nat) (t331_c : Nat), e_4 = .returned (.agg #[(.bool t330), (.slice t331_p t331_n t331_c)]) ∧
  ∃ wv_17, Stores P 42 ⟨r_2, 0, none⟩ (.agg #[(.bool t330), (.slice t331_p t331_n t331_c)]) wv_16 wv_17 ∧
  ∃ (r0_1 : Bool) (r1_p_1 : Option Addr) (r1_n_1 : Nat) (r1_c_1 : Nat), Loads P 42 ⟨r_2, 0, none⟩ (.agg #[(.bool r0_1), (.slice r1_p_1 r1_n_1 r1_c_1)]) wv_17 ∧ R (.agg #[(.bool r0_1), (.slice r1_p_1 r1_n_1 r1_c_1)]) wv_17
def impl_intAdd (x0 : Bool) (x1_p : Option Addr) (x1_n : Nat) (x1_c : Nat) (y0 : Bool) (y1_p : Option Addr) (y1_n : Nat) (y1_c : Nat) (w : World) (R : Value → World → Prop) : Prop :=
  ∀ (r : Nat) (wv : World), New w (.cells ⟨[(.bool x0), (.slice x1_p x1_n x1_c)]⟩ 42 (0, 0)) r wv →
  ∀ (r_1 : Nat) (wv_1 : World), New wv (.cells ⟨[(.bool y0), (.slice y1_p y1_n y1_c)]⟩ 42 (0, 0)) r_1 wv_1 →
  ∀ (r_2 : Nat) (wv_2 : World), New wv_1 (.cells ⟨[(.bool false), (.slice none 0 0)]⟩ 42 (0, 0)) r_2 wv_2 →
  ∃ (t6 : Bool), Loads P 4 ((⟨r, 0, none⟩ : Addr).add 0) (.bool t6) wv_2 ∧ ∃ (t8 : Bool), Loads P 4 ((⟨r_1, 0, none⟩ : Addr).add 0) (.bool t8) wv_2 ∧ ((t6 == t8) = true →
    ∃ (t11 : Bool), (∀ wv_3, Ext wv_2.drew wv_3 → Loads P 4 ((⟨r, 0, none⟩ : Addr).add 0) (.bool t11) wv_3) ∧ ∃ (t13_p : Option Addr) (t13_n : Nat) (t13_c : Nat), (∀ wv_4, Ext wv_2.drew wv_4 → Loads P 35 ((⟨r, 0, none⟩ : Addr).add 1) (.slice t13_p t13_n t13_c) wv_4) ∧ ∃ (t15_p : Option Addr) (t15_n : Nat) (t15_c : Nat), (∀ wv_5, Ext wv_2.drew wv_5 → Loads P 35 ((⟨r_1, 0, none⟩ : Addr).add 1) (.slice t15_p t15_n t15_c) wv_5) ∧ Calls P 77 ⟨[(.slice t13_p t13_n t13_c), (.slice t15_p t15_n t15_c)]⟩ wv_2.drew fun e wv_6 =>
    ∃ (t16_p : Option Addr) (t16_n : Nat) (t16_c : Nat), e = .returned (.slice t16_p t16_n t16_c) ∧
    Ext wv_2.drew wv_6 ∧ Calls P 76 ⟨[(.bool t11), (.slice t16_p t16_n t16_c)]⟩ wv_6 fun e_1 wv_7 =>
    ∃ (t170 : Bool) (t171_p : Option Addr) (t171_n : Nat) (t171_c : Nat), e_1 = .returned (.agg #[(.bool t170), (.slice t171_p t171_n t171_c)]) ∧
    ∃ wv_8, Stores P 42 ⟨r_2, 0, none⟩ (.agg #[(.bool t170), (.slice t171_p t171_n t171_c)]) wv_7 wv_8 ∧
    ∃ (r0 : Bool) (r1_p : Option Addr) (r1_n : Nat) (r1_c : Nat), Loads P 42 ⟨r_2, 0, none⟩ (.agg #[(.bool r0), (.slice r1_p r1_n r1_c)]) wv_8 ∧ R (.agg #[(.bool r0), (.slice r1_p r1_n r1_c)]) wv_8) ∧
  ((t6 == t8) = false →
    ∃ (t19_p : Option Addr) (t19_n : Nat) (t19_c : Nat), Loads P 35 ((⟨r, 0, none⟩ : Addr).add 1) (.slice t19_p t19_n t19_c) wv_2 ∧ ∃ (t21_p : Option Addr) (t21_n : Nat) (t21_c : Nat), Loads P 35 ((⟨r_1, 0, none⟩ : Addr).add 1) (.slice t21_p t21_n t21_c) wv_2 ∧ Calls P 78 ⟨[(.slice t19_p t19_n t19_c), (.slice t21_p t21_n t21_c)]⟩ wv_2 fun e_2 wv_9 =>
    ∃ (t22 : Int), e_2 = .returned (.int .i64 t22) ∧
    ((decide ((t22 : Int) < 0)) = true →
      ∃ (t240 : Bool) (t241_p : Option Addr) (t241_n : Nat) (t241_c : Nat), Loads P 42 ⟨r_1, 0, none⟩ (.agg #[(.bool t240), (.slice t241_p t241_n t241_c)]) wv_9 ∧ ∃ (t250 : Bool) (t251_p : Option Addr) (t251_n : Nat) (t251_c : Nat), Loads P 42 ⟨r, 0, none⟩ (.agg #[(.bool t250), (.slice t251_p t251_n t251_c)]) wv_9 ∧ ∃ wv_10, Stores P 42 ⟨r, 0, none⟩ (.agg #[(.bool t240), (.slice t241_p t241_n t241_c)]) wv_9 wv_10 ∧
      ∃ wv_11, Stores P 42 ⟨r_1, 0, none⟩ (.agg #[(.bool t250), (.slice t251_p t251_n t251_c)]) wv_10 wv_11 ∧
      impl_intAdd_j0 r r_1 r_2 wv_11 R) ∧
    ((decide ((t22 : Int) < 0)) = false →
      impl_intAdd_j0 r r_1 r_2 wv_9 R))
theorem impl_intAdd_eq (x0 : Bool) (x1_p : Option Addr) (x1_n : Nat) (x1_c : Nat) (y0 : Bool) (y1_p : Option Addr) (y1_n : Nat) (y1_c : Nat) (w : World) (R : Value → World → Prop) : impl_intAdd x0 x1_p x1_n x1_c y0 y1_p y1_n y1_c w R = fsem P Tryd.f62 (fun k => []) [(.agg #[(.bool x0), (.slice x1_p x1_n x1_c)]), (.agg #[(.bool y0), (.slice y1_p y1_n y1_c)])] R w := by kernel_rfl
theorem impl_intAdd_ret {x0 : Bool} {x1_p : Option Addr} {x1_n : Nat} {x1_c : Nat} {y0 : Bool} {y1_p : Option Addr} {y1_n : Nat} {y1_c : Nat} {w : World} {R : Value → World → Prop} (h : impl_intAdd x0 x1_p x1_n x1_c y0 y1_p y1_n y1_c w R) : Ret P 62 [(.agg #[(.bool x0), (.slice x1_p x1_n x1_c)]), (.agg #[(.bool y0), (.slice y1_p y1_n y1_c)])] w R :=
  Ret.of_fsem Tryd.func62 rfl (Eq.mp (impl_intAdd_eq x0 x1_p x1_n x1_c y0 y1_p y1_n y1_c w R) h)
def spec_l01All (s : ByteArray) (lo : Int) (hi : Int) (low : Int) (high : Int) (w : World) (R : Value → World → Prop) : Prop :=
  ∃ (Inv : Int → World → Prop) (mu : Int → World → Nat), Inv 0 w ∧
  ∀ (junk : Fr) (wv : World) (i : Int), Inv i wv →
    ((decide ((i : Int) < ((s.size : Nat) : Int))) = true →
      0 ≤ (i : Int) ∧ ∃ b : UInt8, s[i.toNat]? = some b ∧ ((decide ((((b.toNat : Nat) : Int) : Int) < lo)) = true →
        (true = true →
          0 ≤ (i : Int) ∧ ∃ b_1 : UInt8, s[i.toNat]? = some b_1 ∧ ((decide ((((b_1.toNat : Nat) : Int) : Int) < low)) = true →
            (true = true →
              R (.bool false) wv) ∧
            (true = false →
              ∃ t17 : Int, t17 = IntKind.wrap .i64 (i + 1) ∧ Inv t17 wv ∧ mu t17 wv < mu i wv)) ∧
          ((decide ((((b_1.toNat : Nat) : Int) : Int) < low)) = false →
            0 ≤ (i : Int) ∧ ∃ b_2 : UInt8, s[i.toNat]? = some b_2 ∧ ((decide ((high : Int) < ((b_2.toNat : Nat) : Int))) = true →
              R (.bool false) wv) ∧
            ((decide ((high : Int) < ((b_2.toNat : Nat) : Int))) = false →
              ∃ t17_1 : Int, t17_1 = IntKind.wrap .i64 (i + 1) ∧ Inv t17_1 wv ∧ mu t17_1 wv < mu i wv))) ∧
        (true = false →
          (false = true →
            R (.bool false) wv) ∧
          (false = false →
            ∃ t17_2 : Int, t17_2 = IntKind.wrap .i64 (i + 1) ∧ Inv t17_2 wv ∧ mu t17_2 wv < mu i wv))) ∧
      ((decide ((((b.toNat : Nat) : Int) : Int) < lo)) = false →
        0 ≤ (i : Int) ∧ ∃ b_3 : UInt8, s[i.toNat]? = some b_3 ∧ ((decide ((hi : Int) < ((b_3.toNat : Nat) : Int))) = true →
          0 ≤ (i : Int) ∧ ∃ b_4 : UInt8, s[i.toNat]? = some b_4 ∧ ((decide ((((b_4.toNat : Nat) : Int) : Int) < low)) = true →
            (true = true →
              R (.bool false) wv) ∧
            (true = false →
              ∃ t17_3 : Int, t17_3 = IntKind.wrap .i64 (i + 1) ∧ Inv t17_3 wv ∧ mu t17_3 wv < mu i wv)) ∧
          ((decide ((((b_4.toNat : Nat) : Int) : Int) < low)) = false →
            0 ≤ (i : Int) ∧ ∃ b_5 : UInt8, s[i.toNat]? = some b_5 ∧ ((decide ((high : Int) < ((b_5.toNat : Nat) : Int))) = true →
              R (.bool false) wv) ∧
            ((decide ((high : Int) < ((b_5.toNat : Nat) : Int))) = false →
              ∃ t17_4 : Int, t17_4 = IntKind.wrap .i64 (i + 1) ∧ Inv t17_4 wv ∧ mu t17_4 wv < mu i wv))) ∧
        ((decide ((hi : Int) < ((b_3.toNat : Nat) : Int))) = false →
          (false = true →
            R (.bool false) wv) ∧
          (false = false →
            ∃ t17_5 : Int, t17_5 = IntKind.wrap .i64 (i + 1) ∧ Inv t17_5 wv ∧ mu t17_5 wv < mu i wv)))) ∧
    ((decide ((i : Int) < ((s.size : Nat) : Int))) = false →
      R (.bool (decide ((0 : Int) < ((s.size : Nat) : Int)))) wv)
theorem spec_l01All_eq (s : ByteArray) (lo : Int) (hi : Int) (low : Int) (high : Int) (w : World) (R : Value → World → Prop) : spec_l01All s lo hi low high w R = fsem P Tryd.f64 (fun k => cond (Nat.beq k 3) [(11, .one (.int .i64))] ([])) [(.string s), (.int .u8 lo), (.int .u8 hi), (.int .u8 low), (.int .u8 high)] R w := by kernel_rfl
theorem spec_l01All_ret {s : ByteArray} {lo : Int} {hi : Int} {low : Int} {high : Int} {w : World} {R : Value → World → Prop} (h : spec_l01All s lo hi low high w R) : Ret P 64 [(.string s), (.int .u8 lo), (.int .u8 hi), (.int .u8 low), (.int .u8 high)] w R :=
  Ret.of_fsem Tryd.func64 rfl (Eq.mp (spec_l01All_eq s lo hi low high w R) h)
def spec_CurKnown (code : ByteArray) (w : World) (R : Value → World → Prop) : Prop :=
  Calls P 80 ⟨[(.string code)]⟩ w fun e wv =>
  ∃ (t40 : ByteArray) (t41 : ByteArray) (t42 : Int) (t43 : Int), e = .returned (.agg #[(.string t40), (.string t41), (.int .i64 t42), (.int .i64 t43)]) ∧
  R (.bool (decide (t40 ≠ (S [])))) wv
theorem spec_CurKnown_eq (code : ByteArray) (w : World) (R : Value → World → Prop) : spec_CurKnown code w R = fsem P Tryd.f65 (fun k => []) [(.string code)] R w := by kernel_rfl
theorem spec_CurKnown_ret {code : ByteArray} {w : World} {R : Value → World → Prop} (h : spec_CurKnown code w R) : Ret P 65 [(.string code)] w R :=
  Ret.of_fsem Tryd.func65 rfl (Eq.mp (spec_CurKnown_eq code w R) h)
def spec_IntOk (x0 : Bool) (x1_p : Option Addr) (x1_n : Nat) (x1_c : Nat) (w : World) (R : Value → World → Prop) : Prop :=
  ∀ (r : Nat) (wv : World), New w (.cells ⟨[(.bool x0), (.slice x1_p x1_n x1_c)]⟩ 42 (0, 0)) r wv →
  ∃ (t4_p : Option Addr) (t4_n : Nat) (t4_c : Nat), Loads P 35 ((⟨r, 0, none⟩ : Addr).add 1) (.slice t4_p t4_n t4_c) wv ∧ Calls P 81 ⟨[(.slice t4_p t4_n t4_c)]⟩ wv fun e wv_1 =>
  ∃ (t5 : Bool), e = .returned (.bool t5) ∧
  (t5 = true →
    ∃ (t8 : Bool), Loads P 4 ((⟨r, 0, none⟩ : Addr).add 0) (.bool t8) wv_1 ∧ ((!t8) = true →
      R (.bool true) wv_1) ∧
    ((!t8) = false →
      ∃ (t12_p : Option Addr) (t12_n : Nat) (t12_c : Nat), Loads P 35 ((⟨r, 0, none⟩ : Addr).add 1) (.slice t12_p t12_n t12_c) wv_1 ∧ R (.bool (decide ((0 : Int) < ((t12_n : Nat) : Int)))) wv_1)) ∧
  (t5 = false →
    R (.bool false) wv_1)
theorem spec_IntOk_eq (x0 : Bool) (x1_p : Option Addr) (x1_n : Nat) (x1_c : Nat) (w : World) (R : Value → World → Prop) : spec_IntOk x0 x1_p x1_n x1_c w R = fsem P Tryd.f66 (fun k => []) [(.agg #[(.bool x0), (.slice x1_p x1_n x1_c)])] R w := by kernel_rfl
theorem spec_IntOk_ret {x0 : Bool} {x1_p : Option Addr} {x1_n : Nat} {x1_c : Nat} {w : World} {R : Value → World → Prop} (h : spec_IntOk x0 x1_p x1_n x1_c w R) : Ret P 66 [(.agg #[(.bool x0), (.slice x1_p x1_n x1_c)])] w R :=
  Ret.of_fsem Tryd.func66 rfl (Eq.mp (spec_IntOk_eq x0 x1_p x1_n x1_c w R) h)
def impl_isLower (c : Int) (w : World) (R : Value → World → Prop) : Prop :=
  ((decide ((97 : Int) ≤ c)) = true →
    R (.bool (decide ((c : Int) ≤ 122))) w) ∧
  ((decide ((97 : Int) ≤ c)) = false →
    R (.bool false) w)
theorem impl_isLower_eq (c : Int) (w : World) (R : Value → World → Prop) : impl_isLower c w R = fsem P Tryd.f67 (fun k => []) [(.int .u8 c)] R w := by kernel_rfl
theorem impl_isLower_ret {c : Int} {w : World} {R : Value → World → Prop} (h : impl_isLower c w R) : Ret P 67 [(.int .u8 c)] w R :=
  Ret.of_fsem Tryd.func67 rfl (Eq.mp (impl_isLower_eq c w R) h)
def impl_isDigit (c : Int) (w : World) (R : Value → World → Prop) : Prop :=
  ((decide ((48 : Int) ≤ c)) = true →
    R (.bool (decide ((c : Int) ≤ 57))) w) ∧
  ((decide ((48 : Int) ≤ c)) = false →
    R (.bool false) w)
theorem impl_isDigit_eq (c : Int) (w : World) (R : Value → World → Prop) : impl_isDigit c w R = fsem P Tryd.f68 (fun k => []) [(.int .u8 c)] R w := by kernel_rfl
theorem impl_isDigit_ret {c : Int} {w : World} {R : Value → World → Prop} (h : impl_isDigit c w R) : Ret P 68 [(.int .u8 c)] w R :=
  Ret.of_fsem Tryd.func68 rfl (Eq.mp (impl_isDigit_eq c w R) h)
def impl_CurKnown (code : ByteArray) (w : World) (R : Value → World → Prop) : Prop :=
  Calls P 82 ⟨[(.string code)]⟩ w fun e wv =>
  ∃ (t70 : ByteArray) (t71 : ByteArray) (t72 : Int) (t73 : Int) (t7 : Bool), e = .returned (.tuple #[(.agg #[(.string t70), (.string t71), (.int .i64 t72), (.int .i64 t73)]), (.bool t7)]) ∧
  ∀ (r : Nat) (wv_1 : World), New wv (.cells ⟨[(.string ByteArray.empty), (.string ByteArray.empty), (.int .i64 0), (.int .i64 0)]⟩ 108 (0, 0)) r wv_1 →
  ∃ wv_2, Stores P 108 ⟨r, 0, none⟩ (.agg #[(.string t70), (.string t71), (.int .i64 t72), (.int .i64 t73)]) wv_1 wv_2 ∧
  R (.bool t7) wv_2
theorem impl_CurKnown_eq (code : ByteArray) (w : World) (R : Value → World → Prop) : impl_CurKnown code w R = fsem P Tryd.f69 (fun k => []) [(.string code)] R w := by kernel_rfl
theorem impl_CurKnown_ret {code : ByteArray} {w : World} {R : Value → World → Prop} (h : impl_CurKnown code w R) : Ret P 69 [(.string code)] w R :=
  Ret.of_fsem Tryd.func69 rfl (Eq.mp (impl_CurKnown_eq code w R) h)
def impl_IntOk (x0 : Bool) (x1_p : Option Addr) (x1_n : Nat) (x1_c : Nat) (w : World) (R : Value → World → Prop) : Prop :=
  ∀ (r : Nat) (wv : World), New w (.cells ⟨[(.bool x0), (.slice x1_p x1_n x1_c)]⟩ 42 (0, 0)) r wv →
  ∃ (t4_p : Option Addr) (t4_n : Nat) (t4_c : Nat), Loads P 35 ((⟨r, 0, none⟩ : Addr).add 1) (.slice t4_p t4_n t4_c) wv ∧ Calls P 83 ⟨[(.slice t4_p t4_n t4_c)]⟩ wv fun e wv_1 =>
  ∃ (t5 : Bool), e = .returned (.bool t5) ∧
  (t5 = true →
    ∃ (t8 : Bool), Loads P 4 ((⟨r, 0, none⟩ : Addr).add 0) (.bool t8) wv_1 ∧ ((!t8) = true →
      R (.bool true) wv_1) ∧
    ((!t8) = false →
      ∃ (t12_p : Option Addr) (t12_n : Nat) (t12_c : Nat), Loads P 35 ((⟨r, 0, none⟩ : Addr).add 1) (.slice t12_p t12_n t12_c) wv_1 ∧ R (.bool (decide ((0 : Int) < ((t12_n : Nat) : Int)))) wv_1)) ∧
  (t5 = false →
    R (.bool false) wv_1)
theorem impl_IntOk_eq (x0 : Bool) (x1_p : Option Addr) (x1_n : Nat) (x1_c : Nat) (w : World) (R : Value → World → Prop) : impl_IntOk x0 x1_p x1_n x1_c w R = fsem P Tryd.f70 (fun k => []) [(.agg #[(.bool x0), (.slice x1_p x1_n x1_c)])] R w := by kernel_rfl
theorem impl_IntOk_ret {x0 : Bool} {x1_p : Option Addr} {x1_n : Nat} {x1_c : Nat} {w : World} {R : Value → World → Prop} (h : impl_IntOk x0 x1_p x1_n x1_c w R) : Ret P 70 [(.agg #[(.bool x0), (.slice x1_p x1_n x1_c)])] w R :=
  Ret.of_fsem Tryd.func70 rfl (Eq.mp (impl_IntOk_eq x0 x1_p x1_n x1_c w R) h)
def impl_moneyCopy (m0 : ByteArray) (m1 : Bool) (m2_p : Option Addr) (m2_n : Nat) (m2_c : Nat) (w : World) (R : Value → World → Prop) : Prop :=
  ∀ (r : Nat) (wv : World), New w (.cells ⟨[(.string m0), (.bool m1), (.slice m2_p m2_n m2_c)]⟩ 44 (0, 0)) r wv →
  ∀ (r_1 : Nat) (wv_1 : World), New wv (.cells ⟨[(.string ByteArray.empty), (.bool false), (.slice none 0 0)]⟩ 44 (0, 0)) r_1 wv_1 →
  ∃ (t6_p : Option Addr) (t6_n : Nat) (t6_c : Nat), Loads P 35 (((⟨r, 0, none⟩ : Addr).add 1).add 1) (.slice t6_p t6_n t6_c) wv_1 ∧ (0 ≤ (((t6_n : Nat) : Int) : Int) ∧ (((t6_n : Nat) : Int) : Int) ≤ ((t6_n : Nat) : Int) ∧ ((8 : Nat) : Int) * ((t6_n : Nat) : Int) ≤ 281474976710656) ∧
  ∀ (r_2 : Nat) (wv_2 : World), New wv_1 (.cells ⟨zeroRow (.int .i64 0) (t6_n * 1)⟩ 3 (0, 0)) r_2 wv_2 →
  ∃ (t12_p : Option Addr) (t12_n : Nat) (t12_c : Nat), Loads P 35 (((⟨r, 0, none⟩ : Addr).add 1).add 1) (.slice t12_p t12_n t12_c) wv_2 ∧ ∃ (t13 : Int) (wv_3 : World), Copies P [35, 35] [(.slice (some ⟨r_2, 0, none⟩) t6_n t6_n), (.slice t12_p t12_n t12_c)] (.int .i64 t13) wv_2 wv_3 ∧
  ∃ (t15 : ByteArray), (∀ wv_4, Ext wv_3.drew wv_4 → Loads P 9 ((⟨r, 0, none⟩ : Addr).add 0) (.string t15) wv_4) ∧ ∃ (t18 : Bool), (∀ wv_5, Ext wv_3.drew wv_5 → Loads P 4 (((⟨r, 0, none⟩ : Addr).add 1).add 0) (.bool t18) wv_5) ∧ (0 ≤ (((t6_n : Nat) : Int) : Int) ∧ (((t6_n : Nat) : Int) : Int) ≤ (t6_n : Nat)) ∧ (0 ≤ (((t6_n : Nat) : Int) : Int) ∧ (((t6_n : Nat) : Int) : Int) ≤ (t6_n : Nat)) ∧ ∃ wv_6, Stores P 44 ⟨r_1, 0, none⟩ (.agg #[(.string t15), (.bool t18), (.slice (sub (some ⟨r_2, 0, none⟩) 0 t6_n 1) (t6_n - 0) (t6_n - 0))]) wv_3.drew wv_6 ∧
  ∃ (r0 : ByteArray) (r1 : Bool) (r2_p : Option Addr) (r2_n : Nat) (r2_c : Nat), Loads P 44 ⟨r_1, 0, none⟩ (.agg #[(.string r0), (.bool r1), (.slice r2_p r2_n r2_c)]) wv_6 ∧ R (.agg #[(.string r0), (.bool r1), (.slice r2_p r2_n r2_c)]) wv_6
theorem impl_moneyCopy_eq (m0 : ByteArray) (m1 : Bool) (m2_p : Option Addr) (m2_n : Nat) (m2_c : Nat) (w : World) (R : Value → World → Prop) : impl_moneyCopy m0 m1 m2_p m2_n m2_c w R = fsem P Tryd.f71 (fun k => []) [(.agg #[(.string m0), (.bool m1), (.slice m2_p m2_n m2_c)])] R w := by kernel_rfl
theorem impl_moneyCopy_ret {m0 : ByteArray} {m1 : Bool} {m2_p : Option Addr} {m2_n : Nat} {m2_c : Nat} {w : World} {R : Value → World → Prop} (h : impl_moneyCopy m0 m1 m2_p m2_n m2_c w R) : Ret P 71 [(.agg #[(.string m0), (.bool m1), (.slice m2_p m2_n m2_c)])] w R :=
  Ret.of_fsem Tryd.func71 rfl (Eq.mp (impl_moneyCopy_eq m0 m1 m2_p m2_n m2_c w R) h)
def spec_l04Add (x0 : Bool) (x1_p : Option Addr) (x1_n : Nat) (x1_c : Nat) (y0 : Bool) (y1_p : Option Addr) (y1_n : Nat) (y1_c : Nat) (w : World) (R : Value → World → Prop) : Prop :=
  ∀ (r : Nat) (wv : World), New w (.cells ⟨[(.bool x0), (.slice x1_p x1_n x1_c)]⟩ 42 (0, 0)) r wv →
  ∀ (r_1 : Nat) (wv_1 : World), New wv (.cells ⟨[(.bool y0), (.slice y1_p y1_n y1_c)]⟩ 42 (0, 0)) r_1 wv_1 →
  ∀ (r_2 : Nat) (wv_2 : World), New wv_1 (.cells ⟨[(.bool false), (.slice none 0 0)]⟩ 42 (0, 0)) r_2 wv_2 →
  ∃ (t6 : Bool), Loads P 4 ((⟨r, 0, none⟩ : Addr).add 0) (.bool t6) wv_2 ∧ ∃ (t8 : Bool), Loads P 4 ((⟨r_1, 0, none⟩ : Addr).add 0) (.bool t8) wv_2 ∧ ((t6 == t8) = true →
    ∃ (t11 : Bool), (∀ wv_3, Ext wv_2.drew wv_3 → Loads P 4 ((⟨r, 0, none⟩ : Addr).add 0) (.bool t11) wv_3) ∧ ∃ (t13_p : Option Addr) (t13_n : Nat) (t13_c : Nat), (∀ wv_4, Ext wv_2.drew wv_4 → Loads P 35 ((⟨r, 0, none⟩ : Addr).add 1) (.slice t13_p t13_n t13_c) wv_4) ∧ ∃ (t15_p : Option Addr) (t15_n : Nat) (t15_c : Nat), (∀ wv_5, Ext wv_2.drew wv_5 → Loads P 35 ((⟨r_1, 0, none⟩ : Addr).add 1) (.slice t15_p t15_n t15_c) wv_5) ∧ Calls P 88 ⟨[(.slice t13_p t13_n t13_c), (.slice t15_p t15_n t15_c)]⟩ wv_2.drew fun e wv_6 =>
    ∃ (t16_p : Option Addr) (t16_n : Nat) (t16_c : Nat), e = .returned (.slice t16_p t16_n t16_c) ∧
    Ext wv_2.drew wv_6 ∧ Calls P 87 ⟨[(.bool t11), (.slice t16_p t16_n t16_c)]⟩ wv_6 fun e_1 wv_7 =>
    ∃ (t170 : Bool) (t171_p : Option Addr) (t171_n : Nat) (t171_c : Nat), e_1 = .returned (.agg #[(.bool t170), (.slice t171_p t171_n t171_c)]) ∧
    ∃ wv_8, Stores P 42 ⟨r_2, 0, none⟩ (.agg #[(.bool t170), (.slice t171_p t171_n t171_c)]) wv_7 wv_8 ∧
    ∃ (r0 : Bool) (r1_p : Option Addr) (r1_n : Nat) (r1_c : Nat), Loads P 42 ⟨r_2, 0, none⟩ (.agg #[(.bool r0), (.slice r1_p r1_n r1_c)]) wv_8 ∧ R (.agg #[(.bool r0), (.slice r1_p r1_n r1_c)]) wv_8) ∧
  ((t6 == t8) = false →
    ∃ (t19_p : Option Addr) (t19_n : Nat) (t19_c : Nat), Loads P 35 ((⟨r, 0, none⟩ : Addr).add 1) (.slice t19_p t19_n t19_c) wv_2 ∧ ∃ (t21_p : Option Addr) (t21_n : Nat) (t21_c : Nat), Loads P 35 ((⟨r_1, 0, none⟩ : Addr).add 1) (.slice t21_p t21_n t21_c) wv_2 ∧ Calls P 89 ⟨[(.slice t19_p t19_n t19_c), (.slice t21_p t21_n t21_c)]⟩ wv_2 fun e_2 wv_9 =>
    ∃ (t22 : Int), e_2 = .returned (.int .i64 t22) ∧
    ((decide ((0 : Int) ≤ t22)) = true →
      ∃ (t25 : Bool), (∀ wv_10, Ext wv_9.drew wv_10 → Loads P 4 ((⟨r, 0, none⟩ : Addr).add 0) (.bool t25) wv_10) ∧ ∃ (t27_p : Option Addr) (t27_n : Nat) (t27_c : Nat), (∀ wv_11, Ext wv_9.drew wv_11 → Loads P 35 ((⟨r, 0, none⟩ : Addr).add 1) (.slice t27_p t27_n t27_c) wv_11) ∧ ∃ (t29_p : Option Addr) (t29_n : Nat) (t29_c : Nat), (∀ wv_12, Ext wv_9.drew wv_12 → Loads P 35 ((⟨r_1, 0, none⟩ : Addr).add 1) (.slice t29_p t29_n t29_c) wv_12) ∧ Calls P 90 ⟨[(.slice t27_p t27_n t27_c), (.slice t29_p t29_n t29_c)]⟩ wv_9.drew fun e_3 wv_13 =>
      ∃ (t30_p : Option Addr) (t30_n : Nat) (t30_c : Nat), e_3 = .returned (.slice t30_p t30_n t30_c) ∧
      Ext wv_9.drew wv_13 ∧ Calls P 87 ⟨[(.bool t25), (.slice t30_p t30_n t30_c)]⟩ wv_13 fun e_4 wv_14 =>
      ∃ (t310 : Bool) (t311_p : Option Addr) (t311_n : Nat) (t311_c : Nat), e_4 = .returned (.agg #[(.bool t310), (.slice t311_p t311_n t311_c)]) ∧
      ∃ wv_15, Stores P 42 ⟨r_2, 0, none⟩ (.agg #[(.bool t310), (.slice t311_p t311_n t311_c)]) wv_14 wv_15 ∧
      ∃ (r0_1 : Bool) (r1_p_1 : Option Addr) (r1_n_1 : Nat) (r1_c_1 : Nat), Loads P 42 ⟨r_2, 0, none⟩ (.agg #[(.bool r0_1), (.slice r1_p_1 r1_n_1 r1_c_1)]) wv_15 ∧ R (.agg #[(.bool r0_1), (.slice r1_p_1 r1_n_1 r1_c_1)]) wv_15) ∧
    ((decide ((0 : Int) ≤ t22)) = false →
      ∃ (t33 : Bool), (∀ wv_16, Ext wv_9.drew wv_16 → Loads P 4 ((⟨r_1, 0, none⟩ : Addr).add 0) (.bool t33) wv_16) ∧ ∃ (t35_p : Option Addr) (t35_n : Nat) (t35_c : Nat), (∀ wv_17, Ext wv_9.drew wv_17 → Loads P 35 ((⟨r_1, 0, none⟩ : Addr).add 1) (.slice t35_p t35_n t35_c) wv_17) ∧ ∃ (t37_p : Option Addr) (t37_n : Nat) (t37_c : Nat), (∀ wv_18, Ext wv_9.drew wv_18 → Loads P 35 ((⟨r, 0, none⟩ : Addr).add 1) (.slice t37_p t37_n t37_c) wv_18) ∧ Calls P 90 ⟨[(.slice t35_p t35_n t35_c), (.slice t37_p t37_n t37_c)]⟩ wv_9.drew fun e_5 wv_19 =>
      ∃ (t38_p : Option Addr) (t38_n : Nat) (t38_c : Nat), e_5 = .returned (.slice t38_p t38_n t38_c) ∧
      Ext wv_9.drew wv_19 ∧ Calls P 87 ⟨[(.bool t33), (.slice t38_p t38_n t38_c)]⟩ wv_19 fun e_6 wv_20 =>
      ∃ (t390 : Bool) (t391_p : Option Addr) (t391_n : Nat) (t391_c : Nat), e_6 = .returned (.agg #[(.bool t390), (.slice t391_p t391_n t391_c)]) ∧
      ∃ wv_21, Stores P 42 ⟨r_2, 0, none⟩ (.agg #[(.bool t390), (.slice t391_p t391_n t391_c)]) wv_20 wv_21 ∧
      ∃ (r0_2 : Bool) (r1_p_2 : Option Addr) (r1_n_2 : Nat) (r1_c_2 : Nat), Loads P 42 ⟨r_2, 0, none⟩ (.agg #[(.bool r0_2), (.slice r1_p_2 r1_n_2 r1_c_2)]) wv_21 ∧ R (.agg #[(.bool r0_2), (.slice r1_p_2 r1_n_2 r1_c_2)]) wv_21))
theorem spec_l04Add_eq (x0 : Bool) (x1_p : Option Addr) (x1_n : Nat) (x1_c : Nat) (y0 : Bool) (y1_p : Option Addr) (y1_n : Nat) (y1_c : Nat) (w : World) (R : Value → World → Prop) : spec_l04Add x0 x1_p x1_n x1_c y0 y1_p y1_n y1_c w R = fsem P Tryd.f75 (fun k => []) [(.agg #[(.bool x0), (.slice x1_p x1_n x1_c)]), (.agg #[(.bool y0), (.slice y1_p y1_n y1_c)])] R w := by kernel_rfl
theorem spec_l04Add_ret {x0 : Bool} {x1_p : Option Addr} {x1_n : Nat} {x1_c : Nat} {y0 : Bool} {y1_p : Option Addr} {y1_n : Nat} {y1_c : Nat} {w : World} {R : Value → World → Prop} (h : spec_l04Add x0 x1_p x1_n x1_c y0 y1_p y1_n y1_c w R) : Ret P 75 [(.agg #[(.bool x0), (.slice x1_p x1_n x1_c)]), (.agg #[(.bool y0), (.slice y1_p y1_n y1_c)])] w R :=
  Ret.of_fsem Tryd.func75 rfl (Eq.mp (spec_l04Add_eq x0 x1_p x1_n x1_c y0 y1_p y1_n y1_c w R) h)
def impl_signed (neg : Bool) (mag_p : Option Addr) (mag_n : Nat) (mag_c : Nat) (w : World) (R : Value → World → Prop) : Prop :=
  ∀ (r : Nat) (wv : World), New w (.cells ⟨[(.bool false), (.slice none 0 0)]⟩ 42 (0, 0)) r wv →
  (neg = true →
    ∃ wv_1, Stores P 42 ⟨r, 0, none⟩ (.agg #[(.bool (decide ((0 : Int) < ((mag_n : Nat) : Int)))), (.slice mag_p mag_n mag_c)]) wv wv_1 ∧
    ∃ (r0 : Bool) (r1_p : Option Addr) (r1_n : Nat) (r1_c : Nat), Loads P 42 ⟨r, 0, none⟩ (.agg #[(.bool r0), (.slice r1_p r1_n r1_c)]) wv_1 ∧ R (.agg #[(.bool r0), (.slice r1_p r1_n r1_c)]) wv_1) ∧
  (neg = false →
    ∃ wv_2, Stores P 42 ⟨r, 0, none⟩ (.agg #[(.bool false), (.slice mag_p mag_n mag_c)]) wv wv_2 ∧
    ∃ (r0_1 : Bool) (r1_p_1 : Option Addr) (r1_n_1 : Nat) (r1_c_1 : Nat), Loads P 42 ⟨r, 0, none⟩ (.agg #[(.bool r0_1), (.slice r1_p_1 r1_n_1 r1_c_1)]) wv_2 ∧ R (.agg #[(.bool r0_1), (.slice r1_p_1 r1_n_1 r1_c_1)]) wv_2)
theorem impl_signed_eq (neg : Bool) (mag_p : Option Addr) (mag_n : Nat) (mag_c : Nat) (w : World) (R : Value → World → Prop) : impl_signed neg mag_p mag_n mag_c w R = fsem P Tryd.f76 (fun k => []) [(.bool neg), (.slice mag_p mag_n mag_c)] R w := by kernel_rfl
theorem impl_signed_ret {neg : Bool} {mag_p : Option Addr} {mag_n : Nat} {mag_c : Nat} {w : World} {R : Value → World → Prop} (h : impl_signed neg mag_p mag_n mag_c w R) : Ret P 76 [(.bool neg), (.slice mag_p mag_n mag_c)] w R :=
  Ret.of_fsem Tryd.func76 rfl (Eq.mp (impl_signed_eq neg mag_p mag_n mag_c w R) h)
def impl_natAdd_j1 (wv_1 : World) (Inv : Option Addr → Nat → Nat → Int → Int → World → Prop) (mu : Option Addr → Nat → Nat → Int → Int → World → Nat) (out_p : Option Addr) (out_n : Nat) (out_c : Nat) (carry : Int) (i : Int) (carry_2 : Int) (W_1 : World) (R : Value → World → Prop) : Prop :=
  (1000000000 : Int) ≠ 0 ∧ ∃ t46 : Int, t46 = Int.tmod carry_2 1000000000 ∧ ∀ (r_1 : Nat) (wv_2 : World), New W_1 (.cells ⟨[(.int .i64 t46)]⟩ 3 (0, 0)) r_1 wv_2 →
  ∃ (t48_p : Option Addr) (t48_n : Nat) (t48_c : Nat) (wv_3 : World), Appends P [35, 35] [(.slice out_p out_n out_c), (.slice (some ⟨r_1, 0, none⟩) 1 1)] (.slice t48_p t48_n t48_c) wv_2 wv_3 ∧
  (1000000000 : Int) ≠ 0 ∧ ∃ t50 : Int, t50 = IntKind.wrap .i64 (Int.tdiv carry_2 1000000000) ∧ ∃ t23 : Int, t23 = IntKind.wrap .i64 (i + 1) ∧ Inv t48_p t48_n t48_c t50 t23 wv_3 ∧ mu t48_p t48_n t48_c t50 t23 wv_3 < mu out_p out_n out_c carry i wv_1
def impl_natAdd_j0 (b_p : Option Addr) (b_n : Nat) (wv_1 : World) (Inv : Option Addr → Nat → Nat → Int → Int → World → Prop) (mu : Option Addr → Nat → Nat → Int → Int → World → Nat) (out_p : Option Addr) (out_n : Nat) (out_c : Nat) (carry : Int) (i : Int) (carry_1 : Int) (W : World) (R : Value → World → Prop) : Prop :=
  ((decide ((i : Int) < ((b_n : Nat) : Int))) = true →
    (0 ≤ (i : Int) ∧ (i : Int) < (b_n : Nat)) ∧ ptrS b_p fun ad_1 => ∃ (t42 : Int), Loads P 3 (ad_1.add (i.toNat * 1)) (.int .i64 t42) W ∧ ∃ t43 : Int, t43 = IntKind.wrap .i64 (carry_1 + t42) ∧ impl_natAdd_j1 wv_1 Inv mu out_p out_n out_c carry i t43 W R) ∧
  ((decide ((i : Int) < ((b_n : Nat) : Int))) = false →
    impl_natAdd_j1 wv_1 Inv mu out_p out_n out_c carry i carry_1 W R)
def impl_natAdd (a_p : Option Addr) (a_n : Nat) (a_c : Nat) (b_p : Option Addr) (b_n : Nat) (b_c : Nat) (w : World) (R : Value → World → Prop) : Prop :=
  ∃ t12 : Int, t12 = (if ((b_n : Nat) : Int) > ((a_n : Nat) : Int) then ((b_n : Nat) : Int) else ((a_n : Nat) : Int)) ∧ ∃ t13 : Int, t13 = IntKind.wrap .i64 (t12 + 1) ∧ (0 ≤ (0 : Int) ∧ (0 : Int) ≤ t13 ∧ ((8 : Nat) : Int) * t13 ≤ 281474976710656) ∧
  ∀ (r : Nat) (wv : World), New w (.cells ⟨zeroRow (.int .i64 0) (t13.toNat * 1)⟩ 3 (0, 0)) r wv →
  ∃ (Inv : Option Addr → Nat → Nat → Int → Int → World → Prop) (mu : Option Addr → Nat → Nat → Int → Int → World → Nat), Inv (some ⟨r, 0, none⟩) 0 t13.toNat 0 0 wv ∧
  ∀ (junk : Fr) (wv_1 : World) (out_p : Option Addr) (out_n : Nat) (out_c : Nat) (carry : Int) (i : Int), Inv out_p out_n out_c carry i wv_1 →
    ∃ t20 : Int, t20 = (if ((b_n : Nat) : Int) > ((a_n : Nat) : Int) then ((b_n : Nat) : Int) else ((a_n : Nat) : Int)) ∧ ((decide ((i : Int) < t20)) = true →
      ((decide ((i : Int) < ((a_n : Nat) : Int))) = true →
        (0 ≤ (i : Int) ∧ (i : Int) < (a_n : Nat)) ∧ ptrS a_p fun ad => ∃ (t32 : Int), Loads P 3 (ad.add (i.toNat * 1)) (.int .i64 t32) wv_1 ∧ ∃ t33 : Int, t33 = IntKind.wrap .i64 (carry + t32) ∧ impl_natAdd_j0 b_p b_n wv_1 Inv mu out_p out_n out_c carry i t33 wv_1 R) ∧
      ((decide ((i : Int) < ((a_n : Nat) : Int))) = false →
        impl_natAdd_j0 b_p b_n wv_1 Inv mu out_p out_n out_c carry i carry wv_1 R)) ∧
    ((decide ((i : Int) < t20)) = false →
      ∀ (r_2 : Nat) (wv_4 : World), New wv_1 (.cells ⟨[(.int .i64 carry)]⟩ 3 (0, 0)) r_2 wv_4 →
      ∃ (t54_p : Option Addr) (t54_n : Nat) (t54_c : Nat) (wv_5 : World), Appends P [35, 35] [(.slice out_p out_n out_c), (.slice (some ⟨r_2, 0, none⟩) 1 1)] (.slice t54_p t54_n t54_c) wv_4 wv_5 ∧
      Calls P 91 ⟨[(.slice t54_p t54_n t54_c)]⟩ wv_5 fun e wv_6 =>
      ∃ (t55_p : Option Addr) (t55_n : Nat) (t55_c : Nat), e = .returned (.slice t55_p t55_n t55_c) ∧
      R (.slice t55_p t55_n t55_c) wv_6)
theorem impl_natAdd_eq (a_p : Option Addr) (a_n : Nat) (a_c : Nat) (b_p : Option Addr) (b_n : Nat) (b_c : Nat) (w : World) (R : Value → World → Prop) : impl_natAdd a_p a_n a_c b_p b_n b_c w R = fsem P Tryd.f77 (fun k => cond (Nat.beq k 5) [(5, .one .slice), (6, .one (.int .i64)), (7, .one (.int .i64))] ([])) [(.slice a_p a_n a_c), (.slice b_p b_n b_c)] R w := by kernel_rfl
theorem impl_natAdd_ret {a_p : Option Addr} {a_n : Nat} {a_c : Nat} {b_p : Option Addr} {b_n : Nat} {b_c : Nat} {w : World} {R : Value → World → Prop} (h : impl_natAdd a_p a_n a_c b_p b_n b_c w R) : Ret P 77 [(.slice a_p a_n a_c), (.slice b_p b_n b_c)] w R :=
  Ret.of_fsem Tryd.func77 rfl (Eq.mp (impl_natAdd_eq a_p a_n a_c b_p b_n b_c w R) h)
def impl_natCmp (a_p : Option Addr) (a_n : Nat) (a_c : Nat) (b_p : Option Addr) (b_n : Nat) (b_c : Nat) (w : World) (R : Value → World → Prop) : Prop :=
  ((decide ((((a_n : Nat) : Int) : Int) ≠ ((b_n : Nat) : Int))) = true →
    ((decide ((((a_n : Nat) : Int) : Int) < ((b_n : Nat) : Int))) = true →
      R (.int .i64 (-1)) w) ∧
    ((decide ((((a_n : Nat) : Int) : Int) < ((b_n : Nat) : Int))) = false →
      R (.int .i64 1) w)) ∧
  ((decide ((((a_n : Nat) : Int) : Int) ≠ ((b_n : Nat) : Int))) = false →
    ∃ t18 : Int, t18 = IntKind.wrap .i64 (((a_n : Nat) : Int) - 1) ∧ ∃ (Inv : Int → World → Prop) (mu : Int → World → Nat), Inv t18 w ∧
    ∀ (junk : Fr) (wv : World) (i : Int), Inv i wv →
      ((decide ((0 : Int) ≤ i)) = true →
        (0 ≤ (i : Int) ∧ (i : Int) < (a_n : Nat)) ∧ ptrS a_p fun ad => ∃ (t26 : Int), (∀ wv_1, Ext wv.drew wv_1 → Loads P 3 (ad.add (i.toNat * 1)) (.int .i64 t26) wv_1) ∧ (0 ≤ (i : Int) ∧ (i : Int) < (b_n : Nat)) ∧ ptrS b_p fun ad_1 => ∃ (t30 : Int), (∀ wv_2, Ext wv.drew wv_2 → Loads P 3 (ad_1.add (i.toNat * 1)) (.int .i64 t30) wv_2) ∧ ((decide ((t26 : Int) ≠ t30)) = true →
          (0 ≤ (i : Int) ∧ (i : Int) < (a_n : Nat)) ∧ ptrS a_p fun ad_2 => ∃ (t35 : Int), (∀ wv_3, Ext wv.drew.drew wv_3 → Loads P 3 (ad_2.add (i.toNat * 1)) (.int .i64 t35) wv_3) ∧ (0 ≤ (i : Int) ∧ (i : Int) < (b_n : Nat)) ∧ ptrS b_p fun ad_3 => ∃ (t39 : Int), (∀ wv_4, Ext wv.drew.drew wv_4 → Loads P 3 (ad_3.add (i.toNat * 1)) (.int .i64 t39) wv_4) ∧ ((decide ((t35 : Int) < t39)) = true →
            R (.int .i64 (-1)) wv.drew.drew) ∧
          ((decide ((t35 : Int) < t39)) = false →
            R (.int .i64 1) wv.drew.drew)) ∧
        ((decide ((t26 : Int) ≠ t30)) = false →
          ∃ t22 : Int, t22 = IntKind.wrap .i64 (i - 1) ∧ Inv t22 wv.drew ∧ mu t22 wv.drew < mu i wv)) ∧
      ((decide ((0 : Int) ≤ i)) = false →
        R (.int .i64 0) wv))
theorem impl_natCmp_eq (a_p : Option Addr) (a_n : Nat) (a_c : Nat) (b_p : Option Addr) (b_n : Nat) (b_c : Nat) (w : World) (R : Value → World → Prop) : impl_natCmp a_p a_n a_c b_p b_n b_c w R = fsem P Tryd.f78 (fun k => cond (Nat.beq k 7) [(5, .one (.int .i64))] ([])) [(.slice a_p a_n a_c), (.slice b_p b_n b_c)] R w := by kernel_rfl
theorem impl_natCmp_ret {a_p : Option Addr} {a_n : Nat} {a_c : Nat} {b_p : Option Addr} {b_n : Nat} {b_c : Nat} {w : World} {R : Value → World → Prop} (h : impl_natCmp a_p a_n a_c b_p b_n b_c w R) : Ret P 78 [(.slice a_p a_n a_c), (.slice b_p b_n b_c)] w R :=
  Ret.of_fsem Tryd.func78 rfl (Eq.mp (impl_natCmp_eq a_p a_n a_c b_p b_n b_c w R) h)
def impl_natSub_j1 (a_n : Nat) (r : Nat) (wv_1 : World) (Inv : Int → Int → World → Prop) (mu : Int → Int → World → Nat) (borrow : Int) (t14 : Int) (borrow_1 : Int) (n_1 : Int) (W_1 : World) (R : Value → World → Prop) : Prop :=
  (0 ≤ (t14 : Int) ∧ (t14 : Int) < (a_n : Nat)) ∧ ∃ wv_2, Stores P 3 ((⟨r, 0, none⟩ : Addr).add (t14.toNat * 1)) (.int .i64 n_1) W_1 wv_2 ∧
  ∃ t41 : Int, t41 = IntKind.wrap .i64 (t14 + 1) ∧ Inv borrow_1 t41 wv_2 ∧ mu borrow_1 t41 wv_2 < mu borrow t14 wv_1
def impl_natSub_j0 (a_n : Nat) (r : Nat) (wv_1 : World) (Inv : Int → Int → World → Prop) (mu : Int → Int → World → Nat) (borrow : Int) (t14 : Int) (n : Int) (W : World) (R : Value → World → Prop) : Prop :=
  ((decide ((n : Int) < 0)) = true →
    ∃ t36 : Int, t36 = IntKind.wrap .i64 (n + 1000000000) ∧ impl_natSub_j1 a_n r wv_1 Inv mu borrow t14 1 t36 W R) ∧
  ((decide ((n : Int) < 0)) = false →
    impl_natSub_j1 a_n r wv_1 Inv mu borrow t14 0 n W R)
def impl_natSub (a_p : Option Addr) (a_n : Nat) (a_c : Nat) (b_p : Option Addr) (b_n : Nat) (b_c : Nat) (w : World) (R : Value → World → Prop) : Prop :=
  (0 ≤ (((a_n : Nat) : Int) : Int) ∧ (((a_n : Nat) : Int) : Int) ≤ ((a_n : Nat) : Int) ∧ ((8 : Nat) : Int) * ((a_n : Nat) : Int) ≤ 281474976710656) ∧
  ∀ (r : Nat) (wv : World), New w (.cells ⟨zeroRow (.int .i64 0) (a_n * 1)⟩ 3 (0, 0)) r wv →
  ∃ (Inv : Int → Int → World → Prop) (mu : Int → Int → World → Nat), Inv 0 0 wv ∧
  ∀ (junk : Fr) (wv_1 : World) (borrow : Int) (t14 : Int), Inv borrow t14 wv_1 →
    ((decide ((t14 : Int) < ((a_n : Nat) : Int))) = true →
      (0 ≤ (t14 : Int) ∧ (t14 : Int) < (a_n : Nat)) ∧ ptrS a_p fun ad => ∃ (t20 : Int), Loads P 3 (ad.add (t14.toNat * 1)) (.int .i64 t20) wv_1 ∧ ∃ t22 : Int, t22 = IntKind.wrap .i64 (t20 - borrow) ∧ ((decide ((t14 : Int) < ((b_n : Nat) : Int))) = true →
        (0 ≤ (t14 : Int) ∧ (t14 : Int) < (b_n : Nat)) ∧ ptrS b_p fun ad_1 => ∃ (t31 : Int), Loads P 3 (ad_1.add (t14.toNat * 1)) (.int .i64 t31) wv_1 ∧ ∃ t32 : Int, t32 = IntKind.wrap .i64 (t22 - t31) ∧ impl_natSub_j0 a_n r wv_1 Inv mu borrow t14 t32 wv_1 R) ∧
      ((decide ((t14 : Int) < ((b_n : Nat) : Int))) = false →
        impl_natSub_j0 a_n r wv_1 Inv mu borrow t14 t22 wv_1 R)) ∧
    ((decide ((t14 : Int) < ((a_n : Nat) : Int))) = false →
      Calls P 91 ⟨[(.slice (some ⟨r, 0, none⟩) a_n a_n)]⟩ wv_1 fun e wv_3 =>
      ∃ (t43_p : Option Addr) (t43_n : Nat) (t43_c : Nat), e = .returned (.slice t43_p t43_n t43_c) ∧
      R (.slice t43_p t43_n t43_c) wv_3)
theorem impl_natSub_eq (a_p : Option Addr) (a_n : Nat) (a_c : Nat) (b_p : Option Addr) (b_n : Nat) (b_c : Nat) (w : World) (R : Value → World → Prop) : impl_natSub a_p a_n a_c b_p b_n b_c w R = fsem P Tryd.f79 (fun k => cond (Nat.beq k 5) [(6, .one (.int .i64)), (14, .one (.int .i64))] ([])) [(.slice a_p a_n a_c), (.slice b_p b_n b_c)] R w := by kernel_rfl
theorem impl_natSub_ret {a_p : Option Addr} {a_n : Nat} {a_c : Nat} {b_p : Option Addr} {b_n : Nat} {b_c : Nat} {w : World} {R : Value → World → Prop} (h : impl_natSub a_p a_n a_c b_p b_n b_c w R) : Ret P 79 [(.slice a_p a_n a_c), (.slice b_p b_n b_c)] w R :=
  Ret.of_fsem Tryd.func79 rfl (Eq.mp (impl_natSub_eq a_p a_n a_c b_p b_n b_c w R) h)
def spec_l08Find (code : ByteArray) (w : World) (R : Value → World → Prop) : Prop :=
  ∀ (r : Nat) (wv : World), New w (.cells ⟨[(.string ByteArray.empty), (.string ByteArray.empty), (.int .i64 0), (.int .i64 0)]⟩ 104 (0, 0)) r wv →
  Calls P 92 ⟨[]⟩ wv fun e wv_1 =>
  ∃ (t5_p : Option Addr) (t5_n : Nat) (t5_c : Nat), e = .returned (.slice t5_p t5_n t5_c) ∧
  ∃ (Inv : Int → World → Prop) (mu : Int → World → Nat), Inv 0 wv_1 ∧
  ∀ (junk : Fr) (wv_2 : World) (t7 : Int), Inv t7 wv_2 →
    ((decide ((t7 : Int) < ((t5_n : Nat) : Int))) = true →
      (0 ≤ (t7 : Int) ∧ (t7 : Int) < (t5_n : Nat)) ∧ ptrS t5_p fun ad => ∃ (t100 : ByteArray) (t101 : ByteArray) (t102 : Int) (t103 : Int), Loads P 104 (ad.add (t7.toNat * 4)) (.agg #[(.string t100), (.string t101), (.int .i64 t102), (.int .i64 t103)]) wv_2 ∧ ∀ (r_1 : Nat) (wv_3 : World), New wv_2 (.cells ⟨[(.string ByteArray.empty), (.string ByteArray.empty), (.int .i64 0), (.int .i64 0)]⟩ 104 (0, 0)) r_1 wv_3 →
      ∃ wv_4, Stores P 104 ⟨r_1, 0, none⟩ (.agg #[(.string t100), (.string t101), (.int .i64 t102), (.int .i64 t103)]) wv_3 wv_4 ∧
      ∃ (t12 : ByteArray), Loads P 9 ((⟨r_1, 0, none⟩ : Addr).add 0) (.string t12) wv_4 ∧ ((decide (t12 = code)) = true →
        ∃ (t150 : ByteArray) (t151 : ByteArray) (t152 : Int) (t153 : Int), Loads P 104 ⟨r_1, 0, none⟩ (.agg #[(.string t150), (.string t151), (.int .i64 t152), (.int .i64 t153)]) wv_4 ∧ ∃ wv_5, Stores P 104 ⟨r, 0, none⟩ (.agg #[(.string t150), (.string t151), (.int .i64 t152), (.int .i64 t153)]) wv_4 wv_5 ∧
        ∃ (r0 : ByteArray) (r1 : ByteArray) (r2 : Int) (r3 : Int), Loads P 104 ⟨r, 0, none⟩ (.agg #[(.string r0), (.string r1), (.int .i64 r2), (.int .i64 r3)]) wv_5 ∧ R (.agg #[(.string r0), (.string r1), (.int .i64 r2), (.int .i64 r3)]) wv_5) ∧
      ((decide (t12 = code)) = false →
        ∃ t16 : Int, t16 = IntKind.wrap .i64 (t7 + 1) ∧ Inv t16 wv_4 ∧ mu t16 wv_4 < mu t7 wv_2)) ∧
    ((decide ((t7 : Int) < ((t5_n : Nat) : Int))) = false →
      ∃ wv_6, Stores P 104 ⟨r, 0, none⟩ (.agg #[(.string ByteArray.empty), (.string ByteArray.empty), (.int .i64 0), (.int .i64 0)]) wv_2 wv_6 ∧
      ∃ (r0_1 : ByteArray) (r1_1 : ByteArray) (r2_1 : Int) (r3_1 : Int), Loads P 104 ⟨r, 0, none⟩ (.agg #[(.string r0_1), (.string r1_1), (.int .i64 r2_1), (.int .i64 r3_1)]) wv_6 ∧ R (.agg #[(.string r0_1), (.string r1_1), (.int .i64 r2_1), (.int .i64 r3_1)]) wv_6)
theorem spec_l08Find_eq (code : ByteArray) (w : World) (R : Value → World → Prop) : spec_l08Find code w R = fsem P Tryd.f80 (fun k => cond (Nat.beq k 3) [(7, .one (.int .i64))] ([])) [(.string code)] R w := by kernel_rfl
theorem spec_l08Find_ret {code : ByteArray} {w : World} {R : Value → World → Prop} (h : spec_l08Find code w R) : Ret P 80 [(.string code)] w R :=
  Ret.of_fsem Tryd.func80 rfl (Eq.mp (spec_l08Find_eq code w R) h)
def spec_NatOk (a_p : Option Addr) (a_n : Nat) (a_c : Nat) (w : World) (R : Value → World → Prop) : Prop :=
  ∃ (Inv : Int → World → Prop) (mu : Int → World → Nat), Inv 0 w ∧
  ∀ (junk : Fr) (wv : World) (t7 : Int), Inv t7 wv →
    ((decide ((t7 : Int) < ((a_n : Nat) : Int))) = true →
      (0 ≤ (t7 : Int) ∧ (t7 : Int) < (a_n : Nat)) ∧ ptrS a_p fun ad => ∃ (t10 : Int), Loads P 3 (ad.add (t7.toNat * 1)) (.int .i64 t10) wv ∧ Calls P 93 ⟨[(.int .i64 t10), (.int .i64 0), (.int .i64 999999999)]⟩ wv fun e wv_1 =>
      ∃ (t12 : Bool), e = .returned (.bool t12) ∧
      ((!t12) = true →
        R (.bool false) wv_1) ∧
      ((!t12) = false →
        ∃ t14 : Int, t14 = IntKind.wrap .i64 (t7 + 1) ∧ Inv t14 wv_1 ∧ mu t14 wv_1 < mu t7 wv)) ∧
    ((decide ((t7 : Int) < ((a_n : Nat) : Int))) = false →
      ((decide ((((a_n : Nat) : Int) : Int) ≤ 50)) = true →
        ((decide ((((a_n : Nat) : Int) : Int) = 0)) = true →
          R (.bool true) wv) ∧
        ((decide ((((a_n : Nat) : Int) : Int) = 0)) = false →
          ∃ t26 : Int, t26 = IntKind.wrap .i64 (((a_n : Nat) : Int) - 1) ∧ (0 ≤ (t26 : Int) ∧ (t26 : Int) < (a_n : Nat)) ∧ ptrS a_p fun ad_1 => ∃ (t28 : Int), Loads P 3 (ad_1.add (t26.toNat * 1)) (.int .i64 t28) wv ∧ R (.bool (decide ((t28 : Int) ≠ 0))) wv)) ∧
      ((decide ((((a_n : Nat) : Int) : Int) ≤ 50)) = false →
        R (.bool false) wv))
theorem spec_NatOk_eq (a_p : Option Addr) (a_n : Nat) (a_c : Nat) (w : World) (R : Value → World → Prop) : spec_NatOk a_p a_n a_c w R = fsem P Tryd.f81 (fun k => cond (Nat.beq k 3) [(7, .one (.int .i64))] ([])) [(.slice a_p a_n a_c)] R w := by kernel_rfl
theorem spec_NatOk_ret {a_p : Option Addr} {a_n : Nat} {a_c : Nat} {w : World} {R : Value → World → Prop} (h : spec_NatOk a_p a_n a_c w R) : Ret P 81 [(.slice a_p a_n a_c)] w R :=
  Ret.of_fsem Tryd.func81 rfl (Eq.mp (spec_NatOk_eq a_p a_n a_c w R) h)
def impl_currencyOf (code : ByteArray) (w : World) (R : Value → World → Prop) : Prop :=
  ∀ (r : Nat) (wv : World), New w (.cells ⟨[(.string ByteArray.empty), (.string ByteArray.empty), (.int .i64 0), (.int .i64 0)]⟩ 108 (0, 0)) r wv →
  ∃ (t6 : Value), Loads P 116 ⟨0, 0, none⟩ t6 wv ∧ ∃ (Inv : Int → World → Prop) (mu : Int → World → Nat), Inv 0 wv ∧
  ∀ (junk : Fr) (wv_1 : World) (t7 : Int), Inv t7 wv_1 →
    ((decide ((t7 : Int) < 20)) = true →
      indexS P 116 t6 (.int .i64 t7) fun (el : Value) => ∀ (r_1 : Nat) (wv_2 : World), New wv_1 (.cells ⟨[(.string ByteArray.empty), (.string ByteArray.empty), (.int .i64 0), (.int .i64 0)]⟩ 108 (0, 0)) r_1 wv_2 →
      ∃ wv_3, Stores P 108 ⟨r_1, 0, none⟩ el wv_2 wv_3 ∧
      ∃ (t11 : ByteArray), Loads P 9 ((⟨r_1, 0, none⟩ : Addr).add 0) (.string t11) wv_3 ∧ ((decide (t11 = code)) = true →
        ∃ (t140 : ByteArray) (t141 : ByteArray) (t142 : Int) (t143 : Int), Loads P 108 ⟨r_1, 0, none⟩ (.agg #[(.string t140), (.string t141), (.int .i64 t142), (.int .i64 t143)]) wv_3 ∧ ∃ wv_4, Stores P 108 ⟨r, 0, none⟩ (.agg #[(.string t140), (.string t141), (.int .i64 t142), (.int .i64 t143)]) wv_3 wv_4 ∧
        ∃ (r0 : ByteArray) (r1 : ByteArray) (r2 : Int) (r3 : Int), Loads P 108 ⟨r, 0, none⟩ (.agg #[(.string r0), (.string r1), (.int .i64 r2), (.int .i64 r3)]) wv_4 ∧ R (.tuple #[(.agg #[(.string r0), (.string r1), (.int .i64 r2), (.int .i64 r3)]), (.bool true)]) wv_4) ∧
      ((decide (t11 = code)) = false →
        ∃ t15 : Int, t15 = IntKind.wrap .i64 (t7 + 1) ∧ Inv t15 wv_3 ∧ mu t15 wv_3 < mu t7 wv_1)) ∧
    ((decide ((t7 : Int) < 20)) = false →
      ∃ wv_5, Stores P 108 ⟨r, 0, none⟩ (.agg #[(.string ByteArray.empty), (.string ByteArray.empty), (.int .i64 0), (.int .i64 0)]) wv_1 wv_5 ∧
      ∃ (r0_1 : ByteArray) (r1_1 : ByteArray) (r2_1 : Int) (r3_1 : Int), Loads P 108 ⟨r, 0, none⟩ (.agg #[(.string r0_1), (.string r1_1), (.int .i64 r2_1), (.int .i64 r3_1)]) wv_5 ∧ R (.tuple #[(.agg #[(.string r0_1), (.string r1_1), (.int .i64 r2_1), (.int .i64 r3_1)]), (.bool false)]) wv_5)
theorem impl_currencyOf_eq (code : ByteArray) (w : World) (R : Value → World → Prop) : impl_currencyOf code w R = fsem P Tryd.f82 (fun k => cond (Nat.beq k 3) [(7, .one (.int .i64))] ([])) [(.string code)] R w := by kernel_rfl
theorem impl_currencyOf_ret {code : ByteArray} {w : World} {R : Value → World → Prop} (h : impl_currencyOf code w R) : Ret P 82 [(.string code)] w R :=
  Ret.of_fsem Tryd.func82 rfl (Eq.mp (impl_currencyOf_eq code w R) h)
def impl_NatOk_j0 (a_p : Option Addr) (a_n : Nat) (W : World) (R : Value → World → Prop) : Prop :=
  ∃ (Inv : Int → World → Prop) (mu : Int → World → Nat), Inv 0 W ∧
  ∀ (junk : Fr) (wv : World) (t24 : Int), Inv t24 wv →
    ((decide ((t24 : Int) < ((a_n : Nat) : Int))) = true →
      (0 ≤ (t24 : Int) ∧ (t24 : Int) < (a_n : Nat)) ∧ ptrS a_p fun ad => ∃ (t27 : Int), Loads P 3 (ad.add (t24.toNat * 1)) (.int .i64 t27) wv ∧ ((decide ((t27 : Int) < 0)) = true →
        (true = true →
          R (.bool false) wv) ∧
        (true = false →
          ∃ t34 : Int, t34 = IntKind.wrap .i64 (t24 + 1) ∧ Inv t34 wv ∧ mu t34 wv < mu t24 wv)) ∧
      ((decide ((t27 : Int) < 0)) = false →
        ((decide ((1000000000 : Int) ≤ t27)) = true →
          R (.bool false) wv) ∧
        ((decide ((1000000000 : Int) ≤ t27)) = false →
          ∃ t34_1 : Int, t34_1 = IntKind.wrap .i64 (t24 + 1) ∧ Inv t34_1 wv ∧ mu t34_1 wv < mu t24 wv))) ∧
    ((decide ((t24 : Int) < ((a_n : Nat) : Int))) = false →
      R (.bool true) wv)
def impl_NatOk (a_p : Option Addr) (a_n : Nat) (a_c : Nat) (w : World) (R : Value → World → Prop) : Prop :=
  ((decide ((50 : Int) < ((a_n : Nat) : Int))) = true →
    (true = true →
      R (.bool false) w) ∧
    (true = false →
      impl_NatOk_j0 a_p a_n w R)) ∧
  ((decide ((50 : Int) < ((a_n : Nat) : Int))) = false →
    ((decide ((0 : Int) < ((a_n : Nat) : Int))) = true →
      ∃ t16 : Int, t16 = IntKind.wrap .i64 (((a_n : Nat) : Int) - 1) ∧ (0 ≤ (t16 : Int) ∧ (t16 : Int) < (a_n : Nat)) ∧ ptrS a_p fun ad_1 => ∃ (t18 : Int), Loads P 3 (ad_1.add (t16.toNat * 1)) (.int .i64 t18) w ∧ ((decide ((t18 : Int) = 0)) = true →
        R (.bool false) w) ∧
      ((decide ((t18 : Int) = 0)) = false →
        impl_NatOk_j0 a_p a_n w R)) ∧
    ((decide ((0 : Int) < ((a_n : Nat) : Int))) = false →
      (false = true →
        R (.bool false) w) ∧
      (false = false →
        impl_NatOk_j0 a_p a_n w R)))
theorem impl_NatOk_eq (a_p : Option Addr) (a_n : Nat) (a_c : Nat) (w : World) (R : Value → World → Prop) : impl_NatOk a_p a_n a_c w R = fsem P Tryd.f83 (fun k => cond (Nat.beq k 5) [(24, .one (.int .i64))] ([])) [(.slice a_p a_n a_c)] R w := by kernel_rfl
theorem impl_NatOk_ret {a_p : Option Addr} {a_n : Nat} {a_c : Nat} {w : World} {R : Value → World → Prop} (h : impl_NatOk a_p a_n a_c w R) : Ret P 83 [(.slice a_p a_n a_c)] w R :=
  Ret.of_fsem Tryd.func83 rfl (Eq.mp (impl_NatOk_eq a_p a_n a_c w R) h)
def spec_l04Make (neg : Bool) (a_p : Option Addr) (a_n : Nat) (a_c : Nat) (w : World) (R : Value → World → Prop) : Prop :=
  ∀ (r : Nat) (wv : World), New w (.cells ⟨[(.bool false), (.slice none 0 0)]⟩ 42 (0, 0)) r wv →
  Calls P 102 ⟨[(.slice a_p a_n a_c)]⟩ wv fun e wv_1 =>
  ∃ (t7_p : Option Addr) (t7_n : Nat) (t7_c : Nat), e = .returned (.slice t7_p t7_n t7_c) ∧
  (neg = true →
    ∀ (r_1 : Nat) (wv_2 : World), New wv_1 (.cells ⟨[]⟩ 3 (0, 0)) r_1 wv_2 →
    ∃ (t16_p : Option Addr) (t16_n : Nat) (t16_c : Nat) (wv_3 : World), Appends P [35, 35] [(.slice (some ⟨r_1, 0, none⟩) 0 0), (.slice t7_p t7_n t7_c)] (.slice t16_p t16_n t16_c) wv_2 wv_3 ∧
    ∃ wv_4, Stores P 42 ⟨r, 0, none⟩ (.agg #[(.bool (decide ((0 : Int) < ((t7_n : Nat) : Int)))), (.slice t16_p t16_n t16_c)]) wv_3 wv_4 ∧
    ∃ (r0 : Bool) (r1_p : Option Addr) (r1_n : Nat) (r1_c : Nat), Loads P 42 ⟨r, 0, none⟩ (.agg #[(.bool r0), (.slice r1_p r1_n r1_c)]) wv_4 ∧ R (.agg #[(.bool r0), (.slice r1_p r1_n r1_c)]) wv_4) ∧
  (neg = false →
    ∀ (r_2 : Nat) (wv_5 : World), New wv_1 (.cells ⟨[]⟩ 3 (0, 0)) r_2 wv_5 →
    ∃ (t16_p_1 : Option Addr) (t16_n_1 : Nat) (t16_c_1 : Nat) (wv_6 : World), Appends P [35, 35] [(.slice (some ⟨r_2, 0, none⟩) 0 0), (.slice t7_p t7_n t7_c)] (.slice t16_p_1 t16_n_1 t16_c_1) wv_5 wv_6 ∧
    ∃ wv_7, Stores P 42 ⟨r, 0, none⟩ (.agg #[(.bool false), (.slice t16_p_1 t16_n_1 t16_c_1)]) wv_6 wv_7 ∧
    ∃ (r0_1 : Bool) (r1_p_1 : Option Addr) (r1_n_1 : Nat) (r1_c_1 : Nat), Loads P 42 ⟨r, 0, none⟩ (.agg #[(.bool r0_1), (.slice r1_p_1 r1_n_1 r1_c_1)]) wv_7 ∧ R (.agg #[(.bool r0_1), (.slice r1_p_1 r1_n_1 r1_c_1)]) wv_7)
theorem spec_l04Make_eq (neg : Bool) (a_p : Option Addr) (a_n : Nat) (a_c : Nat) (w : World) (R : Value → World → Prop) : spec_l04Make neg a_p a_n a_c w R = fsem P Tryd.f87 (fun k => []) [(.bool neg), (.slice a_p a_n a_c)] R w := by kernel_rfl
theorem spec_l04Make_ret {neg : Bool} {a_p : Option Addr} {a_n : Nat} {a_c : Nat} {w : World} {R : Value → World → Prop} (h : spec_l04Make neg a_p a_n a_c w R) : Ret P 87 [(.bool neg), (.slice a_p a_n a_c)] w R :=
  Ret.of_fsem Tryd.func87 rfl (Eq.mp (spec_l04Make_eq neg a_p a_n a_c w R) h)
def spec_l02Add_j2 (wv_1 : World) (Inv : Option Addr → Nat → Nat → Int → Int → World → Prop) (mu : Option Addr → Nat → Nat → Int → Int → World → Nat) (out_p : Option Addr) (out_n : Nat) (out_c : Nat) (carry : Int) (i : Int) (n_1 : Int) (W_2 : World) (R : Value → World → Prop) : Prop :=
  (1000000000 : Int) ≠ 0 ∧ ∃ t49 : Int, t49 = Int.tmod n_1 1000000000 ∧ ∀ (r_1 : Nat) (wv_2 : World), New W_2 (.cells ⟨[(.int .i64 t49)]⟩ 3 (0, 0)) r_1 wv_2 →
  ∃ (t51_p : Option Addr) (t51_n : Nat) (t51_c : Nat) (wv_3 : World), Appends P [35, 35] [(.slice out_p out_n out_c), (.slice (some ⟨r_1, 0, none⟩) 1 1)] (.slice t51_p t51_n t51_c) wv_2 wv_3 ∧
  (1000000000 : Int) ≠ 0 ∧ ∃ t53 : Int, t53 = IntKind.wrap .i64 (Int.tdiv n_1 1000000000) ∧ ∃ t25 : Int, t25 = IntKind.wrap .i64 (i + 1) ∧ Inv t51_p t51_n t51_c t53 t25 wv_3 ∧ mu t51_p t51_n t51_c t53 t25 wv_3 < mu out_p out_n out_c carry i wv_1
def spec_l02Add_j1 (b_p : Option Addr) (b_n : Nat) (wv_1 : World) (Inv : Option Addr → Nat → Nat → Int → Int → World → Prop) (mu : Option Addr → Nat → Nat → Int → Int → World → Nat) (out_p : Option Addr) (out_n : Nat) (out_c : Nat) (carry : Int) (i : Int) (n : Int) (W_1 : World) (R : Value → World → Prop) : Prop :=
  ((decide ((i : Int) < ((b_n : Nat) : Int))) = true →
    (0 ≤ (i : Int) ∧ (i : Int) < (b_n : Nat)) ∧ ptrS b_p fun ad_1 => ∃ (t45 : Int), Loads P 3 (ad_1.add (i.toNat * 1)) (.int .i64 t45) W_1 ∧ ∃ t46 : Int, t46 = IntKind.wrap .i64 (n + t45) ∧ spec_l02Add_j2 wv_1 Inv mu out_p out_n out_c carry i t46 W_1 R) ∧
  ((decide ((i : Int) < ((b_n : Nat) : Int))) = false →
    spec_l02Add_j2 wv_1 Inv mu out_p out_n out_c carry i n W_1 R)
def spec_l02Add_j0 (a_p : Option Addr) (a_n : Nat) (b_p : Option Addr) (b_n : Nat) (wv_1 : World) (Inv : Option Addr → Nat → Nat → Int → Int → World → Prop) (mu : Option Addr → Nat → Nat → Int → Int → World → Nat) (out_p : Option Addr) (out_n : Nat) (out_c : Nat) (carry : Int) (i : Int) (W : World) (R : Value → World → Prop) : Prop :=
  ((decide ((i : Int) < ((a_n : Nat) : Int))) = true →
    (0 ≤ (i : Int) ∧ (i : Int) < (a_n : Nat)) ∧ ptrS a_p fun ad => ∃ (t35 : Int), Loads P 3 (ad.add (i.toNat * 1)) (.int .i64 t35) W ∧ ∃ t36 : Int, t36 = IntKind.wrap .i64 (carry + t35) ∧ spec_l02Add_j1 b_p b_n wv_1 Inv mu out_p out_n out_c carry i t36 W R) ∧
  ((decide ((i : Int) < ((a_n : Nat) : Int))) = false →
    spec_l02Add_j1 b_p b_n wv_1 Inv mu out_p out_n out_c carry i carry W R)
def spec_l02Add (a_p : Option Addr) (a_n : Nat) (a_c : Nat) (b_p : Option Addr) (b_n : Nat) (b_c : Nat) (w : World) (R : Value → World → Prop) : Prop :=
  ∀ (r : Nat) (wv : World), New w (.cells ⟨[]⟩ 3 (0, 0)) r wv →
  ∃ (Inv : Option Addr → Nat → Nat → Int → Int → World → Prop) (mu : Option Addr → Nat → Nat → Int → Int → World → Nat), Inv (some ⟨r, 0, none⟩) 0 0 0 0 wv ∧
  ∀ (junk : Fr) (wv_1 : World) (out_p : Option Addr) (out_n : Nat) (out_c : Nat) (carry : Int) (i : Int), Inv out_p out_n out_c carry i wv_1 →
    ((decide ((i : Int) < ((a_n : Nat) : Int))) = true →
      (true = true →
        (true = true →
          spec_l02Add_j0 a_p a_n b_p b_n wv_1 Inv mu out_p out_n out_c carry i wv_1 R) ∧
        (true = false →
          R (.slice out_p out_n out_c) wv_1)) ∧
      (true = false →
        ((decide ((0 : Int) < carry)) = true →
          spec_l02Add_j0 a_p a_n b_p b_n wv_1 Inv mu out_p out_n out_c carry i wv_1 R) ∧
        ((decide ((0 : Int) < carry)) = false →
          R (.slice out_p out_n out_c) wv_1))) ∧
    ((decide ((i : Int) < ((a_n : Nat) : Int))) = false →
      ((decide ((i : Int) < ((b_n : Nat) : Int))) = true →
        (true = true →
          spec_l02Add_j0 a_p a_n b_p b_n wv_1 Inv mu out_p out_n out_c carry i wv_1 R) ∧
        (true = false →
          R (.slice out_p out_n out_c) wv_1)) ∧
      ((decide ((i : Int) < ((b_n : Nat) : Int))) = false →
        ((decide ((0 : Int) < carry)) = true →
          spec_l02Add_j0 a_p a_n b_p b_n wv_1 Inv mu out_p out_n out_c carry i wv_1 R) ∧
        ((decide ((0 : Int) < carry)) = false →
          R (.slice out_p out_n out_c) wv_1)))
theorem spec_l02Add_eq (a_p : Option Addr) (a_n : Nat) (a_c : Nat) (b_p : Option Addr) (b_n : Nat) (b_c : Nat) (w : World) (R : Value → World → Prop) : spec_l02Add a_p a_n a_c b_p b_n b_c w R = fsem P Tryd.f88 (fun k => cond (Nat.beq k 5) [(5, .one .slice), (6, .one (.int .i64)), (7, .one (.int .i64))] ([])) [(.slice a_p a_n a_c), (.slice b_p b_n b_c)] R w := by kernel_rfl
theorem spec_l02Add_ret {a_p : Option Addr} {a_n : Nat} {a_c : Nat} {b_p : Option Addr} {b_n : Nat} {b_c : Nat} {w : World} {R : Value → World → Prop} (h : spec_l02Add a_p a_n a_c b_p b_n b_c w R) : Ret P 88 [(.slice a_p a_n a_c), (.slice b_p b_n b_c)] w R :=
  Ret.of_fsem Tryd.func88 rfl (Eq.mp (spec_l02Add_eq a_p a_n a_c b_p b_n b_c w R) h)
def spec_l02Cmp (a_p : Option Addr) (a_n : Nat) (a_c : Nat) (b_p : Option Addr) (b_n : Nat) (b_c : Nat) (w : World) (R : Value → World → Prop) : Prop :=
  ((decide ((((a_n : Nat) : Int) : Int) ≠ ((b_n : Nat) : Int))) = true →
    ((decide ((((a_n : Nat) : Int) : Int) < ((b_n : Nat) : Int))) = true →
      R (.int .i64 (-1)) w) ∧
    ((decide ((((a_n : Nat) : Int) : Int) < ((b_n : Nat) : Int))) = false →
      R (.int .i64 1) w)) ∧
  ((decide ((((a_n : Nat) : Int) : Int) ≠ ((b_n : Nat) : Int))) = false →
    ∃ t18 : Int, t18 = IntKind.wrap .i64 (((a_n : Nat) : Int) - 1) ∧ ∃ (Inv : Int → World → Prop) (mu : Int → World → Nat), Inv t18 w ∧
    ∀ (junk : Fr) (wv : World) (i : Int), Inv i wv →
      ((decide ((0 : Int) ≤ i)) = true →
        (0 ≤ (i : Int) ∧ (i : Int) < (a_n : Nat)) ∧ ptrS a_p fun ad => ∃ (t26 : Int), (∀ wv_1, Ext wv.drew wv_1 → Loads P 3 (ad.add (i.toNat * 1)) (.int .i64 t26) wv_1) ∧ (0 ≤ (i : Int) ∧ (i : Int) < (b_n : Nat)) ∧ ptrS b_p fun ad_1 => ∃ (t30 : Int), (∀ wv_2, Ext wv.drew wv_2 → Loads P 3 (ad_1.add (i.toNat * 1)) (.int .i64 t30) wv_2) ∧ ((decide ((t26 : Int) < t30)) = true →
          R (.int .i64 (-1)) wv.drew) ∧
        ((decide ((t26 : Int) < t30)) = false →
          (0 ≤ (i : Int) ∧ (i : Int) < (a_n : Nat)) ∧ ptrS a_p fun ad_2 => ∃ (t35 : Int), (∀ wv_3, Ext wv.drew.drew wv_3 → Loads P 3 (ad_2.add (i.toNat * 1)) (.int .i64 t35) wv_3) ∧ (0 ≤ (i : Int) ∧ (i : Int) < (b_n : Nat)) ∧ ptrS b_p fun ad_3 => ∃ (t39 : Int), (∀ wv_4, Ext wv.drew.drew wv_4 → Loads P 3 (ad_3.add (i.toNat * 1)) (.int .i64 t39) wv_4) ∧ ((decide ((t39 : Int) < t35)) = true →
            R (.int .i64 1) wv.drew.drew) ∧
          ((decide ((t39 : Int) < t35)) = false →
            ∃ t22 : Int, t22 = IntKind.wrap .i64 (i - 1) ∧ Inv t22 wv.drew.drew ∧ mu t22 wv.drew.drew < mu i wv))) ∧
      ((decide ((0 : Int) ≤ i)) = false →
        R (.int .i64 0) wv))
theorem spec_l02Cmp_eq (a_p : Option Addr) (a_n : Nat) (a_c : Nat) (b_p : Option Addr) (b_n : Nat) (b_c : Nat) (w : World) (R : Value → World → Prop) : spec_l02Cmp a_p a_n a_c b_p b_n b_c w R = fsem P Tryd.f89 (fun k => cond (Nat.beq k 7) [(5, .one (.int .i64))] ([])) [(.slice a_p a_n a_c), (.slice b_p b_n b_c)] R w := by kernel_rfl
theorem spec_l02Cmp_ret {a_p : Option Addr} {a_n : Nat} {a_c : Nat} {b_p : Option Addr} {b_n : Nat} {b_c : Nat} {w : World} {R : Value → World → Prop} (h : spec_l02Cmp a_p a_n a_c b_p b_n b_c w R) : Ret P 89 [(.slice a_p a_n a_c), (.slice b_p b_n b_c)] w R :=
  Ret.of_fsem Tryd.func89 rfl (Eq.mp (spec_l02Cmp_eq a_p a_n a_c b_p b_n b_c w R) h)
def spec_l02Sub_j1 (wv_1 : World) (Inv : Option Addr → Nat → Nat → Int → Int → World → Prop) (mu : Option Addr → Nat → Nat → Int → Int → World → Nat) (out_p : Option Addr) (out_n : Nat) (out_c : Nat) (less : Int) (t12 : Int) (less_1 : Int) (n_1 : Int) (W_1 : World) (R : Value → World → Prop) : Prop :=
  ∀ (r_1 : Nat) (wv_2 : World), New W_1 (.cells ⟨[(.int .i64 n_1)]⟩ 3 (0, 0)) r_1 wv_2 →
  ∃ (t38_p : Option Addr) (t38_n : Nat) (t38_c : Nat) (wv_3 : World), Appends P [35, 35] [(.slice out_p out_n out_c), (.slice (some ⟨r_1, 0, none⟩) 1 1)] (.slice t38_p t38_n t38_c) wv_2 wv_3 ∧
  ∃ t39 : Int, t39 = IntKind.wrap .i64 (t12 + 1) ∧ Inv t38_p t38_n t38_c less_1 t39 wv_3 ∧ mu t38_p t38_n t38_c less_1 t39 wv_3 < mu out_p out_n out_c less t12 wv_1
def spec_l02Sub_j0 (wv_1 : World) (Inv : Option Addr → Nat → Nat → Int → Int → World → Prop) (mu : Option Addr → Nat → Nat → Int → Int → World → Nat) (out_p : Option Addr) (out_n : Nat) (out_c : Nat) (less : Int) (t12 : Int) (n : Int) (W : World) (R : Value → World → Prop) : Prop :=
  ((decide ((n : Int) < 0)) = true →
    ∃ t34 : Int, t34 = IntKind.wrap .i64 (n + 1000000000) ∧ spec_l02Sub_j1 wv_1 Inv mu out_p out_n out_c less t12 1 t34 W R) ∧
  ((decide ((n : Int) < 0)) = false →
    spec_l02Sub_j1 wv_1 Inv mu out_p out_n out_c less t12 0 n W R)
def spec_l02Sub (a_p : Option Addr) (a_n : Nat) (a_c : Nat) (b_p : Option Addr) (b_n : Nat) (b_c : Nat) (w : World) (R : Value → World → Prop) : Prop :=
  ∀ (r : Nat) (wv : World), New w (.cells ⟨[]⟩ 3 (0, 0)) r wv →
  ∃ (Inv : Option Addr → Nat → Nat → Int → Int → World → Prop) (mu : Option Addr → Nat → Nat → Int → Int → World → Nat), Inv (some ⟨r, 0, none⟩) 0 0 0 0 wv ∧
  ∀ (junk : Fr) (wv_1 : World) (out_p : Option Addr) (out_n : Nat) (out_c : Nat) (less : Int) (t12 : Int), Inv out_p out_n out_c less t12 wv_1 →
    ((decide ((t12 : Int) < ((a_n : Nat) : Int))) = true →
      (0 ≤ (t12 : Int) ∧ (t12 : Int) < (a_n : Nat)) ∧ ptrS a_p fun ad => ∃ (t18 : Int), Loads P 3 (ad.add (t12.toNat * 1)) (.int .i64 t18) wv_1 ∧ ∃ t20 : Int, t20 = IntKind.wrap .i64 (t18 - less) ∧ ((decide ((t12 : Int) < ((b_n : Nat) : Int))) = true →
        (0 ≤ (t12 : Int) ∧ (t12 : Int) < (b_n : Nat)) ∧ ptrS b_p fun ad_1 => ∃ (t29 : Int), Loads P 3 (ad_1.add (t12.toNat * 1)) (.int .i64 t29) wv_1 ∧ ∃ t30 : Int, t30 = IntKind.wrap .i64 (t20 - t29) ∧ spec_l02Sub_j0 wv_1 Inv mu out_p out_n out_c less t12 t30 wv_1 R) ∧
      ((decide ((t12 : Int) < ((b_n : Nat) : Int))) = false →
        spec_l02Sub_j0 wv_1 Inv mu out_p out_n out_c less t12 t20 wv_1 R)) ∧
    ((decide ((t12 : Int) < ((a_n : Nat) : Int))) = false →
      Calls P 103 ⟨[(.slice out_p out_n out_c)]⟩ wv_1 fun e wv_4 =>
      ∃ (t41_p : Option Addr) (t41_n : Nat) (t41_c : Nat), e = .returned (.slice t41_p t41_n t41_c) ∧
      R (.slice t41_p t41_n t41_c) wv_4)
theorem spec_l02Sub_eq (a_p : Option Addr) (a_n : Nat) (a_c : Nat) (b_p : Option Addr) (b_n : Nat) (b_c : Nat) (w : World) (R : Value → World → Prop) : spec_l02Sub a_p a_n a_c b_p b_n b_c w R = fsem P Tryd.f90 (fun k => cond (Nat.beq k 5) [(5, .one .slice), (6, .one (.int .i64)), (12, .one (.int .i64))] ([])) [(.slice a_p a_n a_c), (.slice b_p b_n b_c)] R w := by kernel_rfl
theorem spec_l02Sub_ret {a_p : Option Addr} {a_n : Nat} {a_c : Nat} {b_p : Option Addr} {b_n : Nat} {b_c : Nat} {w : World} {R : Value → World → Prop} (h : spec_l02Sub a_p a_n a_c b_p b_n b_c w R) : Ret P 90 [(.slice a_p a_n a_c), (.slice b_p b_n b_c)] w R :=
  Ret.of_fsem Tryd.func90 rfl (Eq.mp (spec_l02Sub_eq a_p a_n a_c b_p b_n b_c w R) h)
def impl_trim (a_p : Option Addr) (a_n : Nat) (a_c : Nat) (w : World) (R : Value → World → Prop) : Prop :=
  ∃ (Inv : Option Addr → Nat → Nat → World → Prop) (mu : Option Addr → Nat → Nat → World → Nat), Inv a_p a_n a_c w ∧
  ∀ (junk : Fr) (wv : World) (a_p_1 : Option Addr) (a_n_1 : Nat) (a_c_1 : Nat), Inv a_p_1 a_n_1 a_c_1 wv →
    ((decide ((0 : Int) < ((a_n_1 : Nat) : Int))) = true →
      ∃ t10 : Int, t10 = IntKind.wrap .i64 (((a_n_1 : Nat) : Int) - 1) ∧ (0 ≤ (t10 : Int) ∧ (t10 : Int) < (a_n_1 : Nat)) ∧ ptrS a_p_1 fun ad => ∃ (t12 : Int), Loads P 3 (ad.add (t10.toNat * 1)) (.int .i64 t12) wv ∧ ((decide ((t12 : Int) = 0)) = true →
        ∃ t18 : Int, t18 = IntKind.wrap .i64 (((a_n_1 : Nat) : Int) - 1) ∧ (0 ≤ (t18 : Int) ∧ (t18 : Int) ≤ (a_c_1 : Nat)) ∧ Inv (sub a_p_1 0 a_c_1 1) (t18.toNat - 0) (a_c_1 - 0) wv ∧ mu (sub a_p_1 0 a_c_1 1) (t18.toNat - 0) (a_c_1 - 0) wv < mu a_p_1 a_n_1 a_c_1 wv) ∧
      ((decide ((t12 : Int) = 0)) = false →
        R (.slice a_p_1 a_n_1 a_c_1) wv)) ∧
    ((decide ((0 : Int) < ((a_n_1 : Nat) : Int))) = false →
      (false = true →
        ∃ t18_1 : Int, t18_1 = IntKind.wrap .i64 (((a_n_1 : Nat) : Int) - 1) ∧ (0 ≤ (t18_1 : Int) ∧ (t18_1 : Int) ≤ (a_c_1 : Nat)) ∧ Inv (sub a_p_1 0 a_c_1 1) (t18_1.toNat - 0) (a_c_1 - 0) wv ∧ mu (sub a_p_1 0 a_c_1 1) (t18_1.toNat - 0) (a_c_1 - 0) wv < mu a_p_1 a_n_1 a_c_1 wv) ∧
      (false = false →
        R (.slice a_p_1 a_n_1 a_c_1) wv))
theorem impl_trim_eq (a_p : Option Addr) (a_n : Nat) (a_c : Nat) (w : World) (R : Value → World → Prop) : impl_trim a_p a_n a_c w R = fsem P Tryd.f91 (fun k => cond (Nat.beq k 2) [(0, .one .slice)] ([])) [(.slice a_p a_n a_c)] R w := by kernel_rfl
theorem impl_trim_ret {a_p : Option Addr} {a_n : Nat} {a_c : Nat} {w : World} {R : Value → World → Prop} (h : impl_trim a_p a_n a_c w R) : Ret P 91 [(.slice a_p a_n a_c)] w R :=
  Ret.of_fsem Tryd.func91 rfl (Eq.mp (impl_trim_eq a_p a_n a_c w R) h)
def spec_l08Table (w : World) (R : Value → World → Prop) : Prop :=
  ∀ (r : Nat) (wv : World), New w (.cells ⟨[(.string (S [65, 85, 68])), (.string (S [48, 51, 54])), (.int .i64 2), (.int .i64 5), (.string (S [66, 72, 68])), (.string (S [48, 52, 56])), (.int .i64 3), (.int .i64 5), (.string (S [67, 65, 68])), (.string (S [49, 50, 52])), (.int .i64 2), (.int .i64 5), (.string (S [67, 72, 70])), (.string (S [55, 53, 54])), (.int .i64 2), (.int .i64 5), (.string (S [67, 76, 70])), (.string (S [57, 57, 48])), (.int .i64 4), (.int .i64 1), (.string (S [67, 90, 75])), (.string (S [50, 48, 51])), (.int .i64 2), (.int .i64 100), (.string (S [68, 75, 75])), (.string (S [50, 48, 56])), (.int .i64 2), (.int .i64 50), (.string (S [69, 85, 82])), (.string (S [57, 55, 56])), (.int .i64 2), (.int .i64 1), (.string (S [71, 66, 80])), (.string (S [56, 50, 54])), (.int .i64 2), (.int .i64 1), (.string (S [72, 85, 70])), (.string (S [51, 52, 56])), (.int .i64 2), (.int .i64 500), (.string (S [73, 83, 75])), (.string (S [51, 53, 50])), (.int .i64 0), (.int .i64 1), (.string (S [74, 80, 89])), (.string (S [51, 57, 50])), (.int .i64 0), (.int .i64 1), (.string (S [75, 82, 87])), (.string (S [52, 49, 48])), (.int .i64 0), (.int .i64 10), (.string (S [75, 87, 68])), (.string (S [52, 49, 52])), (.int .i64 3), (.int .i64 5), (.string (S [78, 79, 75])), (.string (S [53, 55, 56])), (.int .i64 2), (.int .i64 100), (.string (S [78, 90, 68])), (.string (S [53, 53, 52])), (.int .i64 2), (.int .i64 10), (.string (S [80, 76, 78])), (.string (S [57, 56, 53])), (.int .i64 2), (.int .i64 1), (.string (S [83, 69, 75])), (.string (S [55, 53, 50])), (.int .i64 2), (.int .i64 100), (.string (S [84, 78, 68])), (.string (S [55, 56, 56])), (.int .i64 3), (.int .i64 10), (.string (S [85, 83, 68])), (.string (S [56, 52, 48])), (.int .i64 2), (.int .i64 1)]⟩ 104 (0, 0)) r wv →
  R (.slice (some ⟨r, 0, none⟩) 20 20) wv
theorem spec_l08Table_eq (w : World) (R : Value → World → Prop) : spec_l08Table w R = fsem P Tryd.f92 (fun k => []) [] R w := by kernel_rfl
theorem spec_l08Table_ret {w : World} {R : Value → World → Prop} (h : spec_l08Table w R) : Ret P 92 [] w R :=
  Ret.of_fsem Tryd.func92 rfl (Eq.mp (spec_l08Table_eq w R) h)
def spec_l01In (n : Int) (lo : Int) (hi : Int) (w : World) (R : Value → World → Prop) : Prop :=
  ((decide ((lo : Int) ≤ n)) = true →
    R (.bool (decide ((n : Int) ≤ hi))) w) ∧
  ((decide ((lo : Int) ≤ n)) = false →
    R (.bool false) w)
theorem spec_l01In_eq (n : Int) (lo : Int) (hi : Int) (w : World) (R : Value → World → Prop) : spec_l01In n lo hi w R = fsem P Tryd.f93 (fun k => []) [(.int .i64 n), (.int .i64 lo), (.int .i64 hi)] R w := by kernel_rfl
theorem spec_l01In_ret {n : Int} {lo : Int} {hi : Int} {w : World} {R : Value → World → Prop} (h : spec_l01In n lo hi w R) : Ret P 93 [(.int .i64 n), (.int .i64 lo), (.int .i64 hi)] w R :=
  Ret.of_fsem Tryd.func93 rfl (Eq.mp (spec_l01In_eq n lo hi w R) h)
def spec_l02Cap (a_p : Option Addr) (a_n : Nat) (a_c : Nat) (w : World) (R : Value → World → Prop) : Prop :=
  Calls P 103 ⟨[(.slice a_p a_n a_c)]⟩ w fun e wv =>
  ∃ (t5_p : Option Addr) (t5_n : Nat) (t5_c : Nat), e = .returned (.slice t5_p t5_n t5_c) ∧
  ((decide ((50 : Int) < ((t5_n : Nat) : Int))) = true →
    R (.slice none 0 0) wv) ∧
  ((decide ((50 : Int) < ((t5_n : Nat) : Int))) = false →
    R (.slice t5_p t5_n t5_c) wv)
theorem spec_l02Cap_eq (a_p : Option Addr) (a_n : Nat) (a_c : Nat) (w : World) (R : Value → World → Prop) : spec_l02Cap a_p a_n a_c w R = fsem P Tryd.f102 (fun k => []) [(.slice a_p a_n a_c)] R w := by kernel_rfl
theorem spec_l02Cap_ret {a_p : Option Addr} {a_n : Nat} {a_c : Nat} {w : World} {R : Value → World → Prop} (h : spec_l02Cap a_p a_n a_c w R) : Ret P 102 [(.slice a_p a_n a_c)] w R :=
  Ret.of_fsem Tryd.func102 rfl (Eq.mp (spec_l02Cap_eq a_p a_n a_c w R) h)
def spec_l02Trim (a_p : Option Addr) (a_n : Nat) (a_c : Nat) (w : World) (R : Value → World → Prop) : Prop :=
  ∃ (Inv : Int → World → Prop) (mu : Int → World → Nat), Inv ((a_n : Nat) : Int) w ∧
  ∀ (junk : Fr) (wv : World) (n : Int), Inv n wv →
    ((decide ((0 : Int) < n)) = true →
      ∃ t11 : Int, t11 = IntKind.wrap .i64 (n - 1) ∧ (0 ≤ (t11 : Int) ∧ (t11 : Int) < (a_n : Nat)) ∧ ptrS a_p fun ad => ∃ (t13 : Int), Loads P 3 (ad.add (t11.toNat * 1)) (.int .i64 t13) wv ∧ ((decide ((t13 : Int) = 0)) = true →
        ∃ t17 : Int, t17 = IntKind.wrap .i64 (n - 1) ∧ Inv t17 wv ∧ mu t17 wv < mu n wv) ∧
      ((decide ((t13 : Int) = 0)) = false →
        (0 ≤ (n : Int) ∧ (n : Int) ≤ (a_c : Nat)) ∧ R (.slice (sub a_p 0 a_c 1) (n.toNat - 0) (a_c - 0)) wv)) ∧
    ((decide ((0 : Int) < n)) = false →
      (false = true →
        ∃ t17_1 : Int, t17_1 = IntKind.wrap .i64 (n - 1) ∧ Inv t17_1 wv ∧ mu t17_1 wv < mu n wv) ∧
      (false = false →
        (0 ≤ (n : Int) ∧ (n : Int) ≤ (a_c : Nat)) ∧ R (.slice (sub a_p 0 a_c 1) (n.toNat - 0) (a_c - 0)) wv))
theorem spec_l02Trim_eq (a_p : Option Addr) (a_n : Nat) (a_c : Nat) (w : World) (R : Value → World → Prop) : spec_l02Trim a_p a_n a_c w R = fsem P Tryd.f103 (fun k => cond (Nat.beq k 3) [(3, .one (.int .i64))] ([])) [(.slice a_p a_n a_c)] R w := by kernel_rfl
theorem spec_l02Trim_ret {a_p : Option Addr} {a_n : Nat} {a_c : Nat} {w : World} {R : Value → World → Prop} (h : spec_l02Trim a_p a_n a_c w R) : Ret P 103 [(.slice a_p a_n a_c)] w R :=
  Ret.of_fsem Tryd.func103 rfl (Eq.mp (spec_l02Trim_eq a_p a_n a_c w R) h)
end Go.Proofs.YteakifedfnnmeaaDoor

namespace Go.Proofs.YteakifedfnnmeaaDoor
open Go Go.Proofs.YteakifedfnnmeaaDoor.Sx
set_option linter.unusedVariables false
set_option maxRecDepth 100000
def laws_szBook (a0_p : Option Addr) (a0_n : Nat) (a0_c : Nat) (left : Int) (w : World) (R : Value → World → Prop) : Prop :=
  ∀ (r : Nat) (wv : World), New w (.cells ⟨[(.slice a0_p a0_n a0_c)]⟩ 24 (0, 0)) r wv →
  ∃ (t6_p : Option Addr) (t6_n : Nat) (t6_c : Nat), Loads P 22 ((⟨r, 0, none⟩ : Addr).add 0) (.slice t6_p t6_n t6_c) wv ∧ Calls P 18 ⟨[(.slice t6_p t6_n t6_c), (.int .i64 left)]⟩ wv fun e wv_1 =>
  ∃ (t8 : Int), e = .returned (.int .i64 t8) ∧
  ((decide ((t8 : Int) < 0)) = true →
    R (.int .i64 (-1)) wv_1) ∧
  ((decide ((t8 : Int) < 0)) = false →
    R (.int .i64 t8) wv_1)
theorem laws_szBook_eq (a0_p : Option Addr) (a0_n : Nat) (a0_c : Nat) (left : Int) (w : World) (R : Value → World → Prop) : laws_szBook a0_p a0_n a0_c left w R = fsem P Tryd.f5 (fun k => []) [(.agg #[(.slice a0_p a0_n a0_c)]), (.int .i64 left)] R w := by kernel_rfl
theorem laws_szBook_ret {a0_p : Option Addr} {a0_n : Nat} {a0_c : Nat} {left : Int} {w : World} {R : Value → World → Prop} (h : laws_szBook a0_p a0_n a0_c left w R) : Ret P 5 [(.agg #[(.slice a0_p a0_n a0_c)]), (.int .i64 left)] w R :=
  Ret.of_fsem Tryd.func5 rfl (Eq.mp (laws_szBook_eq a0_p a0_n a0_c left w R) h)
def laws_toBook (a0_p : Option Addr) (a0_n : Nat) (a0_c : Nat) (w : World) (R : Value → World → Prop) : Prop :=
  ∀ (r : Nat) (wv : World), New w (.cells ⟨[(.slice a0_p a0_n a0_c)]⟩ 24 (0, 0)) r wv →
  ∀ (r_1 : Nat) (wv_1 : World), New wv (.cells ⟨[(.slice none 0 0)]⟩ 28 (0, 0)) r_1 wv_1 →
  ∀ (r_2 : Nat) (wv_2 : World), New wv_1 (.cells ⟨[(.slice none 0 0)]⟩ 28 (0, 0)) r_2 wv_2 →
  ∃ (t5_p : Option Addr) (t5_n : Nat) (t5_c : Nat), Loads P 22 ((⟨r, 0, none⟩ : Addr).add 0) (.slice t5_p t5_n t5_c) wv_2 ∧ Calls P 22 ⟨[(.slice t5_p t5_n t5_c)]⟩ wv_2 fun e wv_3 =>
  ∃ (t6_p : Option Addr) (t6_n : Nat) (t6_c : Nat), e = .returned (.slice t6_p t6_n t6_c) ∧
  ∃ wv_4, Stores P 26 ((⟨r_2, 0, none⟩ : Addr).add 0) (.slice t6_p t6_n t6_c) wv_3 wv_4 ∧
  ∃ (t80_p : Option Addr) (t80_n : Nat) (t80_c : Nat), Loads P 28 ⟨r_2, 0, none⟩ (.agg #[(.slice t80_p t80_n t80_c)]) wv_4 ∧ ∃ wv_5, Stores P 28 ⟨r_1, 0, none⟩ (.agg #[(.slice t80_p t80_n t80_c)]) wv_4 wv_5 ∧
  ∃ (r0_p : Option Addr) (r0_n : Nat) (r0_c : Nat), Loads P 28 ⟨r_1, 0, none⟩ (.agg #[(.slice r0_p r0_n r0_c)]) wv_5 ∧ R (.agg #[(.slice r0_p r0_n r0_c)]) wv_5
theorem laws_toBook_eq (a0_p : Option Addr) (a0_n : Nat) (a0_c : Nat) (w : World) (R : Value → World → Prop) : laws_toBook a0_p a0_n a0_c w R = fsem P Tryd.f7 (fun k => []) [(.agg #[(.slice a0_p a0_n a0_c)])] R w := by kernel_rfl
theorem laws_toBook_ret {a0_p : Option Addr} {a0_n : Nat} {a0_c : Nat} {w : World} {R : Value → World → Prop} (h : laws_toBook a0_p a0_n a0_c w R) : Ret P 7 [(.agg #[(.slice a0_p a0_n a0_c)])] w R :=
  Ret.of_fsem Tryd.func7 rfl (Eq.mp (laws_toBook_eq a0_p a0_n a0_c w R) h)
def laws_eqBook (a0_p : Option Addr) (a0_n : Nat) (a0_c : Nat) (b0_p : Option Addr) (b0_n : Nat) (b0_c : Nat) (w : World) (R : Value → World → Prop) : Prop :=
  ∀ (r : Nat) (wv : World), New w (.cells ⟨[(.slice a0_p a0_n a0_c)]⟩ 28 (0, 0)) r wv →
  ∀ (r_1 : Nat) (wv_1 : World), New wv (.cells ⟨[(.slice b0_p b0_n b0_c)]⟩ 28 (0, 0)) r_1 wv_1 →
  ∃ (t6_p : Option Addr) (t6_n : Nat) (t6_c : Nat), Loads P 26 ((⟨r, 0, none⟩ : Addr).add 0) (.slice t6_p t6_n t6_c) wv_1 ∧ ∃ (t8_p : Option Addr) (t8_n : Nat) (t8_c : Nat), Loads P 26 ((⟨r_1, 0, none⟩ : Addr).add 0) (.slice t8_p t8_n t8_c) wv_1 ∧ Calls P 28 ⟨[(.slice t6_p t6_n t6_c), (.slice t8_p t8_n t8_c)]⟩ wv_1 fun e wv_2 =>
  ∃ (t9 : Bool), e = .returned (.bool t9) ∧
  ((!t9) = true →
    R (.bool false) wv_2) ∧
  ((!t9) = false →
    R (.bool true) wv_2)
theorem laws_eqBook_eq (a0_p : Option Addr) (a0_n : Nat) (a0_c : Nat) (b0_p : Option Addr) (b0_n : Nat) (b0_c : Nat) (w : World) (R : Value → World → Prop) : laws_eqBook a0_p a0_n a0_c b0_p b0_n b0_c w R = fsem P Tryd.f9 (fun k => []) [(.agg #[(.slice a0_p a0_n a0_c)]), (.agg #[(.slice b0_p b0_n b0_c)])] R w := by kernel_rfl
theorem laws_eqBook_ret {a0_p : Option Addr} {a0_n : Nat} {a0_c : Nat} {b0_p : Option Addr} {b0_n : Nat} {b0_c : Nat} {w : World} {R : Value → World → Prop} (h : laws_eqBook a0_p a0_n a0_c b0_p b0_n b0_c w R) : Ret P 9 [(.agg #[(.slice a0_p a0_n a0_c)]), (.agg #[(.slice b0_p b0_n b0_c)])] w R :=
  Ret.of_fsem Tryd.func9 rfl (Eq.mp (laws_eqBook_eq a0_p a0_n a0_c b0_p b0_n b0_c w R) h)
def laws_markBook (a0_p : Option Addr) (a0_n : Nat) (a0_c : Nat) (k : Int) (w : World) (R : Value → World → Prop) : Prop :=
  ∀ (r : Nat) (wv : World), New w (.cells ⟨[(.slice a0_p a0_n a0_c)]⟩ 28 (0, 0)) r wv →
  ∃ (t6_p : Option Addr) (t6_n : Nat) (t6_c : Nat), Loads P 26 ((⟨r, 0, none⟩ : Addr).add 0) (.slice t6_p t6_n t6_c) wv ∧ Calls P 29 ⟨[(.slice t6_p t6_n t6_c), (.int .i64 k)]⟩ wv fun e wv_1 =>
  ∃ (t8 : Int), e = .returned (.int .i64 t8) ∧
  R (.int .i64 t8) wv_1
theorem laws_markBook_eq (a0_p : Option Addr) (a0_n : Nat) (a0_c : Nat) (k : Int) (w : World) (R : Value → World → Prop) : laws_markBook a0_p a0_n a0_c k w R = fsem P Tryd.f10 (fun k => []) [(.agg #[(.slice a0_p a0_n a0_c)]), (.int .i64 k)] R w := by kernel_rfl
theorem laws_markBook_ret {a0_p : Option Addr} {a0_n : Nat} {a0_c : Nat} {k : Int} {w : World} {R : Value → World → Prop} (h : laws_markBook a0_p a0_n a0_c k w R) : Ret P 10 [(.agg #[(.slice a0_p a0_n a0_c)]), (.int .i64 k)] w R :=
  Ret.of_fsem Tryd.func10 rfl (Eq.mp (laws_markBook_eq a0_p a0_n a0_c k w R) h)
def laws_heldBook (a0_p : Option Addr) (a0_n : Nat) (a0_c : Nat) (k : Int) (w : World) (R : Value → World → Prop) : Prop :=
  ∀ (r : Nat) (wv : World), New w (.cells ⟨[(.slice a0_p a0_n a0_c)]⟩ 28 (0, 0)) r wv →
  ∃ (t6_p : Option Addr) (t6_n : Nat) (t6_c : Nat), Loads P 26 ((⟨r, 0, none⟩ : Addr).add 0) (.slice t6_p t6_n t6_c) wv ∧ Calls P 30 ⟨[(.slice t6_p t6_n t6_c), (.int .i64 k)]⟩ wv fun e wv_1 =>
  ∃ (t8 : Int), e = .returned (.int .i64 t8) ∧
  ((decide ((t8 : Int) < 0)) = true →
    R (.int .i64 (-1)) wv_1) ∧
  ((decide ((t8 : Int) < 0)) = false →
    R (.int .i64 t8) wv_1)
theorem laws_heldBook_eq (a0_p : Option Addr) (a0_n : Nat) (a0_c : Nat) (k : Int) (w : World) (R : Value → World → Prop) : laws_heldBook a0_p a0_n a0_c k w R = fsem P Tryd.f11 (fun k => []) [(.agg #[(.slice a0_p a0_n a0_c)]), (.int .i64 k)] R w := by kernel_rfl
theorem laws_heldBook_ret {a0_p : Option Addr} {a0_n : Nat} {a0_c : Nat} {k : Int} {w : World} {R : Value → World → Prop} (h : laws_heldBook a0_p a0_n a0_c k w R) : Ret P 11 [(.agg #[(.slice a0_p a0_n a0_c)]), (.int .i64 k)] w R :=
  Ret.of_fsem Tryd.func11 rfl (Eq.mp (laws_heldBook_eq a0_p a0_n a0_c k w R) h)
def laws_szMoney (a0 : ByteArray) (a1 : Bool) (a2_p : Option Addr) (a2_n : Nat) (a2_c : Nat) (left : Int) (w : World) (R : Value → World → Prop) : Prop :=
  ∀ (r : Nat) (wv : World), New w (.cells ⟨[(.string a0), (.bool a1), (.slice a2_p a2_n a2_c)]⟩ 39 (0, 0)) r wv →
  ∃ (t7 : ByteArray), Loads P 9 ((⟨r, 0, none⟩ : Addr).add 0) (.string t7) wv ∧ ∃ t9 : Int, t9 = IntKind.wrap .i64 (left - ((t7.size : Nat) : Int)) ∧ ((decide ((t9 : Int) < 0)) = true →
    R (.int .i64 (-1)) wv) ∧
  ((decide ((t9 : Int) < 0)) = false →
    ∃ (t130 : Bool) (t131_p : Option Addr) (t131_n : Nat) (t131_c : Nat), Loads P 37 ((⟨r, 0, none⟩ : Addr).add 1) (.agg #[(.bool t130), (.slice t131_p t131_n t131_c)]) wv ∧ Calls P 31 ⟨[(.agg #[(.bool t130), (.slice t131_p t131_n t131_c)]), (.int .i64 t9)]⟩ wv fun e wv_1 =>
    ∃ (t15 : Int), e = .returned (.int .i64 t15) ∧
    ((decide ((t15 : Int) < 0)) = true →
      R (.int .i64 (-1)) wv_1) ∧
    ((decide ((t15 : Int) < 0)) = false →
      R (.int .i64 t15) wv_1))
theorem laws_szMoney_eq (a0 : ByteArray) (a1 : Bool) (a2_p : Option Addr) (a2_n : Nat) (a2_c : Nat) (left : Int) (w : World) (R : Value → World → Prop) : laws_szMoney a0 a1 a2_p a2_n a2_c left w R = fsem P Tryd.f12 (fun k => []) [(.agg #[(.string a0), (.bool a1), (.slice a2_p a2_n a2_c)]), (.int .i64 left)] R w := by kernel_rfl
theorem laws_szMoney_ret {a0 : ByteArray} {a1 : Bool} {a2_p : Option Addr} {a2_n : Nat} {a2_c : Nat} {left : Int} {w : World} {R : Value → World → Prop} (h : laws_szMoney a0 a1 a2_p a2_n a2_c left w R) : Ret P 12 [(.agg #[(.string a0), (.bool a1), (.slice a2_p a2_n a2_c)]), (.int .i64 left)] w R :=
  Ret.of_fsem Tryd.func12 rfl (Eq.mp (laws_szMoney_eq a0 a1 a2_p a2_n a2_c left w R) h)
def laws_toMoney (a0 : ByteArray) (a1 : Bool) (a2_p : Option Addr) (a2_n : Nat) (a2_c : Nat) (w : World) (R : Value → World → Prop) : Prop :=
  ∀ (r : Nat) (wv : World), New w (.cells ⟨[(.string a0), (.bool a1), (.slice a2_p a2_n a2_c)]⟩ 39 (0, 0)) r wv →
  ∀ (r_1 : Nat) (wv_1 : World), New wv (.cells ⟨[(.string ByteArray.empty), (.bool false), (.slice none 0 0)]⟩ 44 (0, 0)) r_1 wv_1 →
  ∀ (r_2 : Nat) (wv_2 : World), New wv_1 (.cells ⟨[(.string ByteArray.empty), (.bool false), (.slice none 0 0)]⟩ 44 (0, 0)) r_2 wv_2 →
  ∃ (t5 : ByteArray), Loads P 9 ((⟨r, 0, none⟩ : Addr).add 0) (.string t5) wv_2 ∧ ∃ wv_3, Stores P 9 ((⟨r_2, 0, none⟩ : Addr).add 0) (.string t5) wv_2 wv_3 ∧
  ∃ (t80 : Bool) (t81_p : Option Addr) (t81_n : Nat) (t81_c : Nat), Loads P 37 ((⟨r, 0, none⟩ : Addr).add 1) (.agg #[(.bool t80), (.slice t81_p t81_n t81_c)]) wv_3 ∧ Calls P 33 ⟨[(.agg #[(.bool t80), (.slice t81_p t81_n t81_c)])]⟩ wv_3 fun e wv_4 =>
  ∃ (t90 : Bool) (t91_p : Option Addr) (t91_n : Nat) (t91_c : Nat), e = .returned (.agg #[(.bool t90), (.slice t91_p t91_n t91_c)]) ∧
  ∃ wv_5, Stores P 42 ((⟨r_2, 0, none⟩ : Addr).add 1) (.agg #[(.bool t90), (.slice t91_p t91_n t91_c)]) wv_4 wv_5 ∧
  ∃ (t110 : ByteArray) (t111 : Bool) (t112_p : Option Addr) (t112_n : Nat) (t112_c : Nat), Loads P 44 ⟨r_2, 0, none⟩ (.agg #[(.string t110), (.bool t111), (.slice t112_p t112_n t112_c)]) wv_5 ∧ ∃ wv_6, Stores P 44 ⟨r_1, 0, none⟩ (.agg #[(.string t110), (.bool t111), (.slice t112_p t112_n t112_c)]) wv_5 wv_6 ∧
  ∃ (r0 : ByteArray) (r1 : Bool) (r2_p : Option Addr) (r2_n : Nat) (r2_c : Nat), Loads P 44 ⟨r_1, 0, none⟩ (.agg #[(.string r0), (.bool r1), (.slice r2_p r2_n r2_c)]) wv_6 ∧ R (.agg #[(.string r0), (.bool r1), (.slice r2_p r2_n r2_c)]) wv_6
theorem laws_toMoney_eq (a0 : ByteArray) (a1 : Bool) (a2_p : Option Addr) (a2_n : Nat) (a2_c : Nat) (w : World) (R : Value → World → Prop) : laws_toMoney a0 a1 a2_p a2_n a2_c w R = fsem P Tryd.f14 (fun k => []) [(.agg #[(.string a0), (.bool a1), (.slice a2_p a2_n a2_c)])] R w := by kernel_rfl
theorem laws_toMoney_ret {a0 : ByteArray} {a1 : Bool} {a2_p : Option Addr} {a2_n : Nat} {a2_c : Nat} {w : World} {R : Value → World → Prop} (h : laws_toMoney a0 a1 a2_p a2_n a2_c w R) : Ret P 14 [(.agg #[(.string a0), (.bool a1), (.slice a2_p a2_n a2_c)])] w R :=
  Ret.of_fsem Tryd.func14 rfl (Eq.mp (laws_toMoney_eq a0 a1 a2_p a2_n a2_c w R) h)
def laws_eqMoney (a0 : ByteArray) (a1 : Bool) (a2_p : Option Addr) (a2_n : Nat) (a2_c : Nat) (b0 : ByteArray) (b1 : Bool) (b2_p : Option Addr) (b2_n : Nat) (b2_c : Nat) (w : World) (R : Value → World → Prop) : Prop :=
  ∀ (r : Nat) (wv : World), New w (.cells ⟨[(.string a0), (.bool a1), (.slice a2_p a2_n a2_c)]⟩ 44 (0, 0)) r wv →
  ∀ (r_1 : Nat) (wv_1 : World), New wv (.cells ⟨[(.string b0), (.bool b1), (.slice b2_p b2_n b2_c)]⟩ 44 (0, 0)) r_1 wv_1 →
  ∃ (t6 : ByteArray), Loads P 9 ((⟨r, 0, none⟩ : Addr).add 0) (.string t6) wv_1 ∧ ∃ (t8 : ByteArray), Loads P 9 ((⟨r_1, 0, none⟩ : Addr).add 0) (.string t8) wv_1 ∧ ((decide (t6 ≠ t8)) = true →
    R (.bool false) wv_1) ∧
  ((decide (t6 ≠ t8)) = false →
    ∃ (t110 : Bool) (t111_p : Option Addr) (t111_n : Nat) (t111_c : Nat), Loads P 42 ((⟨r, 0, none⟩ : Addr).add 1) (.agg #[(.bool t110), (.slice t111_p t111_n t111_c)]) wv_1 ∧ ∃ (t130 : Bool) (t131_p : Option Addr) (t131_n : Nat) (t131_c : Nat), Loads P 42 ((⟨r_1, 0, none⟩ : Addr).add 1) (.agg #[(.bool t130), (.slice t131_p t131_n t131_c)]) wv_1 ∧ Calls P 36 ⟨[(.agg #[(.bool t110), (.slice t111_p t111_n t111_c)]), (.agg #[(.bool t130), (.slice t131_p t131_n t131_c)])]⟩ wv_1 fun e wv_2 =>
    ∃ (t14 : Bool), e = .returned (.bool t14) ∧
    ((!t14) = true →
      R (.bool false) wv_2) ∧
    ((!t14) = false →
      R (.bool true) wv_2))
theorem laws_eqMoney_eq (a0 : ByteArray) (a1 : Bool) (a2_p : Option Addr) (a2_n : Nat) (a2_c : Nat) (b0 : ByteArray) (b1 : Bool) (b2_p : Option Addr) (b2_n : Nat) (b2_c : Nat) (w : World) (R : Value → World → Prop) : laws_eqMoney a0 a1 a2_p a2_n a2_c b0 b1 b2_p b2_n b2_c w R = fsem P Tryd.f16 (fun k => []) [(.agg #[(.string a0), (.bool a1), (.slice a2_p a2_n a2_c)]), (.agg #[(.string b0), (.bool b1), (.slice b2_p b2_n b2_c)])] R w := by kernel_rfl
theorem laws_eqMoney_ret {a0 : ByteArray} {a1 : Bool} {a2_p : Option Addr} {a2_n : Nat} {a2_c : Nat} {b0 : ByteArray} {b1 : Bool} {b2_p : Option Addr} {b2_n : Nat} {b2_c : Nat} {w : World} {R : Value → World → Prop} (h : laws_eqMoney a0 a1 a2_p a2_n a2_c b0 b1 b2_p b2_n b2_c w R) : Ret P 16 [(.agg #[(.string a0), (.bool a1), (.slice a2_p a2_n a2_c)]), (.agg #[(.string b0), (.bool b1), (.slice b2_p b2_n b2_c)])] w R :=
  Ret.of_fsem Tryd.func16 rfl (Eq.mp (laws_eqMoney_eq a0 a1 a2_p a2_n a2_c b0 b1 b2_p b2_n b2_c w R) h)
def laws_markMoney (a0 : ByteArray) (a1 : Bool) (a2_p : Option Addr) (a2_n : Nat) (a2_c : Nat) (k : Int) (w : World) (R : Value → World → Prop) : Prop :=
  ∀ (r : Nat) (wv : World), New w (.cells ⟨[(.string a0), (.bool a1), (.slice a2_p a2_n a2_c)]⟩ 44 (0, 0)) r wv →
  ∃ (t60 : Bool) (t61_p : Option Addr) (t61_n : Nat) (t61_c : Nat), Loads P 42 ((⟨r, 0, none⟩ : Addr).add 1) (.agg #[(.bool t60), (.slice t61_p t61_n t61_c)]) wv ∧ Calls P 37 ⟨[(.agg #[(.bool t60), (.slice t61_p t61_n t61_c)]), (.int .i64 k)]⟩ wv fun e wv_1 =>
  ∃ (t8 : Int), e = .returned (.int .i64 t8) ∧
  R (.int .i64 t8) wv_1
theorem laws_markMoney_eq (a0 : ByteArray) (a1 : Bool) (a2_p : Option Addr) (a2_n : Nat) (a2_c : Nat) (k : Int) (w : World) (R : Value → World → Prop) : laws_markMoney a0 a1 a2_p a2_n a2_c k w R = fsem P Tryd.f17 (fun k => []) [(.agg #[(.string a0), (.bool a1), (.slice a2_p a2_n a2_c)]), (.int .i64 k)] R w := by kernel_rfl
theorem laws_markMoney_ret {a0 : ByteArray} {a1 : Bool} {a2_p : Option Addr} {a2_n : Nat} {a2_c : Nat} {k : Int} {w : World} {R : Value → World → Prop} (h : laws_markMoney a0 a1 a2_p a2_n a2_c k w R) : Ret P 17 [(.agg #[(.string a0), (.bool a1), (.slice a2_p a2_n a2_c)]), (.int .i64 k)] w R :=
  Ret.of_fsem Tryd.func17 rfl (Eq.mp (laws_markMoney_eq a0 a1 a2_p a2_n a2_c k w R) h)
def laws_szAcctS (a_p : Option Addr) (a_n : Nat) (a_c : Nat) (left : Int) (w : World) (R : Value → World → Prop) : Prop :=
  ∃ t9 : Int, t9 = IntKind.wrap .i64 (left - ((a_n : Nat) : Int)) ∧ ((decide ((t9 : Int) < 0)) = true →
    R (.int .i64 (-1)) w) ∧
  ((decide ((t9 : Int) < 0)) = false →
    ∃ (Inv : Int → Int → World → Prop) (mu : Int → Int → World → Nat), Inv t9 0 w ∧
    ∀ (junk : Fr) (wv : World) (left_1 : Int) (i : Int), Inv left_1 i wv →
      ((decide ((i : Int) < ((a_n : Nat) : Int))) = true →
        (0 ≤ (i : Int) ∧ (i : Int) < (a_n : Nat)) ∧ ptrS a_p fun ad => ∃ (t210 : ByteArray) (t211 : ByteArray) (t212 : Bool) (t213_p : Option Addr) (t213_n : Nat) (t213_c : Nat), Loads P 70 (ad.add (i.toNat * 4)) (.agg #[(.string t210), (.string t211), (.bool t212), (.slice t213_p t213_n t213_c)]) wv ∧ Calls P 38 ⟨[(.agg #[(.string t210), (.string t211), (.bool t212), (.slice t213_p t213_n t213_c)]), (.int .i64 left_1)]⟩ wv fun e wv_1 =>
        ∃ (t23 : Int), e = .returned (.int .i64 t23) ∧
        ((decide ((t23 : Int) < 0)) = true →
          R (.int .i64 (-1)) wv_1) ∧
        ((decide ((t23 : Int) < 0)) = false →
          ∃ t17 : Int, t17 = IntKind.wrap .i64 (i + 1) ∧ Inv t23 t17 wv_1 ∧ mu t23 t17 wv_1 < mu left_1 i wv)) ∧
      ((decide ((i : Int) < ((a_n : Nat) : Int))) = false →
        R (.int .i64 left_1) wv))
theorem laws_szAcctS_eq (a_p : Option Addr) (a_n : Nat) (a_c : Nat) (left : Int) (w : World) (R : Value → World → Prop) : laws_szAcctS a_p a_n a_c left w R = fsem P Tryd.f18 (fun k => cond (Nat.beq k 6) [(1, .one (.int .i64)), (5, .one (.int .i64))] ([])) [(.slice a_p a_n a_c), (.int .i64 left)] R w := by kernel_rfl
theorem laws_szAcctS_ret {a_p : Option Addr} {a_n : Nat} {a_c : Nat} {left : Int} {w : World} {R : Value → World → Prop} (h : laws_szAcctS a_p a_n a_c left w R) : Ret P 18 [(.slice a_p a_n a_c), (.int .i64 left)] w R :=
  Ret.of_fsem Tryd.func18 rfl (Eq.mp (laws_szAcctS_eq a_p a_n a_c left w R) h)
def laws_toAcctS (a_p : Option Addr) (a_n : Nat) (a_c : Nat) (w : World) (R : Value → World → Prop) : Prop :=
  (0 ≤ (((a_n : Nat) : Int) : Int) ∧ (((a_n : Nat) : Int) : Int) ≤ ((a_n : Nat) : Int) ∧ ((64 : Nat) : Int) * ((a_n : Nat) : Int) ≤ 281474976710656) ∧
  ∀ (r : Nat) (wv : World), New w (.cells ⟨zeroRow (.agg #[(.string ByteArray.empty), (.string ByteArray.empty), (.bool false), (.slice none 0 0)]) (a_n * 4)⟩ 54 (0, 0)) r wv →
  ∃ (Inv : Int → World → Prop) (mu : Int → World → Nat), Inv 0 wv ∧
  ∀ (junk : Fr) (wv_1 : World) (i : Int), Inv i wv_1 →
    ((decide ((i : Int) < ((a_n : Nat) : Int))) = true →
      (0 ≤ (i : Int) ∧ (i : Int) < (a_n : Nat)) ∧ ptrS a_p fun ad => ∃ (t190 : ByteArray) (t191 : ByteArray) (t192 : Bool) (t193_p : Option Addr) (t193_n : Nat) (t193_c : Nat), Loads P 70 (ad.add (i.toNat * 4)) (.agg #[(.string t190), (.string t191), (.bool t192), (.slice t193_p t193_n t193_c)]) wv_1 ∧ Calls P 42 ⟨[(.agg #[(.string t190), (.string t191), (.bool t192), (.slice t193_p t193_n t193_c)])]⟩ wv_1 fun e wv_2 =>
      ∃ (t200 : ByteArray) (t201 : ByteArray) (t202 : Bool) (t203_p : Option Addr) (t203_n : Nat) (t203_c : Nat), e = .returned (.agg #[(.string t200), (.string t201), (.bool t202), (.slice t203_p t203_n t203_c)]) ∧
      (0 ≤ (i : Int) ∧ (i : Int) < (a_n : Nat)) ∧ ∃ wv_3, Stores P 54 ((⟨r, 0, none⟩ : Addr).add (i.toNat * 4)) (.agg #[(.string t200), (.string t201), (.bool t202), (.slice t203_p t203_n t203_c)]) wv_2 wv_3 ∧
      ∃ t13 : Int, t13 = IntKind.wrap .i64 (i + 1) ∧ Inv t13 wv_3 ∧ mu t13 wv_3 < mu i wv_1) ∧
    ((decide ((i : Int) < ((a_n : Nat) : Int))) = false →
      R (.slice (some ⟨r, 0, none⟩) a_n a_n) wv_1)
theorem laws_toAcctS_eq (a_p : Option Addr) (a_n : Nat) (a_c : Nat) (w : World) (R : Value → World → Prop) : laws_toAcctS a_p a_n a_c w R = fsem P Tryd.f22 (fun k => cond (Nat.beq k 4) [(4, .one (.int .i64))] ([])) [(.slice a_p a_n a_c)] R w := by kernel_rfl
theorem laws_toAcctS_ret {a_p : Option Addr} {a_n : Nat} {a_c : Nat} {w : World} {R : Value → World → Prop} (h : laws_toAcctS a_p a_n a_c w R) : Ret P 22 [(.slice a_p a_n a_c)] w R :=
  Ret.of_fsem Tryd.func22 rfl (Eq.mp (laws_toAcctS_eq a_p a_n a_c w R) h)
def laws_eqAcctS (a_p : Option Addr) (a_n : Nat) (a_c : Nat) (b_p : Option Addr) (b_n : Nat) (b_c : Nat) (w : World) (R : Value → World → Prop) : Prop :=
  ((decide ((((a_n : Nat) : Int) : Int) ≠ ((b_n : Nat) : Int))) = true →
    R (.bool false) w) ∧
  ((decide ((((a_n : Nat) : Int) : Int) ≠ ((b_n : Nat) : Int))) = false →
    ∃ (Inv : Int → World → Prop) (mu : Int → World → Nat), Inv 0 w ∧
    ∀ (junk : Fr) (wv : World) (i : Int), Inv i wv →
      ((decide ((i : Int) < ((a_n : Nat) : Int))) = true →
        (0 ≤ (i : Int) ∧ (i : Int) < (a_n : Nat)) ∧ ptrS a_p fun ad => ∃ (t200 : ByteArray) (t201 : ByteArray) (t202 : Bool) (t203_p : Option Addr) (t203_n : Nat) (t203_c : Nat), (∀ wv_1, Ext wv.drew wv_1 → Loads P 54 (ad.add (i.toNat * 4)) (.agg #[(.string t200), (.string t201), (.bool t202), (.slice t203_p t203_n t203_c)]) wv_1) ∧ (0 ≤ (i : Int) ∧ (i : Int) < (b_n : Nat)) ∧ ptrS b_p fun ad_1 => ∃ (t240 : ByteArray) (t241 : ByteArray) (t242 : Bool) (t243_p : Option Addr) (t243_n : Nat) (t243_c : Nat), (∀ wv_2, Ext wv.drew wv_2 → Loads P 54 (ad_1.add (i.toNat * 4)) (.agg #[(.string t240), (.string t241), (.bool t242), (.slice t243_p t243_n t243_c)]) wv_2) ∧ Calls P 51 ⟨[(.agg #[(.string t200), (.string t201), (.bool t202), (.slice t203_p t203_n t203_c)]), (.agg #[(.string t240), (.string t241), (.bool t242), (.slice t243_p t243_n t243_c)])]⟩ wv.drew fun e wv_3 =>
        ∃ (t25 : Bool), e = .returned (.bool t25) ∧
        ((!t25) = true →
          R (.bool false) wv_3) ∧
        ((!t25) = false →
          ∃ t16 : Int, t16 = IntKind.wrap .i64 (i + 1) ∧ Inv t16 wv_3 ∧ mu t16 wv_3 < mu i wv)) ∧
      ((decide ((i : Int) < ((a_n : Nat) : Int))) = false →
        R (.bool true) wv))
theorem laws_eqAcctS_eq (a_p : Option Addr) (a_n : Nat) (a_c : Nat) (b_p : Option Addr) (b_n : Nat) (b_c : Nat) (w : World) (R : Value → World → Prop) : laws_eqAcctS a_p a_n a_c b_p b_n b_c w R = fsem P Tryd.f28 (fun k => cond (Nat.beq k 5) [(5, .one (.int .i64))] ([])) [(.slice a_p a_n a_c), (.slice b_p b_n b_c)] R w := by kernel_rfl
theorem laws_eqAcctS_ret {a_p : Option Addr} {a_n : Nat} {a_c : Nat} {b_p : Option Addr} {b_n : Nat} {b_c : Nat} {w : World} {R : Value → World → Prop} (h : laws_eqAcctS a_p a_n a_c b_p b_n b_c w R) : Ret P 28 [(.slice a_p a_n a_c), (.slice b_p b_n b_c)] w R :=
  Ret.of_fsem Tryd.func28 rfl (Eq.mp (laws_eqAcctS_eq a_p a_n a_c b_p b_n b_c w R) h)
def laws_markAcctS (a_p : Option Addr) (a_n : Nat) (a_c : Nat) (k : Int) (w : World) (R : Value → World → Prop) : Prop :=
  ∃ (Inv : Int → Int → World → Prop) (mu : Int → Int → World → Nat), Inv k 0 w ∧
  ∀ (junk : Fr) (wv : World) (k_1 : Int) (i : Int), Inv k_1 i wv →
    ((decide ((i : Int) < ((a_n : Nat) : Int))) = true →
      Calls P 52 ⟨[(.int .i64 k_1)]⟩ wv fun e wv_1 =>
      ∃ (t15 : ByteArray), e = .returned (.string t15) ∧
      (0 ≤ (i : Int) ∧ (i : Int) < (a_n : Nat)) ∧ ptrS a_p fun ad => ∃ wv_2, Stores P 9 ((ad.add (i.toNat * 4)).add 0) (.string t15) wv_1 wv_2 ∧
      ∃ t19 : Int, t19 = IntKind.wrap .i64 (k_1 + 1) ∧ Calls P 52 ⟨[(.int .i64 t19)]⟩ wv_2 fun e_1 wv_3 =>
      ∃ (t23 : ByteArray), e_1 = .returned (.string t23) ∧
      (0 ≤ (i : Int) ∧ (i : Int) < (a_n : Nat)) ∧ ptrS a_p fun ad_1 => ∃ wv_4, Stores P 9 (((ad_1.add (i.toNat * 4)).add 1).add 0) (.string t23) wv_3 wv_4 ∧
      ∃ t28 : Int, t28 = IntKind.wrap .i64 (t19 + 1) ∧ (3 : Int) ≠ 0 ∧ ∃ t32 : Int, t32 = Int.tmod t28 3 ∧ (0 ≤ (i : Int) ∧ (i : Int) < (a_n : Nat)) ∧ ptrS a_p fun ad_2 => ∃ wv_5, Stores P 4 ((((ad_2.add (i.toNat * 4)).add 1).add 1).add 0) (.bool (decide ((t32 : Int) = 0))) wv_4 wv_5 ∧
      ∃ t39 : Int, t39 = IntKind.wrap .i64 (t28 + 1) ∧ (0 ≤ (i : Int) ∧ (i : Int) < (a_n : Nat)) ∧ ptrS a_p fun ad_3 => ∃ (t46_p : Option Addr) (t46_n : Nat) (t46_c : Nat), Loads P 35 ((((ad_3.add (i.toNat * 4)).add 1).add 1).add 1) (.slice t46_p t46_n t46_c) wv_5 ∧ Calls P 53 ⟨[(.slice t46_p t46_n t46_c), (.int .i64 t39)]⟩ wv_5 fun e_2 wv_6 =>
      ∃ (t48 : Int), e_2 = .returned (.int .i64 t48) ∧
      ∃ t11 : Int, t11 = IntKind.wrap .i64 (i + 1) ∧ Inv t48 t11 wv_6 ∧ mu t48 t11 wv_6 < mu k_1 i wv) ∧
    ((decide ((i : Int) < ((a_n : Nat) : Int))) = false →
      R (.int .i64 k_1) wv)
theorem laws_markAcctS_eq (a_p : Option Addr) (a_n : Nat) (a_c : Nat) (k : Int) (w : World) (R : Value → World → Prop) : laws_markAcctS a_p a_n a_c k w R = fsem P Tryd.f29 (fun k => cond (Nat.beq k 3) [(1, .one (.int .i64)), (5, .one (.int .i64))] ([])) [(.slice a_p a_n a_c), (.int .i64 k)] R w := by kernel_rfl
theorem laws_markAcctS_ret {a_p : Option Addr} {a_n : Nat} {a_c : Nat} {k : Int} {w : World} {R : Value → World → Prop} (h : laws_markAcctS a_p a_n a_c k w R) : Ret P 29 [(.slice a_p a_n a_c), (.int .i64 k)] w R :=
  Ret.of_fsem Tryd.func29 rfl (Eq.mp (laws_markAcctS_eq a_p a_n a_c k w R) h)
def laws_heldAcctS (a_p : Option Addr) (a_n : Nat) (a_c : Nat) (k : Int) (w : World) (R : Value → World → Prop) : Prop :=
  ∃ (Inv : Int → Int → World → Prop) (mu : Int → Int → World → Nat), Inv k 0 w ∧
  ∀ (junk : Fr) (wv : World) (k_1 : Int) (i : Int), Inv k_1 i wv →
    ((decide ((i : Int) < ((a_n : Nat) : Int))) = true →
      (0 ≤ (i : Int) ∧ (i : Int) < (a_n : Nat)) ∧ ptrS a_p fun ad => ∃ (t16 : ByteArray), (∀ wv_1, Ext wv.drew wv_1 → Loads P 9 ((ad.add (i.toNat * 4)).add 0) (.string t16) wv_1) ∧ Calls P 52 ⟨[(.int .i64 k_1)]⟩ wv.drew fun e wv_2 =>
      ∃ (t18 : ByteArray), e = .returned (.string t18) ∧
      Ext wv.drew wv_2 ∧ ((decide (t16 ≠ t18)) = true →
        R (.int .i64 (-1)) wv_2) ∧
      ((decide (t16 ≠ t18)) = false →
        ∃ t21 : Int, t21 = IntKind.wrap .i64 (k_1 + 1) ∧ (0 ≤ (i : Int) ∧ (i : Int) < (a_n : Nat)) ∧ ptrS a_p fun ad_1 => ∃ (t27 : ByteArray), (∀ wv_3, Ext wv_2.drew wv_3 → Loads P 9 (((ad_1.add (i.toNat * 4)).add 1).add 0) (.string t27) wv_3) ∧ Calls P 52 ⟨[(.int .i64 t21)]⟩ wv_2.drew fun e_1 wv_4 =>
        ∃ (t29 : ByteArray), e_1 = .returned (.string t29) ∧
        Ext wv_2.drew wv_4 ∧ ((decide (t27 ≠ t29)) = true →
          R (.int .i64 (-1)) wv_4) ∧
        ((decide (t27 ≠ t29)) = false →
          ∃ t32 : Int, t32 = IntKind.wrap .i64 (t21 + 1) ∧ (0 ≤ (i : Int) ∧ (i : Int) < (a_n : Nat)) ∧ ptrS a_p fun ad_2 => ∃ (t39 : Bool), Loads P 4 ((((ad_2.add (i.toNat * 4)).add 1).add 1).add 0) (.bool t39) wv_4 ∧ (3 : Int) ≠ 0 ∧ ∃ t41 : Int, t41 = Int.tmod t32 3 ∧ ((!(t39 == (decide ((t41 : Int) = 0)))) = true →
            R (.int .i64 (-1)) wv_4) ∧
          ((!(t39 == (decide ((t41 : Int) = 0)))) = false →
            ∃ t45 : Int, t45 = IntKind.wrap .i64 (t32 + 1) ∧ (0 ≤ (i : Int) ∧ (i : Int) < (a_n : Nat)) ∧ ptrS a_p fun ad_3 => ∃ (t52_p : Option Addr) (t52_n : Nat) (t52_c : Nat), Loads P 35 ((((ad_3.add (i.toNat * 4)).add 1).add 1).add 1) (.slice t52_p t52_n t52_c) wv_4 ∧ Calls P 54 ⟨[(.slice t52_p t52_n t52_c), (.int .i64 t45)]⟩ wv_4 fun e_2 wv_5 =>
            ∃ (t54 : Int), e_2 = .returned (.int .i64 t54) ∧
            ((decide ((t54 : Int) < 0)) = true →
              R (.int .i64 (-1)) wv_5) ∧
            ((decide ((t54 : Int) < 0)) = false →
              ∃ t11 : Int, t11 = IntKind.wrap .i64 (i + 1) ∧ Inv t54 t11 wv_5 ∧ mu t54 t11 wv_5 < mu k_1 i wv))))) ∧
    ((decide ((i : Int) < ((a_n : Nat) : Int))) = false →
      R (.int .i64 k_1) wv)
theorem laws_heldAcctS_eq (a_p : Option Addr) (a_n : Nat) (a_c : Nat) (k : Int) (w : World) (R : Value → World → Prop) : laws_heldAcctS a_p a_n a_c k w R = fsem P Tryd.f30 (fun k => cond (Nat.beq k 3) [(1, .one (.int .i64)), (5, .one (.int .i64))] ([])) [(.slice a_p a_n a_c), (.int .i64 k)] R w := by kernel_rfl
theorem laws_heldAcctS_ret {a_p : Option Addr} {a_n : Nat} {a_c : Nat} {k : Int} {w : World} {R : Value → World → Prop} (h : laws_heldAcctS a_p a_n a_c k w R) : Ret P 30 [(.slice a_p a_n a_c), (.int .i64 k)] w R :=
  Ret.of_fsem Tryd.func30 rfl (Eq.mp (laws_heldAcctS_eq a_p a_n a_c k w R) h)
def laws_szSigned (a0 : Bool) (a1_p : Option Addr) (a1_n : Nat) (a1_c : Nat) (left : Int) (w : World) (R : Value → World → Prop) : Prop :=
  ∀ (r : Nat) (wv : World), New w (.cells ⟨[(.bool a0), (.slice a1_p a1_n a1_c)]⟩ 37 (0, 0)) r wv →
  ∃ (t6_p : Option Addr) (t6_n : Nat) (t6_c : Nat), Loads P 35 ((⟨r, 0, none⟩ : Addr).add 1) (.slice t6_p t6_n t6_c) wv ∧ Calls P 55 ⟨[(.slice t6_p t6_n t6_c), (.int .i64 left)]⟩ wv fun e wv_1 =>
  ∃ (t8 : Int), e = .returned (.int .i64 t8) ∧
  ((decide ((t8 : Int) < 0)) = true →
    R (.int .i64 (-1)) wv_1) ∧
  ((decide ((t8 : Int) < 0)) = false →
    R (.int .i64 t8) wv_1)
theorem laws_szSigned_eq (a0 : Bool) (a1_p : Option Addr) (a1_n : Nat) (a1_c : Nat) (left : Int) (w : World) (R : Value → World → Prop) : laws_szSigned a0 a1_p a1_n a1_c left w R = fsem P Tryd.f31 (fun k => []) [(.agg #[(.bool a0), (.slice a1_p a1_n a1_c)]), (.int .i64 left)] R w := by kernel_rfl
theorem laws_szSigned_ret {a0 : Bool} {a1_p : Option Addr} {a1_n : Nat} {a1_c : Nat} {left : Int} {w : World} {R : Value → World → Prop} (h : laws_szSigned a0 a1_p a1_n a1_c left w R) : Ret P 31 [(.agg #[(.bool a0), (.slice a1_p a1_n a1_c)]), (.int .i64 left)] w R :=
  Ret.of_fsem Tryd.func31 rfl (Eq.mp (laws_szSigned_eq a0 a1_p a1_n a1_c left w R) h)
def laws_toSigned (a0 : Bool) (a1_p : Option Addr) (a1_n : Nat) (a1_c : Nat) (w : World) (R : Value → World → Prop) : Prop :=
  ∀ (r : Nat) (wv : World), New w (.cells ⟨[(.bool a0), (.slice a1_p a1_n a1_c)]⟩ 37 (0, 0)) r wv →
  ∀ (r_1 : Nat) (wv_1 : World), New wv (.cells ⟨[(.bool false), (.slice none 0 0)]⟩ 42 (0, 0)) r_1 wv_1 →
  ∀ (r_2 : Nat) (wv_2 : World), New wv_1 (.cells ⟨[(.bool false), (.slice none 0 0)]⟩ 42 (0, 0)) r_2 wv_2 →
  ∃ (t5 : Bool), Loads P 4 ((⟨r, 0, none⟩ : Addr).add 0) (.bool t5) wv_2 ∧ ∃ wv_3, Stores P 4 ((⟨r_2, 0, none⟩ : Addr).add 0) (.bool t5) wv_2 wv_3 ∧
  ∃ (t8_p : Option Addr) (t8_n : Nat) (t8_c : Nat), Loads P 35 ((⟨r, 0, none⟩ : Addr).add 1) (.slice t8_p t8_n t8_c) wv_3 ∧ Calls P 59 ⟨[(.slice t8_p t8_n t8_c)]⟩ wv_3 fun e wv_4 =>
  ∃ (t9_p : Option Addr) (t9_n : Nat) (t9_c : Nat), e = .returned (.slice t9_p t9_n t9_c) ∧
  ∃ wv_5, Stores P 35 ((⟨r_2, 0, none⟩ : Addr).add 1) (.slice t9_p t9_n t9_c) wv_4 wv_5 ∧
  ∃ (t110 : Bool) (t111_p : Option Addr) (t111_n : Nat) (t111_c : Nat), Loads P 42 ⟨r_2, 0, none⟩ (.agg #[(.bool t110), (.slice t111_p t111_n t111_c)]) wv_5 ∧ ∃ wv_6, Stores P 42 ⟨r_1, 0, none⟩ (.agg #[(.bool t110), (.slice t111_p t111_n t111_c)]) wv_5 wv_6 ∧
  ∃ (r0 : Bool) (r1_p : Option Addr) (r1_n : Nat) (r1_c : Nat), Loads P 42 ⟨r_1, 0, none⟩ (.agg #[(.bool r0), (.slice r1_p r1_n r1_c)]) wv_6 ∧ R (.agg #[(.bool r0), (.slice r1_p r1_n r1_c)]) wv_6
theorem laws_toSigned_eq (a0 : Bool) (a1_p : Option Addr) (a1_n : Nat) (a1_c : Nat) (w : World) (R : Value → World → Prop) : laws_toSigned a0 a1_p a1_n a1_c w R = fsem P Tryd.f33 (fun k => []) [(.agg #[(.bool a0), (.slice a1_p a1_n a1_c)])] R w := by kernel_rfl
theorem laws_toSigned_ret {a0 : Bool} {a1_p : Option Addr} {a1_n : Nat} {a1_c : Nat} {w : World} {R : Value → World → Prop} (h : laws_toSigned a0 a1_p a1_n a1_c w R) : Ret P 33 [(.agg #[(.bool a0), (.slice a1_p a1_n a1_c)])] w R :=
  Ret.of_fsem Tryd.func33 rfl (Eq.mp (laws_toSigned_eq a0 a1_p a1_n a1_c w R) h)
def laws_eqSigned (a0 : Bool) (a1_p : Option Addr) (a1_n : Nat) (a1_c : Nat) (b0 : Bool) (b1_p : Option Addr) (b1_n : Nat) (b1_c : Nat) (w : World) (R : Value → World → Prop) : Prop :=
  ∀ (r : Nat) (wv : World), New w (.cells ⟨[(.bool a0), (.slice a1_p a1_n a1_c)]⟩ 42 (0, 0)) r wv →
  ∀ (r_1 : Nat) (wv_1 : World), New wv (.cells ⟨[(.bool b0), (.slice b1_p b1_n b1_c)]⟩ 42 (0, 0)) r_1 wv_1 →
  ∃ (t6 : Bool), Loads P 4 ((⟨r, 0, none⟩ : Addr).add 0) (.bool t6) wv_1 ∧ ∃ (t8 : Bool), Loads P 4 ((⟨r_1, 0, none⟩ : Addr).add 0) (.bool t8) wv_1 ∧ ((!(t6 == t8)) = true →
    R (.bool false) wv_1) ∧
  ((!(t6 == t8)) = false →
    ∃ (t11_p : Option Addr) (t11_n : Nat) (t11_c : Nat), Loads P 35 ((⟨r, 0, none⟩ : Addr).add 1) (.slice t11_p t11_n t11_c) wv_1 ∧ ∃ (t13_p : Option Addr) (t13_n : Nat) (t13_c : Nat), Loads P 35 ((⟨r_1, 0, none⟩ : Addr).add 1) (.slice t13_p t13_n t13_c) wv_1 ∧ Calls P 63 ⟨[(.slice t11_p t11_n t11_c), (.slice t13_p t13_n t13_c)]⟩ wv_1 fun e wv_2 =>
    ∃ (t14 : Bool), e = .returned (.bool t14) ∧
    ((!t14) = true →
      R (.bool false) wv_2) ∧
    ((!t14) = false →
      R (.bool true) wv_2))
theorem laws_eqSigned_eq (a0 : Bool) (a1_p : Option Addr) (a1_n : Nat) (a1_c : Nat) (b0 : Bool) (b1_p : Option Addr) (b1_n : Nat) (b1_c : Nat) (w : World) (R : Value → World → Prop) : laws_eqSigned a0 a1_p a1_n a1_c b0 b1_p b1_n b1_c w R = fsem P Tryd.f36 (fun k => []) [(.agg #[(.bool a0), (.slice a1_p a1_n a1_c)]), (.agg #[(.bool b0), (.slice b1_p b1_n b1_c)])] R w := by kernel_rfl
theorem laws_eqSigned_ret {a0 : Bool} {a1_p : Option Addr} {a1_n : Nat} {a1_c : Nat} {b0 : Bool} {b1_p : Option Addr} {b1_n : Nat} {b1_c : Nat} {w : World} {R : Value → World → Prop} (h : laws_eqSigned a0 a1_p a1_n a1_c b0 b1_p b1_n b1_c w R) : Ret P 36 [(.agg #[(.bool a0), (.slice a1_p a1_n a1_c)]), (.agg #[(.bool b0), (.slice b1_p b1_n b1_c)])] w R :=
  Ret.of_fsem Tryd.func36 rfl (Eq.mp (laws_eqSigned_eq a0 a1_p a1_n a1_c b0 b1_p b1_n b1_c w R) h)
def laws_markSigned (a0 : Bool) (a1_p : Option Addr) (a1_n : Nat) (a1_c : Nat) (k : Int) (w : World) (R : Value → World → Prop) : Prop :=
  ∀ (r : Nat) (wv : World), New w (.cells ⟨[(.bool a0), (.slice a1_p a1_n a1_c)]⟩ 42 (0, 0)) r wv →
  ∃ (t6_p : Option Addr) (t6_n : Nat) (t6_c : Nat), Loads P 35 ((⟨r, 0, none⟩ : Addr).add 1) (.slice t6_p t6_n t6_c) wv ∧ Calls P 53 ⟨[(.slice t6_p t6_n t6_c), (.int .i64 k)]⟩ wv fun e wv_1 =>
  ∃ (t8 : Int), e = .returned (.int .i64 t8) ∧
  R (.int .i64 t8) wv_1
theorem laws_markSigned_eq (a0 : Bool) (a1_p : Option Addr) (a1_n : Nat) (a1_c : Nat) (k : Int) (w : World) (R : Value → World → Prop) : laws_markSigned a0 a1_p a1_n a1_c k w R = fsem P Tryd.f37 (fun k => []) [(.agg #[(.bool a0), (.slice a1_p a1_n a1_c)]), (.int .i64 k)] R w := by kernel_rfl
theorem laws_markSigned_ret {a0 : Bool} {a1_p : Option Addr} {a1_n : Nat} {a1_c : Nat} {k : Int} {w : World} {R : Value → World → Prop} (h : laws_markSigned a0 a1_p a1_n a1_c k w R) : Ret P 37 [(.agg #[(.bool a0), (.slice a1_p a1_n a1_c)]), (.int .i64 k)] w R :=
  Ret.of_fsem Tryd.func37 rfl (Eq.mp (laws_markSigned_eq a0 a1_p a1_n a1_c k w R) h)
def laws_szAcct (a0 : ByteArray) (a1 : ByteArray) (a2 : Bool) (a3_p : Option Addr) (a3_n : Nat) (a3_c : Nat) (left : Int) (w : World) (R : Value → World → Prop) : Prop :=
  ∀ (r : Nat) (wv : World), New w (.cells ⟨[(.string a0), (.string a1), (.bool a2), (.slice a3_p a3_n a3_c)]⟩ 70 (0, 0)) r wv →
  ∃ (t7 : ByteArray), Loads P 9 ((⟨r, 0, none⟩ : Addr).add 0) (.string t7) wv ∧ ∃ t9 : Int, t9 = IntKind.wrap .i64 (left - ((t7.size : Nat) : Int)) ∧ ((decide ((t9 : Int) < 0)) = true →
    R (.int .i64 (-1)) wv) ∧
  ((decide ((t9 : Int) < 0)) = false →
    ∃ (t130 : ByteArray) (t131 : Bool) (t132_p : Option Addr) (t132_n : Nat) (t132_c : Nat), Loads P 39 ((⟨r, 0, none⟩ : Addr).add 1) (.agg #[(.string t130), (.bool t131), (.slice t132_p t132_n t132_c)]) wv ∧ Calls P 12 ⟨[(.agg #[(.string t130), (.bool t131), (.slice t132_p t132_n t132_c)]), (.int .i64 t9)]⟩ wv fun e wv_1 =>
    ∃ (t15 : Int), e = .returned (.int .i64 t15) ∧
    ((decide ((t15 : Int) < 0)) = true →
      R (.int .i64 (-1)) wv_1) ∧
    ((decide ((t15 : Int) < 0)) = false →
      R (.int .i64 t15) wv_1))
theorem laws_szAcct_eq (a0 : ByteArray) (a1 : ByteArray) (a2 : Bool) (a3_p : Option Addr) (a3_n : Nat) (a3_c : Nat) (left : Int) (w : World) (R : Value → World → Prop) : laws_szAcct a0 a1 a2 a3_p a3_n a3_c left w R = fsem P Tryd.f38 (fun k => []) [(.agg #[(.string a0), (.string a1), (.bool a2), (.slice a3_p a3_n a3_c)]), (.int .i64 left)] R w := by kernel_rfl
theorem laws_szAcct_ret {a0 : ByteArray} {a1 : ByteArray} {a2 : Bool} {a3_p : Option Addr} {a3_n : Nat} {a3_c : Nat} {left : Int} {w : World} {R : Value → World → Prop} (h : laws_szAcct a0 a1 a2 a3_p a3_n a3_c left w R) : Ret P 38 [(.agg #[(.string a0), (.string a1), (.bool a2), (.slice a3_p a3_n a3_c)]), (.int .i64 left)] w R :=
  Ret.of_fsem Tryd.func38 rfl (Eq.mp (laws_szAcct_eq a0 a1 a2 a3_p a3_n a3_c left w R) h)
def laws_toAcct (a0 : ByteArray) (a1 : ByteArray) (a2 : Bool) (a3_p : Option Addr) (a3_n : Nat) (a3_c : Nat) (w : World) (R : Value → World → Prop) : Prop :=
  ∀ (r : Nat) (wv : World), New w (.cells ⟨[(.string a0), (.string a1), (.bool a2), (.slice a3_p a3_n a3_c)]⟩ 70 (0, 0)) r wv →
  ∀ (r_1 : Nat) (wv_1 : World), New wv (.cells ⟨[(.string ByteArray.empty), (.string ByteArray.empty), (.bool false), (.slice none 0 0)]⟩ 54 (0, 0)) r_1 wv_1 →
  ∀ (r_2 : Nat) (wv_2 : World), New wv_1 (.cells ⟨[(.string ByteArray.empty), (.string ByteArray.empty), (.bool false), (.slice none 0 0)]⟩ 54 (0, 0)) r_2 wv_2 →
  ∃ (t5 : ByteArray), Loads P 9 ((⟨r, 0, none⟩ : Addr).add 0) (.string t5) wv_2 ∧ ∃ wv_3, Stores P 9 ((⟨r_2, 0, none⟩ : Addr).add 0) (.string t5) wv_2 wv_3 ∧
  ∃ (t80 : ByteArray) (t81 : Bool) (t82_p : Option Addr) (t82_n : Nat) (t82_c : Nat), Loads P 39 ((⟨r, 0, none⟩ : Addr).add 1) (.agg #[(.string t80), (.bool t81), (.slice t82_p t82_n t82_c)]) wv_3 ∧ Calls P 14 ⟨[(.agg #[(.string t80), (.bool t81), (.slice t82_p t82_n t82_c)])]⟩ wv_3 fun e wv_4 =>
  ∃ (t90 : ByteArray) (t91 : Bool) (t92_p : Option Addr) (t92_n : Nat) (t92_c : Nat), e = .returned (.agg #[(.string t90), (.bool t91), (.slice t92_p t92_n t92_c)]) ∧
  ∃ wv_5, Stores P 44 ((⟨r_2, 0, none⟩ : Addr).add 1) (.agg #[(.string t90), (.bool t91), (.slice t92_p t92_n t92_c)]) wv_4 wv_5 ∧
  ∃ (t110 : ByteArray) (t111 : ByteArray) (t112 : Bool) (t113_p : Option Addr) (t113_n : Nat) (t113_c : Nat), Loads P 54 ⟨r_2, 0, none⟩ (.agg #[(.string t110), (.string t111), (.bool t112), (.slice t113_p t113_n t113_c)]) wv_5 ∧ ∃ wv_6, Stores P 54 ⟨r_1, 0, none⟩ (.agg #[(.string t110), (.string t111), (.bool t112), (.slice t113_p t113_n t113_c)]) wv_5 wv_6 ∧
  ∃ (r0 : ByteArray) (r1 : ByteArray) (r2 : Bool) (r3_p : Option Addr) (r3_n : Nat) (r3_c : Nat), Loads P 54 ⟨r_1, 0, none⟩ (.agg #[(.string r0), (.string r1), (.bool r2), (.slice r3_p r3_n r3_c)]) wv_6 ∧ R (.agg #[(.string r0), (.string r1), (.bool r2), (.slice r3_p r3_n r3_c)]) wv_6
theorem laws_toAcct_eq (a0 : ByteArray) (a1 : ByteArray) (a2 : Bool) (a3_p : Option Addr) (a3_n : Nat) (a3_c : Nat) (w : World) (R : Value → World → Prop) : laws_toAcct a0 a1 a2 a3_p a3_n a3_c w R = fsem P Tryd.f42 (fun k => []) [(.agg #[(.string a0), (.string a1), (.bool a2), (.slice a3_p a3_n a3_c)])] R w := by kernel_rfl
theorem laws_toAcct_ret {a0 : ByteArray} {a1 : ByteArray} {a2 : Bool} {a3_p : Option Addr} {a3_n : Nat} {a3_c : Nat} {w : World} {R : Value → World → Prop} (h : laws_toAcct a0 a1 a2 a3_p a3_n a3_c w R) : Ret P 42 [(.agg #[(.string a0), (.string a1), (.bool a2), (.slice a3_p a3_n a3_c)])] w R :=
  Ret.of_fsem Tryd.func42 rfl (Eq.mp (laws_toAcct_eq a0 a1 a2 a3_p a3_n a3_c w R) h)
def laws_eqAcct (a0 : ByteArray) (a1 : ByteArray) (a2 : Bool) (a3_p : Option Addr) (a3_n : Nat) (a3_c : Nat) (b0 : ByteArray) (b1 : ByteArray) (b2 : Bool) (b3_p : Option Addr) (b3_n : Nat) (b3_c : Nat) (w : World) (R : Value → World → Prop) : Prop :=
  ∀ (r : Nat) (wv : World), New w (.cells ⟨[(.string a0), (.string a1), (.bool a2), (.slice a3_p a3_n a3_c)]⟩ 54 (0, 0)) r wv →
  ∀ (r_1 : Nat) (wv_1 : World), New wv (.cells ⟨[(.string b0), (.string b1), (.bool b2), (.slice b3_p b3_n b3_c)]⟩ 54 (0, 0)) r_1 wv_1 →
  ∃ (t6 : ByteArray), Loads P 9 ((⟨r, 0, none⟩ : Addr).add 0) (.string t6) wv_1 ∧ ∃ (t8 : ByteArray), Loads P 9 ((⟨r_1, 0, none⟩ : Addr).add 0) (.string t8) wv_1 ∧ ((decide (t6 ≠ t8)) = true →
    R (.bool false) wv_1) ∧
  ((decide (t6 ≠ t8)) = false →
    ∃ (t110 : ByteArray) (t111 : Bool) (t112_p : Option Addr) (t112_n : Nat) (t112_c : Nat), Loads P 44 ((⟨r, 0, none⟩ : Addr).add 1) (.agg #[(.string t110), (.bool t111), (.slice t112_p t112_n t112_c)]) wv_1 ∧ ∃ (t130 : ByteArray) (t131 : Bool) (t132_p : Option Addr) (t132_n : Nat) (t132_c : Nat), Loads P 44 ((⟨r_1, 0, none⟩ : Addr).add 1) (.agg #[(.string t130), (.bool t131), (.slice t132_p t132_n t132_c)]) wv_1 ∧ Calls P 16 ⟨[(.agg #[(.string t110), (.bool t111), (.slice t112_p t112_n t112_c)]), (.agg #[(.string t130), (.bool t131), (.slice t132_p t132_n t132_c)])]⟩ wv_1 fun e wv_2 =>
    ∃ (t14 : Bool), e = .returned (.bool t14) ∧
    ((!t14) = true →
      R (.bool false) wv_2) ∧
    ((!t14) = false →
      R (.bool true) wv_2))
theorem laws_eqAcct_eq (a0 : ByteArray) (a1 : ByteArray) (a2 : Bool) (a3_p : Option Addr) (a3_n : Nat) (a3_c : Nat) (b0 : ByteArray) (b1 : ByteArray) (b2 : Bool) (b3_p : Option Addr) (b3_n : Nat) (b3_c : Nat) (w : World) (R : Value → World → Prop) : laws_eqAcct a0 a1 a2 a3_p a3_n a3_c b0 b1 b2 b3_p b3_n b3_c w R = fsem P Tryd.f51 (fun k => []) [(.agg #[(.string a0), (.string a1), (.bool a2), (.slice a3_p a3_n a3_c)]), (.agg #[(.string b0), (.string b1), (.bool b2), (.slice b3_p b3_n b3_c)])] R w := by kernel_rfl
theorem laws_eqAcct_ret {a0 : ByteArray} {a1 : ByteArray} {a2 : Bool} {a3_p : Option Addr} {a3_n : Nat} {a3_c : Nat} {b0 : ByteArray} {b1 : ByteArray} {b2 : Bool} {b3_p : Option Addr} {b3_n : Nat} {b3_c : Nat} {w : World} {R : Value → World → Prop} (h : laws_eqAcct a0 a1 a2 a3_p a3_n a3_c b0 b1 b2 b3_p b3_n b3_c w R) : Ret P 51 [(.agg #[(.string a0), (.string a1), (.bool a2), (.slice a3_p a3_n a3_c)]), (.agg #[(.string b0), (.string b1), (.bool b2), (.slice b3_p b3_n b3_c)])] w R :=
  Ret.of_fsem Tryd.func51 rfl (Eq.mp (laws_eqAcct_eq a0 a1 a2 a3_p a3_n a3_c b0 b1 b2 b3_p b3_n b3_c w R) h)
def laws_markText (k : Int) (w : World) (R : Value → World → Prop) : Prop :=
  ((decide ((k : Int) ≤ 0)) = true →
    R (.string (S [109, 48])) w) ∧
  ((decide ((k : Int) ≤ 0)) = false →
    ∃ (Inv : Int → ByteArray → World → Prop) (mu : Int → ByteArray → World → Nat), Inv k (S []) w ∧
    ∀ (junk : Fr) (wv : World) (k_1 : Int) (out : ByteArray), Inv k_1 out wv →
      ((decide ((0 : Int) < k_1)) = true →
        (10 : Int) ≠ 0 ∧ ∃ t9 : Int, t9 = Int.tmod k_1 10 ∧ ∃ t10 : Int, t10 = IntKind.wrap .i64 (48 + t9) ∧ ∃ t11 : Int, t11 = IntKind.wrap .u8 t10 ∧ ∀ (r : Nat) (wv_1 : World), New wv (.cells ⟨[(.int .u8 t11)]⟩ 5 (0, 0)) r wv_1 →
        ∃ (t13 : ByteArray), Convs P 99 9 (.slice (some ⟨r, 0, none⟩) 1 1) (.string t13) wv_1 ∧ t13.size + out.size ≤ 9223372036854775807 ∧ ∃ t15 : ByteArray, t15 = t13 ++ out ∧ (10 : Int) ≠ 0 ∧ ∃ t17 : Int, t17 = IntKind.wrap .i64 (Int.tdiv k_1 10) ∧ Inv t17 t15 wv_1 ∧ mu t17 t15 wv_1 < mu k_1 out wv) ∧
      ((decide ((0 : Int) < k_1)) = false →
        (S [109]).size + out.size ≤ 9223372036854775807 ∧ ∃ t19 : ByteArray, t19 = (S [109]) ++ out ∧ R (.string t19) wv))
theorem laws_markText_eq (k : Int) (w : World) (R : Value → World → Prop) : laws_markText k w R = fsem P Tryd.f52 (fun k => cond (Nat.beq k 5) [(0, .one (.int .i64)), (3, .one .str)] ([])) [(.int .i64 k)] R w := by kernel_rfl
theorem laws_markText_ret {k : Int} {w : World} {R : Value → World → Prop} (h : laws_markText k w R) : Ret P 52 [(.int .i64 k)] w R :=
  Ret.of_fsem Tryd.func52 rfl (Eq.mp (laws_markText_eq k w R) h)
def laws_markIntS (a_p : Option Addr) (a_n : Nat) (a_c : Nat) (k : Int) (w : World) (R : Value → World → Prop) : Prop :=
  ∃ (Inv : Int → Int → World → Prop) (mu : Int → Int → World → Nat), Inv k 0 w ∧
  ∀ (junk : Fr) (wv : World) (k_1 : Int) (i : Int), Inv k_1 i wv →
    ((decide ((i : Int) < ((a_n : Nat) : Int))) = true →
      (0 ≤ (i : Int) ∧ (i : Int) < (a_n : Nat)) ∧ ptrS a_p fun ad => ∃ wv_1, Stores P 3 (ad.add (i.toNat * 1)) (.int .i64 k_1) wv wv_1 ∧
      ∃ t17 : Int, t17 = IntKind.wrap .i64 (k_1 + 1) ∧ ∃ t11 : Int, t11 = IntKind.wrap .i64 (i + 1) ∧ Inv t17 t11 wv_1 ∧ mu t17 t11 wv_1 < mu k_1 i wv) ∧
    ((decide ((i : Int) < ((a_n : Nat) : Int))) = false →
      R (.int .i64 k_1) wv)
theorem laws_markIntS_eq (a_p : Option Addr) (a_n : Nat) (a_c : Nat) (k : Int) (w : World) (R : Value → World → Prop) : laws_markIntS a_p a_n a_c k w R = fsem P Tryd.f53 (fun k => cond (Nat.beq k 3) [(1, .one (.int .i64)), (5, .one (.int .i64))] ([])) [(.slice a_p a_n a_c), (.int .i64 k)] R w := by kernel_rfl
theorem laws_markIntS_ret {a_p : Option Addr} {a_n : Nat} {a_c : Nat} {k : Int} {w : World} {R : Value → World → Prop} (h : laws_markIntS a_p a_n a_c k w R) : Ret P 53 [(.slice a_p a_n a_c), (.int .i64 k)] w R :=
  Ret.of_fsem Tryd.func53 rfl (Eq.mp (laws_markIntS_eq a_p a_n a_c k w R) h)
def laws_heldIntS (a_p : Option Addr) (a_n : Nat) (a_c : Nat) (k : Int) (w : World) (R : Value → World → Prop) : Prop :=
  ∃ (Inv : Int → Int → World → Prop) (mu : Int → Int → World → Nat), Inv k 0 w ∧
  ∀ (junk : Fr) (wv : World) (k_1 : Int) (i : Int), Inv k_1 i wv →
    ((decide ((i : Int) < ((a_n : Nat) : Int))) = true →
      (0 ≤ (i : Int) ∧ (i : Int) < (a_n : Nat)) ∧ ptrS a_p fun ad => ∃ (t15 : Int), Loads P 3 (ad.add (i.toNat * 1)) (.int .i64 t15) wv ∧ ((decide ((t15 : Int) ≠ k_1)) = true →
        R (.int .i64 (-1)) wv) ∧
      ((decide ((t15 : Int) ≠ k_1)) = false →
        ∃ t19 : Int, t19 = IntKind.wrap .i64 (k_1 + 1) ∧ ∃ t11 : Int, t11 = IntKind.wrap .i64 (i + 1) ∧ Inv t19 t11 wv ∧ mu t19 t11 wv < mu k_1 i wv)) ∧
    ((decide ((i : Int) < ((a_n : Nat) : Int))) = false →
      R (.int .i64 k_1) wv)
theorem laws_heldIntS_eq (a_p : Option Addr) (a_n : Nat) (a_c : Nat) (k : Int) (w : World) (R : Value → World → Prop) : laws_heldIntS a_p a_n a_c k w R = fsem P Tryd.f54 (fun k => cond (Nat.beq k 3) [(1, .one (.int .i64)), (5, .one (.int .i64))] ([])) [(.slice a_p a_n a_c), (.int .i64 k)] R w := by kernel_rfl
theorem laws_heldIntS_ret {a_p : Option Addr} {a_n : Nat} {a_c : Nat} {k : Int} {w : World} {R : Value → World → Prop} (h : laws_heldIntS a_p a_n a_c k w R) : Ret P 54 [(.slice a_p a_n a_c), (.int .i64 k)] w R :=
  Ret.of_fsem Tryd.func54 rfl (Eq.mp (laws_heldIntS_eq a_p a_n a_c k w R) h)
def laws_szIntS (a_p : Option Addr) (a_n : Nat) (a_c : Nat) (left : Int) (w : World) (R : Value → World → Prop) : Prop :=
  ∃ t8 : Int, t8 = IntKind.wrap .i64 (left - ((a_n : Nat) : Int)) ∧ ((decide ((t8 : Int) < 0)) = true →
    R (.int .i64 (-1)) w) ∧
  ((decide ((t8 : Int) < 0)) = false →
    R (.int .i64 t8) w)
theorem laws_szIntS_eq (a_p : Option Addr) (a_n : Nat) (a_c : Nat) (left : Int) (w : World) (R : Value → World → Prop) : laws_szIntS a_p a_n a_c left w R = fsem P Tryd.f55 (fun k => []) [(.slice a_p a_n a_c), (.int .i64 left)] R w := by kernel_rfl
theorem laws_szIntS_ret {a_p : Option Addr} {a_n : Nat} {a_c : Nat} {left : Int} {w : World} {R : Value → World → Prop} (h : laws_szIntS a_p a_n a_c left w R) : Ret P 55 [(.slice a_p a_n a_c), (.int .i64 left)] w R :=
  Ret.of_fsem Tryd.func55 rfl (Eq.mp (laws_szIntS_eq a_p a_n a_c left w R) h)
def laws_toIntS (a_p : Option Addr) (a_n : Nat) (a_c : Nat) (w : World) (R : Value → World → Prop) : Prop :=
  (0 ≤ (((a_n : Nat) : Int) : Int) ∧ (((a_n : Nat) : Int) : Int) ≤ ((a_n : Nat) : Int) ∧ ((8 : Nat) : Int) * ((a_n : Nat) : Int) ≤ 281474976710656) ∧
  ∀ (r : Nat) (wv : World), New w (.cells ⟨zeroRow (.int .i64 0) (a_n * 1)⟩ 3 (0, 0)) r wv →
  ∃ (Inv : Int → World → Prop) (mu : Int → World → Nat), Inv 0 wv ∧
  ∀ (junk : Fr) (wv_1 : World) (i : Int), Inv i wv_1 →
    ((decide ((i : Int) < ((a_n : Nat) : Int))) = true →
      (0 ≤ (i : Int) ∧ (i : Int) < (a_n : Nat)) ∧ ptrS a_p fun ad => ∃ (t19 : Int), Loads P 3 (ad.add (i.toNat * 1)) (.int .i64 t19) wv_1 ∧ (0 ≤ (i : Int) ∧ (i : Int) < (a_n : Nat)) ∧ ∃ wv_2, Stores P 3 ((⟨r, 0, none⟩ : Addr).add (i.toNat * 1)) (.int .i64 t19) wv_1 wv_2 ∧
      ∃ t13 : Int, t13 = IntKind.wrap .i64 (i + 1) ∧ Inv t13 wv_2 ∧ mu t13 wv_2 < mu i wv_1) ∧
    ((decide ((i : Int) < ((a_n : Nat) : Int))) = false →
      R (.slice (some ⟨r, 0, none⟩) a_n a_n) wv_1)
theorem laws_toIntS_eq (a_p : Option Addr) (a_n : Nat) (a_c : Nat) (w : World) (R : Value → World → Prop) : laws_toIntS a_p a_n a_c w R = fsem P Tryd.f59 (fun k => cond (Nat.beq k 4) [(4, .one (.int .i64))] ([])) [(.slice a_p a_n a_c)] R w := by kernel_rfl
theorem laws_toIntS_ret {a_p : Option Addr} {a_n : Nat} {a_c : Nat} {w : World} {R : Value → World → Prop} (h : laws_toIntS a_p a_n a_c w R) : Ret P 59 [(.slice a_p a_n a_c)] w R :=
  Ret.of_fsem Tryd.func59 rfl (Eq.mp (laws_toIntS_eq a_p a_n a_c w R) h)
def laws_eqIntS (a_p : Option Addr) (a_n : Nat) (a_c : Nat) (b_p : Option Addr) (b_n : Nat) (b_c : Nat) (w : World) (R : Value → World → Prop) : Prop :=
  ((decide ((((a_n : Nat) : Int) : Int) ≠ ((b_n : Nat) : Int))) = true →
    R (.bool false) w) ∧
  ((decide ((((a_n : Nat) : Int) : Int) ≠ ((b_n : Nat) : Int))) = false →
    ∃ (Inv : Int → World → Prop) (mu : Int → World → Nat), Inv 0 w ∧
    ∀ (junk : Fr) (wv : World) (i : Int), Inv i wv →
      ((decide ((i : Int) < ((a_n : Nat) : Int))) = true →
        (0 ≤ (i : Int) ∧ (i : Int) < (a_n : Nat)) ∧ ptrS a_p fun ad => ∃ (t20 : Int), (∀ wv_1, Ext wv.drew wv_1 → Loads P 3 (ad.add (i.toNat * 1)) (.int .i64 t20) wv_1) ∧ (0 ≤ (i : Int) ∧ (i : Int) < (b_n : Nat)) ∧ ptrS b_p fun ad_1 => ∃ (t24 : Int), (∀ wv_2, Ext wv.drew wv_2 → Loads P 3 (ad_1.add (i.toNat * 1)) (.int .i64 t24) wv_2) ∧ ((decide ((t20 : Int) ≠ t24)) = true →
          R (.bool false) wv.drew) ∧
        ((decide ((t20 : Int) ≠ t24)) = false →
          ∃ t16 : Int, t16 = IntKind.wrap .i64 (i + 1) ∧ Inv t16 wv.drew ∧ mu t16 wv.drew < mu i wv)) ∧
      ((decide ((i : Int) < ((a_n : Nat) : Int))) = false →
        R (.bool true) wv))
theorem laws_eqIntS_eq (a_p : Option Addr) (a_n : Nat) (a_c : Nat) (b_p : Option Addr) (b_n : Nat) (b_c : Nat) (w : World) (R : Value → World → Prop) : laws_eqIntS a_p a_n a_c b_p b_n b_c w R = fsem P Tryd.f63 (fun k => cond (Nat.beq k 5) [(5, .one (.int .i64))] ([])) [(.slice a_p a_n a_c), (.slice b_p b_n b_c)] R w := by kernel_rfl
theorem laws_eqIntS_ret {a_p : Option Addr} {a_n : Nat} {a_c : Nat} {b_p : Option Addr} {b_n : Nat} {b_c : Nat} {w : World} {R : Value → World → Prop} (h : laws_eqIntS a_p a_n a_c b_p b_n b_c w R) : Ret P 63 [(.slice a_p a_n a_c), (.slice b_p b_n b_c)] w R :=
  Ret.of_fsem Tryd.func63 rfl (Eq.mp (laws_eqIntS_eq a_p a_n a_c b_p b_n b_c w R) h)
end Go.Proofs.YteakifedfnnmeaaDoor

namespace Go.Proofs.YteakifedfnnmeaaDoor.Sx
open Go Go.RowKit
set_option linter.unusedVariables false
set_option linter.unusedSimpArgs false
/-- only blocks in S (and new ones) have turned -/
theorem Ext.le {a b : World} (h : Ext a b) : a.heap.size ≤ b.heap.size := h.size
def Seg (w : World) (b off : Nat) (cs : List Value) : Prop := ∀ j v, cs[j]? = some v → w.cell? ⟨b, off + j, none⟩ = some v
theorem Seg.nil {w : World} {b off : Nat} : Seg w b off [] := fun j v h => by simp at h
theorem Seg.drop {w : World} {b off : Nat} {cs : List Value} (h : Seg w b off cs) (k : Nat) : Seg w b (off + k) (cs.drop k) := fun j v hj => by
  rw [List.getElem?_drop] at hj
  have := h _ _ hj
  rwa [Nat.add_assoc]
theorem Seg.take {w : World} {b off : Nat} {cs : List Value} (h : Seg w b off cs) (k : Nat) : Seg w b off (cs.take k) := fun j v hj => by
  rw [List.getElem?_take] at hj
  split at hj
  · exact h _ _ hj
  · cases hj
theorem Seg.ext {w w' : World} {b off : Nat} {cs : List Value} (h : Seg w b off cs) (he : Ext w w') : Seg w' b off cs := fun j v hj => by
  have h1 := h j v hj
  rw [← h1]
  exact he.cell (World.block_lt_of_cell? w _ h1)
theorem Seg.chg {S : List Nat} {w w' : World} {b off : Nat} {cs : List Value} (h : Seg w b off cs) (he : Chg S w w') (hb : b ∉ S) : Seg w' b off cs := fun j v hj => by
  have h1 := h j v hj
  rw [← h1]
  exact World.cell?_of_block (he.block b (World.block_lt_of_cell? w _ h1) hb)
/-- a block that is known whole -/
def Blk (w : World) (b : Nat) (e : TypeId) (xs : List Value) : Prop := w.heap[b]? = some (.cells ⟨xs⟩ e (0, 0))
theorem Blk.lt {w : World} {b : Nat} {e : TypeId} {xs : List Value} (h : Blk w b e xs) : b < w.heap.size := (Array.getElem?_eq_some_iff.1 h).1
theorem Blk.ext {w w' : World} {b : Nat} {e : TypeId} {xs : List Value} (h : Blk w b e xs) (he : Ext w w') : Blk w' b e xs := (he.block b h.lt).trans h
theorem Blk.chg {S : List Nat} {w w' : World} {b : Nat} {e : TypeId} {xs : List Value} (h : Blk w b e xs) (he : Chg S w w') (hb : b ∉ S) : Blk w' b e xs := (he.block b h.lt hb).trans h
theorem Blk.cell {w : World} {b : Nat} {e : TypeId} {xs : List Value} (h : Blk w b e xs) (j : Nat) : w.cell? ⟨b, j, none⟩ = xs[j]? := by
  rw [cell_of_row w b j _ e (0, 0) h]; simp
theorem Blk.seg {w : World} {b : Nat} {e : TypeId} {xs : List Value} (h : Blk w b e xs) : Seg w b 0 xs := fun j v hj => by rw [Nat.zero_add, h.cell, hj]
theorem New.ext {w w' : World} {o : Obj} {r : Nat} (h : New w o r w') : Ext w w' := by
  obtain ⟨rfl, rfl⟩ := h
  exact (Below.refl _ _).alloc (Nat.le_refl _) _
theorem New.size {w w' : World} {o : Obj} {r : Nat} (h : New w o r w') : w'.heap.size = w.heap.size + 1 := by
  obtain ⟨rfl, rfl⟩ := h; simp
theorem New.blk {w w' : World} {xs : List Value} {e : TypeId} {r : Nat} (h : New w (.cells ⟨xs⟩ e (0, 0)) r w') : Blk w' r e xs := by
  obtain ⟨rfl, rfl⟩ := h
  exact heap_alloc_new w _
theorem addr_add (b o k : Nat) : (⟨b, o, none⟩ : Addr).add k = ⟨b, o + k, none⟩ := Addr.add_lit b o k
section
variable {P : Program}
/-- a type whose values lie in one cell -/
def cellT (P : Program) (t : TypeId) : Bool :=
  match P.underlying t, P.info? t with
  | some (.struct _), _ => false
  | some (.array _ _), _ => false
  | some _, some i => Nat.beq i.size 1
  | _, _ => false
/-- a type whose values are aggregates of so many cells -/
def aggT (P : Program) (t : TypeId) (n : Nat) : Bool :=
  match P.underlying t, P.info? t with
  | some (.struct _), some i => Nat.beq i.size n
  | some (.array _ _), some i => Nat.beq i.size n
  | _, _ => false
theorem cellT_spec {t : TypeId} (h : cellT P t = true) : (∀ w, (isAgg t).run P w = .ok false w) ∧ ∃ i, P.info? t = some i ∧ i.size = 1 := by
  unfold cellT at h
  split at h <;> try cases h
  rename_i d i hs ha hu hi
  refine ⟨fun w => ?_, i, hi, Nat.eq_of_beq_eq_true h⟩
  unfold isAgg
  rw [Sem.run_bind, underlying_run hu w]
  cases d <;> first | rfl | (exact absurd rfl (hs _)) | (exact absurd rfl (ha _ _))
theorem aggT_spec {t : TypeId} {n : Nat} (h : aggT P t n = true) : (∀ w, (isAgg t).run P w = .ok true w) ∧ ∃ i, P.info? t = some i ∧ i.size = n := by
  unfold aggT at h
  split at h
  · rename_i fs i hu hi
    exact ⟨fun w => by unfold isAgg; rw [Sem.run_bind, underlying_run hu w]; rfl, i, hi, Nat.eq_of_beq_eq_true h⟩
  · rename_i k e i hu hi
    exact ⟨fun w => by unfold isAgg; rw [Sem.run_bind, underlying_run hu w]; rfl, i, hi, Nat.eq_of_beq_eq_true h⟩
  · cases h
theorem loads1 {w : World} {t : TypeId} {b o : Nat} {v : Value} (ht : cellT P t = true) (h : w.cell? ⟨b, o, none⟩ = some v) : Loads P t ⟨b, o, none⟩ v w := by
  unfold Loads loadVar
  rw [Sem.run_bind, (cellT_spec ht).1]
  simp [h]
theorem loadsA {w : World} {t : TypeId} {b o : Nat} {cs : List Value} (ht : aggT P t cs.length = true) (h : Seg w b o cs) : Loads P t ⟨b, o, none⟩ (.agg ⟨cs⟩) w := by
  obtain ⟨h1, i, hi, hn⟩ := aggT_spec ht
  unfold Loads loadVar
  rw [Sem.run_bind, h1]
  simp only [Result.andThen_ok, if_true, Sem.run_bind, sizeOf_run hi, hn]
  rw [run_loadCells_list (P := P) w ⟨b, o, none⟩ cs fun j v hv => by rw [addr_add]; exact h j v hv]
  rfl
theorem Seg.load {w : World} {t : TypeId} {b o k : Nat} {cs : List Value} {v : Value} (h : Seg w b o cs) (ht : cellT P t = true) (hx : cs[k]? = some v) : Loads P t ((⟨b, o, none⟩ : Addr).add k) v w := by
  rw [addr_add]; exact loads1 ht (h _ _ hx)
theorem Seg.loadA {w : World} {t : TypeId} {b o k : Nat} {cs xs : List Value} (h : Seg w b o cs) (ht : aggT P t xs.length = true) (hx : (cs.drop k).take xs.length = xs) : Loads P t ((⟨b, o, none⟩ : Addr).add k) (.agg ⟨xs⟩) w := by
  rw [addr_add]
  refine loadsA ht ?_
  have := (h.drop k).take xs.length
  rwa [hx] at this
theorem Blk.load {w : World} {t : TypeId} {b k : Nat} {e : TypeId} {cs : List Value} {v : Value} (h : Blk w b e cs) (ht : cellT P t = true) (hx : cs[k]? = some v) : Loads P t ((⟨b, 0, none⟩ : Addr).add k) v w :=
  h.seg.load ht hx
theorem Blk.loadA {w : World} {t : TypeId} {b k : Nat} {e : TypeId} {cs xs : List Value} (h : Blk w b e cs) (ht : aggT P t xs.length = true) (hx : (cs.drop k).take xs.length = xs) : Loads P t ((⟨b, 0, none⟩ : Addr).add k) (.agg ⟨xs⟩) w :=
  h.seg.loadA ht hx
theorem setRow_chg (w : World) (b : Nat) (cs : Array Value) : Chg [b] w (w.setRow b cs) :=
  ⟨rfl, rfl, rfl, by simp, fun k _ hk => setRow_other w b k _ (by simpa using hk)⟩
/-- a store into a block that is known whole -/
theorem Blk.store {w : World} {t : TypeId} {b k : Nat} {e : TypeId} {cs : List Value} {v : Value} (h : Blk w b e cs) (ht : cellT P t = true) (hk : k < cs.length) (hv : v.oneCell' = true) :
    ∃ w', Stores P t ((⟨b, 0, none⟩ : Addr).add k) v w w' ∧ Blk w' b e (cs.set k v) ∧ Chg [b] w w' ∧ w'.heap.size = w.heap.size := by
  obtain ⟨_, i, hi, hn⟩ := cellT_spec ht
  have hc : v.cells = #[v] := by cases v <;> first | rfl | (simp [Value.oneCell'] at hv)
  have hst := run_storeCells_at P b k e [v] 0 ⟨cs⟩ w h (by simp only [List.length_cons, List.length_nil]; show k + 0 + 1 ≤ cs.length; omega) (by simpa using hv)
  refine ⟨_, ?_, setRow_heap w b ⟨cs⟩ _ e _ h, setRow_chg _ _ _, by simp⟩
  · unfold Stores storeVar
    rw [addr_add, Nat.zero_add]
    simp only [Sem.run_bind, sizeOf_run hi, Result.andThen_ok, hc, hn, List.size_toArray, List.length_cons, List.length_nil]
    simp only [Nat.zero_add, ne_eq, not_true, if_false, Sem.run_pure, Result.andThen_ok]
    rw [hst]
    congr 3
    simp only [Nat.add_zero, List.length_cons, List.length_nil, Nat.zero_add]
    rw [List.set_eq_take_append_cons_drop]
    simp [hk]
/-- a store of an aggregate -/
theorem Blk.storeA {w : World} {t : TypeId} {b k : Nat} {e : TypeId} {cs xs : List Value} (h : Blk w b e cs) (ht : aggT P t xs.length = true) (hk : k + xs.length ≤ cs.length) (hv : ∀ v ∈ xs, v.oneCell' = true) :
    ∃ w', Stores P t ((⟨b, 0, none⟩ : Addr).add k) (.agg ⟨xs⟩) w w' ∧ Blk w' b e (cs.take k ++ xs ++ cs.drop (k + xs.length)) ∧ Chg [b] w w' ∧ w'.heap.size = w.heap.size := by
  obtain ⟨_, i, hi, hn⟩ := aggT_spec ht
  have hst := run_storeCells_at P b k e xs 0 ⟨cs⟩ w h (by simpa using hk) hv
  refine ⟨_, ?_, setRow_heap w b ⟨cs⟩ _ e _ h, setRow_chg _ _ _, by simp⟩
  unfold Stores storeVar
  rw [addr_add, Nat.zero_add]
  simp only [Sem.run_bind, sizeOf_run hi, Result.andThen_ok, Value.cells, hn, List.size_toArray]
  simp only [ne_eq, not_true, if_false, Sem.run_pure, Result.andThen_ok]
  rw [hst]
  simp
/-- a slice type: its element type, that one's zero value, cells and bytes -/
def sliceT (P : Program) (t e : TypeId) (z : Value) (size bytes : Nat) : Prop :=
  P.underlying t = some (.slice e) ∧ (P.info? e).map (fun i => (i.zero, i.size, i.bytes)) = some (some z, size, bytes) ∧ z.cells.size = size ∧ 0 < size
/-- a slice whose cells are one's own -/
def Own (w : World) (base : Nat) (e : TypeId) (size : Nat) (p : Option Addr) (n c : Nat) (xs : List Value) : Prop := w.ownsRow base e size (.slice p n c) n xs
theorem Own.nil (w : World) (base : Nat) (e : TypeId) (size : Nat) : Own w base e size none 0 0 [] := World.ownsRow_nil w base e size
theorem Own.ext {w w' : World} {base : Nat} {e : TypeId} {size : Nat} {p : Option Addr} {n c : Nat} {xs : List Value} (h : Own w base e size p n c xs) (he : Ext w w') : Own w' base e size p n c xs :=
  h.kept (row := none) ⟨he.os, he.tape, he.output, he.size, fun k hk _ => he.block k hk⟩ (by cases p <;> simp [Value.ownBlock])
theorem Own.of_blk {w : World} {base : Nat} {e : TypeId} {size : Nat} {r n : Nat} {xs : List Value} (h : Blk w r e xs) (hb : base ≤ r) (hl : xs.length = n * size) (hn : n ≤ maxLen) : Own w base e size (some ⟨r, 0, none⟩) n n xs :=
  ⟨hl, .inr ⟨r, n, ⟨xs⟩, rfl, hb, h, Nat.le_refl _, hn, by simpa using hl, by simp [← hl]⟩⟩
theorem Own.of_blk0 {w : World} {base : Nat} {e : TypeId} {size : Nat} {r n : Nat} {xs : List Value} (h : Blk w r e xs) (hb : base ≤ r) (hl : xs.length = n * size) (hn : n ≤ maxLen) : Own w base e size (some ⟨r, 0, none⟩) 0 n [] :=
  ⟨by simp, .inr ⟨r, n, ⟨xs⟩, rfl, hb, h, Nat.zero_le _, hn, by simpa using hl, by simp⟩⟩
theorem Own.len {w : World} {base : Nat} {e : TypeId} {size : Nat} {p : Option Addr} {n c : Nat} {xs : List Value} (h : Own w base e size p n c xs) : xs.length = n * size := h.1
theorem Own.le {w : World} {base : Nat} {e : TypeId} {size : Nat} {p : Option Addr} {n c : Nat} {xs : List Value} (h : Own w base e size p n c xs) : n ≤ c := by
  rcases h.2 with ⟨h1, h2⟩ | ⟨g, cap, cur, h1, _, _, h3, _⟩
  · omega
  · simp only [Value.slice.injEq] at h1; omega
theorem Own.capLe {w : World} {base : Nat} {e : TypeId} {size : Nat} {p : Option Addr} {n c : Nat} {xs : List Value} (h : Own w base e size p n c xs) : c ≤ 9223372036854775807 := by
  rcases h.2 with ⟨h1, h2⟩ | ⟨g, cap, cur, h1, _, _, h3, h4, _⟩
  · simp only [Value.slice.injEq] at h1; omega
  · simp only [Value.slice.injEq] at h1; simp only [maxLen] at h4; omega
theorem Own.seg {w : World} {base : Nat} {e : TypeId} {size : Nat} {p : Option Addr} {n c : Nat} {xs : List Value} (h : Own w base e size p n c xs) (hn : 0 < n) : ∃ b, p = some ⟨b, 0, none⟩ ∧ base ≤ b ∧ Seg w b 0 xs := by
  rcases h.2 with ⟨h1, h2⟩ | ⟨g, cap, cur, h1, hb, hg, h3, h4, h5, h6⟩
  · omega
  · simp only [Value.slice.injEq] at h1
    refine ⟨g, h1.1, hb, fun j v hj => ?_⟩
    rw [Nat.zero_add, cell_of_row w g j cur e (0, 0) hg]
    rw [← h6, List.getElem?_take] at hj
    split at hj
    · simpa using hj
    · cases hj
theorem Own.mono {w : World} {base base' : Nat} {e : TypeId} {size : Nat} {p : Option Addr} {n c : Nat} {xs : List Value} (h : Own w base e size p n c xs) (hb : base' ≤ base) : Own w base' e size p n c xs := by
  refine ⟨h.1, ?_⟩
  rcases h.2 with h1 | ⟨g, cap, cur, h1, h2, h3⟩
  · exact .inl h1
  · exact .inr ⟨g, cap, cur, h1, Nat.le_trans hb h2, h3⟩
/-- append onto a row of one's own: m elements that lie in a block known whole -/
theorem Own.append {w : World} {base : Nat} {t e : TypeId} {z : Value} {size bytes : Nat} {p : Option Addr} {n c r m mc : Nat} {xs news : List Value} (h : Own w base e size p n c xs)
    (hT : sliceT P t e z size bytes) (hb : base ≤ w.heap.size) (hr : Blk w r e news) (hl : news.length = m * size) (h1 : ∀ u ∈ news, u.oneCell' = true)
    (hbytes : (n + m) * bytes ≤ 140737488355328) (hby : 1 ≤ bytes) :
    ∃ p' c' w', Appends P [t, t] [.slice p n c, .slice (some ⟨r, 0, none⟩) m mc] (.slice p' (n + m) c') w w' ∧ Own w' base e size p' (n + m) c' (xs ++ news) ∧
      (∀ w0, Ext w0 w → w0.heap.size ≤ base → Ext w0 w') ∧ (∀ b e' ys, Blk w b e' ys → p.map (·.block) ≠ some b → Blk w' b e' ys) ∧
      (∀ b o ys, Seg w b o ys → p.map (·.block) ≠ some b → Seg w' b o ys) := by
  obtain ⟨hu, hi, hz, hs⟩ := hT
  cases hinf : P.info? e with
  | none => rw [hinf] at hi; cases hi
  | some i =>
    rw [hinf] at hi
    simp only [Option.map_some, Option.some.injEq, Prod.mk.injEq] at hi
    have hnm : n + m ≤ maxLen := by
      have : n + m ≤ (n + m) * bytes := Nat.le_mul_of_pos_right _ hby
      simp only [maxLen]; omega
    obtain ⟨v', w', hrun, hown, hgr, _⟩ := run_append_own (P := P) w base t 0 e i z size bytes hu hinf hi.1 hi.2.1 hi.2.2 hz hs (.slice p n c) n xs h ⟨r, 0, none⟩ m mc news hl
      (fun j u hj => by rw [addr_add, Nat.zero_add, hr.cell, hj]) h1 hnm hbytes hb
    have hlt := h.lt
    have hv : ∃ p' c', v' = .slice p' (n + m) c' := by
      rcases hown.2 with ⟨e1, e2⟩ | ⟨g, cap, cur, e1, _⟩
      · exact ⟨none, 0, by rw [e1, e2]⟩
      · exact ⟨_, _, e1⟩
    obtain ⟨p', c', rfl⟩ := hv
    have hob : (Value.slice p n c).ownBlock = p.map (·.block) := by cases p <;> rfl
    refine ⟨p', c', w', hrun, hown, ?_, ?_, ?_⟩
    · intro w0 hx hb0
      refine hx.chg (S := (p.map (·.block)).toList) ⟨hgr.os, hgr.tape, hgr.output, hgr.size, fun k hk hn => hgr.block k hk ?_⟩ ?_
      · rw [hob]; intro e; rw [← e] at hn; simp at hn
      · intro x hx'
        have := (hlt x (by rw [hob]; cases p <;> simp_all)).1
        omega
    · intro b e' ys hy hne
      exact (hgr.block b hy.lt (by rw [hob]; exact fun e => hne e.symm)).trans hy
    · intro b o ys hy hne j v hj
      have h3 := hy j v hj
      rw [← h3]
      exact World.cell?_of_block (hgr.block b (World.block_lt_of_cell? w _ h3) (by rw [hob]; exact fun e => hne e.symm))
end
/-- a slice of numbers reads as zs -/
def IntsR (w : World) (p : Option Addr) (n c : Nat) (zs : List Int) : Prop :=
  zs.length = n ∧ n ≤ c ∧ c ≤ 9223372036854775807 ∧ (0 < n → ∃ b off, p = some ⟨b, off, none⟩ ∧ Seg w b off (zs.map (Value.int .i64)))
theorem IntsR.ext {w w' : World} {p : Option Addr} {n c : Nat} {zs : List Int} (h : IntsR w p n c zs) (he : Ext w w') : IntsR w' p n c zs :=
  ⟨h.1, h.2.1, h.2.2.1, fun hn => let ⟨b, off, hp, hs⟩ := h.2.2.2 hn; ⟨b, off, hp, hs.ext he⟩⟩
theorem IntsR.chg {S : List Nat} {w w' : World} {p : Option Addr} {n c : Nat} {zs : List Int} (h : IntsR w p n c zs) (he : Chg S w w') (hS : ∀ b, p.map (·.block) = some b → b ∉ S) : IntsR w' p n c zs :=
  ⟨h.1, h.2.1, h.2.2.1, fun hn => let ⟨b, off, hp, hs⟩ := h.2.2.2 hn; ⟨b, off, hp, hs.chg he (hS b (by rw [hp]; rfl))⟩⟩
theorem IntsR.nil (w : World) (p : Option Addr) {c : Nat} (hc : c ≤ 9223372036854775807) : IntsR w p 0 c [] := ⟨rfl, Nat.zero_le _, hc, fun h => absurd h (by omega)⟩
theorem Own.ints {w : World} {base : Nat} {e : TypeId} {p : Option Addr} {n c : Nat} {zs : List Int} (h : Own w base e 1 p n c (zs.map (Value.int .i64))) : IntsR w p n c zs :=
  ⟨by simpa using h.len, h.le, h.capLe, fun hn => let ⟨b, hp, _, hs⟩ := h.seg hn; ⟨b, 0, hp, hs⟩⟩
/-- the cell of number k -/
theorem IntsR.at {P : Program} {w : World} {p : Option Addr} {n c k : Nat} {zs : List Int} (h : IntsR w p n c zs) {t : TypeId} (ht : cellT P t = true) (hk : k < n) :
    ∃ a, p = some a ∧ Loads P t (a.add (k * 1)) (.int .i64 (zs[k]'(by rw [h.1]; exact hk))) w := by
  obtain ⟨b, off, hp, hs⟩ := h.2.2.2 (by omega)
  refine ⟨_, hp, ?_⟩
  rw [Nat.mul_one]
  exact hs.load ht (by simp [List.getElem?_eq_getElem (by rw [h.1]; exact hk : k < zs.length)])
theorem wrap64 {e : Int} (h1 : -9223372036854775808 ≤ e) (h2 : e ≤ 9223372036854775807) : IntKind.wrap .i64 e = e := by
  simp only [IntKind.wrap, IntKind.bits, IntKind.signed]
  by_cases h0 : 0 ≤ e
  · have : e % (2 ^ 64 : Int) = e := Int.emod_eq_of_lt h0 (by omega)
    simp [this]; omega
  · have : e % (2 ^ 64 : Int) = e + 2 ^ 64 := by omega
    simp [this]; omega
/-- a sum that fits -/
theorem exW {e : Int} {Q : Int → Prop} (h : -9223372036854775808 ≤ e ∧ e ≤ 9223372036854775807) (hq : Q e) : ∃ z, z = IntKind.wrap .i64 e ∧ Q z := ⟨e, (wrap64 h.1 h.2).symm, hq⟩
/-- a test, both ways -/
theorem ifD {p : Prop} [Decidable p] {A B : Prop} (ha : p → A) (hb : ¬ p → B) : (decide p = true → A) ∧ (decide p = false → B) :=
  ⟨fun h => ha (of_decide_eq_true h), fun h => hb (of_decide_eq_false h)⟩
theorem ifN {b : Bool} {A B : Prop} (ha : b = false → A) (hb : b = true → B) : ((!b) = true → A) ∧ ((!b) = false → B) := ⟨fun h => ha (by simpa using h), fun h => hb (by simpa using h)⟩
theorem ifT {A B : Prop} (ha : A) : (true = true → A) ∧ (true = false → B) := ⟨fun _ => ha, fun h => nomatch h⟩
theorem ifF {A B : Prop} (hb : B) : (false = true → A) ∧ (false = false → B) := ⟨fun h => (nomatch h), fun _ => hb⟩
theorem zeroRow_int (k : IntKind) (z : Int) (n : Nat) : zeroRow (.int k z) n = List.replicate n (.int k z) := by
  unfold zeroRow
  apply List.ext_getElem
  · simp
  · intro i h1 h2
    simp [Value.cells, Nat.mod_one]
end Go.Proofs.YteakifedfnnmeaaDoor.Sx

namespace Go.Proofs.YteakifedfnnmeaaDoor.Sx
open Go Go.RowKit
set_option linter.unusedVariables false
set_option linter.unusedSimpArgs false
/-- what one cell reads as -/
inductive D0 where
  | int (n : Int) | bool (b : Bool) | str (s : ByteArray) | ints (l : List Int)
  deriving DecidableEq
inductive C0 where
  | int | bool | str | ints
  deriving DecidableEq
def D0.code : D0 → C0
  | .int _ => .int
  | .bool _ => .bool
  | .str _ => .str
  | .ints _ => .ints
def Rep0 (w : World) (v : Value) : D0 → Prop
  | .int n => v = .int .i64 n
  | .bool b => v = .bool b
  | .str s => v = .string s
  | .ints zs => ∃ p n c, v = .slice p n c ∧ IntsR w p n c zs
def Reps (w : World) : List Value → List D0 → Prop
  | [], [] => True
  | v :: vs, d :: ds => Rep0 w v d ∧ Reps w vs ds
  | _, _ => False
theorem Rep0.ext {w w' : World} {v : Value} {d : D0} (h : Rep0 w v d) (he : Ext w w') : Rep0 w' v d := by
  cases d <;> simp only [Rep0] at h ⊢ <;> try exact h
  obtain ⟨p, n, c, hv, hi⟩ := h
  exact ⟨p, n, c, hv, hi.ext he⟩
theorem Reps.ext {w w' : World} : ∀ {vs : List Value} {ds : List D0}, Reps w vs ds → Ext w w' → Reps w' vs ds
  | [], [], _, _ => trivial
  | [], _ :: _, h, _ => h.elim
  | _ :: _, [], h, _ => h.elim
  | _ :: _, _ :: _, h, he => ⟨h.1.ext he, Reps.ext h.2 he⟩
theorem Reps.len {w : World} : ∀ {vs : List Value} {ds : List D0}, Reps w vs ds → vs.length = ds.length
  | [], [], _ => rfl
  | [], _ :: _, h => h.elim
  | _ :: _, [], h => h.elim
  | _ :: _, _ :: _, h => by simp [Reps.len h.2]
theorem Reps.append {w : World} : ∀ {vs us : List Value} {ds es : List D0}, Reps w vs ds → Reps w us es → Reps w (vs ++ us) (ds ++ es)
  | [], _, [], _, _, k => k
  | [], _, _ :: _, _, h, _ => h.elim
  | _ :: _, _, [], _, h, _ => h.elim
  | _ :: _, _, _ :: _, _, h, k => ⟨h.1, Reps.append h.2 k⟩
theorem Reps.one {w : World} {vs : List Value} {ds : List D0} (h : Reps w vs ds) (h1 : ∀ v ∈ vs, v.oneCell' = true → True) : True := trivial
/-- every such cell is one cell -/
theorem Rep0.cell1 {w : World} {v : Value} {d : D0} (h : Rep0 w v d) : v.oneCell' = true := by
  cases d <;> simp only [Rep0] at h
  case ints l => obtain ⟨p, n, c, hv, _⟩ := h; rw [hv]; rfl
  all_goals (rw [h]; rfl)
theorem Reps.cells1 {w : World} : ∀ {vs : List Value} {ds : List D0}, Reps w vs ds → ∀ v ∈ vs, v.oneCell' = true
  | [], [], _, v, hv => by simp at hv
  | [], _ :: _, h, _, _ => h.elim
  | _ :: _, [], h, _, _ => h.elim
  | x :: xs, d :: ds, h, v, hv => by
    rcases List.mem_cons.1 hv with e | e
    · rw [e]; exact h.1.cell1
    · exact Reps.cells1 h.2 v e
/-- by its code, a list of cells comes written out -/
theorem Reps.int {w : World} {vs : List Value} {ds : List D0} {cs : List C0} (h : Reps w vs ds) (hc : ds.map D0.code = .int :: cs) : ∃ n us es, vs = .int .i64 n :: us ∧ ds = .int n :: es ∧ Reps w us es ∧ es.map D0.code = cs := by
  cases ds with
  | nil => simp at hc
  | cons d es =>
    cases vs with
    | nil => exact h.elim
    | cons v us =>
      simp only [List.map_cons, List.cons.injEq] at hc
      cases d <;> simp [D0.code] at hc
      rename_i n
      exact ⟨n, us, es, by rw [show v = _ from h.1], rfl, h.2, hc⟩
theorem Reps.bool {w : World} {vs : List Value} {ds : List D0} {cs : List C0} (h : Reps w vs ds) (hc : ds.map D0.code = .bool :: cs) : ∃ b us es, vs = .bool b :: us ∧ ds = .bool b :: es ∧ Reps w us es ∧ es.map D0.code = cs := by
  cases ds with
  | nil => simp at hc
  | cons d es =>
    cases vs with
    | nil => exact h.elim
    | cons v us =>
      simp only [List.map_cons, List.cons.injEq] at hc
      cases d <;> simp [D0.code] at hc
      rename_i n
      exact ⟨n, us, es, by rw [show v = _ from h.1], rfl, h.2, hc⟩
theorem Reps.str {w : World} {vs : List Value} {ds : List D0} {cs : List C0} (h : Reps w vs ds) (hc : ds.map D0.code = .str :: cs) : ∃ s us es, vs = .string s :: us ∧ ds = .str s :: es ∧ Reps w us es ∧ es.map D0.code = cs := by
  cases ds with
  | nil => simp at hc
  | cons d es =>
    cases vs with
    | nil => exact h.elim
    | cons v us =>
      simp only [List.map_cons, List.cons.injEq] at hc
      cases d <;> simp [D0.code] at hc
      rename_i n
      exact ⟨n, us, es, by rw [show v = _ from h.1], rfl, h.2, hc⟩
theorem Reps.ints {w : World} {vs : List Value} {ds : List D0} {cs : List C0} (h : Reps w vs ds) (hc : ds.map D0.code = .ints :: cs) :
    ∃ p n c zs us es, vs = .slice p n c :: us ∧ ds = .ints zs :: es ∧ IntsR w p n c zs ∧ Reps w us es ∧ es.map D0.code = cs := by
  cases ds with
  | nil => simp at hc
  | cons d es =>
    cases vs with
    | nil => exact h.elim
    | cons v us =>
      simp only [List.map_cons, List.cons.injEq] at hc
      cases d <;> simp [D0.code] at hc
      rename_i zs
      obtain ⟨p, n, c, hv, hi⟩ := h.1
      exact ⟨p, n, c, zs, us, es, by rw [hv], rfl, hi, h.2, hc⟩
theorem Reps.done {w : World} {vs : List Value} {ds : List D0} (h : Reps w vs ds) (hc : ds.map D0.code = []) : vs = [] ∧ ds = [] := by
  have : ds = [] := by simpa using hc
  subst this
  cases vs with
  | nil => exact ⟨rfl, rfl⟩
  | cons _ _ => exact h.elim
/-- a slice of structs of k cells -/
def RowsR (w : World) (k : Nat) (p : Option Addr) (n c : Nat) (l : List (List D0)) : Prop :=
  l.length = n ∧ n ≤ c ∧ c ≤ 9223372036854775807 ∧ (0 < n → ∃ b off, p = some ⟨b, off, none⟩ ∧ ∀ i x, l[i]? = some x → ∃ cs, cs.length = k ∧ Reps w cs x ∧ Seg w b (off + i * k) cs)
theorem RowsR.ext {w w' : World} {k : Nat} {p : Option Addr} {n c : Nat} {l : List (List D0)} (h : RowsR w k p n c l) (he : Ext w w') : RowsR w' k p n c l :=
  ⟨h.1, h.2.1, h.2.2.1, fun hn => let ⟨b, off, hp, hs⟩ := h.2.2.2 hn; ⟨b, off, hp, fun i x hx => let ⟨cs, h1, h2, h3⟩ := hs i x hx; ⟨cs, h1, h2.ext he, h3.ext he⟩⟩⟩
theorem RowsR.nil (w : World) (k : Nat) (p : Option Addr) {c : Nat} (hc : c ≤ 9223372036854775807) : RowsR w k p 0 c [] := ⟨rfl, Nat.zero_le _, hc, fun h => absurd h (by omega)⟩
/-- element i -/
theorem RowsR.at {P : Program} {w : World} {k : Nat} {p : Option Addr} {n c i : Nat} {l : List (List D0)} (h : RowsR w k p n c l) {t : TypeId} (ht : aggT P t k = true) (hi : i < n) :
    ∃ a cs, p = some a ∧ cs.length = k ∧ Reps w cs (l[i]'(by rw [h.1]; exact hi)) ∧ Loads P t (a.add (i * k)) (.agg ⟨cs⟩) w := by
  obtain ⟨b, off, hp, hs⟩ := h.2.2.2 (by omega)
  obtain ⟨cs, h1, h2, h3⟩ := hs i _ (List.getElem?_eq_getElem (by rw [h.1]; exact hi))
  refine ⟨_, cs, hp, h1, h2, ?_⟩
  rw [addr_add]
  exact loadsA (by rw [h1]; exact ht) h3
/-- how much there is of it -/
def D0.bulk : D0 → Nat
  | .str s => s.size
  | .ints l => l.length
  | _ => 0
def bulks (ds : List D0) : Nat := (ds.map D0.bulk).sum
theorem bulks_le {l : List (List D0)} {y : List D0} (h : y ∈ l) : bulks y ≤ (l.map bulks).sum := by
  induction l with
  | nil => simp at h
  | cons a r ih =>
    simp only [List.map_cons, List.sum_cons]
    rcases List.mem_cons.1 h with e | e
    · rw [e]; omega
    · have := ih e; omega
/-- what a reading says of sizes -/
def D0.ok : D0 → Prop
  | .int n => -9223372036854775808 ≤ n ∧ n ≤ 9223372036854775807
  | .str s => s.size ≤ 9223372036854775807
  | .ints l => l.length ≤ 9223372036854775807
  | .bool _ => True
end Go.Proofs.YteakifedfnnmeaaDoor.Sx
