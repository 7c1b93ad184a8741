/-
  Parts of the proof of afterFee_holds: G1, G2.
  Conditions: none.
-/
import Derived.Test.YtmajiilehdpdmaaGreatDoorAf1

namespace Go.Proofs.YtmajiilehdpdmaaGreatDoor
open Go Go.Proofs.YtmajiilehdpdmaaGreatDoor.Sx
set_option linter.unusedVariables false
set_option maxRecDepth 100000
def laws_FnExactAfterFee_j2 (r_3 : Nat) (t89 : Int) (W_2 : World) (R : Value → World → Prop) : Prop :=
 ∃ (t1160 : ByteArray) (t1161 : Bool) (t1162_p : Option Addr) (t1162_n : Nat) (t1162_c : Nat), Loads P 32 ⟨r_3, 0, none⟩ (.agg #[(.string t1160), (.bool t1161), (.slice t1162_p t1162_n t1162_c)]) W_2 ∧ Calls P 17 ⟨[(.agg #[(.string t1160), (.bool t1161), (.slice t1162_p t1162_n t1162_c)]), (.int .i64 1)]⟩ W_2 fun e_21 wv_40 =>
 ∃ (t118 : Int), e_21 = .returned (.int .i64 t118) ∧
 ((decide ((t118 : Int) < 0)) = true →
 R (.bool false) wv_40) ∧
 ((decide ((t118 : Int) < 0)) = false →
 ((decide ((t118 : Int) ≠ t89)) = true →
 R (.bool false) wv_40) ∧
 ((decide ((t118 : Int) ≠ t89)) = false →
 R (.bool true) wv_40))
def laws_FnExactAfterFee_j1 (aL_p : Option Addr) (aL_n : Nat) (aL_c : Nat) (aMode : Int) (r : Nat) (t35 : Bool) (r_1 : Nat) (r_3 : Nat) (W_1 : World) (R : Value → World → Prop) : Prop :=
 ∃ (t870 : ByteArray) (t871 : Bool) (t872_p : Option Addr) (t872_n : Nat) (t872_c : Nat), Loads P 32 ⟨r_3, 0, none⟩ (.agg #[(.string t870), (.bool t871), (.slice t872_p t872_n t872_c)]) W_1 ∧ Calls P 15 ⟨[(.agg #[(.string t870), (.bool t871), (.slice t872_p t872_n t872_c)]), (.int .i64 1)]⟩ W_1 fun e_15 wv_28 =>
 ∃ (t89 : Int), e_15 = .returned (.int .i64 t89) ∧
 ∃ (t900 : ByteArray) (t901 : Bool) (t902_p : Option Addr) (t902_n : Nat) (t902_c : Nat), Loads P 32 ⟨r_3, 0, none⟩ (.agg #[(.string t900), (.bool t901), (.slice t902_p t902_n t902_c)]) wv_28 ∧ Calls P 17 ⟨[(.agg #[(.string t900), (.bool t901), (.slice t902_p t902_n t902_c)]), (.int .i64 1)]⟩ wv_28 fun e_16 wv_29 =>
 ∃ (t92 : Int), e_16 = .returned (.int .i64 t92) ∧
 ((decide ((t92 : Int) < 0)) = true →
 R (.bool false) wv_29) ∧
 ((decide ((t92 : Int) < 0)) = false →
 ((decide ((t92 : Int) ≠ t89)) = true →
 R (.bool false) wv_29) ∧
 ((decide ((t92 : Int) ≠ t89)) = false →
 ∀ (ss_4 : List (Option Nat)) (wv_30 : World), Fl [.cells ⟨[(.string ByteArray.empty), (.bool false), (.slice none 0 0)]⟩ 32 (0, 0)] [none] wv_29.drew ss_4 wv_30 →
 Calls P 8 ⟨[(.slice aL_p aL_n aL_c)]⟩ wv_30 fun e_17 wv_31 =>
 ∃ (t100_p : Option Addr) (t100_n : Nat) (t100_c : Nat), e_17 = .returned (.slice t100_p t100_n t100_c) ∧
 Ext wv_30 wv_31 ∧ ∃ (t1010 : ByteArray) (t1011 : Bool) (t1012_p : Option Addr) (t1012_n : Nat) (t1012_c : Nat), (∀ wv_32, Ext wv_29.drew wv_32 → Loads P 27 ⟨r, 0, none⟩ (.agg #[(.string t1010), (.bool t1011), (.slice t1012_p t1012_n t1012_c)]) wv_32) ∧ ∀ (ss_5 : List (Option Nat)) (wv_33 : World), Fl [.cells ⟨[(.string ByteArray.empty), (.bool false), (.slice none 0 0)]⟩ 32 (0, 0)] ss_4 wv_31 ss_5 wv_33 →
 Calls P 9 ⟨[(.agg #[(.string t1010), (.bool t1011), (.slice t1012_p t1012_n t1012_c)])]⟩ wv_33 fun e_18 wv_34 =>
 ∃ (t1020 : ByteArray) (t1021 : Bool) (t1022_p : Option Addr) (t1022_n : Nat) (t1022_c : Nat), e_18 = .returned (.agg #[(.string t1020), (.bool t1021), (.slice t1022_p t1022_n t1022_c)]) ∧
 ∀ (ss_6 : List (Option Nat)) (wv_35 : World), Fl [.cells ⟨[(.string ByteArray.empty), (.bool false), (.slice none 0 0)]⟩ 32 (0, 0)] ss_5 wv_34 ss_6 wv_35 →
 Calls P 20 ⟨[(.slice t100_p t100_n t100_c), (.agg #[(.string t1020), (.bool t1021), (.slice t1022_p t1022_n t1022_c)]), (.int .i64 aMode)]⟩ wv_35 fun e_19 wv_36 =>
 ∃ (t1040 : ByteArray) (t1041 : Bool) (t1042_p : Option Addr) (t1042_n : Nat) (t1042_c : Nat) (t104 : Bool), e_19 = .returned (.tuple #[(.agg #[(.string t1040), (.bool t1041), (.slice t1042_p t1042_n t1042_c)]), (.bool t104)]) ∧
 ∀ (ss_7 : List (Option Nat)) (wv_37 : World) (r_4 : Nat), Fl [.cells ⟨[(.string ByteArray.empty), (.bool false), (.slice none 0 0)]⟩ 32 (0, 0)] ss_6 wv_36 ss_7 wv_37 → ss_7[0]? = some (some r_4) →
 ∃ wv_38, Stores P 32 ⟨r_4, 0, none⟩ (.agg #[(.string t1040), (.bool t1041), (.slice t1042_p t1042_n t1042_c)]) wv_37 wv_38 ∧
 ∃ (t1070 : ByteArray) (t1071 : Bool) (t1072_p : Option Addr) (t1072_n : Nat) (t1072_c : Nat), Loads P 32 ⟨r_4, 0, none⟩ (.agg #[(.string t1070), (.bool t1071), (.slice t1072_p t1072_n t1072_c)]) wv_38 ∧ ∃ (t1080 : ByteArray) (t1081 : Bool) (t1082_p : Option Addr) (t1082_n : Nat) (t1082_c : Nat), Loads P 32 ⟨r_1, 0, none⟩ (.agg #[(.string t1080), (.bool t1081), (.slice t1082_p t1082_n t1082_c)]) wv_38 ∧ Calls P 11 ⟨[(.agg #[(.string t1070), (.bool t1071), (.slice t1072_p t1072_n t1072_c)]), (.agg #[(.string t1080), (.bool t1081), (.slice t1082_p t1082_n t1082_c)])]⟩ wv_38 fun e_20 wv_39 =>
 ∃ (t109 : Bool), e_20 = .returned (.bool t109) ∧
 ((!t109) = true →
 (true = true →
 R (.bool false) wv_39) ∧
 (true = false →
 laws_FnExactAfterFee_j2 r_3 t89 wv_39 R)) ∧
 ((!t109) = false →
 ((!(t104 == t35)) = true →
 R (.bool false) wv_39) ∧
 ((!(t104 == t35)) = false →
 laws_FnExactAfterFee_j2 r_3 t89 wv_39 R))))
def laws_FnExactAfterFee_j0 (aL_p : Option Addr) (aL_n : Nat) (aL_c : Nat) (aMode : Int) (r : Nat) (t35 : Bool) (r_1 : Nat) (t39_p : Option Addr) (t39_n : Nat) (t39_c : Nat) (r_2 : Nat) (t46 : Bool) (r_3 : Nat) (W : World) (R : Value → World → Prop) : Prop :=
 Calls P 8 ⟨[(.slice aL_p aL_n aL_c)]⟩ W fun e_9 wv_20 =>
 ∃ (t60_p : Option Addr) (t60_n : Nat) (t60_c : Nat), e_9 = .returned (.slice t60_p t60_n t60_c) ∧
 Calls P 13 ⟨[(.slice t39_p t39_n t39_c), (.slice t60_p t60_n t60_c)]⟩ wv_20 fun e_10 wv_21 =>
 ∃ (t61 : Bool), e_10 = .returned (.bool t61) ∧
 ((!t61) = true →
 R (.bool false) wv_21) ∧
 ((!t61) = false →
 ∃ (t630 : ByteArray) (t631 : Bool) (t632_p : Option Addr) (t632_n : Nat) (t632_c : Nat), (∀ wv_22, Ext wv_21.drew wv_22 → Loads P 32 ⟨r_2, 0, none⟩ (.agg #[(.string t630), (.bool t631), (.slice t632_p t632_n t632_c)]) wv_22) ∧ ∃ (t640 : ByteArray) (t641 : Bool) (t642_p : Option Addr) (t642_n : Nat) (t642_c : Nat), (∀ wv_23, Ext wv_21.drew wv_23 → Loads P 27 ⟨r, 0, none⟩ (.agg #[(.string t640), (.bool t641), (.slice t642_p t642_n t642_c)]) wv_23) ∧ Calls P 9 ⟨[(.agg #[(.string t640), (.bool t641), (.slice t642_p t642_n t642_c)])]⟩ wv_21.drew fun e_11 wv_24 =>
 ∃ (t650 : ByteArray) (t651 : Bool) (t652_p : Option Addr) (t652_n : Nat) (t652_c : Nat), e_11 = .returned (.agg #[(.string t650), (.bool t651), (.slice t652_p t652_n t652_c)]) ∧
 Ext wv_21.drew wv_24 ∧ Calls P 11 ⟨[(.agg #[(.string t630), (.bool t631), (.slice t632_p t632_n t632_c)]), (.agg #[(.string t650), (.bool t651), (.slice t652_p t652_n t652_c)])]⟩ wv_24 fun e_12 wv_25 =>
 ∃ (t66 : Bool), e_12 = .returned (.bool t66) ∧
 ((!t66) = true →
 R (.bool false) wv_25) ∧
 ((!t66) = false →
 Calls P 14 ⟨[(.slice t39_p t39_n t39_c), (.int .i64 1)]⟩ wv_25 fun e_13 wv_26 =>
 ∃ (t70 : Int), e_13 = .returned (.int .i64 t70) ∧
 ∃ (t710 : ByteArray) (t711 : Bool) (t712_p : Option Addr) (t712_n : Nat) (t712_c : Nat), Loads P 32 ⟨r_2, 0, none⟩ (.agg #[(.string t710), (.bool t711), (.slice t712_p t712_n t712_c)]) wv_26 ∧ Calls P 15 ⟨[(.agg #[(.string t710), (.bool t711), (.slice t712_p t712_n t712_c)]), (.int .i64 t70)]⟩ wv_26 fun e_14 wv_27 =>
 ∃ (t73 : Int), e_14 = .returned (.int .i64 t73) ∧
 ((decide ((t73 : Int) < 0)) = true →
 (true = true →
 (true = true →
 R (.bool false) wv_27) ∧
 (true = false →
 laws_FnExactAfterFee_j1 aL_p aL_n aL_c aMode r t35 r_1 r_3 wv_27 R)) ∧
 (true = false →
 ((!(t46 == t35)) = true →
 R (.bool false) wv_27) ∧
 ((!(t46 == t35)) = false →
 laws_FnExactAfterFee_j1 aL_p aL_n aL_c aMode r t35 r_1 r_3 wv_27 R))) ∧
 ((decide ((t73 : Int) < 0)) = false →
 ∃ (t770 : ByteArray) (t771 : Bool) (t772_p : Option Addr) (t772_n : Nat) (t772_c : Nat), Loads P 32 ⟨r_3, 0, none⟩ (.agg #[(.string t770), (.bool t771), (.slice t772_p t772_n t772_c)]) wv_27 ∧ ∃ (t780 : ByteArray) (t781 : Bool) (t782_p : Option Addr) (t782_n : Nat) (t782_c : Nat), Loads P 32 ⟨r_1, 0, none⟩ (.agg #[(.string t780), (.bool t781), (.slice t782_p t782_n t782_c)]) wv_27 ∧ Calls P 11 ⟨[(.agg #[(.string t770), (.bool t771), (.slice t772_p t772_n t772_c)]), (.agg #[(.string t780), (.bool t781), (.slice t782_p t782_n t782_c)])]⟩ wv_27 fun e_22 wv_41 =>
 ∃ (t79 : Bool), e_22 = .returned (.bool t79) ∧
 ((!t79) = true →
 (true = true →
 R (.bool false) wv_41) ∧
 (true = false →
 laws_FnExactAfterFee_j1 aL_p aL_n aL_c aMode r t35 r_1 r_3 wv_41 R)) ∧
 ((!t79) = false →
 ((!(t46 == t35)) = true →
 R (.bool false) wv_41) ∧
 ((!(t46 == t35)) = false →
 laws_FnExactAfterFee_j1 aL_p aL_n aL_c aMode r t35 r_1 r_3 wv_41 R)))))
def laws_FnExactAfterFee (aL_p : Option Addr) (aL_n : Nat) (aL_c : Nat) (aM0 : ByteArray) (aM1 : Bool) (aM2_p : Option Addr) (aM2_n : Nat) (aM2_c : Nat) (aMode : Int) (w : World) (R : Value → World → Prop) : Prop :=
 ∀ (r : Nat) (wv : World), New w (.cells ⟨[(.string aM0), (.bool aM1), (.slice aM2_p aM2_n aM2_c)]⟩ 27 (0, 0)) r wv →
 Calls P 5 ⟨[(.slice aL_p aL_n aL_c), (.int .i64 1048576)]⟩ wv fun e wv_1 =>
 ∃ (t21 : Int), e = .returned (.int .i64 t21) ∧
 ((decide ((t21 : Int) < 0)) = true →
 R (.bool true) wv_1) ∧
 ((decide ((t21 : Int) < 0)) = false →
 ∃ (t240 : ByteArray) (t241 : Bool) (t242_p : Option Addr) (t242_n : Nat) (t242_c : Nat), Loads P 27 ⟨r, 0, none⟩ (.agg #[(.string t240), (.bool t241), (.slice t242_p t242_n t242_c)]) wv_1 ∧ Calls P 6 ⟨[(.agg #[(.string t240), (.bool t241), (.slice t242_p t242_n t242_c)]), (.int .i64 t21)]⟩ wv_1 fun e_1 wv_2 =>
 ∃ (t26 : Int), e_1 = .returned (.int .i64 t26) ∧
 ((decide ((t26 : Int) < 0)) = true →
 R (.bool true) wv_2) ∧
 ((decide ((t26 : Int) < 0)) = false →
 ∀ (ss : List (Option Nat)) (wv_3 : World), Fl [.cells ⟨[(.string ByteArray.empty), (.bool false), (.slice none 0 0)]⟩ 32 (0, 0)] [none] wv_2.drew ss wv_3 →
 Calls P 8 ⟨[(.slice aL_p aL_n aL_c)]⟩ wv_3 fun e_2 wv_4 =>
 ∃ (t31_p : Option Addr) (t31_n : Nat) (t31_c : Nat), e_2 = .returned (.slice t31_p t31_n t31_c) ∧
 Ext wv_3 wv_4 ∧ ∃ (t320 : ByteArray) (t321 : Bool) (t322_p : Option Addr) (t322_n : Nat) (t322_c : Nat), (∀ wv_5, Ext wv_2.drew wv_5 → Loads P 27 ⟨r, 0, none⟩ (.agg #[(.string t320), (.bool t321), (.slice t322_p t322_n t322_c)]) wv_5) ∧ ∀ (ss_1 : List (Option Nat)) (wv_6 : World), Fl [.cells ⟨[(.string ByteArray.empty), (.bool false), (.slice none 0 0)]⟩ 32 (0, 0)] ss wv_4 ss_1 wv_6 →
 Calls P 9 ⟨[(.agg #[(.string t320), (.bool t321), (.slice t322_p t322_n t322_c)])]⟩ wv_6 fun e_3 wv_7 =>
 ∃ (t330 : ByteArray) (t331 : Bool) (t332_p : Option Addr) (t332_n : Nat) (t332_c : Nat), e_3 = .returned (.agg #[(.string t330), (.bool t331), (.slice t332_p t332_n t332_c)]) ∧
 ∀ (ss_2 : List (Option Nat)) (wv_8 : World), Fl [.cells ⟨[(.string ByteArray.empty), (.bool false), (.slice none 0 0)]⟩ 32 (0, 0)] ss_1 wv_7 ss_2 wv_8 →
 Calls P 19 ⟨[(.slice t31_p t31_n t31_c), (.agg #[(.string t330), (.bool t331), (.slice t332_p t332_n t332_c)]), (.int .i64 aMode)]⟩ wv_8 fun e_4 wv_9 =>
 ∃ (t350 : ByteArray) (t351 : Bool) (t352_p : Option Addr) (t352_n : Nat) (t352_c : Nat) (t35 : Bool), e_4 = .returned (.tuple #[(.agg #[(.string t350), (.bool t351), (.slice t352_p t352_n t352_c)]), (.bool t35)]) ∧
 ∀ (ss_3 : List (Option Nat)) (wv_10 : World) (r_1 : Nat), Fl [.cells ⟨[(.string ByteArray.empty), (.bool false), (.slice none 0 0)]⟩ 32 (0, 0)] ss_2 wv_9 ss_3 wv_10 → ss_3[0]? = some (some r_1) →
 ∃ wv_11, Stores P 32 ⟨r_1, 0, none⟩ (.agg #[(.string t350), (.bool t351), (.slice t352_p t352_n t352_c)]) wv_10 wv_11 ∧
 Calls P 8 ⟨[(.slice aL_p aL_n aL_c)]⟩ wv_11 fun e_5 wv_12 =>
 ∃ (t39_p : Option Addr) (t39_n : Nat) (t39_c : Nat), e_5 = .returned (.slice t39_p t39_n t39_c) ∧
 ∃ (t400 : ByteArray) (t401 : Bool) (t402_p : Option Addr) (t402_n : Nat) (t402_c : Nat), Loads P 27 ⟨r, 0, none⟩ (.agg #[(.string t400), (.bool t401), (.slice t402_p t402_n t402_c)]) wv_12 ∧ Calls P 9 ⟨[(.agg #[(.string t400), (.bool t401), (.slice t402_p t402_n t402_c)])]⟩ wv_12 fun e_6 wv_13 =>
 ∃ (t410 : ByteArray) (t411 : Bool) (t412_p : Option Addr) (t412_n : Nat) (t412_c : Nat), e_6 = .returned (.agg #[(.string t410), (.bool t411), (.slice t412_p t412_n t412_c)]) ∧
 ∀ (r_2 : Nat) (wv_14 : World), New wv_13 (.cells ⟨[(.string ByteArray.empty), (.bool false), (.slice none 0 0)]⟩ 32 (0, 0)) r_2 wv_14 →
 ∃ wv_15, Stores P 32 ⟨r_2, 0, none⟩ (.agg #[(.string t410), (.bool t411), (.slice t412_p t412_n t412_c)]) wv_14 wv_15 ∧
 ∃ (t440 : ByteArray) (t441 : Bool) (t442_p : Option Addr) (t442_n : Nat) (t442_c : Nat), Loads P 32 ⟨r_2, 0, none⟩ (.agg #[(.string t440), (.bool t441), (.slice t442_p t442_n t442_c)]) wv_15 ∧ Calls P 20 ⟨[(.slice t39_p t39_n t39_c), (.agg #[(.string t440), (.bool t441), (.slice t442_p t442_n t442_c)]), (.int .i64 aMode)]⟩ wv_15 fun e_7 wv_16 =>
 ∃ (t460 : ByteArray) (t461 : Bool) (t462_p : Option Addr) (t462_n : Nat) (t462_c : Nat) (t46 : Bool), e_7 = .returned (.tuple #[(.agg #[(.string t460), (.bool t461), (.slice t462_p t462_n t462_c)]), (.bool t46)]) ∧
 ∀ (r_3 : Nat) (wv_17 : World), New wv_16 (.cells ⟨[(.string ByteArray.empty), (.bool false), (.slice none 0 0)]⟩ 32 (0, 0)) r_3 wv_17 →
 ∃ wv_18, Stores P 32 ⟨r_3, 0, none⟩ (.agg #[(.string t460), (.bool t461), (.slice t462_p t462_n t462_c)]) wv_17 wv_18 ∧
 ∃ (t490 : ByteArray) (t491 : Bool) (t492_p : Option Addr) (t492_n : Nat) (t492_c : Nat), Loads P 32 ⟨r_3, 0, none⟩ (.agg #[(.string t490), (.bool t491), (.slice t492_p t492_n t492_c)]) wv_18 ∧ ∃ (t500 : ByteArray) (t501 : Bool) (t502_p : Option Addr) (t502_n : Nat) (t502_c : Nat), Loads P 32 ⟨r_1, 0, none⟩ (.agg #[(.string t500), (.bool t501), (.slice t502_p t502_n t502_c)]) wv_18 ∧ Calls P 11 ⟨[(.agg #[(.string t490), (.bool t491), (.slice t492_p t492_n t492_c)]), (.agg #[(.string t500), (.bool t501), (.slice t502_p t502_n t502_c)])]⟩ wv_18 fun e_8 wv_19 =>
 ∃ (t51 : Bool), e_8 = .returned (.bool t51) ∧
 ((!t51) = true →
 (true = true →
 R (.bool false) wv_19) ∧
 (true = false →
 laws_FnExactAfterFee_j0 aL_p aL_n aL_c aMode r t35 r_1 t39_p t39_n t39_c r_2 t46 r_3 wv_19 R)) ∧
 ((!t51) = false →
 ((!(t46 == t35)) = true →
 R (.bool false) wv_19) ∧
 ((!(t46 == t35)) = false →
 laws_FnExactAfterFee_j0 aL_p aL_n aL_c aMode r t35 r_1 t39_p t39_n t39_c r_2 t46 r_3 wv_19 R))))
theorem laws_FnExactAfterFee_ret {aL_p : Option Addr} {aL_n : Nat} {aL_c : Nat} {aM0 : ByteArray} {aM1 : Bool} {aM2_p : Option Addr} {aM2_n : Nat} {aM2_c : Nat} {aMode : Int} {w : World} {R : Value → World → Prop} (h : laws_FnExactAfterFee aL_p aL_n aL_c aM0 aM1 aM2_p aM2_n aM2_c aMode w R) : Ret P 4 [(.slice aL_p aL_n aL_c), (.agg #[(.string aM0), (.bool aM1), (.slice aM2_p aM2_n aM2_c)]), (.int .i64 aMode)] w R :=
  Ret.of_fsem Tryz.func4 rfl (Eq.mp (show _ = fsem P Tryz.f4 (fun k => []) _ R w from by kernel_rfl) h)
def spec_Fee (l_p : Option Addr) (l_n : Nat) (l_c : Nat) (m0 : ByteArray) (m1 : Bool) (m2_p : Option Addr) (m2_n : Nat) (m2_c : Nat) (mode : Int) (w : World) (R : Value → World → Prop) : Prop :=
 ∀ (r : Nat) (wv : World), New w (.cells ⟨[(.string m0), (.bool m1), (.slice m2_p m2_n m2_c)]⟩ 32 (0, 0)) r wv →
 ∀ (r_1 : Nat) (wv_1 : World), New wv (.cells ⟨[(.string ByteArray.empty), (.bool false), (.slice none 0 0)]⟩ 32 (0, 0)) r_1 wv_1 →
 ∀ (r_2 : Nat) (wv_2 : World), New wv_1 (.cells ⟨[(.bool false), (.slice none 0 0), (.slice none 0 0)]⟩ 34 (0, 0)) r_2 wv_2 →
 ∃ (t140 : Bool) (t141_p : Option Addr) (t141_n : Nat) (t141_c : Nat), Loads P 30 ((⟨r, 0, none⟩ : Addr).add 1) (.agg #[(.bool t140), (.slice t141_p t141_n t141_c)]) wv_2 ∧ Calls P 23 ⟨[(.slice l_p l_n l_c), (.agg #[(.bool t140), (.slice t141_p t141_n t141_c)])]⟩ wv_2 fun e wv_3 =>
 ∃ (t150 : Bool) (t151_p : Option Addr) (t151_n : Nat) (t151_c : Nat) (t152_p : Option Addr) (t152_n : Nat) (t152_c : Nat) (t15 : Bool), e = .returned (.tuple #[(.agg #[(.bool t150), (.slice t151_p t151_n t151_c), (.slice t152_p t152_n t152_c)]), (.bool t15)]) ∧
 ∀ (r_3 : Nat) (wv_4 : World), New wv_3 (.cells ⟨[(.bool false), (.slice none 0 0), (.slice none 0 0)]⟩ 34 (0, 0)) r_3 wv_4 →
 ∃ wv_5, Stores P 34 ⟨r_3, 0, none⟩ (.agg #[(.bool t150), (.slice t151_p t151_n t151_c), (.slice t152_p t152_n t152_c)]) wv_4 wv_5 ∧
 ((!t15) = true →
 (true = true →
 ∃ wv_6, Stores P 32 ⟨r_1, 0, none⟩ (.agg #[(.string ByteArray.empty), (.bool false), (.slice none 0 0)]) wv_5 wv_6 ∧
 ∃ wv_7, Stores P 34 ⟨r_2, 0, none⟩ (.agg #[(.bool false), (.slice none 0 0), (.slice none 0 0)]) wv_6 wv_7 ∧
 ∃ (r0 : ByteArray) (r1 : Bool) (r2_p : Option Addr) (r2_n : Nat) (r2_c : Nat), Loads P 32 ⟨r_1, 0, none⟩ (.agg #[(.string r0), (.bool r1), (.slice r2_p r2_n r2_c)]) wv_7 ∧ ∃ (r0_1 : Bool) (r1_p : Option Addr) (r1_n : Nat) (r1_c : Nat) (r2_p_1 : Option Addr) (r2_n_1 : Nat) (r2_c_1 : Nat), Loads P 34 ⟨r_2, 0, none⟩ (.agg #[(.bool r0_1), (.slice r1_p r1_n r1_c), (.slice r2_p_1 r2_n_1 r2_c_1)]) wv_7 ∧ R (.tuple #[(.agg #[(.string r0), (.bool r1), (.slice r2_p r2_n r2_c)]), (.agg #[(.bool r0_1), (.slice r1_p r1_n r1_c), (.slice r2_p_1 r2_n_1 r2_c_1)]), (.bool false)]) wv_7) ∧
 (true = false →
 ∃ (t28 : ByteArray), Loads P 9 ((⟨r, 0, none⟩ : Addr).add 0) (.string t28) wv_5 ∧ ∃ (t290 : Bool) (t291_p : Option Addr) (t291_n : Nat) (t291_c : Nat) (t292_p : Option Addr) (t292_n : Nat) (t292_c : Nat), Loads P 34 ⟨r_3, 0, none⟩ (.agg #[(.bool t290), (.slice t291_p t291_n t291_c), (.slice t292_p t292_n t292_c)]) wv_5 ∧ Calls P 25 ⟨[(.string t28), (.agg #[(.bool t290), (.slice t291_p t291_n t291_c), (.slice t292_p t292_n t292_c)]), (.int .i64 mode)]⟩ wv_5 fun e_1 wv_8 =>
 ∃ (t310 : ByteArray) (t311 : Bool) (t312_p : Option Addr) (t312_n : Nat) (t312_c : Nat) (t310_1 : Bool) (t311_p : Option Addr) (t311_n : Nat) (t311_c : Nat) (t312_p_1 : Option Addr) (t312_n_1 : Nat) (t312_c_1 : Nat) (t31 : Bool), e_1 = .returned (.tuple #[(.agg #[(.string t310), (.bool t311), (.slice t312_p t312_n t312_c)]), (.agg #[(.bool t310_1), (.slice t311_p t311_n t311_c), (.slice t312_p_1 t312_n_1 t312_c_1)]), (.bool t31)]) ∧
 ∃ wv_9, Stores P 32 ⟨r_1, 0, none⟩ (.agg #[(.string t310), (.bool t311), (.slice t312_p t312_n t312_c)]) wv_8 wv_9 ∧
 ∃ wv_10, Stores P 34 ⟨r_2, 0, none⟩ (.agg #[(.bool t310_1), (.slice t311_p t311_n t311_c), (.slice t312_p_1 t312_n_1 t312_c_1)]) wv_9 wv_10 ∧
 ∃ (r0_2 : ByteArray) (r1_1 : Bool) (r2_p_2 : Option Addr) (r2_n_2 : Nat) (r2_c_2 : Nat), Loads P 32 ⟨r_1, 0, none⟩ (.agg #[(.string r0_2), (.bool r1_1), (.slice r2_p_2 r2_n_2 r2_c_2)]) wv_10 ∧ ∃ (r0_3 : Bool) (r1_p_1 : Option Addr) (r1_n_1 : Nat) (r1_c_1 : Nat) (r2_p_3 : Option Addr) (r2_n_3 : Nat) (r2_c_3 : Nat), Loads P 34 ⟨r_2, 0, none⟩ (.agg #[(.bool r0_3), (.slice r1_p_1 r1_n_1 r1_c_1), (.slice r2_p_3 r2_n_3 r2_c_3)]) wv_10 ∧ R (.tuple #[(.agg #[(.string r0_2), (.bool r1_1), (.slice r2_p_2 r2_n_2 r2_c_2)]), (.agg #[(.bool r0_3), (.slice r1_p_1 r1_n_1 r1_c_1), (.slice r2_p_3 r2_n_3 r2_c_3)]), (.bool t31)]) wv_10)) ∧
 ((!t15) = false →
 ∃ (t210 : ByteArray) (t211 : Bool) (t212_p : Option Addr) (t212_n : Nat) (t212_c : Nat), Loads P 32 ⟨r, 0, none⟩ (.agg #[(.string t210), (.bool t211), (.slice t212_p t212_n t212_c)]) wv_5 ∧ Calls P 24 ⟨[(.agg #[(.string t210), (.bool t211), (.slice t212_p t212_n t212_c)])]⟩ wv_5 fun e_2 wv_11 =>
 ∃ (t22 : Bool), e_2 = .returned (.bool t22) ∧
 ((!t22) = true →
 ∃ wv_12, Stores P 32 ⟨r_1, 0, none⟩ (.agg #[(.string ByteArray.empty), (.bool false), (.slice none 0 0)]) wv_11 wv_12 ∧
 ∃ wv_13, Stores P 34 ⟨r_2, 0, none⟩ (.agg #[(.bool false), (.slice none 0 0), (.slice none 0 0)]) wv_12 wv_13 ∧
 ∃ (r0_4 : ByteArray) (r1_2 : Bool) (r2_p_4 : Option Addr) (r2_n_4 : Nat) (r2_c_4 : Nat), Loads P 32 ⟨r_1, 0, none⟩ (.agg #[(.string r0_4), (.bool r1_2), (.slice r2_p_4 r2_n_4 r2_c_4)]) wv_13 ∧ ∃ (r0_5 : Bool) (r1_p_2 : Option Addr) (r1_n_2 : Nat) (r1_c_2 : Nat) (r2_p_5 : Option Addr) (r2_n_5 : Nat) (r2_c_5 : Nat), Loads P 34 ⟨r_2, 0, none⟩ (.agg #[(.bool r0_5), (.slice r1_p_2 r1_n_2 r1_c_2), (.slice r2_p_5 r2_n_5 r2_c_5)]) wv_13 ∧ R (.tuple #[(.agg #[(.string r0_4), (.bool r1_2), (.slice r2_p_4 r2_n_4 r2_c_4)]), (.agg #[(.bool r0_5), (.slice r1_p_2 r1_n_2 r1_c_2), (.slice r2_p_5 r2_n_5 r2_c_5)]), (.bool false)]) wv_13) ∧
 ((!t22) = false →
 ∃ (t28_1 : ByteArray), Loads P 9 ((⟨r, 0, none⟩ : Addr).add 0) (.string t28_1) wv_11 ∧ ∃ (t290_1 : Bool) (t291_p_1 : Option Addr) (t291_n_1 : Nat) (t291_c_1 : Nat) (t292_p_1 : Option Addr) (t292_n_1 : Nat) (t292_c_1 : Nat), Loads P 34 ⟨r_3, 0, none⟩ (.agg #[(.bool t290_1), (.slice t291_p_1 t291_n_1 t291_c_1), (.slice t292_p_1 t292_n_1 t292_c_1)]) wv_11 ∧ Calls P 25 ⟨[(.string t28_1), (.agg #[(.bool t290_1), (.slice t291_p_1 t291_n_1 t291_c_1), (.slice t292_p_1 t292_n_1 t292_c_1)]), (.int .i64 mode)]⟩ wv_11 fun e_3 wv_14 =>
 ∃ (t310_2 : ByteArray) (t311_1 : Bool) (t312_p_2 : Option Addr) (t312_n_2 : Nat) (t312_c_2 : Nat) (t310_3 : Bool) (t311_p_1 : Option Addr) (t311_n_1 : Nat) (t311_c_1 : Nat) (t312_p_3 : Option Addr) (t312_n_3 : Nat) (t312_c_3 : Nat) (t31_1 : Bool), e_3 = .returned (.tuple #[(.agg #[(.string t310_2), (.bool t311_1), (.slice t312_p_2 t312_n_2 t312_c_2)]), (.agg #[(.bool t310_3), (.slice t311_p_1 t311_n_1 t311_c_1), (.slice t312_p_3 t312_n_3 t312_c_3)]), (.bool t31_1)]) ∧
 ∃ wv_15, Stores P 32 ⟨r_1, 0, none⟩ (.agg #[(.string t310_2), (.bool t311_1), (.slice t312_p_2 t312_n_2 t312_c_2)]) wv_14 wv_15 ∧
 ∃ wv_16, Stores P 34 ⟨r_2, 0, none⟩ (.agg #[(.bool t310_3), (.slice t311_p_1 t311_n_1 t311_c_1), (.slice t312_p_3 t312_n_3 t312_c_3)]) wv_15 wv_16 ∧
 ∃ (r0_6 : ByteArray) (r1_3 : Bool) (r2_p_6 : Option Addr) (r2_n_6 : Nat) (r2_c_6 : Nat), Loads P 32 ⟨r_1, 0, none⟩ (.agg #[(.string r0_6), (.bool r1_3), (.slice r2_p_6 r2_n_6 r2_c_6)]) wv_16 ∧ ∃ (r0_7 : Bool) (r1_p_3 : Option Addr) (r1_n_3 : Nat) (r1_c_3 : Nat) (r2_p_7 : Option Addr) (r2_n_7 : Nat) (r2_c_7 : Nat), Loads P 34 ⟨r_2, 0, none⟩ (.agg #[(.bool r0_7), (.slice r1_p_3 r1_n_3 r1_c_3), (.slice r2_p_7 r2_n_7 r2_c_7)]) wv_16 ∧ R (.tuple #[(.agg #[(.string r0_6), (.bool r1_3), (.slice r2_p_6 r2_n_6 r2_c_6)]), (.agg #[(.bool r0_7), (.slice r1_p_3 r1_n_3 r1_c_3), (.slice r2_p_7 r2_n_7 r2_c_7)]), (.bool t31_1)]) wv_16))
theorem spec_Fee_ret {l_p : Option Addr} {l_n : Nat} {l_c : Nat} {m0 : ByteArray} {m1 : Bool} {m2_p : Option Addr} {m2_n : Nat} {m2_c : Nat} {mode : Int} {w : World} {R : Value → World → Prop} (h : spec_Fee l_p l_n l_c m0 m1 m2_p m2_n m2_c mode w R) : Ret P 7 [(.slice l_p l_n l_c), (.agg #[(.string m0), (.bool m1), (.slice m2_p m2_n m2_c)]), (.int .i64 mode)] w R :=
  Ret.of_fsem Tryz.func7 rfl (Eq.mp (show _ = fsem P Tryz.f7 (fun k => []) _ R w from by kernel_rfl) h)
def impl_Fee (l_p : Option Addr) (l_n : Nat) (l_c : Nat) (m0 : ByteArray) (m1 : Bool) (m2_p : Option Addr) (m2_n : Nat) (m2_c : Nat) (mode : Int) (w : World) (R : Value → World → Prop) : Prop :=
 ∀ (r : Nat) (wv : World), New w (.cells ⟨[(.string m0), (.bool m1), (.slice m2_p m2_n m2_c)]⟩ 32 (0, 0)) r wv →
 ∀ (r_1 : Nat) (wv_1 : World), New wv (.cells ⟨[(.string ByteArray.empty), (.bool false), (.slice none 0 0)]⟩ 32 (0, 0)) r_1 wv_1 →
 ∀ (r_2 : Nat) (wv_2 : World), New wv_1 (.cells ⟨[(.bool false), (.slice none 0 0), (.slice none 0 0)]⟩ 34 (0, 0)) r_2 wv_2 →
 ∃ (t110 : ByteArray) (t111 : Bool) (t112_p : Option Addr) (t112_n : Nat) (t112_c : Nat), Loads P 32 ⟨r, 0, none⟩ (.agg #[(.string t110), (.bool t111), (.slice t112_p t112_n t112_c)]) wv_2 ∧ Calls P 28 ⟨[(.agg #[(.string t110), (.bool t111), (.slice t112_p t112_n t112_c)])]⟩ wv_2 fun e wv_3 =>
 ∃ (t12 : Bool), e = .returned (.bool t12) ∧
 ((!t12) = true →
 ∃ wv_4, Stores P 32 ⟨r_1, 0, none⟩ (.agg #[(.string ByteArray.empty), (.bool false), (.slice none 0 0)]) wv_3 wv_4 ∧
 ∃ wv_5, Stores P 34 ⟨r_2, 0, none⟩ (.agg #[(.bool false), (.slice none 0 0), (.slice none 0 0)]) wv_4 wv_5 ∧
 ∃ (r0 : ByteArray) (r1 : Bool) (r2_p : Option Addr) (r2_n : Nat) (r2_c : Nat), Loads P 32 ⟨r_1, 0, none⟩ (.agg #[(.string r0), (.bool r1), (.slice r2_p r2_n r2_c)]) wv_5 ∧ ∃ (r0_1 : Bool) (r1_p : Option Addr) (r1_n : Nat) (r1_c : Nat) (r2_p_1 : Option Addr) (r2_n_1 : Nat) (r2_c_1 : Nat), Loads P 34 ⟨r_2, 0, none⟩ (.agg #[(.bool r0_1), (.slice r1_p r1_n r1_c), (.slice r2_p_1 r2_n_1 r2_c_1)]) wv_5 ∧ R (.tuple #[(.agg #[(.string r0), (.bool r1), (.slice r2_p r2_n r2_c)]), (.agg #[(.bool r0_1), (.slice r1_p r1_n r1_c), (.slice r2_p_1 r2_n_1 r2_c_1)]), (.bool false)]) wv_5) ∧
 ((!t12) = false →
 ∃ (t190 : Bool) (t191_p : Option Addr) (t191_n : Nat) (t191_c : Nat), Loads P 30 ((⟨r, 0, none⟩ : Addr).add 1) (.agg #[(.bool t190), (.slice t191_p t191_n t191_c)]) wv_3 ∧ Calls P 29 ⟨[(.slice l_p l_n l_c), (.agg #[(.bool t190), (.slice t191_p t191_n t191_c)])]⟩ wv_3 fun e_1 wv_6 =>
 ∃ (t200 : Bool) (t201_p : Option Addr) (t201_n : Nat) (t201_c : Nat) (t202_p : Option Addr) (t202_n : Nat) (t202_c : Nat) (t20 : Bool), e_1 = .returned (.tuple #[(.agg #[(.bool t200), (.slice t201_p t201_n t201_c), (.slice t202_p t202_n t202_c)]), (.bool t20)]) ∧
 ∀ (r_3 : Nat) (wv_7 : World), New wv_6 (.cells ⟨[(.bool false), (.slice none 0 0), (.slice none 0 0)]⟩ 34 (0, 0)) r_3 wv_7 →
 ∃ wv_8, Stores P 34 ⟨r_3, 0, none⟩ (.agg #[(.bool t200), (.slice t201_p t201_n t201_c), (.slice t202_p t202_n t202_c)]) wv_7 wv_8 ∧
 ((!t20) = true →
 ∃ wv_9, Stores P 32 ⟨r_1, 0, none⟩ (.agg #[(.string ByteArray.empty), (.bool false), (.slice none 0 0)]) wv_8 wv_9 ∧
 ∃ wv_10, Stores P 34 ⟨r_2, 0, none⟩ (.agg #[(.bool false), (.slice none 0 0), (.slice none 0 0)]) wv_9 wv_10 ∧
 ∃ (r0_2 : ByteArray) (r1_1 : Bool) (r2_p_2 : Option Addr) (r2_n_2 : Nat) (r2_c_2 : Nat), Loads P 32 ⟨r_1, 0, none⟩ (.agg #[(.string r0_2), (.bool r1_1), (.slice r2_p_2 r2_n_2 r2_c_2)]) wv_10 ∧ ∃ (r0_3 : Bool) (r1_p_1 : Option Addr) (r1_n_1 : Nat) (r1_c_1 : Nat) (r2_p_3 : Option Addr) (r2_n_3 : Nat) (r2_c_3 : Nat), Loads P 34 ⟨r_2, 0, none⟩ (.agg #[(.bool r0_3), (.slice r1_p_1 r1_n_1 r1_c_1), (.slice r2_p_3 r2_n_3 r2_c_3)]) wv_10 ∧ R (.tuple #[(.agg #[(.string r0_2), (.bool r1_1), (.slice r2_p_2 r2_n_2 r2_c_2)]), (.agg #[(.bool r0_3), (.slice r1_p_1 r1_n_1 r1_c_1), (.slice r2_p_3 r2_n_3 r2_c_3)]), (.bool false)]) wv_10) ∧
 ((!t20) = false →
 ∃ (t28 : ByteArray), Loads P 9 ((⟨r, 0, none⟩ : Addr).add 0) (.string t28) wv_8 ∧ ∃ (t290 : Bool) (t291_p : Option Addr) (t291_n : Nat) (t291_c : Nat) (t292_p : Option Addr) (t292_n : Nat) (t292_c : Nat), Loads P 34 ⟨r_3, 0, none⟩ (.agg #[(.bool t290), (.slice t291_p t291_n t291_c), (.slice t292_p t292_n t292_c)]) wv_8 ∧ Calls P 30 ⟨[(.string t28), (.agg #[(.bool t290), (.slice t291_p t291_n t291_c), (.slice t292_p t292_n t292_c)]), (.int .i64 mode)]⟩ wv_8 fun e_2 wv_11 =>
 ∃ (t310 : ByteArray) (t311 : Bool) (t312_p : Option Addr) (t312_n : Nat) (t312_c : Nat) (t310_1 : Bool) (t311_p : Option Addr) (t311_n : Nat) (t311_c : Nat) (t312_p_1 : Option Addr) (t312_n_1 : Nat) (t312_c_1 : Nat) (t31 : Bool), e_2 = .returned (.tuple #[(.agg #[(.string t310), (.bool t311), (.slice t312_p t312_n t312_c)]), (.agg #[(.bool t310_1), (.slice t311_p t311_n t311_c), (.slice t312_p_1 t312_n_1 t312_c_1)]), (.bool t31)]) ∧
 ∃ wv_12, Stores P 32 ⟨r_1, 0, none⟩ (.agg #[(.string t310), (.bool t311), (.slice t312_p t312_n t312_c)]) wv_11 wv_12 ∧
 ∃ wv_13, Stores P 34 ⟨r_2, 0, none⟩ (.agg #[(.bool t310_1), (.slice t311_p t311_n t311_c), (.slice t312_p_1 t312_n_1 t312_c_1)]) wv_12 wv_13 ∧
 ∃ (r0_4 : ByteArray) (r1_2 : Bool) (r2_p_4 : Option Addr) (r2_n_4 : Nat) (r2_c_4 : Nat), Loads P 32 ⟨r_1, 0, none⟩ (.agg #[(.string r0_4), (.bool r1_2), (.slice r2_p_4 r2_n_4 r2_c_4)]) wv_13 ∧ ∃ (r0_5 : Bool) (r1_p_2 : Option Addr) (r1_n_2 : Nat) (r1_c_2 : Nat) (r2_p_5 : Option Addr) (r2_n_5 : Nat) (r2_c_5 : Nat), Loads P 34 ⟨r_2, 0, none⟩ (.agg #[(.bool r0_5), (.slice r1_p_2 r1_n_2 r1_c_2), (.slice r2_p_5 r2_n_5 r2_c_5)]) wv_13 ∧ R (.tuple #[(.agg #[(.string r0_4), (.bool r1_2), (.slice r2_p_4 r2_n_4 r2_c_4)]), (.agg #[(.bool r0_5), (.slice r1_p_2 r1_n_2 r1_c_2), (.slice r2_p_5 r2_n_5 r2_c_5)]), (.bool t31)]) wv_13))
theorem impl_Fee_ret {l_p : Option Addr} {l_n : Nat} {l_c : Nat} {m0 : ByteArray} {m1 : Bool} {m2_p : Option Addr} {m2_n : Nat} {m2_c : Nat} {mode : Int} {w : World} {R : Value → World → Prop} (h : impl_Fee l_p l_n l_c m0 m1 m2_p m2_n m2_c mode w R) : Ret P 10 [(.slice l_p l_n l_c), (.agg #[(.string m0), (.bool m1), (.slice m2_p m2_n m2_c)]), (.int .i64 mode)] w R :=
  Ret.of_fsem Tryz.func10 rfl (Eq.mp (show _ = fsem P Tryz.f10 (fun k => []) _ R w from by kernel_rfl) h)
def spec_AfterFee (l_p : Option Addr) (l_n : Nat) (l_c : Nat) (m0 : ByteArray) (m1 : Bool) (m2_p : Option Addr) (m2_n : Nat) (m2_c : Nat) (mode : Int) (w : World) (R : Value → World → Prop) : Prop :=
 ∀ (r : Nat) (wv : World), New w (.cells ⟨[(.string m0), (.bool m1), (.slice m2_p m2_n m2_c)]⟩ 32 (0, 0)) r wv →
 ∀ (r_1 : Nat) (wv_1 : World), New wv (.cells ⟨[(.string ByteArray.empty), (.bool false), (.slice none 0 0)]⟩ 32 (0, 0)) r_1 wv_1 →
 ∃ (t130 : ByteArray) (t131 : Bool) (t132_p : Option Addr) (t132_n : Nat) (t132_c : Nat), Loads P 32 ⟨r, 0, none⟩ (.agg #[(.string t130), (.bool t131), (.slice t132_p t132_n t132_c)]) wv_1 ∧ Calls P 7 ⟨[(.slice l_p l_n l_c), (.agg #[(.string t130), (.bool t131), (.slice t132_p t132_n t132_c)]), (.int .i64 mode)]⟩ wv_1 fun e wv_2 =>
 ∃ (t150 : ByteArray) (t151 : Bool) (t152_p : Option Addr) (t152_n : Nat) (t152_c : Nat) (t150_1 : Bool) (t151_p : Option Addr) (t151_n : Nat) (t151_c : Nat) (t152_p_1 : Option Addr) (t152_n_1 : Nat) (t152_c_1 : Nat) (t15 : Bool), e = .returned (.tuple #[(.agg #[(.string t150), (.bool t151), (.slice t152_p t152_n t152_c)]), (.agg #[(.bool t150_1), (.slice t151_p t151_n t151_c), (.slice t152_p_1 t152_n_1 t152_c_1)]), (.bool t15)]) ∧
 ∀ (r_2 : Nat) (wv_3 : World), New wv_2 (.cells ⟨[(.string ByteArray.empty), (.bool false), (.slice none 0 0)]⟩ 32 (0, 0)) r_2 wv_3 →
 ∀ (r_3 : Nat) (wv_4 : World), New wv_3 (.cells ⟨[(.bool false), (.slice none 0 0), (.slice none 0 0)]⟩ 34 (0, 0)) r_3 wv_4 →
 ∃ wv_5, Stores P 32 ⟨r_2, 0, none⟩ (.agg #[(.string t150), (.bool t151), (.slice t152_p t152_n t152_c)]) wv_4 wv_5 ∧
 ∃ wv_6, Stores P 34 ⟨r_3, 0, none⟩ (.agg #[(.bool t150_1), (.slice t151_p t151_n t151_c), (.slice t152_p_1 t152_n_1 t152_c_1)]) wv_5 wv_6 ∧
 ((!t15) = true →
 (true = true →
 ∃ wv_7, Stores P 32 ⟨r_1, 0, none⟩ (.agg #[(.string ByteArray.empty), (.bool false), (.slice none 0 0)]) wv_6 wv_7 ∧
 ∃ (r0 : ByteArray) (r1 : Bool) (r2_p : Option Addr) (r2_n : Nat) (r2_c : Nat), Loads P 32 ⟨r_1, 0, none⟩ (.agg #[(.string r0), (.bool r1), (.slice r2_p r2_n r2_c)]) wv_7 ∧ R (.tuple #[(.agg #[(.string r0), (.bool r1), (.slice r2_p r2_n r2_c)]), (.bool false)]) wv_7) ∧
 (true = false →
 ∃ (t270 : ByteArray) (t271 : Bool) (t272_p : Option Addr) (t272_n : Nat) (t272_c : Nat), Loads P 32 ⟨r, 0, none⟩ (.agg #[(.string t270), (.bool t271), (.slice t272_p t272_n t272_c)]) wv_6 ∧ ∃ (t280 : ByteArray) (t281 : Bool) (t282_p : Option Addr) (t282_n : Nat) (t282_c : Nat), Loads P 32 ⟨r_2, 0, none⟩ (.agg #[(.string t280), (.bool t281), (.slice t282_p t282_n t282_c)]) wv_6 ∧ Calls P 38 ⟨[(.agg #[(.string t270), (.bool t271), (.slice t272_p t272_n t272_c)]), (.agg #[(.string t280), (.bool t281), (.slice t282_p t282_n t282_c)])]⟩ wv_6 fun e_1 wv_8 =>
 ∃ (t290 : ByteArray) (t291 : Bool) (t292_p : Option Addr) (t292_n : Nat) (t292_c : Nat) (t29 : Bool), e_1 = .returned (.tuple #[(.agg #[(.string t290), (.bool t291), (.slice t292_p t292_n t292_c)]), (.bool t29)]) ∧
 ∃ wv_9, Stores P 32 ⟨r_1, 0, none⟩ (.agg #[(.string t290), (.bool t291), (.slice t292_p t292_n t292_c)]) wv_8 wv_9 ∧
 ∃ (r0_1 : ByteArray) (r1_1 : Bool) (r2_p_1 : Option Addr) (r2_n_1 : Nat) (r2_c_1 : Nat), Loads P 32 ⟨r_1, 0, none⟩ (.agg #[(.string r0_1), (.bool r1_1), (.slice r2_p_1 r2_n_1 r2_c_1)]) wv_9 ∧ R (.tuple #[(.agg #[(.string r0_1), (.bool r1_1), (.slice r2_p_1 r2_n_1 r2_c_1)]), (.bool t29)]) wv_9)) ∧
 ((!t15) = false →
 ∃ (t24 : Bool), Loads P 4 (((⟨r, 0, none⟩ : Addr).add 1).add 0) (.bool t24) wv_6 ∧ (t24 = true →
 ∃ wv_10, Stores P 32 ⟨r_1, 0, none⟩ (.agg #[(.string ByteArray.empty), (.bool false), (.slice none 0 0)]) wv_6 wv_10 ∧
 ∃ (r0_2 : ByteArray) (r1_2 : Bool) (r2_p_2 : Option Addr) (r2_n_2 : Nat) (r2_c_2 : Nat), Loads P 32 ⟨r_1, 0, none⟩ (.agg #[(.string r0_2), (.bool r1_2), (.slice r2_p_2 r2_n_2 r2_c_2)]) wv_10 ∧ R (.tuple #[(.agg #[(.string r0_2), (.bool r1_2), (.slice r2_p_2 r2_n_2 r2_c_2)]), (.bool false)]) wv_10) ∧
 (t24 = false →
 ∃ (t270_1 : ByteArray) (t271_1 : Bool) (t272_p_1 : Option Addr) (t272_n_1 : Nat) (t272_c_1 : Nat), Loads P 32 ⟨r, 0, none⟩ (.agg #[(.string t270_1), (.bool t271_1), (.slice t272_p_1 t272_n_1 t272_c_1)]) wv_6 ∧ ∃ (t280_1 : ByteArray) (t281_1 : Bool) (t282_p_1 : Option Addr) (t282_n_1 : Nat) (t282_c_1 : Nat), Loads P 32 ⟨r_2, 0, none⟩ (.agg #[(.string t280_1), (.bool t281_1), (.slice t282_p_1 t282_n_1 t282_c_1)]) wv_6 ∧ Calls P 38 ⟨[(.agg #[(.string t270_1), (.bool t271_1), (.slice t272_p_1 t272_n_1 t272_c_1)]), (.agg #[(.string t280_1), (.bool t281_1), (.slice t282_p_1 t282_n_1 t282_c_1)])]⟩ wv_6 fun e_2 wv_11 =>
 ∃ (t290_1 : ByteArray) (t291_1 : Bool) (t292_p_1 : Option Addr) (t292_n_1 : Nat) (t292_c_1 : Nat) (t29_1 : Bool), e_2 = .returned (.tuple #[(.agg #[(.string t290_1), (.bool t291_1), (.slice t292_p_1 t292_n_1 t292_c_1)]), (.bool t29_1)]) ∧
 ∃ wv_12, Stores P 32 ⟨r_1, 0, none⟩ (.agg #[(.string t290_1), (.bool t291_1), (.slice t292_p_1 t292_n_1 t292_c_1)]) wv_11 wv_12 ∧
 ∃ (r0_3 : ByteArray) (r1_3 : Bool) (r2_p_3 : Option Addr) (r2_n_3 : Nat) (r2_c_3 : Nat), Loads P 32 ⟨r_1, 0, none⟩ (.agg #[(.string r0_3), (.bool r1_3), (.slice r2_p_3 r2_n_3 r2_c_3)]) wv_12 ∧ R (.tuple #[(.agg #[(.string r0_3), (.bool r1_3), (.slice r2_p_3 r2_n_3 r2_c_3)]), (.bool t29_1)]) wv_12))
theorem spec_AfterFee_ret {l_p : Option Addr} {l_n : Nat} {l_c : Nat} {m0 : ByteArray} {m1 : Bool} {m2_p : Option Addr} {m2_n : Nat} {m2_c : Nat} {mode : Int} {w : World} {R : Value → World → Prop} (h : spec_AfterFee l_p l_n l_c m0 m1 m2_p m2_n m2_c mode w R) : Ret P 19 [(.slice l_p l_n l_c), (.agg #[(.string m0), (.bool m1), (.slice m2_p m2_n m2_c)]), (.int .i64 mode)] w R :=
  Ret.of_fsem Tryz.func19 rfl (Eq.mp (show _ = fsem P Tryz.f19 (fun k => []) _ R w from by kernel_rfl) h)
def impl_AfterFee (l_p : Option Addr) (l_n : Nat) (l_c : Nat) (m0 : ByteArray) (m1 : Bool) (m2_p : Option Addr) (m2_n : Nat) (m2_c : Nat) (mode : Int) (w : World) (R : Value → World → Prop) : Prop :=
 ∀ (r : Nat) (wv : World), New w (.cells ⟨[(.string m0), (.bool m1), (.slice m2_p m2_n m2_c)]⟩ 32 (0, 0)) r wv →
 ∀ (r_1 : Nat) (wv_1 : World), New wv (.cells ⟨[(.string ByteArray.empty), (.bool false), (.slice none 0 0)]⟩ 32 (0, 0)) r_1 wv_1 →
 ∃ (t130 : ByteArray) (t131 : Bool) (t132_p : Option Addr) (t132_n : Nat) (t132_c : Nat), Loads P 32 ⟨r, 0, none⟩ (.agg #[(.string t130), (.bool t131), (.slice t132_p t132_n t132_c)]) wv_1 ∧ Calls P 10 ⟨[(.slice l_p l_n l_c), (.agg #[(.string t130), (.bool t131), (.slice t132_p t132_n t132_c)]), (.int .i64 mode)]⟩ wv_1 fun e wv_2 =>
 ∃ (t150 : ByteArray) (t151 : Bool) (t152_p : Option Addr) (t152_n : Nat) (t152_c : Nat) (t150_1 : Bool) (t151_p : Option Addr) (t151_n : Nat) (t151_c : Nat) (t152_p_1 : Option Addr) (t152_n_1 : Nat) (t152_c_1 : Nat) (t15 : Bool), e = .returned (.tuple #[(.agg #[(.string t150), (.bool t151), (.slice t152_p t152_n t152_c)]), (.agg #[(.bool t150_1), (.slice t151_p t151_n t151_c), (.slice t152_p_1 t152_n_1 t152_c_1)]), (.bool t15)]) ∧
 ∀ (r_2 : Nat) (wv_3 : World), New wv_2 (.cells ⟨[(.string ByteArray.empty), (.bool false), (.slice none 0 0)]⟩ 32 (0, 0)) r_2 wv_3 →
 ∀ (r_3 : Nat) (wv_4 : World), New wv_3 (.cells ⟨[(.bool false), (.slice none 0 0), (.slice none 0 0)]⟩ 34 (0, 0)) r_3 wv_4 →
 ∃ wv_5, Stores P 32 ⟨r_2, 0, none⟩ (.agg #[(.string t150), (.bool t151), (.slice t152_p t152_n t152_c)]) wv_4 wv_5 ∧
 ∃ wv_6, Stores P 34 ⟨r_3, 0, none⟩ (.agg #[(.bool t150_1), (.slice t151_p t151_n t151_c), (.slice t152_p_1 t152_n_1 t152_c_1)]) wv_5 wv_6 ∧
 ((!t15) = true →
 (true = true →
 ∃ wv_7, Stores P 32 ⟨r_1, 0, none⟩ (.agg #[(.string ByteArray.empty), (.bool false), (.slice none 0 0)]) wv_6 wv_7 ∧
 ∃ (r0 : ByteArray) (r1 : Bool) (r2_p : Option Addr) (r2_n : Nat) (r2_c : Nat), Loads P 32 ⟨r_1, 0, none⟩ (.agg #[(.string r0), (.bool r1), (.slice r2_p r2_n r2_c)]) wv_7 ∧ R (.tuple #[(.agg #[(.string r0), (.bool r1), (.slice r2_p r2_n r2_c)]), (.bool false)]) wv_7) ∧
 (true = false →
 ∃ (t270 : ByteArray) (t271 : Bool) (t272_p : Option Addr) (t272_n : Nat) (t272_c : Nat), Loads P 32 ⟨r, 0, none⟩ (.agg #[(.string t270), (.bool t271), (.slice t272_p t272_n t272_c)]) wv_6 ∧ ∃ (t280 : ByteArray) (t281 : Bool) (t282_p : Option Addr) (t282_n : Nat) (t282_c : Nat), Loads P 32 ⟨r_2, 0, none⟩ (.agg #[(.string t280), (.bool t281), (.slice t282_p t282_n t282_c)]) wv_6 ∧ Calls P 39 ⟨[(.agg #[(.string t270), (.bool t271), (.slice t272_p t272_n t272_c)]), (.agg #[(.string t280), (.bool t281), (.slice t282_p t282_n t282_c)])]⟩ wv_6 fun e_1 wv_8 =>
 ∃ (t290 : ByteArray) (t291 : Bool) (t292_p : Option Addr) (t292_n : Nat) (t292_c : Nat) (t29 : Bool), e_1 = .returned (.tuple #[(.agg #[(.string t290), (.bool t291), (.slice t292_p t292_n t292_c)]), (.bool t29)]) ∧
 ∃ wv_9, Stores P 32 ⟨r_1, 0, none⟩ (.agg #[(.string t290), (.bool t291), (.slice t292_p t292_n t292_c)]) wv_8 wv_9 ∧
 ∃ (r0_1 : ByteArray) (r1_1 : Bool) (r2_p_1 : Option Addr) (r2_n_1 : Nat) (r2_c_1 : Nat), Loads P 32 ⟨r_1, 0, none⟩ (.agg #[(.string r0_1), (.bool r1_1), (.slice r2_p_1 r2_n_1 r2_c_1)]) wv_9 ∧ R (.tuple #[(.agg #[(.string r0_1), (.bool r1_1), (.slice r2_p_1 r2_n_1 r2_c_1)]), (.bool t29)]) wv_9)) ∧
 ((!t15) = false →
 ∃ (t24 : Bool), Loads P 4 (((⟨r, 0, none⟩ : Addr).add 1).add 0) (.bool t24) wv_6 ∧ (t24 = true →
 ∃ wv_10, Stores P 32 ⟨r_1, 0, none⟩ (.agg #[(.string ByteArray.empty), (.bool false), (.slice none 0 0)]) wv_6 wv_10 ∧
 ∃ (r0_2 : ByteArray) (r1_2 : Bool) (r2_p_2 : Option Addr) (r2_n_2 : Nat) (r2_c_2 : Nat), Loads P 32 ⟨r_1, 0, none⟩ (.agg #[(.string r0_2), (.bool r1_2), (.slice r2_p_2 r2_n_2 r2_c_2)]) wv_10 ∧ R (.tuple #[(.agg #[(.string r0_2), (.bool r1_2), (.slice r2_p_2 r2_n_2 r2_c_2)]), (.bool false)]) wv_10) ∧
 (t24 = false →
 ∃ (t270_1 : ByteArray) (t271_1 : Bool) (t272_p_1 : Option Addr) (t272_n_1 : Nat) (t272_c_1 : Nat), Loads P 32 ⟨r, 0, none⟩ (.agg #[(.string t270_1), (.bool t271_1), (.slice t272_p_1 t272_n_1 t272_c_1)]) wv_6 ∧ ∃ (t280_1 : ByteArray) (t281_1 : Bool) (t282_p_1 : Option Addr) (t282_n_1 : Nat) (t282_c_1 : Nat), Loads P 32 ⟨r_2, 0, none⟩ (.agg #[(.string t280_1), (.bool t281_1), (.slice t282_p_1 t282_n_1 t282_c_1)]) wv_6 ∧ Calls P 39 ⟨[(.agg #[(.string t270_1), (.bool t271_1), (.slice t272_p_1 t272_n_1 t272_c_1)]), (.agg #[(.string t280_1), (.bool t281_1), (.slice t282_p_1 t282_n_1 t282_c_1)])]⟩ wv_6 fun e_2 wv_11 =>
 ∃ (t290_1 : ByteArray) (t291_1 : Bool) (t292_p_1 : Option Addr) (t292_n_1 : Nat) (t292_c_1 : Nat) (t29_1 : Bool), e_2 = .returned (.tuple #[(.agg #[(.string t290_1), (.bool t291_1), (.slice t292_p_1 t292_n_1 t292_c_1)]), (.bool t29_1)]) ∧
 ∃ wv_12, Stores P 32 ⟨r_1, 0, none⟩ (.agg #[(.string t290_1), (.bool t291_1), (.slice t292_p_1 t292_n_1 t292_c_1)]) wv_11 wv_12 ∧
 ∃ (r0_3 : ByteArray) (r1_3 : Bool) (r2_p_3 : Option Addr) (r2_n_3 : Nat) (r2_c_3 : Nat), Loads P 32 ⟨r_1, 0, none⟩ (.agg #[(.string r0_3), (.bool r1_3), (.slice r2_p_3 r2_n_3 r2_c_3)]) wv_12 ∧ R (.tuple #[(.agg #[(.string r0_3), (.bool r1_3), (.slice r2_p_3 r2_n_3 r2_c_3)]), (.bool t29_1)]) wv_12))
theorem impl_AfterFee_ret {l_p : Option Addr} {l_n : Nat} {l_c : Nat} {m0 : ByteArray} {m1 : Bool} {m2_p : Option Addr} {m2_n : Nat} {m2_c : Nat} {mode : Int} {w : World} {R : Value → World → Prop} (h : impl_AfterFee l_p l_n l_c m0 m1 m2_p m2_n m2_c mode w R) : Ret P 20 [(.slice l_p l_n l_c), (.agg #[(.string m0), (.bool m1), (.slice m2_p m2_n m2_c)]), (.int .i64 mode)] w R :=
  Ret.of_fsem Tryz.func20 rfl (Eq.mp (show _ = fsem P Tryz.f20 (fun k => []) _ R w from by kernel_rfl) h)
def spec_FeeExact_j0 (l_p : Option Addr) (l_n : Nat) (l_c : Nat) (r : Nat) (r_1 : Nat) (W : World) (R : Value → World → Prop) : Prop :=
 Calls P 44 ⟨[]⟩ W fun e_1 wv_4 =>
 ∃ (t280 : Bool) (t281_p : Option Addr) (t281_n : Nat) (t281_c : Nat) (t282_p : Option Addr) (t282_n : Nat) (t282_c : Nat), e_1 = .returned (.agg #[(.bool t280), (.slice t281_p t281_n t281_c), (.slice t282_p t282_n t282_c)]) ∧
 ∀ (r_2 : Nat) (wv_5 : World), New wv_4 (.cells ⟨[(.bool false), (.slice none 0 0), (.slice none 0 0)]⟩ 34 (0, 0)) r_2 wv_5 →
 ∃ wv_6, Stores P 34 ⟨r_2, 0, none⟩ (.agg #[(.bool t280), (.slice t281_p t281_n t281_c), (.slice t282_p t282_n t282_c)]) wv_5 wv_6 ∧
 ∃ (t290 : Bool) (t291_p : Option Addr) (t291_n : Nat) (t291_c : Nat), Loads P 30 ⟨r, 0, none⟩ (.agg #[(.bool t290), (.slice t291_p t291_n t291_c)]) wv_6 ∧ Calls P 45 ⟨[(.agg #[(.bool t290), (.slice t291_p t291_n t291_c)])]⟩ wv_6 fun e_2 wv_7 =>
 ∃ (t300 : Bool) (t301_p : Option Addr) (t301_n : Nat) (t301_c : Nat), e_2 = .returned (.agg #[(.bool t300), (.slice t301_p t301_n t301_c)]) ∧
 ∀ (r_3 : Nat) (wv_8 : World), New wv_7 (.cells ⟨[(.bool false), (.slice none 0 0)]⟩ 30 (0, 0)) r_3 wv_8 →
 ∃ wv_9, Stores P 30 ⟨r_3, 0, none⟩ (.agg #[(.bool t300), (.slice t301_p t301_n t301_c)]) wv_8 wv_9 ∧
 ∃ (t320 : Bool) (t321_p : Option Addr) (t321_n : Nat) (t321_c : Nat), Loads P 30 ⟨r, 0, none⟩ (.agg #[(.bool t320), (.slice t321_p t321_n t321_c)]) wv_9 ∧ Calls P 46 ⟨[(.slice l_p l_n l_c), (.agg #[(.bool t320), (.slice t321_p t321_n t321_c)])]⟩ wv_9 fun e_3 wv_10 =>
 ∃ (t33 : Int), e_3 = .returned (.int .i64 t33) ∧
 ∃ (Inv : Int → World → Prop) (mu : Int → World → Nat), Inv t33 wv_10 ∧
 ∀ (junk : Fr) (wv_11 : World) (i : Int), Inv i wv_11 →
 ((decide ((0 : Int) ≤ i)) = true →
 ∃ (t390 : Bool) (t391_p : Option Addr) (t391_n : Nat) (t391_c : Nat), (∀ wv_12, Ext wv_11.drew wv_12 → Loads P 30 ⟨r_3, 0, none⟩ (.agg #[(.bool t390), (.slice t391_p t391_n t391_c)]) wv_12) ∧ (0 ≤ (i : Int) ∧ (i : Int) < (l_n : Nat)) ∧ ptrS l_p fun ad => ∃ (t44 : Int), (∀ wv_13, Ext wv_11.drew wv_13 → Loads P 3 ((ad.add (i.toNat * 4)).add 0) (.int .i64 t44) wv_13) ∧ ∀ (ss : List (Option Nat)) (wv_14 : World), Fl [.cells ⟨[(.bool false), (.slice none 0 0), (.slice none 0 0)]⟩ 34 (0, 0)] [none] wv_11.drew ss wv_14 →
 Calls P 49 ⟨[(.int .i64 t44)]⟩ wv_14 fun e_4 wv_15 =>
 ∃ (t450 : Bool) (t451_p : Option Addr) (t451_n : Nat) (t451_c : Nat), e_4 = .returned (.agg #[(.bool t450), (.slice t451_p t451_n t451_c)]) ∧
 Ext wv_14 wv_15 ∧ ∀ (ss_1 : List (Option Nat)) (wv_16 : World), Fl [.cells ⟨[(.bool false), (.slice none 0 0), (.slice none 0 0)]⟩ 34 (0, 0)] ss wv_15 ss_1 wv_16 →
 Calls P 48 ⟨[(.agg #[(.bool t390), (.slice t391_p t391_n t391_c)]), (.agg #[(.bool t450), (.slice t451_p t451_n t451_c)])]⟩ wv_16 fun e_5 wv_17 =>
 ∃ (t460 : Bool) (t461_p : Option Addr) (t461_n : Nat) (t461_c : Nat), e_5 = .returned (.agg #[(.bool t460), (.slice t461_p t461_n t461_c)]) ∧
 ∀ (ss_2 : List (Option Nat)) (wv_18 : World), Fl [.cells ⟨[(.bool false), (.slice none 0 0), (.slice none 0 0)]⟩ 34 (0, 0)] ss_1 wv_17 ss_2 wv_18 →
 Calls P 47 ⟨[(.agg #[(.bool t460), (.slice t461_p t461_n t461_c)])]⟩ wv_18 fun e_6 wv_19 =>
 ∃ (t470 : Bool) (t471_p : Option Addr) (t471_n : Nat) (t471_c : Nat) (t472_p : Option Addr) (t472_n : Nat) (t472_c : Nat) (t47 : Bool), e_6 = .returned (.tuple #[(.agg #[(.bool t470), (.slice t471_p t471_n t471_c), (.slice t472_p t472_n t472_c)]), (.bool t47)]) ∧
 ∀ (ss_3 : List (Option Nat)) (wv_20 : World) (r_4 : Nat), Fl [.cells ⟨[(.bool false), (.slice none 0 0), (.slice none 0 0)]⟩ 34 (0, 0)] ss_2 wv_19 ss_3 wv_20 → ss_3[0]? = some (some r_4) →
 ∃ wv_21, Stores P 34 ⟨r_4, 0, none⟩ (.agg #[(.bool t470), (.slice t471_p t471_n t471_c), (.slice t472_p t472_n t472_c)]) wv_20 wv_21 ∧
 ∃ (t510 : Bool) (t511_p : Option Addr) (t511_n : Nat) (t511_c : Nat) (t512_p : Option Addr) (t512_n : Nat) (t512_c : Nat), (∀ wv_22, Ext wv_21.drew wv_22 → Loads P 34 ⟨r_4, 0, none⟩ (.agg #[(.bool t510), (.slice t511_p t511_n t511_c), (.slice t512_p t512_n t512_c)]) wv_22) ∧ (0 ≤ (i : Int) ∧ (i : Int) < (l_n : Nat)) ∧ ptrS l_p fun ad_1 => ∃ (t560 : Bool) (t561_p : Option Addr) (t561_n : Nat) (t561_c : Nat) (t562 : Int), (∀ wv_23, Ext wv_21.drew wv_23 → Loads P 60 ((ad_1.add (i.toNat * 4)).add 1) (.agg #[(.bool t560), (.slice t561_p t561_n t561_c), (.int .i64 t562)]) wv_23) ∧ ∀ (ss_4 : List (Option Nat)) (wv_24 : World), Fl [.cells ⟨[(.bool false), (.slice none 0 0), (.slice none 0 0)]⟩ 34 (0, 0)] [none] wv_21.drew ss_4 wv_24 →
 Calls P 51 ⟨[(.agg #[(.bool t560), (.slice t561_p t561_n t561_c), (.int .i64 t562)])]⟩ wv_24 fun e_7 wv_25 =>
 ∃ (t570 : Bool) (t571_p : Option Addr) (t571_n : Nat) (t571_c : Nat) (t572_p : Option Addr) (t572_n : Nat) (t572_c : Nat), e_7 = .returned (.agg #[(.bool t570), (.slice t571_p t571_n t571_c), (.slice t572_p t572_n t572_c)]) ∧
 Ext wv_24 wv_25 ∧ ∀ (ss_5 : List (Option Nat)) (wv_26 : World), Fl [.cells ⟨[(.bool false), (.slice none 0 0), (.slice none 0 0)]⟩ 34 (0, 0)] ss_4 wv_25 ss_5 wv_26 →
 Calls P 50 ⟨[(.agg #[(.bool t510), (.slice t511_p t511_n t511_c), (.slice t512_p t512_n t512_c)]), (.agg #[(.bool t570), (.slice t571_p t571_n t571_c), (.slice t572_p t572_n t572_c)])]⟩ wv_26 fun e_8 wv_27 =>
 ∃ (t580 : Bool) (t581_p : Option Addr) (t581_n : Nat) (t581_c : Nat) (t582_p : Option Addr) (t582_n : Nat) (t582_c : Nat) (t58 : Bool), e_8 = .returned (.tuple #[(.agg #[(.bool t580), (.slice t581_p t581_n t581_c), (.slice t582_p t582_n t582_c)]), (.bool t58)]) ∧
 ∀ (ss_6 : List (Option Nat)) (wv_28 : World) (r_5 : Nat), Fl [.cells ⟨[(.bool false), (.slice none 0 0), (.slice none 0 0)]⟩ 34 (0, 0)] ss_5 wv_27 ss_6 wv_28 → ss_6[0]? = some (some r_5) →
 ∃ wv_29, Stores P 34 ⟨r_5, 0, none⟩ (.agg #[(.bool t580), (.slice t581_p t581_n t581_c), (.slice t582_p t582_n t582_c)]) wv_28 wv_29 ∧
 ∃ (t620 : Bool) (t621_p : Option Addr) (t621_n : Nat) (t621_c : Nat) (t622_p : Option Addr) (t622_n : Nat) (t622_c : Nat), Loads P 34 ⟨r_2, 0, none⟩ (.agg #[(.bool t620), (.slice t621_p t621_n t621_c), (.slice t622_p t622_n t622_c)]) wv_29 ∧ ∃ (t630 : Bool) (t631_p : Option Addr) (t631_n : Nat) (t631_c : Nat) (t632_p : Option Addr) (t632_n : Nat) (t632_c : Nat), Loads P 34 ⟨r_5, 0, none⟩ (.agg #[(.bool t630), (.slice t631_p t631_n t631_c), (.slice t632_p t632_n t632_c)]) wv_29 ∧ Calls P 52 ⟨[(.agg #[(.bool t620), (.slice t621_p t621_n t621_c), (.slice t622_p t622_n t622_c)]), (.agg #[(.bool t630), (.slice t631_p t631_n t631_c), (.slice t632_p t632_n t632_c)])]⟩ wv_29 fun e_9 wv_30 =>
 ∃ (t640 : Bool) (t641_p : Option Addr) (t641_n : Nat) (t641_c : Nat) (t642_p : Option Addr) (t642_n : Nat) (t642_c : Nat) (t64 : Bool), e_9 = .returned (.tuple #[(.agg #[(.bool t640), (.slice t641_p t641_n t641_c), (.slice t642_p t642_n t642_c)]), (.bool t64)]) ∧
 ∃ wv_31, Stores P 34 ⟨r_2, 0, none⟩ (.agg #[(.bool t640), (.slice t641_p t641_n t641_c), (.slice t642_p t642_n t642_c)]) wv_30 wv_31 ∧
 (0 ≤ (i : Int) ∧ (i : Int) < (l_n : Nat)) ∧ ptrS l_p fun ad_2 => ∃ (t71 : Int), Loads P 3 ((ad_2.add (i.toNat * 4)).add 0) (.int .i64 t71) wv_31 ∧ Calls P 49 ⟨[(.int .i64 t71)]⟩ wv_31 fun e_10 wv_32 =>
 ∃ (t720 : Bool) (t721_p : Option Addr) (t721_n : Nat) (t721_c : Nat), e_10 = .returned (.agg #[(.bool t720), (.slice t721_p t721_n t721_c)]) ∧
 ∃ wv_33, Stores P 30 ⟨r_3, 0, none⟩ (.agg #[(.bool t720), (.slice t721_p t721_n t721_c)]) wv_32 wv_33 ∧
 ∃ t37 : Int, t37 = IntKind.wrap .i64 (i - 1) ∧ Inv t37 wv_33 ∧ mu t37 wv_33 < mu i wv_11) ∧
 ((decide ((0 : Int) ≤ i)) = false →
 ∃ (t730 : Bool) (t731_p : Option Addr) (t731_n : Nat) (t731_c : Nat) (t732_p : Option Addr) (t732_n : Nat) (t732_c : Nat), Loads P 34 ⟨r_2, 0, none⟩ (.agg #[(.bool t730), (.slice t731_p t731_n t731_c), (.slice t732_p t732_n t732_c)]) wv_11 ∧ ∃ wv_34, Stores P 34 ⟨r_1, 0, none⟩ (.agg #[(.bool t730), (.slice t731_p t731_n t731_c), (.slice t732_p t732_n t732_c)]) wv_11 wv_34 ∧
 ∃ (r0_1 : Bool) (r1_p_1 : Option Addr) (r1_n_1 : Nat) (r1_c_1 : Nat) (r2_p_1 : Option Addr) (r2_n_1 : Nat) (r2_c_1 : Nat), Loads P 34 ⟨r_1, 0, none⟩ (.agg #[(.bool r0_1), (.slice r1_p_1 r1_n_1 r1_c_1), (.slice r2_p_1 r2_n_1 r2_c_1)]) wv_34 ∧ R (.tuple #[(.agg #[(.bool r0_1), (.slice r1_p_1 r1_n_1 r1_c_1), (.slice r2_p_1 r2_n_1 r2_c_1)]), (.bool true)]) wv_34)
def spec_FeeExact (l_p : Option Addr) (l_n : Nat) (l_c : Nat) (units0 : Bool) (units1_p : Option Addr) (units1_n : Nat) (units1_c : Nat) (w : World) (R : Value → World → Prop) : Prop :=
 ∀ (r : Nat) (wv : World), New w (.cells ⟨[(.bool units0), (.slice units1_p units1_n units1_c)]⟩ 30 (0, 0)) r wv →
 ∀ (r_1 : Nat) (wv_1 : World), New wv (.cells ⟨[(.bool false), (.slice none 0 0), (.slice none 0 0)]⟩ 34 (0, 0)) r_1 wv_1 →
 Calls P 42 ⟨[(.slice l_p l_n l_c)]⟩ wv_1 fun e wv_2 =>
 ∃ (t14 : Bool), e = .returned (.bool t14) ∧
 ((!t14) = true →
 (true = true →
 (true = true →
 ∃ wv_3, Stores P 34 ⟨r_1, 0, none⟩ (.agg #[(.bool false), (.slice none 0 0), (.slice none 0 0)]) wv_2 wv_3 ∧
 ∃ (r0 : Bool) (r1_p : Option Addr) (r1_n : Nat) (r1_c : Nat) (r2_p : Option Addr) (r2_n : Nat) (r2_c : Nat), Loads P 34 ⟨r_1, 0, none⟩ (.agg #[(.bool r0), (.slice r1_p r1_n r1_c), (.slice r2_p r2_n r2_c)]) wv_3 ∧ R (.tuple #[(.agg #[(.bool r0), (.slice r1_p r1_n r1_c), (.slice r2_p r2_n r2_c)]), (.bool false)]) wv_3) ∧
 (true = false →
 spec_FeeExact_j0 l_p l_n l_c r r_1 wv_2 R)) ∧
 (true = false →
 ∃ (t23_p : Option Addr) (t23_n : Nat) (t23_c : Nat), Loads P 23 ((⟨r, 0, none⟩ : Addr).add 1) (.slice t23_p t23_n t23_c) wv_2 ∧ ((decide ((4 : Int) < ((t23_n : Nat) : Int))) = true →
 ∃ wv_35, Stores P 34 ⟨r_1, 0, none⟩ (.agg #[(.bool false), (.slice none 0 0), (.slice none 0 0)]) wv_2 wv_35 ∧
 ∃ (r0_2 : Bool) (r1_p_2 : Option Addr) (r1_n_2 : Nat) (r1_c_2 : Nat) (r2_p_2 : Option Addr) (r2_n_2 : Nat) (r2_c_2 : Nat), Loads P 34 ⟨r_1, 0, none⟩ (.agg #[(.bool r0_2), (.slice r1_p_2 r1_n_2 r1_c_2), (.slice r2_p_2 r2_n_2 r2_c_2)]) wv_35 ∧ R (.tuple #[(.agg #[(.bool r0_2), (.slice r1_p_2 r1_n_2 r1_c_2), (.slice r2_p_2 r2_n_2 r2_c_2)]), (.bool false)]) wv_35) ∧
 ((decide ((4 : Int) < ((t23_n : Nat) : Int))) = false →
 spec_FeeExact_j0 l_p l_n l_c r r_1 wv_2 R))) ∧
 ((!t14) = false →
 ∃ (t170 : Bool) (t171_p : Option Addr) (t171_n : Nat) (t171_c : Nat), Loads P 30 ⟨r, 0, none⟩ (.agg #[(.bool t170), (.slice t171_p t171_n t171_c)]) wv_2 ∧ Calls P 43 ⟨[(.agg #[(.bool t170), (.slice t171_p t171_n t171_c)])]⟩ wv_2 fun e_11 wv_36 =>
 ∃ (t18 : Bool), e_11 = .returned (.bool t18) ∧
 ((!t18) = true →
 (true = true →
 ∃ wv_37, Stores P 34 ⟨r_1, 0, none⟩ (.agg #[(.bool false), (.slice none 0 0), (.slice none 0 0)]) wv_36 wv_37 ∧
 ∃ (r0_3 : Bool) (r1_p_3 : Option Addr) (r1_n_3 : Nat) (r1_c_3 : Nat) (r2_p_3 : Option Addr) (r2_n_3 : Nat) (r2_c_3 : Nat), Loads P 34 ⟨r_1, 0, none⟩ (.agg #[(.bool r0_3), (.slice r1_p_3 r1_n_3 r1_c_3), (.slice r2_p_3 r2_n_3 r2_c_3)]) wv_37 ∧ R (.tuple #[(.agg #[(.bool r0_3), (.slice r1_p_3 r1_n_3 r1_c_3), (.slice r2_p_3 r2_n_3 r2_c_3)]), (.bool false)]) wv_37) ∧
 (true = false →
 spec_FeeExact_j0 l_p l_n l_c r r_1 wv_36 R)) ∧
 ((!t18) = false →
 ∃ (t23_p_1 : Option Addr) (t23_n_1 : Nat) (t23_c_1 : Nat), Loads P 23 ((⟨r, 0, none⟩ : Addr).add 1) (.slice t23_p_1 t23_n_1 t23_c_1) wv_36 ∧ ((decide ((4 : Int) < ((t23_n_1 : Nat) : Int))) = true →
 ∃ wv_38, Stores P 34 ⟨r_1, 0, none⟩ (.agg #[(.bool false), (.slice none 0 0), (.slice none 0 0)]) wv_36 wv_38 ∧
 ∃ (r0_4 : Bool) (r1_p_4 : Option Addr) (r1_n_4 : Nat) (r1_c_4 : Nat) (r2_p_4 : Option Addr) (r2_n_4 : Nat) (r2_c_4 : Nat), Loads P 34 ⟨r_1, 0, none⟩ (.agg #[(.bool r0_4), (.slice r1_p_4 r1_n_4 r1_c_4), (.slice r2_p_4 r2_n_4 r2_c_4)]) wv_38 ∧ R (.tuple #[(.agg #[(.bool r0_4), (.slice r1_p_4 r1_n_4 r1_c_4), (.slice r2_p_4 r2_n_4 r2_c_4)]), (.bool false)]) wv_38) ∧
 ((decide ((4 : Int) < ((t23_n_1 : Nat) : Int))) = false →
 spec_FeeExact_j0 l_p l_n l_c r r_1 wv_36 R)))
theorem spec_FeeExact_ret {l_p : Option Addr} {l_n : Nat} {l_c : Nat} {units0 : Bool} {units1_p : Option Addr} {units1_n : Nat} {units1_c : Nat} {w : World} {R : Value → World → Prop} (h : spec_FeeExact l_p l_n l_c units0 units1_p units1_n units1_c w R) : Ret P 23 [(.slice l_p l_n l_c), (.agg #[(.bool units0), (.slice units1_p units1_n units1_c)])] w R :=
  Ret.of_fsem Tryz.func23 rfl (Eq.mp (show _ = fsem P Tryz.f23 (fun k => cond (Nat.beq k 7) [(8, .one (.int .i64))] ([])) _ R w from by kernel_rfl) h)
def spec_MoneyOk (m0 : ByteArray) (m1 : Bool) (m2_p : Option Addr) (m2_n : Nat) (m2_c : Nat) (w : World) (R : Value → World → Prop) : Prop :=
 ∀ (r : Nat) (wv : World), New w (.cells ⟨[(.string m0), (.bool m1), (.slice m2_p m2_n m2_c)]⟩ 32 (0, 0)) r wv →
 ∃ (t4 : ByteArray), Loads P 9 ((⟨r, 0, none⟩ : Addr).add 0) (.string t4) wv ∧ Calls P 53 ⟨[(.string t4)]⟩ wv fun e wv_1 =>
 ∃ (t5 : Bool), e = .returned (.bool t5) ∧
 (t5 = true →
 ∃ (t80 : Bool) (t81_p : Option Addr) (t81_n : Nat) (t81_c : Nat), Loads P 30 ((⟨r, 0, none⟩ : Addr).add 1) (.agg #[(.bool t80), (.slice t81_p t81_n t81_c)]) wv_1 ∧ Calls P 43 ⟨[(.agg #[(.bool t80), (.slice t81_p t81_n t81_c)])]⟩ wv_1 fun e_1 wv_2 =>
 ∃ (t9 : Bool), e_1 = .returned (.bool t9) ∧
 (t9 = true →
 ∃ (t14_p : Option Addr) (t14_n : Nat) (t14_c : Nat), Loads P 23 (((⟨r, 0, none⟩ : Addr).add 1).add 1) (.slice t14_p t14_n t14_c) wv_2 ∧ R (.bool (decide ((((t14_n : Nat) : Int) : Int) ≤ 4))) wv_2) ∧
 (t9 = false →
 R (.bool false) wv_2)) ∧
 (t5 = false →
 (false = true →
 ∃ (t14_p_1 : Option Addr) (t14_n_1 : Nat) (t14_c_1 : Nat), Loads P 23 (((⟨r, 0, none⟩ : Addr).add 1).add 1) (.slice t14_p_1 t14_n_1 t14_c_1) wv_1 ∧ R (.bool (decide ((((t14_n_1 : Nat) : Int) : Int) ≤ 4))) wv_1) ∧
 (false = false →
 R (.bool false) wv_1))
theorem spec_MoneyOk_ret {m0 : ByteArray} {m1 : Bool} {m2_p : Option Addr} {m2_n : Nat} {m2_c : Nat} {w : World} {R : Value → World → Prop} (h : spec_MoneyOk m0 m1 m2_p m2_n m2_c w R) : Ret P 24 [(.agg #[(.string m0), (.bool m1), (.slice m2_p m2_n m2_c)])] w R :=
  Ret.of_fsem Tryz.func24 rfl (Eq.mp (show _ = fsem P Tryz.f24 (fun k => []) _ R w from by kernel_rfl) h)
def spec_RatMoney (cur : ByteArray) (r0 : Bool) (r1_p : Option Addr) (r1_n : Nat) (r1_c : Nat) (r2_p : Option Addr) (r2_n : Nat) (r2_c : Nat) (mode : Int) (w : World) (R : Value → World → Prop) : Prop :=
 ∀ (r : Nat) (wv : World), New w (.cells ⟨[(.bool r0), (.slice r1_p r1_n r1_c), (.slice r2_p r2_n r2_c)]⟩ 34 (0, 0)) r wv →
 ∀ (r_1 : Nat) (wv_1 : World), New wv (.cells ⟨[(.string ByteArray.empty), (.bool false), (.slice none 0 0)]⟩ 32 (0, 0)) r_1 wv_1 →
 ∀ (r_2 : Nat) (wv_2 : World), New wv_1 (.cells ⟨[(.bool false), (.slice none 0 0), (.slice none 0 0)]⟩ 34 (0, 0)) r_2 wv_2 →
 ∃ (t150 : Bool) (t151_p : Option Addr) (t151_n : Nat) (t151_c : Nat) (t152_p : Option Addr) (t152_n : Nat) (t152_c : Nat), Loads P 34 ⟨r, 0, none⟩ (.agg #[(.bool t150), (.slice t151_p t151_n t151_c), (.slice t152_p t152_n t152_c)]) wv_2 ∧ Calls P 54 ⟨[(.agg #[(.bool t150), (.slice t151_p t151_n t151_c), (.slice t152_p t152_n t152_c)]), (.int .i64 mode)]⟩ wv_2 fun e wv_3 =>
 ∃ (t170 : Bool) (t171_p : Option Addr) (t171_n : Nat) (t171_c : Nat) (t170_1 : Bool) (t171_p_1 : Option Addr) (t171_n_1 : Nat) (t171_c_1 : Nat) (t172_p : Option Addr) (t172_n : Nat) (t172_c : Nat) (t17 : Bool), e = .returned (.tuple #[(.agg #[(.bool t170), (.slice t171_p t171_n t171_c)]), (.agg #[(.bool t170_1), (.slice t171_p_1 t171_n_1 t171_c_1), (.slice t172_p t172_n t172_c)]), (.bool t17)]) ∧
 ∀ (r_3 : Nat) (wv_4 : World), New wv_3 (.cells ⟨[(.bool false), (.slice none 0 0)]⟩ 30 (0, 0)) r_3 wv_4 →
 ∀ (r_4 : Nat) (wv_5 : World), New wv_4 (.cells ⟨[(.bool false), (.slice none 0 0), (.slice none 0 0)]⟩ 34 (0, 0)) r_4 wv_5 →
 ∃ wv_6, Stores P 30 ⟨r_3, 0, none⟩ (.agg #[(.bool t170), (.slice t171_p t171_n t171_c)]) wv_5 wv_6 ∧
 ∃ wv_7, Stores P 34 ⟨r_4, 0, none⟩ (.agg #[(.bool t170_1), (.slice t171_p_1 t171_n_1 t171_c_1), (.slice t172_p t172_n t172_c)]) wv_6 wv_7 ∧
 ∃ (t230 : Bool) (t231_p : Option Addr) (t231_n : Nat) (t231_c : Nat), Loads P 30 ⟨r_3, 0, none⟩ (.agg #[(.bool t230), (.slice t231_p t231_n t231_c)]) wv_7 ∧ Calls P 55 ⟨[(.string cur), (.agg #[(.bool t230), (.slice t231_p t231_n t231_c)])]⟩ wv_7 fun e_1 wv_8 =>
 ∃ (t240 : ByteArray) (t241 : Bool) (t242_p : Option Addr) (t242_n : Nat) (t242_c : Nat) (t24 : Bool), e_1 = .returned (.tuple #[(.agg #[(.string t240), (.bool t241), (.slice t242_p t242_n t242_c)]), (.bool t24)]) ∧
 ∀ (r_5 : Nat) (wv_9 : World), New wv_8 (.cells ⟨[(.string ByteArray.empty), (.bool false), (.slice none 0 0)]⟩ 32 (0, 0)) r_5 wv_9 →
 ∃ wv_10, Stores P 32 ⟨r_5, 0, none⟩ (.agg #[(.string t240), (.bool t241), (.slice t242_p t242_n t242_c)]) wv_9 wv_10 ∧
 ((!t17) = true →
 (true = true →
 ∃ wv_11, Stores P 32 ⟨r_1, 0, none⟩ (.agg #[(.string ByteArray.empty), (.bool false), (.slice none 0 0)]) wv_10 wv_11 ∧
 ∃ wv_12, Stores P 34 ⟨r_2, 0, none⟩ (.agg #[(.bool false), (.slice none 0 0), (.slice none 0 0)]) wv_11 wv_12 ∧
 ∃ (r0_1 : ByteArray) (r1 : Bool) (r2_p_1 : Option Addr) (r2_n_1 : Nat) (r2_c_1 : Nat), Loads P 32 ⟨r_1, 0, none⟩ (.agg #[(.string r0_1), (.bool r1), (.slice r2_p_1 r2_n_1 r2_c_1)]) wv_12 ∧ ∃ (r0_2 : Bool) (r1_p_1 : Option Addr) (r1_n_1 : Nat) (r1_c_1 : Nat) (r2_p_2 : Option Addr) (r2_n_2 : Nat) (r2_c_2 : Nat), Loads P 34 ⟨r_2, 0, none⟩ (.agg #[(.bool r0_2), (.slice r1_p_1 r1_n_1 r1_c_1), (.slice r2_p_2 r2_n_2 r2_c_2)]) wv_12 ∧ R (.tuple #[(.agg #[(.string r0_1), (.bool r1), (.slice r2_p_1 r2_n_1 r2_c_1)]), (.agg #[(.bool r0_2), (.slice r1_p_1 r1_n_1 r1_c_1), (.slice r2_p_2 r2_n_2 r2_c_2)]), (.bool false)]) wv_12) ∧
 (true = false →
 ∃ blks : List Nat, ∃ (t350 : ByteArray) (t351 : Bool) (t352_p : Option Addr) (t352_n : Nat) (t352_c : Nat), (∀ wv_13, EX blks wv_10.drew wv_13 → Loads P 32 ⟨r_5, 0, none⟩ (.agg #[(.string t350), (.bool t351), (.slice t352_p t352_n t352_c)]) wv_13) ∧ ∃ (t360 : Bool) (t361_p : Option Addr) (t361_n : Nat) (t361_c : Nat) (t362_p : Option Addr) (t362_n : Nat) (t362_c : Nat), (∀ wv_14, EX blks wv_10.drew wv_14 → Loads P 34 ⟨r_4, 0, none⟩ (.agg #[(.bool t360), (.slice t361_p t361_n t361_c), (.slice t362_p t362_n t362_c)]) wv_14) ∧ ∃ wv_15, Stores P 32 ⟨r_1, 0, none⟩ (.agg #[(.string t350), (.bool t351), (.slice t352_p t352_n t352_c)]) wv_10.drew wv_15 ∧
 EX blks wv_10.drew wv_15 ∧ ∃ wv_16, Stores P 34 ⟨r_2, 0, none⟩ (.agg #[(.bool t360), (.slice t361_p t361_n t361_c), (.slice t362_p t362_n t362_c)]) wv_15 wv_16 ∧
 ∃ (r0_3 : ByteArray) (r1_1 : Bool) (r2_p_3 : Option Addr) (r2_n_3 : Nat) (r2_c_3 : Nat), Loads P 32 ⟨r_1, 0, none⟩ (.agg #[(.string r0_3), (.bool r1_1), (.slice r2_p_3 r2_n_3 r2_c_3)]) wv_16 ∧ ∃ (r0_4 : Bool) (r1_p_2 : Option Addr) (r1_n_2 : Nat) (r1_c_2 : Nat) (r2_p_4 : Option Addr) (r2_n_4 : Nat) (r2_c_4 : Nat), Loads P 34 ⟨r_2, 0, none⟩ (.agg #[(.bool r0_4), (.slice r1_p_2 r1_n_2 r1_c_2), (.slice r2_p_4 r2_n_4 r2_c_4)]) wv_16 ∧ R (.tuple #[(.agg #[(.string r0_3), (.bool r1_1), (.slice r2_p_3 r2_n_3 r2_c_3)]), (.agg #[(.bool r0_4), (.slice r1_p_2 r1_n_2 r1_c_2), (.slice r2_p_4 r2_n_4 r2_c_4)]), (.bool true)]) wv_16)) ∧
 ((!t17) = false →
 ((!t24) = true →
 ∃ wv_17, Stores P 32 ⟨r_1, 0, none⟩ (.agg #[(.string ByteArray.empty), (.bool false), (.slice none 0 0)]) wv_10 wv_17 ∧
 ∃ wv_18, Stores P 34 ⟨r_2, 0, none⟩ (.agg #[(.bool false), (.slice none 0 0), (.slice none 0 0)]) wv_17 wv_18 ∧
 ∃ (r0_5 : ByteArray) (r1_2 : Bool) (r2_p_5 : Option Addr) (r2_n_5 : Nat) (r2_c_5 : Nat), Loads P 32 ⟨r_1, 0, none⟩ (.agg #[(.string r0_5), (.bool r1_2), (.slice r2_p_5 r2_n_5 r2_c_5)]) wv_18 ∧ ∃ (r0_6 : Bool) (r1_p_3 : Option Addr) (r1_n_3 : Nat) (r1_c_3 : Nat) (r2_p_6 : Option Addr) (r2_n_6 : Nat) (r2_c_6 : Nat), Loads P 34 ⟨r_2, 0, none⟩ (.agg #[(.bool r0_6), (.slice r1_p_3 r1_n_3 r1_c_3), (.slice r2_p_6 r2_n_6 r2_c_6)]) wv_18 ∧ R (.tuple #[(.agg #[(.string r0_5), (.bool r1_2), (.slice r2_p_5 r2_n_5 r2_c_5)]), (.agg #[(.bool r0_6), (.slice r1_p_3 r1_n_3 r1_c_3), (.slice r2_p_6 r2_n_6 r2_c_6)]), (.bool false)]) wv_18) ∧
 ((!t24) = false →
 ∃ blks_1 : List Nat, ∃ (t350_1 : ByteArray) (t351_1 : Bool) (t352_p_1 : Option Addr) (t352_n_1 : Nat) (t352_c_1 : Nat), (∀ wv_19, EX blks_1 wv_10.drew wv_19 → Loads P 32 ⟨r_5, 0, none⟩ (.agg #[(.string t350_1), (.bool t351_1), (.slice t352_p_1 t352_n_1 t352_c_1)]) wv_19) ∧ ∃ (t360_1 : Bool) (t361_p_1 : Option Addr) (t361_n_1 : Nat) (t361_c_1 : Nat) (t362_p_1 : Option Addr) (t362_n_1 : Nat) (t362_c_1 : Nat), (∀ wv_20, EX blks_1 wv_10.drew wv_20 → Loads P 34 ⟨r_4, 0, none⟩ (.agg #[(.bool t360_1), (.slice t361_p_1 t361_n_1 t361_c_1), (.slice t362_p_1 t362_n_1 t362_c_1)]) wv_20) ∧ ∃ wv_21, Stores P 32 ⟨r_1, 0, none⟩ (.agg #[(.string t350_1), (.bool t351_1), (.slice t352_p_1 t352_n_1 t352_c_1)]) wv_10.drew wv_21 ∧
 EX blks_1 wv_10.drew wv_21 ∧ ∃ wv_22, Stores P 34 ⟨r_2, 0, none⟩ (.agg #[(.bool t360_1), (.slice t361_p_1 t361_n_1 t361_c_1), (.slice t362_p_1 t362_n_1 t362_c_1)]) wv_21 wv_22 ∧
 ∃ (r0_7 : ByteArray) (r1_3 : Bool) (r2_p_7 : Option Addr) (r2_n_7 : Nat) (r2_c_7 : Nat), Loads P 32 ⟨r_1, 0, none⟩ (.agg #[(.string r0_7), (.bool r1_3), (.slice r2_p_7 r2_n_7 r2_c_7)]) wv_22 ∧ ∃ (r0_8 : Bool) (r1_p_4 : Option Addr) (r1_n_4 : Nat) (r1_c_4 : Nat) (r2_p_8 : Option Addr) (r2_n_8 : Nat) (r2_c_8 : Nat), Loads P 34 ⟨r_2, 0, none⟩ (.agg #[(.bool r0_8), (.slice r1_p_4 r1_n_4 r1_c_4), (.slice r2_p_8 r2_n_8 r2_c_8)]) wv_22 ∧ R (.tuple #[(.agg #[(.string r0_7), (.bool r1_3), (.slice r2_p_7 r2_n_7 r2_c_7)]), (.agg #[(.bool r0_8), (.slice r1_p_4 r1_n_4 r1_c_4), (.slice r2_p_8 r2_n_8 r2_c_8)]), (.bool true)]) wv_22))
theorem spec_RatMoney_ret {cur : ByteArray} {r0 : Bool} {r1_p : Option Addr} {r1_n : Nat} {r1_c : Nat} {r2_p : Option Addr} {r2_n : Nat} {r2_c : Nat} {mode : Int} {w : World} {R : Value → World → Prop} (h : spec_RatMoney cur r0 r1_p r1_n r1_c r2_p r2_n r2_c mode w R) : Ret P 25 [(.string cur), (.agg #[(.bool r0), (.slice r1_p r1_n r1_c), (.slice r2_p r2_n r2_c)]), (.int .i64 mode)] w R :=
  Ret.of_fsem Tryz.func25 rfl (Eq.mp (show _ = fsem P Tryz.f25 (fun k => []) _ R w from by kernel_rfl) h)
def impl_MoneyOk (m0 : ByteArray) (m1 : Bool) (m2_p : Option Addr) (m2_n : Nat) (m2_c : Nat) (w : World) (R : Value → World → Prop) : Prop :=
 ∀ (r : Nat) (wv : World), New w (.cells ⟨[(.string m0), (.bool m1), (.slice m2_p m2_n m2_c)]⟩ 32 (0, 0)) r wv →
 ∃ (t4 : ByteArray), Loads P 9 ((⟨r, 0, none⟩ : Addr).add 0) (.string t4) wv ∧ Calls P 58 ⟨[(.string t4)]⟩ wv fun e wv_1 =>
 ∃ (t5 : Bool), e = .returned (.bool t5) ∧
 (t5 = true →
 ∃ (t80 : Bool) (t81_p : Option Addr) (t81_n : Nat) (t81_c : Nat), Loads P 30 ((⟨r, 0, none⟩ : Addr).add 1) (.agg #[(.bool t80), (.slice t81_p t81_n t81_c)]) wv_1 ∧ Calls P 59 ⟨[(.agg #[(.bool t80), (.slice t81_p t81_n t81_c)])]⟩ wv_1 fun e_1 wv_2 =>
 ∃ (t9 : Bool), e_1 = .returned (.bool t9) ∧
 (t9 = true →
 ∃ (t14_p : Option Addr) (t14_n : Nat) (t14_c : Nat), Loads P 23 (((⟨r, 0, none⟩ : Addr).add 1).add 1) (.slice t14_p t14_n t14_c) wv_2 ∧ R (.bool (decide ((((t14_n : Nat) : Int) : Int) ≤ 4))) wv_2) ∧
 (t9 = false →
 R (.bool false) wv_2)) ∧
 (t5 = false →
 (false = true →
 ∃ (t14_p_1 : Option Addr) (t14_n_1 : Nat) (t14_c_1 : Nat), Loads P 23 (((⟨r, 0, none⟩ : Addr).add 1).add 1) (.slice t14_p_1 t14_n_1 t14_c_1) wv_1 ∧ R (.bool (decide ((((t14_n_1 : Nat) : Int) : Int) ≤ 4))) wv_1) ∧
 (false = false →
 R (.bool false) wv_1))
theorem impl_MoneyOk_ret {m0 : ByteArray} {m1 : Bool} {m2_p : Option Addr} {m2_n : Nat} {m2_c : Nat} {w : World} {R : Value → World → Prop} (h : impl_MoneyOk m0 m1 m2_p m2_n m2_c w R) : Ret P 28 [(.agg #[(.string m0), (.bool m1), (.slice m2_p m2_n m2_c)])] w R :=
  Ret.of_fsem Tryz.func28 rfl (Eq.mp (show _ = fsem P Tryz.f28 (fun k => []) _ R w from by kernel_rfl) h)
def impl_FeeExact_j0 (r : Nat) (r_1 : Nat) (W : World) (R : Value → World → Prop) : Prop :=
 Calls P 61 ⟨[]⟩ W fun e_1 wv_5 =>
 ∃ (t310 : Bool) (t311_p : Option Addr) (t311_n : Nat) (t311_c : Nat) (t312_p : Option Addr) (t312_n : Nat) (t312_c : Nat), e_1 = .returned (.agg #[(.bool t310), (.slice t311_p t311_n t311_c), (.slice t312_p t312_n t312_c)]) ∧
 ∀ (r_3 : Nat) (wv_6 : World), New wv_5 (.cells ⟨[(.bool false), (.slice none 0 0), (.slice none 0 0)]⟩ 34 (0, 0)) r_3 wv_6 →
 ∀ (r_4 : Nat) (wv_7 : World), New wv_6 (.cells ⟨[(.bool false)]⟩ 4 (0, 0)) r_4 wv_7 →
 ∃ wv_8, Stores P 34 ⟨r_3, 0, none⟩ (.agg #[(.bool t310), (.slice t311_p t311_n t311_c), (.slice t312_p t312_n t312_c)]) wv_7 wv_8 ∧
 ∃ wv_9, Stores P 4 ⟨r_4, 0, none⟩ (.bool true) wv_8 wv_9 ∧
 ∃ (t32_p : Option Addr) (t32_n : Nat) (t32_c : Nat), Loads P 37 ⟨r, 0, none⟩ (.slice t32_p t32_n t32_c) wv_9 ∧ ∃ (t34_p : Option Addr) (t34_n : Nat) (t34_c : Nat), Loads P 23 ((⟨r_1, 0, none⟩ : Addr).add 1) (.slice t34_p t34_n t34_c) wv_9 ∧ Calls P 62 ⟨[(.slice t32_p t32_n t32_c), (.slice t34_p t34_n t34_c)]⟩ wv_9 fun e_2 wv_10 =>
 ∃ (t35 : Value), e_2 = .returned t35 ∧
 False
def impl_FeeExact (l_p : Option Addr) (l_n : Nat) (l_c : Nat) (units0 : Bool) (units1_p : Option Addr) (units1_n : Nat) (units1_c : Nat) (w : World) (R : Value → World → Prop) : Prop :=
 ∀ (r : Nat) (wv : World), New w (.cells ⟨[(.slice l_p l_n l_c)]⟩ 37 (0, 0)) r wv →
 ∀ (r_1 : Nat) (wv_1 : World), New wv (.cells ⟨[(.bool units0), (.slice units1_p units1_n units1_c)]⟩ 30 (0, 0)) r_1 wv_1 →
 ∀ (r_2 : Nat) (wv_2 : World), New wv_1 (.cells ⟨[(.bool false), (.slice none 0 0), (.slice none 0 0)]⟩ 34 (0, 0)) r_2 wv_2 →
 ∃ (t16_p : Option Addr) (t16_n : Nat) (t16_c : Nat), Loads P 37 ⟨r, 0, none⟩ (.slice t16_p t16_n t16_c) wv_2 ∧ Calls P 60 ⟨[(.slice t16_p t16_n t16_c)]⟩ wv_2 fun e wv_3 =>
 ∃ (t17 : Bool), e = .returned (.bool t17) ∧
 ((!t17) = true →
 (true = true →
 (true = true →
 ∃ wv_4, Stores P 34 ⟨r_2, 0, none⟩ (.agg #[(.bool false), (.slice none 0 0), (.slice none 0 0)]) wv_3 wv_4 ∧
 ∃ (r0 : Bool) (r1_p : Option Addr) (r1_n : Nat) (r1_c : Nat) (r2_p : Option Addr) (r2_n : Nat) (r2_c : Nat), Loads P 34 ⟨r_2, 0, none⟩ (.agg #[(.bool r0), (.slice r1_p r1_n r1_c), (.slice r2_p r2_n r2_c)]) wv_4 ∧ R (.tuple #[(.agg #[(.bool r0), (.slice r1_p r1_n r1_c), (.slice r2_p r2_n r2_c)]), (.bool false)]) wv_4) ∧
 (true = false →
 impl_FeeExact_j0 r r_1 wv_3 R)) ∧
 (true = false →
 ∃ (t26_p : Option Addr) (t26_n : Nat) (t26_c : Nat), Loads P 23 ((⟨r_1, 0, none⟩ : Addr).add 1) (.slice t26_p t26_n t26_c) wv_3 ∧ ((decide ((4 : Int) < ((t26_n : Nat) : Int))) = true →
 ∃ wv_11, Stores P 34 ⟨r_2, 0, none⟩ (.agg #[(.bool false), (.slice none 0 0), (.slice none 0 0)]) wv_3 wv_11 ∧
 ∃ (r0_1 : Bool) (r1_p_1 : Option Addr) (r1_n_1 : Nat) (r1_c_1 : Nat) (r2_p_1 : Option Addr) (r2_n_1 : Nat) (r2_c_1 : Nat), Loads P 34 ⟨r_2, 0, none⟩ (.agg #[(.bool r0_1), (.slice r1_p_1 r1_n_1 r1_c_1), (.slice r2_p_1 r2_n_1 r2_c_1)]) wv_11 ∧ R (.tuple #[(.agg #[(.bool r0_1), (.slice r1_p_1 r1_n_1 r1_c_1), (.slice r2_p_1 r2_n_1 r2_c_1)]), (.bool false)]) wv_11) ∧
 ((decide ((4 : Int) < ((t26_n : Nat) : Int))) = false →
 impl_FeeExact_j0 r r_1 wv_3 R))) ∧
 ((!t17) = false →
 ∃ (t200 : Bool) (t201_p : Option Addr) (t201_n : Nat) (t201_c : Nat), Loads P 30 ⟨r_1, 0, none⟩ (.agg #[(.bool t200), (.slice t201_p t201_n t201_c)]) wv_3 ∧ Calls P 59 ⟨[(.agg #[(.bool t200), (.slice t201_p t201_n t201_c)])]⟩ wv_3 fun e_3 wv_12 =>
 ∃ (t21 : Bool), e_3 = .returned (.bool t21) ∧
 ((!t21) = true →
 (true = true →
 ∃ wv_13, Stores P 34 ⟨r_2, 0, none⟩ (.agg #[(.bool false), (.slice none 0 0), (.slice none 0 0)]) wv_12 wv_13 ∧
 ∃ (r0_2 : Bool) (r1_p_2 : Option Addr) (r1_n_2 : Nat) (r1_c_2 : Nat) (r2_p_2 : Option Addr) (r2_n_2 : Nat) (r2_c_2 : Nat), Loads P 34 ⟨r_2, 0, none⟩ (.agg #[(.bool r0_2), (.slice r1_p_2 r1_n_2 r1_c_2), (.slice r2_p_2 r2_n_2 r2_c_2)]) wv_13 ∧ R (.tuple #[(.agg #[(.bool r0_2), (.slice r1_p_2 r1_n_2 r1_c_2), (.slice r2_p_2 r2_n_2 r2_c_2)]), (.bool false)]) wv_13) ∧
 (true = false →
 impl_FeeExact_j0 r r_1 wv_12 R)) ∧
 ((!t21) = false →
 ∃ (t26_p_1 : Option Addr) (t26_n_1 : Nat) (t26_c_1 : Nat), Loads P 23 ((⟨r_1, 0, none⟩ : Addr).add 1) (.slice t26_p_1 t26_n_1 t26_c_1) wv_12 ∧ ((decide ((4 : Int) < ((t26_n_1 : Nat) : Int))) = true →
 ∃ wv_14, Stores P 34 ⟨r_2, 0, none⟩ (.agg #[(.bool false), (.slice none 0 0), (.slice none 0 0)]) wv_12 wv_14 ∧
 ∃ (r0_3 : Bool) (r1_p_3 : Option Addr) (r1_n_3 : Nat) (r1_c_3 : Nat) (r2_p_3 : Option Addr) (r2_n_3 : Nat) (r2_c_3 : Nat), Loads P 34 ⟨r_2, 0, none⟩ (.agg #[(.bool r0_3), (.slice r1_p_3 r1_n_3 r1_c_3), (.slice r2_p_3 r2_n_3 r2_c_3)]) wv_14 ∧ R (.tuple #[(.agg #[(.bool r0_3), (.slice r1_p_3 r1_n_3 r1_c_3), (.slice r2_p_3 r2_n_3 r2_c_3)]), (.bool false)]) wv_14) ∧
 ((decide ((4 : Int) < ((t26_n_1 : Nat) : Int))) = false →
 impl_FeeExact_j0 r r_1 wv_12 R)))
theorem impl_FeeExact_ret {l_p : Option Addr} {l_n : Nat} {l_c : Nat} {units0 : Bool} {units1_p : Option Addr} {units1_n : Nat} {units1_c : Nat} {w : World} {R : Value → World → Prop} (h : impl_FeeExact l_p l_n l_c units0 units1_p units1_n units1_c w R) : Ret P 29 [(.slice l_p l_n l_c), (.agg #[(.bool units0), (.slice units1_p units1_n units1_c)])] w R :=
  Ret.of_fsem Tryz.func29 rfl (Eq.mp (show _ = fsem P Tryz.f29 (fun k => []) _ R w from by kernel_rfl) h)
def impl_RatMoney (cur : ByteArray) (r0 : Bool) (r1_p : Option Addr) (r1_n : Nat) (r1_c : Nat) (r2_p : Option Addr) (r2_n : Nat) (r2_c : Nat) (mode : Int) (w : World) (R : Value → World → Prop) : Prop :=
 ∀ (r : Nat) (wv : World), New w (.cells ⟨[(.bool r0), (.slice r1_p r1_n r1_c), (.slice r2_p r2_n r2_c)]⟩ 34 (0, 0)) r wv →
 ∀ (r_1 : Nat) (wv_1 : World), New wv (.cells ⟨[(.string ByteArray.empty), (.bool false), (.slice none 0 0)]⟩ 32 (0, 0)) r_1 wv_1 →
 ∀ (r_2 : Nat) (wv_2 : World), New wv_1 (.cells ⟨[(.bool false), (.slice none 0 0), (.slice none 0 0)]⟩ 34 (0, 0)) r_2 wv_2 →
 ∃ (t140 : Bool) (t141_p : Option Addr) (t141_n : Nat) (t141_c : Nat) (t142_p : Option Addr) (t142_n : Nat) (t142_c : Nat), Loads P 34 ⟨r, 0, none⟩ (.agg #[(.bool t140), (.slice t141_p t141_n t141_c), (.slice t142_p t142_n t142_c)]) wv_2 ∧ Calls P 69 ⟨[(.agg #[(.bool t140), (.slice t141_p t141_n t141_c), (.slice t142_p t142_n t142_c)]), (.int .i64 mode)]⟩ wv_2 fun e wv_3 =>
 ∃ (t160 : Bool) (t161_p : Option Addr) (t161_n : Nat) (t161_c : Nat) (t160_1 : Bool) (t161_p_1 : Option Addr) (t161_n_1 : Nat) (t161_c_1 : Nat) (t162_p : Option Addr) (t162_n : Nat) (t162_c : Nat) (t16 : Bool), e = .returned (.tuple #[(.agg #[(.bool t160), (.slice t161_p t161_n t161_c)]), (.agg #[(.bool t160_1), (.slice t161_p_1 t161_n_1 t161_c_1), (.slice t162_p t162_n t162_c)]), (.bool t16)]) ∧
 ∀ (r_3 : Nat) (wv_4 : World), New wv_3 (.cells ⟨[(.bool false), (.slice none 0 0)]⟩ 30 (0, 0)) r_3 wv_4 →
 ∀ (r_4 : Nat) (wv_5 : World), New wv_4 (.cells ⟨[(.bool false), (.slice none 0 0), (.slice none 0 0)]⟩ 34 (0, 0)) r_4 wv_5 →
 ∃ wv_6, Stores P 30 ⟨r_3, 0, none⟩ (.agg #[(.bool t160), (.slice t161_p t161_n t161_c)]) wv_5 wv_6 ∧
 ∃ wv_7, Stores P 34 ⟨r_4, 0, none⟩ (.agg #[(.bool t160_1), (.slice t161_p_1 t161_n_1 t161_c_1), (.slice t162_p t162_n t162_c)]) wv_6 wv_7 ∧
 ((!t16) = true →
 ∃ wv_8, Stores P 32 ⟨r_1, 0, none⟩ (.agg #[(.string ByteArray.empty), (.bool false), (.slice none 0 0)]) wv_7 wv_8 ∧
 ∃ wv_9, Stores P 34 ⟨r_2, 0, none⟩ (.agg #[(.bool false), (.slice none 0 0), (.slice none 0 0)]) wv_8 wv_9 ∧
 ∃ (r0_1 : ByteArray) (r1 : Bool) (r2_p_1 : Option Addr) (r2_n_1 : Nat) (r2_c_1 : Nat), Loads P 32 ⟨r_1, 0, none⟩ (.agg #[(.string r0_1), (.bool r1), (.slice r2_p_1 r2_n_1 r2_c_1)]) wv_9 ∧ ∃ (r0_2 : Bool) (r1_p_1 : Option Addr) (r1_n_1 : Nat) (r1_c_1 : Nat) (r2_p_2 : Option Addr) (r2_n_2 : Nat) (r2_c_2 : Nat), Loads P 34 ⟨r_2, 0, none⟩ (.agg #[(.bool r0_2), (.slice r1_p_1 r1_n_1 r1_c_1), (.slice r2_p_2 r2_n_2 r2_c_2)]) wv_9 ∧ R (.tuple #[(.agg #[(.string r0_1), (.bool r1), (.slice r2_p_1 r2_n_1 r2_c_1)]), (.agg #[(.bool r0_2), (.slice r1_p_1 r1_n_1 r1_c_1), (.slice r2_p_2 r2_n_2 r2_c_2)]), (.bool false)]) wv_9) ∧
 ((!t16) = false →
 ∃ (t260 : Bool) (t261_p : Option Addr) (t261_n : Nat) (t261_c : Nat), Loads P 30 ⟨r_3, 0, none⟩ (.agg #[(.bool t260), (.slice t261_p t261_n t261_c)]) wv_7 ∧ Calls P 70 ⟨[(.string cur), (.agg #[(.bool t260), (.slice t261_p t261_n t261_c)])]⟩ wv_7 fun e_1 wv_10 =>
 ∃ (t270 : ByteArray) (t271 : Bool) (t272_p : Option Addr) (t272_n : Nat) (t272_c : Nat) (t27 : Bool), e_1 = .returned (.tuple #[(.agg #[(.string t270), (.bool t271), (.slice t272_p t272_n t272_c)]), (.bool t27)]) ∧
 ∀ (r_5 : Nat) (wv_11 : World), New wv_10 (.cells ⟨[(.string ByteArray.empty), (.bool false), (.slice none 0 0)]⟩ 32 (0, 0)) r_5 wv_11 →
 ∃ wv_12, Stores P 32 ⟨r_5, 0, none⟩ (.agg #[(.string t270), (.bool t271), (.slice t272_p t272_n t272_c)]) wv_11 wv_12 ∧
 ((!t27) = true →
 ∃ wv_13, Stores P 32 ⟨r_1, 0, none⟩ (.agg #[(.string ByteArray.empty), (.bool false), (.slice none 0 0)]) wv_12 wv_13 ∧
 ∃ wv_14, Stores P 34 ⟨r_2, 0, none⟩ (.agg #[(.bool false), (.slice none 0 0), (.slice none 0 0)]) wv_13 wv_14 ∧
 ∃ (r0_3 : ByteArray) (r1_1 : Bool) (r2_p_3 : Option Addr) (r2_n_3 : Nat) (r2_c_3 : Nat), Loads P 32 ⟨r_1, 0, none⟩ (.agg #[(.string r0_3), (.bool r1_1), (.slice r2_p_3 r2_n_3 r2_c_3)]) wv_14 ∧ ∃ (r0_4 : Bool) (r1_p_2 : Option Addr) (r1_n_2 : Nat) (r1_c_2 : Nat) (r2_p_4 : Option Addr) (r2_n_4 : Nat) (r2_c_4 : Nat), Loads P 34 ⟨r_2, 0, none⟩ (.agg #[(.bool r0_4), (.slice r1_p_2 r1_n_2 r1_c_2), (.slice r2_p_4 r2_n_4 r2_c_4)]) wv_14 ∧ R (.tuple #[(.agg #[(.string r0_3), (.bool r1_1), (.slice r2_p_3 r2_n_3 r2_c_3)]), (.agg #[(.bool r0_4), (.slice r1_p_2 r1_n_2 r1_c_2), (.slice r2_p_4 r2_n_4 r2_c_4)]), (.bool false)]) wv_14) ∧
 ((!t27) = false →
 ∃ blks : List Nat, ∃ (t340 : ByteArray) (t341 : Bool) (t342_p : Option Addr) (t342_n : Nat) (t342_c : Nat), (∀ wv_15, EX blks wv_12.drew wv_15 → Loads P 32 ⟨r_5, 0, none⟩ (.agg #[(.string t340), (.bool t341), (.slice t342_p t342_n t342_c)]) wv_15) ∧ ∃ (t350 : Bool) (t351_p : Option Addr) (t351_n : Nat) (t351_c : Nat) (t352_p : Option Addr) (t352_n : Nat) (t352_c : Nat), (∀ wv_16, EX blks wv_12.drew wv_16 → Loads P 34 ⟨r_4, 0, none⟩ (.agg #[(.bool t350), (.slice t351_p t351_n t351_c), (.slice t352_p t352_n t352_c)]) wv_16) ∧ ∃ wv_17, Stores P 32 ⟨r_1, 0, none⟩ (.agg #[(.string t340), (.bool t341), (.slice t342_p t342_n t342_c)]) wv_12.drew wv_17 ∧
 EX blks wv_12.drew wv_17 ∧ ∃ wv_18, Stores P 34 ⟨r_2, 0, none⟩ (.agg #[(.bool t350), (.slice t351_p t351_n t351_c), (.slice t352_p t352_n t352_c)]) wv_17 wv_18 ∧
 ∃ (r0_5 : ByteArray) (r1_2 : Bool) (r2_p_5 : Option Addr) (r2_n_5 : Nat) (r2_c_5 : Nat), Loads P 32 ⟨r_1, 0, none⟩ (.agg #[(.string r0_5), (.bool r1_2), (.slice r2_p_5 r2_n_5 r2_c_5)]) wv_18 ∧ ∃ (r0_6 : Bool) (r1_p_3 : Option Addr) (r1_n_3 : Nat) (r1_c_3 : Nat) (r2_p_6 : Option Addr) (r2_n_6 : Nat) (r2_c_6 : Nat), Loads P 34 ⟨r_2, 0, none⟩ (.agg #[(.bool r0_6), (.slice r1_p_3 r1_n_3 r1_c_3), (.slice r2_p_6 r2_n_6 r2_c_6)]) wv_18 ∧ R (.tuple #[(.agg #[(.string r0_5), (.bool r1_2), (.slice r2_p_5 r2_n_5 r2_c_5)]), (.agg #[(.bool r0_6), (.slice r1_p_3 r1_n_3 r1_c_3), (.slice r2_p_6 r2_n_6 r2_c_6)]), (.bool true)]) wv_18))
theorem impl_RatMoney_ret {cur : ByteArray} {r0 : Bool} {r1_p : Option Addr} {r1_n : Nat} {r1_c : Nat} {r2_p : Option Addr} {r2_n : Nat} {r2_c : Nat} {mode : Int} {w : World} {R : Value → World → Prop} (h : impl_RatMoney cur r0 r1_p r1_n r1_c r2_p r2_n r2_c mode w R) : Ret P 30 [(.string cur), (.agg #[(.bool r0), (.slice r1_p r1_n r1_c), (.slice r2_p r2_n r2_c)]), (.int .i64 mode)] w R :=
  Ret.of_fsem Tryz.func30 rfl (Eq.mp (show _ = fsem P Tryz.f30 (fun k => []) _ R w from by kernel_rfl) h)
end Go.Proofs.YtmajiilehdpdmaaGreatDoor

namespace Go.Proofs.YtmajiilehdpdmaaGreatDoor
open Go Go.Proofs.YtmajiilehdpdmaaGreatDoor.Sx
set_option linter.unusedVariables false
set_option maxRecDepth 100000
def spec_MoneySub (m0 : ByteArray) (m1 : Bool) (m2_p : Option Addr) (m2_n : Nat) (m2_c : Nat) (n0 : ByteArray) (n1 : Bool) (n2_p : Option Addr) (n2_n : Nat) (n2_c : Nat) (w : World) (R : Value → World → Prop) : Prop :=
 ∀ (r : Nat) (wv : World), New w (.cells ⟨[(.string m0), (.bool m1), (.slice m2_p m2_n m2_c)]⟩ 32 (0, 0)) r wv →
 ∀ (r_1 : Nat) (wv_1 : World), New wv (.cells ⟨[(.string n0), (.bool n1), (.slice n2_p n2_n n2_c)]⟩ 32 (0, 0)) r_1 wv_1 →
 ∀ (r_2 : Nat) (wv_2 : World), New wv_1 (.cells ⟨[(.string ByteArray.empty), (.bool false), (.slice none 0 0)]⟩ 32 (0, 0)) r_2 wv_2 →
 ∃ (t60 : ByteArray) (t61 : Bool) (t62_p : Option Addr) (t62_n : Nat) (t62_c : Nat), Loads P 32 ⟨r, 0, none⟩ (.agg #[(.string t60), (.bool t61), (.slice t62_p t62_n t62_c)]) wv_2 ∧ ∃ (t70 : ByteArray) (t71 : Bool) (t72_p : Option Addr) (t72_n : Nat) (t72_c : Nat), Loads P 32 ⟨r_1, 0, none⟩ (.agg #[(.string t70), (.bool t71), (.slice t72_p t72_n t72_c)]) wv_2 ∧ Calls P 72 ⟨[(.agg #[(.string t60), (.bool t61), (.slice t62_p t62_n t62_c)]), (.agg #[(.string t70), (.bool t71), (.slice t72_p t72_n t72_c)])]⟩ wv_2 fun e wv_3 =>
 ∃ (t8 : Bool), e = .returned (.bool t8) ∧
 ((!t8) = true →
 ∃ wv_4, Stores P 32 ⟨r_2, 0, none⟩ (.agg #[(.string ByteArray.empty), (.bool false), (.slice none 0 0)]) wv_3 wv_4 ∧
 ∃ (r0 : ByteArray) (r1 : Bool) (r2_p : Option Addr) (r2_n : Nat) (r2_c : Nat), Loads P 32 ⟨r_2, 0, none⟩ (.agg #[(.string r0), (.bool r1), (.slice r2_p r2_n r2_c)]) wv_4 ∧ R (.tuple #[(.agg #[(.string r0), (.bool r1), (.slice r2_p r2_n r2_c)]), (.bool false)]) wv_4) ∧
 ((!t8) = false →
 ∃ (t12 : ByteArray), (∀ wv_5, Ext wv_3.drew wv_5 → Loads P 9 ((⟨r, 0, none⟩ : Addr).add 0) (.string t12) wv_5) ∧ ∃ (t140 : Bool) (t141_p : Option Addr) (t141_n : Nat) (t141_c : Nat), (∀ wv_6, Ext wv_3.drew wv_6 → Loads P 30 ((⟨r, 0, none⟩ : Addr).add 1) (.agg #[(.bool t140), (.slice t141_p t141_n t141_c)]) wv_6) ∧ ∃ (t160 : Bool) (t161_p : Option Addr) (t161_n : Nat) (t161_c : Nat), (∀ wv_7, Ext wv_3.drew wv_7 → Loads P 30 ((⟨r_1, 0, none⟩ : Addr).add 1) (.agg #[(.bool t160), (.slice t161_p t161_n t161_c)]) wv_7) ∧ Calls P 48 ⟨[(.agg #[(.bool t140), (.slice t141_p t141_n t141_c)]), (.agg #[(.bool t160), (.slice t161_p t161_n t161_c)])]⟩ wv_3.drew fun e_1 wv_8 =>
 ∃ (t170 : Bool) (t171_p : Option Addr) (t171_n : Nat) (t171_c : Nat), e_1 = .returned (.agg #[(.bool t170), (.slice t171_p t171_n t171_c)]) ∧
 Ext wv_3.drew wv_8 ∧ Calls P 55 ⟨[(.string t12), (.agg #[(.bool t170), (.slice t171_p t171_n t171_c)])]⟩ wv_8 fun e_2 wv_9 =>
 ∃ (t180 : ByteArray) (t181 : Bool) (t182_p : Option Addr) (t182_n : Nat) (t182_c : Nat) (t18 : Bool), e_2 = .returned (.tuple #[(.agg #[(.string t180), (.bool t181), (.slice t182_p t182_n t182_c)]), (.bool t18)]) ∧
 ∃ wv_10, Stores P 32 ⟨r_2, 0, none⟩ (.agg #[(.string t180), (.bool t181), (.slice t182_p t182_n t182_c)]) wv_9 wv_10 ∧
 ∃ (r0_1 : ByteArray) (r1_1 : Bool) (r2_p_1 : Option Addr) (r2_n_1 : Nat) (r2_c_1 : Nat), Loads P 32 ⟨r_2, 0, none⟩ (.agg #[(.string r0_1), (.bool r1_1), (.slice r2_p_1 r2_n_1 r2_c_1)]) wv_10 ∧ R (.tuple #[(.agg #[(.string r0_1), (.bool r1_1), (.slice r2_p_1 r2_n_1 r2_c_1)]), (.bool t18)]) wv_10)
theorem spec_MoneySub_ret {m0 : ByteArray} {m1 : Bool} {m2_p : Option Addr} {m2_n : Nat} {m2_c : Nat} {n0 : ByteArray} {n1 : Bool} {n2_p : Option Addr} {n2_n : Nat} {n2_c : Nat} {w : World} {R : Value → World → Prop} (h : spec_MoneySub m0 m1 m2_p m2_n m2_c n0 n1 n2_p n2_n n2_c w R) : Ret P 38 [(.agg #[(.string m0), (.bool m1), (.slice m2_p m2_n m2_c)]), (.agg #[(.string n0), (.bool n1), (.slice n2_p n2_n n2_c)])] w R :=
  Ret.of_fsem Tryz.func38 rfl (Eq.mp (show _ = fsem P Tryz.f38 (fun k => []) _ R w from by kernel_rfl) h)
def impl_MoneySub (m0 : ByteArray) (m1 : Bool) (m2_p : Option Addr) (m2_n : Nat) (m2_c : Nat) (n0 : ByteArray) (n1 : Bool) (n2_p : Option Addr) (n2_n : Nat) (n2_c : Nat) (w : World) (R : Value → World → Prop) : Prop :=
 ∀ (r : Nat) (wv : World), New w (.cells ⟨[(.string m0), (.bool m1), (.slice m2_p m2_n m2_c)]⟩ 32 (0, 0)) r wv →
 ∀ (r_1 : Nat) (wv_1 : World), New wv (.cells ⟨[(.string n0), (.bool n1), (.slice n2_p n2_n n2_c)]⟩ 32 (0, 0)) r_1 wv_1 →
 ∀ (r_2 : Nat) (wv_2 : World), New wv_1 (.cells ⟨[(.string ByteArray.empty), (.bool false), (.slice none 0 0)]⟩ 32 (0, 0)) r_2 wv_2 →
 ∃ (t60 : ByteArray) (t61 : Bool) (t62_p : Option Addr) (t62_n : Nat) (t62_c : Nat), Loads P 32 ⟨r, 0, none⟩ (.agg #[(.string t60), (.bool t61), (.slice t62_p t62_n t62_c)]) wv_2 ∧ ∃ (t70 : ByteArray) (t71 : Bool) (t72_p : Option Addr) (t72_n : Nat) (t72_c : Nat), Loads P 32 ⟨r_1, 0, none⟩ (.agg #[(.string t70), (.bool t71), (.slice t72_p t72_n t72_c)]) wv_2 ∧ Calls P 73 ⟨[(.agg #[(.string t60), (.bool t61), (.slice t62_p t62_n t62_c)]), (.agg #[(.string t70), (.bool t71), (.slice t72_p t72_n t72_c)])]⟩ wv_2 fun e wv_3 =>
 ∃ (t8 : Bool), e = .returned (.bool t8) ∧
 ((!t8) = true →
 ∃ wv_4, Stores P 32 ⟨r_2, 0, none⟩ (.agg #[(.string ByteArray.empty), (.bool false), (.slice none 0 0)]) wv_3 wv_4 ∧
 ∃ (r0 : ByteArray) (r1 : Bool) (r2_p : Option Addr) (r2_n : Nat) (r2_c : Nat), Loads P 32 ⟨r_2, 0, none⟩ (.agg #[(.string r0), (.bool r1), (.slice r2_p r2_n r2_c)]) wv_4 ∧ R (.tuple #[(.agg #[(.string r0), (.bool r1), (.slice r2_p r2_n r2_c)]), (.bool false)]) wv_4) ∧
 ((!t8) = false →
 ∃ (t12 : ByteArray), (∀ wv_5, Ext wv_3.drew wv_5 → Loads P 9 ((⟨r, 0, none⟩ : Addr).add 0) (.string t12) wv_5) ∧ ∃ (t140 : Bool) (t141_p : Option Addr) (t141_n : Nat) (t141_c : Nat), (∀ wv_6, Ext wv_3.drew wv_6 → Loads P 30 ((⟨r, 0, none⟩ : Addr).add 1) (.agg #[(.bool t140), (.slice t141_p t141_n t141_c)]) wv_6) ∧ ∃ (t160 : Bool) (t161_p : Option Addr) (t161_n : Nat) (t161_c : Nat), (∀ wv_7, Ext wv_3.drew wv_7 → Loads P 30 ((⟨r_1, 0, none⟩ : Addr).add 1) (.agg #[(.bool t160), (.slice t161_p t161_n t161_c)]) wv_7) ∧ Calls P 75 ⟨[(.agg #[(.bool t160), (.slice t161_p t161_n t161_c)])]⟩ wv_3.drew fun e_1 wv_8 =>
 ∃ (t170 : Bool) (t171_p : Option Addr) (t171_n : Nat) (t171_c : Nat), e_1 = .returned (.agg #[(.bool t170), (.slice t171_p t171_n t171_c)]) ∧
 Ext wv_3.drew wv_8 ∧ Calls P 74 ⟨[(.agg #[(.bool t140), (.slice t141_p t141_n t141_c)]), (.agg #[(.bool t170), (.slice t171_p t171_n t171_c)])]⟩ wv_8 fun e_2 wv_9 =>
 ∃ (t180 : Bool) (t181_p : Option Addr) (t181_n : Nat) (t181_c : Nat), e_2 = .returned (.agg #[(.bool t180), (.slice t181_p t181_n t181_c)]) ∧
 Ext wv_8 wv_9 ∧ Calls P 70 ⟨[(.string t12), (.agg #[(.bool t180), (.slice t181_p t181_n t181_c)])]⟩ wv_9 fun e_3 wv_10 =>
 ∃ (t190 : ByteArray) (t191 : Bool) (t192_p : Option Addr) (t192_n : Nat) (t192_c : Nat) (t19 : Bool), e_3 = .returned (.tuple #[(.agg #[(.string t190), (.bool t191), (.slice t192_p t192_n t192_c)]), (.bool t19)]) ∧
 ∃ wv_11, Stores P 32 ⟨r_2, 0, none⟩ (.agg #[(.string t190), (.bool t191), (.slice t192_p t192_n t192_c)]) wv_10 wv_11 ∧
 ∃ (r0_1 : ByteArray) (r1_1 : Bool) (r2_p_1 : Option Addr) (r2_n_1 : Nat) (r2_c_1 : Nat), Loads P 32 ⟨r_2, 0, none⟩ (.agg #[(.string r0_1), (.bool r1_1), (.slice r2_p_1 r2_n_1 r2_c_1)]) wv_11 ∧ R (.tuple #[(.agg #[(.string r0_1), (.bool r1_1), (.slice r2_p_1 r2_n_1 r2_c_1)]), (.bool t19)]) wv_11)
theorem impl_MoneySub_ret {m0 : ByteArray} {m1 : Bool} {m2_p : Option Addr} {m2_n : Nat} {m2_c : Nat} {n0 : ByteArray} {n1 : Bool} {n2_p : Option Addr} {n2_n : Nat} {n2_c : Nat} {w : World} {R : Value → World → Prop} (h : impl_MoneySub m0 m1 m2_p m2_n m2_c n0 n1 n2_p n2_n n2_c w R) : Ret P 39 [(.agg #[(.string m0), (.bool m1), (.slice m2_p m2_n m2_c)]), (.agg #[(.string n0), (.bool n1), (.slice n2_p n2_n n2_c)])] w R :=
  Ret.of_fsem Tryz.func39 rfl (Eq.mp (show _ = fsem P Tryz.f39 (fun k => []) _ R w from by kernel_rfl) h)
def spec_StepsOk_j0 (l_p : Option Addr) (l_n : Nat) (W : World) (R : Value → World → Prop) : Prop :=
 ∃ (Inv : Int → World → Prop) (mu : Int → World → Nat), Inv 0 W ∧
 ∀ (junk : Fr) (wv_1 : World) (t18 : Int), Inv t18 wv_1 →
 ((decide ((t18 : Int) < ((l_n : Nat) : Int))) = true →
 (0 ≤ (t18 : Int) ∧ (t18 : Int) < (l_n : Nat)) ∧ ptrS l_p fun ad => ∃ (t220 : Int) (t221 : Bool) (t222_p : Option Addr) (t222_n : Nat) (t222_c : Nat) (t223 : Int), Loads P 62 (ad.add (t18.toNat * 4)) (.agg #[(.int .i64 t220), (.bool t221), (.slice t222_p t222_n t222_c), (.int .i64 t223)]) wv_1 ∧ ∀ (r : Nat) (wv_2 : World), New wv_1 (.cells ⟨[(.int .i64 0), (.bool false), (.slice none 0 0), (.int .i64 0)]⟩ 62 (0, 0)) r wv_2 →
 ∃ wv_3, Stores P 62 ⟨r, 0, none⟩ (.agg #[(.int .i64 t220), (.bool t221), (.slice t222_p t222_n t222_c), (.int .i64 t223)]) wv_2 wv_3 ∧
 ∃ (t24 : Int), (∀ wv_4, Ext wv_3.drew wv_4 → Loads P 3 ((⟨r, 0, none⟩ : Addr).add 0) (.int .i64 t24) wv_4) ∧ Calls P 76 ⟨[(.int .i64 t24), (.int .i64 0), (.int .i64 1000000000)]⟩ wv_3.drew fun e_1 wv_5 =>
 ∃ (t25 : Bool), e_1 = .returned (.bool t25) ∧
 ((!t25) = true →
 (true = true →
 (true = true →
 R (.bool false) wv_5) ∧
 (true = false →
 ∃ t48 : Int, t48 = IntKind.wrap .i64 (t18 + 1) ∧ Inv t48 wv_5 ∧ mu t48 wv_5 < mu t18 wv_1)) ∧
 (true = false →
 ((decide ((0 : Int) < t18)) = true →
 ∃ t39 : Int, t39 = IntKind.wrap .i64 (t18 - 1) ∧ (0 ≤ (t39 : Int) ∧ (t39 : Int) < (l_n : Nat)) ∧ ptrS l_p fun ad_1 => ∃ (t42 : Int), (∀ wv_6, Ext wv_5 wv_6 → Loads P 3 ((ad_1.add (t39.toNat * 4)).add 0) (.int .i64 t42) wv_6) ∧ ∃ (t44 : Int), (∀ wv_7, Ext wv_5 wv_7 → Loads P 3 ((⟨r, 0, none⟩ : Addr).add 0) (.int .i64 t44) wv_7) ∧ ((decide ((t44 : Int) ≤ t42)) = true →
 R (.bool false) wv_5) ∧
 ((decide ((t44 : Int) ≤ t42)) = false →
 ∃ t48_1 : Int, t48_1 = IntKind.wrap .i64 (t18 + 1) ∧ Inv t48_1 wv_5 ∧ mu t48_1 wv_5 < mu t18 wv_1)) ∧
 ((decide ((0 : Int) < t18)) = false →
 (false = true →
 R (.bool false) wv_5) ∧
 (false = false →
 ∃ t48_2 : Int, t48_2 = IntKind.wrap .i64 (t18 + 1) ∧ Inv t48_2 wv_5 ∧ mu t48_2 wv_5 < mu t18 wv_1)))) ∧
 ((!t25) = false →
 ∃ (t290 : Bool) (t291_p : Option Addr) (t291_n : Nat) (t291_c : Nat) (t292 : Int), (∀ wv_8, Ext wv_5 wv_8 → Loads P 60 ((⟨r, 0, none⟩ : Addr).add 1) (.agg #[(.bool t290), (.slice t291_p t291_n t291_c), (.int .i64 t292)]) wv_8) ∧ Calls P 77 ⟨[(.agg #[(.bool t290), (.slice t291_p t291_n t291_c), (.int .i64 t292)])]⟩ wv_5 fun e_2 wv_9 =>
 ∃ (t30 : Bool), e_2 = .returned (.bool t30) ∧
 ((!t30) = true →
 (true = true →
 R (.bool false) wv_9) ∧
 (true = false →
 ∃ t48_3 : Int, t48_3 = IntKind.wrap .i64 (t18 + 1) ∧ Inv t48_3 wv_9 ∧ mu t48_3 wv_9 < mu t18 wv_1)) ∧
 ((!t30) = false →
 ((decide ((0 : Int) < t18)) = true →
 ∃ t39_1 : Int, t39_1 = IntKind.wrap .i64 (t18 - 1) ∧ (0 ≤ (t39_1 : Int) ∧ (t39_1 : Int) < (l_n : Nat)) ∧ ptrS l_p fun ad_2 => ∃ (t42_1 : Int), (∀ wv_10, Ext wv_9 wv_10 → Loads P 3 ((ad_2.add (t39_1.toNat * 4)).add 0) (.int .i64 t42_1) wv_10) ∧ ∃ (t44_1 : Int), (∀ wv_11, Ext wv_9 wv_11 → Loads P 3 ((⟨r, 0, none⟩ : Addr).add 0) (.int .i64 t44_1) wv_11) ∧ ((decide ((t44_1 : Int) ≤ t42_1)) = true →
 R (.bool false) wv_9) ∧
 ((decide ((t44_1 : Int) ≤ t42_1)) = false →
 ∃ t48_4 : Int, t48_4 = IntKind.wrap .i64 (t18 + 1) ∧ Inv t48_4 wv_9 ∧ mu t48_4 wv_9 < mu t18 wv_1)) ∧
 ((decide ((0 : Int) < t18)) = false →
 (false = true →
 R (.bool false) wv_9) ∧
 (false = false →
 ∃ t48_5 : Int, t48_5 = IntKind.wrap .i64 (t18 + 1) ∧ Inv t48_5 wv_9 ∧ mu t48_5 wv_9 < mu t18 wv_1))))) ∧
 ((decide ((t18 : Int) < ((l_n : Nat) : Int))) = false →
 R (.bool true) wv_1)
def spec_StepsOk (l_p : Option Addr) (l_n : Nat) (l_c : Nat) (w : World) (R : Value → World → Prop) : Prop :=
 Calls P 76 ⟨[(.int .i64 ((l_n : Nat) : Int)), (.int .i64 1), (.int .i64 8)]⟩ w fun e wv =>
 ∃ (t7 : Bool), e = .returned (.bool t7) ∧
 ((!t7) = true →
 (true = true →
 R (.bool false) wv) ∧
 (true = false →
 spec_StepsOk_j0 l_p l_n wv R)) ∧
 ((!t7) = false →
 (0 ≤ (0 : Int) ∧ (0 : Int) < (l_n : Nat)) ∧ ptrS l_p fun ad_3 => ∃ (t13 : Int), Loads P 3 ((ad_3.add (0 * 4)).add 0) (.int .i64 t13) wv ∧ ((decide ((t13 : Int) ≠ 0)) = true →
 R (.bool false) wv) ∧
 ((decide ((t13 : Int) ≠ 0)) = false →
 spec_StepsOk_j0 l_p l_n wv R))
theorem spec_StepsOk_ret {l_p : Option Addr} {l_n : Nat} {l_c : Nat} {w : World} {R : Value → World → Prop} (h : spec_StepsOk l_p l_n l_c w R) : Ret P 42 [(.slice l_p l_n l_c)] w R :=
  Ret.of_fsem Tryz.func42 rfl (Eq.mp (show _ = fsem P Tryz.f42 (fun k => cond (Nat.beq k 5) [(18, .one (.int .i64))] ([])) _ R w from by kernel_rfl) h)
def spec_IntOk (x0 : Bool) (x1_p : Option Addr) (x1_n : Nat) (x1_c : Nat) (w : World) (R : Value → World → Prop) : Prop :=
 ∀ (r : Nat) (wv : World), New w (.cells ⟨[(.bool x0), (.slice x1_p x1_n x1_c)]⟩ 30 (0, 0)) r wv →
 ∃ (t4_p : Option Addr) (t4_n : Nat) (t4_c : Nat), Loads P 23 ((⟨r, 0, none⟩ : Addr).add 1) (.slice t4_p t4_n t4_c) wv ∧ Calls P 78 ⟨[(.slice t4_p t4_n t4_c)]⟩ wv fun e wv_1 =>
 ∃ (t5 : Bool), e = .returned (.bool t5) ∧
 (t5 = true →
 ∃ (t8 : Bool), Loads P 4 ((⟨r, 0, none⟩ : Addr).add 0) (.bool t8) wv_1 ∧ ((!t8) = true →
 R (.bool true) wv_1) ∧
 ((!t8) = false →
 ∃ (t12_p : Option Addr) (t12_n : Nat) (t12_c : Nat), Loads P 23 ((⟨r, 0, none⟩ : Addr).add 1) (.slice t12_p t12_n t12_c) wv_1 ∧ R (.bool (decide ((0 : Int) < ((t12_n : Nat) : Int)))) wv_1)) ∧
 (t5 = false →
 R (.bool false) wv_1)
theorem spec_IntOk_ret {x0 : Bool} {x1_p : Option Addr} {x1_n : Nat} {x1_c : Nat} {w : World} {R : Value → World → Prop} (h : spec_IntOk x0 x1_p x1_n x1_c w R) : Ret P 43 [(.agg #[(.bool x0), (.slice x1_p x1_n x1_c)])] w R :=
  Ret.of_fsem Tryz.func43 rfl (Eq.mp (show _ = fsem P Tryz.f43 (fun k => []) _ R w from by kernel_rfl) h)
def spec_RatZero (w : World) (R : Value → World → Prop) : Prop :=
 ∀ (r : Nat) (wv : World), New w (.cells ⟨[(.bool false), (.slice none 0 0), (.slice none 0 0)]⟩ 34 (0, 0)) r wv →
 ∀ (r_1 : Nat) (wv_1 : World), New wv (.cells ⟨[(.int .i64 1)]⟩ 3 (0, 0)) r_1 wv_1 →
 ∃ wv_2, Stores P 34 ⟨r, 0, none⟩ (.agg #[(.bool false), (.slice none 0 0), (.slice (some ⟨r_1, 0, none⟩) 1 1)]) wv_1 wv_2 ∧
 ∃ (r0 : Bool) (r1_p : Option Addr) (r1_n : Nat) (r1_c : Nat) (r2_p : Option Addr) (r2_n : Nat) (r2_c : Nat), Loads P 34 ⟨r, 0, none⟩ (.agg #[(.bool r0), (.slice r1_p r1_n r1_c), (.slice r2_p r2_n r2_c)]) wv_2 ∧ R (.agg #[(.bool r0), (.slice r1_p r1_n r1_c), (.slice r2_p r2_n r2_c)]) wv_2
theorem spec_RatZero_ret {w : World} {R : Value → World → Prop} (h : spec_RatZero w R) : Ret P 44 [] w R :=
  Ret.of_fsem Tryz.func44 rfl (Eq.mp (show _ = fsem P Tryz.f44 (fun k => []) _ R w from by kernel_rfl) h)
def spec_IntAbs (x0 : Bool) (x1_p : Option Addr) (x1_n : Nat) (x1_c : Nat) (w : World) (R : Value → World → Prop) : Prop :=
 ∀ (r : Nat) (wv : World), New w (.cells ⟨[(.bool x0), (.slice x1_p x1_n x1_c)]⟩ 30 (0, 0)) r wv →
 ∀ (r_1 : Nat) (wv_1 : World), New wv (.cells ⟨[(.bool false), (.slice none 0 0)]⟩ 30 (0, 0)) r_1 wv_1 →
 ∃ (t30 : Bool) (t31_p : Option Addr) (t31_n : Nat) (t31_c : Nat), Loads P 30 ⟨r, 0, none⟩ (.agg #[(.bool t30), (.slice t31_p t31_n t31_c)]) wv_1 ∧ Calls P 43 ⟨[(.agg #[(.bool t30), (.slice t31_p t31_n t31_c)])]⟩ wv_1 fun e wv_2 =>
 ∃ (t4 : Bool), e = .returned (.bool t4) ∧
 ((!t4) = true →
 ∃ wv_3, Stores P 30 ⟨r_1, 0, none⟩ (.agg #[(.bool false), (.slice none 0 0)]) wv_2 wv_3 ∧
 ∃ (r0 : Bool) (r1_p : Option Addr) (r1_n : Nat) (r1_c : Nat), Loads P 30 ⟨r_1, 0, none⟩ (.agg #[(.bool r0), (.slice r1_p r1_n r1_c)]) wv_3 ∧ R (.agg #[(.bool r0), (.slice r1_p r1_n r1_c)]) wv_3) ∧
 ((!t4) = false →
 ∃ (t8_p : Option Addr) (t8_n : Nat) (t8_c : Nat), Loads P 23 ((⟨r, 0, none⟩ : Addr).add 1) (.slice t8_p t8_n t8_c) wv_2 ∧ Calls P 79 ⟨[(.bool false), (.slice t8_p t8_n t8_c)]⟩ wv_2 fun e_1 wv_4 =>
 ∃ (t90 : Bool) (t91_p : Option Addr) (t91_n : Nat) (t91_c : Nat), e_1 = .returned (.agg #[(.bool t90), (.slice t91_p t91_n t91_c)]) ∧
 ∃ wv_5, Stores P 30 ⟨r_1, 0, none⟩ (.agg #[(.bool t90), (.slice t91_p t91_n t91_c)]) wv_4 wv_5 ∧
 ∃ (r0_1 : Bool) (r1_p_1 : Option Addr) (r1_n_1 : Nat) (r1_c_1 : Nat), Loads P 30 ⟨r_1, 0, none⟩ (.agg #[(.bool r0_1), (.slice r1_p_1 r1_n_1 r1_c_1)]) wv_5 ∧ R (.agg #[(.bool r0_1), (.slice r1_p_1 r1_n_1 r1_c_1)]) wv_5)
theorem spec_IntAbs_ret {x0 : Bool} {x1_p : Option Addr} {x1_n : Nat} {x1_c : Nat} {w : World} {R : Value → World → Prop} (h : spec_IntAbs x0 x1_p x1_n x1_c w R) : Ret P 45 [(.agg #[(.bool x0), (.slice x1_p x1_n x1_c)])] w R :=
  Ret.of_fsem Tryz.func45 rfl (Eq.mp (show _ = fsem P Tryz.f45 (fun k => []) _ R w from by kernel_rfl) h)
def spec_StepAt_j0 (l_p : Option Addr) (l_n : Nat) (r : Nat) (W : World) (R : Value → World → Prop) : Prop :=
 ∃ t16 : Int, t16 = IntKind.wrap .i64 (((l_n : Nat) : Int) - 1) ∧ ∃ (Inv : Int → World → Prop) (mu : Int → World → Nat), Inv t16 W ∧
 ∀ (junk : Fr) (wv_2 : World) (k : Int), Inv k wv_2 →
 (0 ≤ (k : Int) ∧ (k : Int) < (l_n : Nat)) ∧ ptrS l_p fun ad => ∃ (t21 : Int), (∀ wv_3, Ext wv_2.drew wv_3 → Loads P 3 ((ad.add (k.toNat * 4)).add 0) (.int .i64 t21) wv_3) ∧ Calls P 49 ⟨[(.int .i64 t21)]⟩ wv_2.drew fun e_1 wv_4 =>
 ∃ (t220 : Bool) (t221_p : Option Addr) (t221_n : Nat) (t221_c : Nat), e_1 = .returned (.agg #[(.bool t220), (.slice t221_p t221_n t221_c)]) ∧
 Ext wv_2.drew wv_4 ∧ ∃ (t230 : Bool) (t231_p : Option Addr) (t231_n : Nat) (t231_c : Nat), (∀ wv_5, Ext wv_2.drew wv_5 → Loads P 30 ⟨r, 0, none⟩ (.agg #[(.bool t230), (.slice t231_p t231_n t231_c)]) wv_5) ∧ Calls P 45 ⟨[(.agg #[(.bool t230), (.slice t231_p t231_n t231_c)])]⟩ wv_4 fun e_2 wv_6 =>
 ∃ (t240 : Bool) (t241_p : Option Addr) (t241_n : Nat) (t241_c : Nat), e_2 = .returned (.agg #[(.bool t240), (.slice t241_p t241_n t241_c)]) ∧
 Calls P 80 ⟨[(.agg #[(.bool t220), (.slice t221_p t221_n t221_c)]), (.agg #[(.bool t240), (.slice t241_p t241_n t241_c)])]⟩ wv_6 fun e_3 wv_7 =>
 ∃ (t25 : Int), e_3 = .returned (.int .i64 t25) ∧
 ((decide ((0 : Int) < t25)) = true →
 ∃ t28 : Int, t28 = IntKind.wrap .i64 (k - 1) ∧ Inv t28 wv_7 ∧ mu t28 wv_7 < mu k wv_2) ∧
 ((decide ((0 : Int) < t25)) = false →
 R (.int .i64 k) wv_7)
def spec_StepAt (l_p : Option Addr) (l_n : Nat) (l_c : Nat) (units0 : Bool) (units1_p : Option Addr) (units1_n : Nat) (units1_c : Nat) (w : World) (R : Value → World → Prop) : Prop :=
 ∀ (r : Nat) (wv : World), New w (.cells ⟨[(.bool units0), (.slice units1_p units1_n units1_c)]⟩ 30 (0, 0)) r wv →
 Calls P 42 ⟨[(.slice l_p l_n l_c)]⟩ wv fun e wv_1 =>
 ∃ (t7 : Bool), e = .returned (.bool t7) ∧
 ((!t7) = true →
 (true = true →
 R (.int .i64 (-1)) wv_1) ∧
 (true = false →
 spec_StepAt_j0 l_p l_n r wv_1 R)) ∧
 ((!t7) = false →
 ∃ (t100 : Bool) (t101_p : Option Addr) (t101_n : Nat) (t101_c : Nat), Loads P 30 ⟨r, 0, none⟩ (.agg #[(.bool t100), (.slice t101_p t101_n t101_c)]) wv_1 ∧ Calls P 43 ⟨[(.agg #[(.bool t100), (.slice t101_p t101_n t101_c)])]⟩ wv_1 fun e_4 wv_8 =>
 ∃ (t11 : Bool), e_4 = .returned (.bool t11) ∧
 ((!t11) = true →
 R (.int .i64 (-1)) wv_8) ∧
 ((!t11) = false →
 spec_StepAt_j0 l_p l_n r wv_8 R))
theorem spec_StepAt_ret {l_p : Option Addr} {l_n : Nat} {l_c : Nat} {units0 : Bool} {units1_p : Option Addr} {units1_n : Nat} {units1_c : Nat} {w : World} {R : Value → World → Prop} (h : spec_StepAt l_p l_n l_c units0 units1_p units1_n units1_c w R) : Ret P 46 [(.slice l_p l_n l_c), (.agg #[(.bool units0), (.slice units1_p units1_n units1_c)])] w R :=
  Ret.of_fsem Tryz.func46 rfl (Eq.mp (show _ = fsem P Tryz.f46 (fun k => cond (Nat.beq k 5) [(5, .one (.int .i64))] ([])) _ R w from by kernel_rfl) h)
def spec_RatInt (x0 : Bool) (x1_p : Option Addr) (x1_n : Nat) (x1_c : Nat) (w : World) (R : Value → World → Prop) : Prop :=
 ∀ (r : Nat) (wv : World), New w (.cells ⟨[(.bool x0), (.slice x1_p x1_n x1_c)]⟩ 30 (0, 0)) r wv →
 ∀ (r_1 : Nat) (wv_1 : World), New wv (.cells ⟨[(.bool false), (.slice none 0 0), (.slice none 0 0)]⟩ 34 (0, 0)) r_1 wv_1 →
 ∃ (t40 : Bool) (t41_p : Option Addr) (t41_n : Nat) (t41_c : Nat), (∀ wv_2, Ext wv_1.drew wv_2 → Loads P 30 ⟨r, 0, none⟩ (.agg #[(.bool t40), (.slice t41_p t41_n t41_c)]) wv_2) ∧ Calls P 49 ⟨[(.int .i64 1)]⟩ wv_1.drew fun e wv_3 =>
 ∃ (t50 : Bool) (t51_p : Option Addr) (t51_n : Nat) (t51_c : Nat), e = .returned (.agg #[(.bool t50), (.slice t51_p t51_n t51_c)]) ∧
 Ext wv_1.drew wv_3 ∧ Calls P 81 ⟨[(.agg #[(.bool t40), (.slice t41_p t41_n t41_c)]), (.agg #[(.bool t50), (.slice t51_p t51_n t51_c)])]⟩ wv_3 fun e_1 wv_4 =>
 ∃ (t60 : Bool) (t61_p : Option Addr) (t61_n : Nat) (t61_c : Nat) (t62_p : Option Addr) (t62_n : Nat) (t62_c : Nat) (t6 : Bool), e_1 = .returned (.tuple #[(.agg #[(.bool t60), (.slice t61_p t61_n t61_c), (.slice t62_p t62_n t62_c)]), (.bool t6)]) ∧
 ∃ wv_5, Stores P 34 ⟨r_1, 0, none⟩ (.agg #[(.bool t60), (.slice t61_p t61_n t61_c), (.slice t62_p t62_n t62_c)]) wv_4 wv_5 ∧
 ∃ (r0 : Bool) (r1_p : Option Addr) (r1_n : Nat) (r1_c : Nat) (r2_p : Option Addr) (r2_n : Nat) (r2_c : Nat), Loads P 34 ⟨r_1, 0, none⟩ (.agg #[(.bool r0), (.slice r1_p r1_n r1_c), (.slice r2_p r2_n r2_c)]) wv_5 ∧ R (.tuple #[(.agg #[(.bool r0), (.slice r1_p r1_n r1_c), (.slice r2_p r2_n r2_c)]), (.bool t6)]) wv_5
theorem spec_RatInt_ret {x0 : Bool} {x1_p : Option Addr} {x1_n : Nat} {x1_c : Nat} {w : World} {R : Value → World → Prop} (h : spec_RatInt x0 x1_p x1_n x1_c w R) : Ret P 47 [(.agg #[(.bool x0), (.slice x1_p x1_n x1_c)])] w R :=
  Ret.of_fsem Tryz.func47 rfl (Eq.mp (show _ = fsem P Tryz.f47 (fun k => []) _ R w from by kernel_rfl) h)
def spec_IntSub (x0 : Bool) (x1_p : Option Addr) (x1_n : Nat) (x1_c : Nat) (y0 : Bool) (y1_p : Option Addr) (y1_n : Nat) (y1_c : Nat) (w : World) (R : Value → World → Prop) : Prop :=
 ∀ (r : Nat) (wv : World), New w (.cells ⟨[(.bool x0), (.slice x1_p x1_n x1_c)]⟩ 30 (0, 0)) r wv →
 ∀ (r_1 : Nat) (wv_1 : World), New wv (.cells ⟨[(.bool y0), (.slice y1_p y1_n y1_c)]⟩ 30 (0, 0)) r_1 wv_1 →
 ∀ (r_2 : Nat) (wv_2 : World), New wv_1 (.cells ⟨[(.bool false), (.slice none 0 0)]⟩ 30 (0, 0)) r_2 wv_2 →
 ∃ (t50 : Bool) (t51_p : Option Addr) (t51_n : Nat) (t51_c : Nat), Loads P 30 ⟨r, 0, none⟩ (.agg #[(.bool t50), (.slice t51_p t51_n t51_c)]) wv_2 ∧ Calls P 43 ⟨[(.agg #[(.bool t50), (.slice t51_p t51_n t51_c)])]⟩ wv_2 fun e wv_3 =>
 ∃ (t6 : Bool), e = .returned (.bool t6) ∧
 ((!t6) = true →
 (true = true →
 ∃ wv_4, Stores P 30 ⟨r_2, 0, none⟩ (.agg #[(.bool false), (.slice none 0 0)]) wv_3 wv_4 ∧
 ∃ (r0 : Bool) (r1_p : Option Addr) (r1_n : Nat) (r1_c : Nat), Loads P 30 ⟨r_2, 0, none⟩ (.agg #[(.bool r0), (.slice r1_p r1_n r1_c)]) wv_4 ∧ R (.agg #[(.bool r0), (.slice r1_p r1_n r1_c)]) wv_4) ∧
 (true = false →
 ∃ (t140 : Bool) (t141_p : Option Addr) (t141_n : Nat) (t141_c : Nat), (∀ wv_5, Ext wv_3.drew wv_5 → Loads P 30 ⟨r, 0, none⟩ (.agg #[(.bool t140), (.slice t141_p t141_n t141_c)]) wv_5) ∧ ∃ (t150 : Bool) (t151_p : Option Addr) (t151_n : Nat) (t151_c : Nat), (∀ wv_6, Ext wv_3.drew wv_6 → Loads P 30 ⟨r_1, 0, none⟩ (.agg #[(.bool t150), (.slice t151_p t151_n t151_c)]) wv_6) ∧ Calls P 83 ⟨[(.agg #[(.bool t150), (.slice t151_p t151_n t151_c)])]⟩ wv_3.drew fun e_1 wv_7 =>
 ∃ (t160 : Bool) (t161_p : Option Addr) (t161_n : Nat) (t161_c : Nat), e_1 = .returned (.agg #[(.bool t160), (.slice t161_p t161_n t161_c)]) ∧
 Ext wv_3.drew wv_7 ∧ Calls P 82 ⟨[(.agg #[(.bool t140), (.slice t141_p t141_n t141_c)]), (.agg #[(.bool t160), (.slice t161_p t161_n t161_c)])]⟩ wv_7 fun e_2 wv_8 =>
 ∃ (t170 : Bool) (t171_p : Option Addr) (t171_n : Nat) (t171_c : Nat), e_2 = .returned (.agg #[(.bool t170), (.slice t171_p t171_n t171_c)]) ∧
 ∃ wv_9, Stores P 30 ⟨r_2, 0, none⟩ (.agg #[(.bool t170), (.slice t171_p t171_n t171_c)]) wv_8 wv_9 ∧
 ∃ (r0_1 : Bool) (r1_p_1 : Option Addr) (r1_n_1 : Nat) (r1_c_1 : Nat), Loads P 30 ⟨r_2, 0, none⟩ (.agg #[(.bool r0_1), (.slice r1_p_1 r1_n_1 r1_c_1)]) wv_9 ∧ R (.agg #[(.bool r0_1), (.slice r1_p_1 r1_n_1 r1_c_1)]) wv_9)) ∧
 ((!t6) = false →
 ∃ (t90 : Bool) (t91_p : Option Addr) (t91_n : Nat) (t91_c : Nat), Loads P 30 ⟨r_1, 0, none⟩ (.agg #[(.bool t90), (.slice t91_p t91_n t91_c)]) wv_3 ∧ Calls P 43 ⟨[(.agg #[(.bool t90), (.slice t91_p t91_n t91_c)])]⟩ wv_3 fun e_3 wv_10 =>
 ∃ (t10 : Bool), e_3 = .returned (.bool t10) ∧
 ((!t10) = true →
 ∃ wv_11, Stores P 30 ⟨r_2, 0, none⟩ (.agg #[(.bool false), (.slice none 0 0)]) wv_10 wv_11 ∧
 ∃ (r0_2 : Bool) (r1_p_2 : Option Addr) (r1_n_2 : Nat) (r1_c_2 : Nat), Loads P 30 ⟨r_2, 0, none⟩ (.agg #[(.bool r0_2), (.slice r1_p_2 r1_n_2 r1_c_2)]) wv_11 ∧ R (.agg #[(.bool r0_2), (.slice r1_p_2 r1_n_2 r1_c_2)]) wv_11) ∧
 ((!t10) = false →
 ∃ (t140_1 : Bool) (t141_p_1 : Option Addr) (t141_n_1 : Nat) (t141_c_1 : Nat), (∀ wv_12, Ext wv_10.drew wv_12 → Loads P 30 ⟨r, 0, none⟩ (.agg #[(.bool t140_1), (.slice t141_p_1 t141_n_1 t141_c_1)]) wv_12) ∧ ∃ (t150_1 : Bool) (t151_p_1 : Option Addr) (t151_n_1 : Nat) (t151_c_1 : Nat), (∀ wv_13, Ext wv_10.drew wv_13 → Loads P 30 ⟨r_1, 0, none⟩ (.agg #[(.bool t150_1), (.slice t151_p_1 t151_n_1 t151_c_1)]) wv_13) ∧ Calls P 83 ⟨[(.agg #[(.bool t150_1), (.slice t151_p_1 t151_n_1 t151_c_1)])]⟩ wv_10.drew fun e_4 wv_14 =>
 ∃ (t160_1 : Bool) (t161_p_1 : Option Addr) (t161_n_1 : Nat) (t161_c_1 : Nat), e_4 = .returned (.agg #[(.bool t160_1), (.slice t161_p_1 t161_n_1 t161_c_1)]) ∧
 Ext wv_10.drew wv_14 ∧ Calls P 82 ⟨[(.agg #[(.bool t140_1), (.slice t141_p_1 t141_n_1 t141_c_1)]), (.agg #[(.bool t160_1), (.slice t161_p_1 t161_n_1 t161_c_1)])]⟩ wv_14 fun e_5 wv_15 =>
 ∃ (t170_1 : Bool) (t171_p_1 : Option Addr) (t171_n_1 : Nat) (t171_c_1 : Nat), e_5 = .returned (.agg #[(.bool t170_1), (.slice t171_p_1 t171_n_1 t171_c_1)]) ∧
 ∃ wv_16, Stores P 30 ⟨r_2, 0, none⟩ (.agg #[(.bool t170_1), (.slice t171_p_1 t171_n_1 t171_c_1)]) wv_15 wv_16 ∧
 ∃ (r0_3 : Bool) (r1_p_3 : Option Addr) (r1_n_3 : Nat) (r1_c_3 : Nat), Loads P 30 ⟨r_2, 0, none⟩ (.agg #[(.bool r0_3), (.slice r1_p_3 r1_n_3 r1_c_3)]) wv_16 ∧ R (.agg #[(.bool r0_3), (.slice r1_p_3 r1_n_3 r1_c_3)]) wv_16))
theorem spec_IntSub_ret {x0 : Bool} {x1_p : Option Addr} {x1_n : Nat} {x1_c : Nat} {y0 : Bool} {y1_p : Option Addr} {y1_n : Nat} {y1_c : Nat} {w : World} {R : Value → World → Prop} (h : spec_IntSub x0 x1_p x1_n x1_c y0 y1_p y1_n y1_c w R) : Ret P 48 [(.agg #[(.bool x0), (.slice x1_p x1_n x1_c)]), (.agg #[(.bool y0), (.slice y1_p y1_n y1_c)])] w R :=
  Ret.of_fsem Tryz.func48 rfl (Eq.mp (show _ = fsem P Tryz.f48 (fun k => []) _ R w from by kernel_rfl) h)
def spec_IntOf (n : Int) (w : World) (R : Value → World → Prop) : Prop :=
 ∀ (r : Nat) (wv : World), New w (.cells ⟨[(.bool false), (.slice none 0 0)]⟩ 30 (0, 0)) r wv →
 ((decide ((n : Int) = (-9223372036854775808))) = true →
 ∀ (r_1 : Nat) (wv_1 : World), New wv (.cells ⟨[(.int .i64 854775808), (.int .i64 223372036), (.int .i64 9)]⟩ 3 (0, 0)) r_1 wv_1 →
 Calls P 79 ⟨[(.bool true), (.slice (some ⟨r_1, 0, none⟩) 3 3)]⟩ wv_1 fun e wv_2 =>
 ∃ (t60 : Bool) (t61_p : Option Addr) (t61_n : Nat) (t61_c : Nat), e = .returned (.agg #[(.bool t60), (.slice t61_p t61_n t61_c)]) ∧
 ∃ wv_3, Stores P 30 ⟨r, 0, none⟩ (.agg #[(.bool t60), (.slice t61_p t61_n t61_c)]) wv_2 wv_3 ∧
 ∃ (r0 : Bool) (r1_p : Option Addr) (r1_n : Nat) (r1_c : Nat), Loads P 30 ⟨r, 0, none⟩ (.agg #[(.bool r0), (.slice r1_p r1_n r1_c)]) wv_3 ∧ R (.agg #[(.bool r0), (.slice r1_p r1_n r1_c)]) wv_3) ∧
 ((decide ((n : Int) = (-9223372036854775808))) = false →
 ((decide ((n : Int) < 0)) = true →
 ∃ t10 : Int, t10 = IntKind.wrap .i64 (0 - n) ∧ Calls P 84 ⟨[(.int .i64 t10)]⟩ wv fun e_1 wv_4 =>
 ∃ (t11_p : Option Addr) (t11_n : Nat) (t11_c : Nat), e_1 = .returned (.slice t11_p t11_n t11_c) ∧
 Calls P 79 ⟨[(.bool true), (.slice t11_p t11_n t11_c)]⟩ wv_4 fun e_2 wv_5 =>
 ∃ (t120 : Bool) (t121_p : Option Addr) (t121_n : Nat) (t121_c : Nat), e_2 = .returned (.agg #[(.bool t120), (.slice t121_p t121_n t121_c)]) ∧
 ∃ wv_6, Stores P 30 ⟨r, 0, none⟩ (.agg #[(.bool t120), (.slice t121_p t121_n t121_c)]) wv_5 wv_6 ∧
 ∃ (r0_1 : Bool) (r1_p_1 : Option Addr) (r1_n_1 : Nat) (r1_c_1 : Nat), Loads P 30 ⟨r, 0, none⟩ (.agg #[(.bool r0_1), (.slice r1_p_1 r1_n_1 r1_c_1)]) wv_6 ∧ R (.agg #[(.bool r0_1), (.slice r1_p_1 r1_n_1 r1_c_1)]) wv_6) ∧
 ((decide ((n : Int) < 0)) = false →
 Calls P 84 ⟨[(.int .i64 n)]⟩ wv fun e_3 wv_7 =>
 ∃ (t14_p : Option Addr) (t14_n : Nat) (t14_c : Nat), e_3 = .returned (.slice t14_p t14_n t14_c) ∧
 Calls P 79 ⟨[(.bool false), (.slice t14_p t14_n t14_c)]⟩ wv_7 fun e_4 wv_8 =>
 ∃ (t150 : Bool) (t151_p : Option Addr) (t151_n : Nat) (t151_c : Nat), e_4 = .returned (.agg #[(.bool t150), (.slice t151_p t151_n t151_c)]) ∧
 ∃ wv_9, Stores P 30 ⟨r, 0, none⟩ (.agg #[(.bool t150), (.slice t151_p t151_n t151_c)]) wv_8 wv_9 ∧
 ∃ (r0_2 : Bool) (r1_p_2 : Option Addr) (r1_n_2 : Nat) (r1_c_2 : Nat), Loads P 30 ⟨r, 0, none⟩ (.agg #[(.bool r0_2), (.slice r1_p_2 r1_n_2 r1_c_2)]) wv_9 ∧ R (.agg #[(.bool r0_2), (.slice r1_p_2 r1_n_2 r1_c_2)]) wv_9))
theorem spec_IntOf_ret {n : Int} {w : World} {R : Value → World → Prop} (h : spec_IntOf n w R) : Ret P 49 [(.int .i64 n)] w R :=
  Ret.of_fsem Tryz.func49 rfl (Eq.mp (show _ = fsem P Tryz.f49 (fun k => []) _ R w from by kernel_rfl) h)
def spec_RatMul_j0 (r : Nat) (r_1 : Nat) (r_2 : Nat) (W : World) (R : Value → World → Prop) : Prop :=
 ∃ (t17 : Bool), (∀ wv_5, Ext W.drew wv_5 → Loads P 4 (((⟨r, 0, none⟩ : Addr).add 0).add 0) (.bool t17) wv_5) ∧ ∃ (t20 : Bool), (∀ wv_6, Ext W.drew wv_6 → Loads P 4 (((⟨r_1, 0, none⟩ : Addr).add 0).add 0) (.bool t20) wv_6) ∧ ∃ (t24_p : Option Addr) (t24_n : Nat) (t24_c : Nat), (∀ wv_7, Ext W.drew wv_7 → Loads P 23 (((⟨r, 0, none⟩ : Addr).add 0).add 1) (.slice t24_p t24_n t24_c) wv_7) ∧ ∃ (t27_p : Option Addr) (t27_n : Nat) (t27_c : Nat), (∀ wv_8, Ext W.drew wv_8 → Loads P 23 (((⟨r_1, 0, none⟩ : Addr).add 0).add 1) (.slice t27_p t27_n t27_c) wv_8) ∧ Calls P 87 ⟨[(.slice t24_p t24_n t24_c), (.slice t27_p t27_n t27_c)]⟩ W.drew fun e_1 wv_9 =>
 ∃ (t28_p : Option Addr) (t28_n : Nat) (t28_c : Nat), e_1 = .returned (.slice t28_p t28_n t28_c) ∧
 Ext W.drew wv_9 ∧ ∃ (t30_p : Option Addr) (t30_n : Nat) (t30_c : Nat), (∀ wv_10, Ext W.drew wv_10 → Loads P 23 ((⟨r, 0, none⟩ : Addr).add 2) (.slice t30_p t30_n t30_c) wv_10) ∧ ∃ (t32_p : Option Addr) (t32_n : Nat) (t32_c : Nat), (∀ wv_11, Ext W.drew wv_11 → Loads P 23 ((⟨r_1, 0, none⟩ : Addr).add 2) (.slice t32_p t32_n t32_c) wv_11) ∧ Calls P 87 ⟨[(.slice t30_p t30_n t30_c), (.slice t32_p t32_n t32_c)]⟩ wv_9 fun e_2 wv_12 =>
 ∃ (t33_p : Option Addr) (t33_n : Nat) (t33_c : Nat), e_2 = .returned (.slice t33_p t33_n t33_c) ∧
 Ext wv_9 wv_12 ∧ Calls P 86 ⟨[(.bool (!(t17 == t20))), (.slice t28_p t28_n t28_c), (.slice t33_p t33_n t33_c)]⟩ wv_12 fun e_3 wv_13 =>
 ∃ (t340 : Bool) (t341_p : Option Addr) (t341_n : Nat) (t341_c : Nat) (t342_p : Option Addr) (t342_n : Nat) (t342_c : Nat) (t34 : Bool), e_3 = .returned (.tuple #[(.agg #[(.bool t340), (.slice t341_p t341_n t341_c), (.slice t342_p t342_n t342_c)]), (.bool t34)]) ∧
 ∃ wv_14, Stores P 34 ⟨r_2, 0, none⟩ (.agg #[(.bool t340), (.slice t341_p t341_n t341_c), (.slice t342_p t342_n t342_c)]) wv_13 wv_14 ∧
 ∃ (r0_2 : Bool) (r1_p_2 : Option Addr) (r1_n_2 : Nat) (r1_c_2 : Nat) (r2_p_2 : Option Addr) (r2_n_2 : Nat) (r2_c_2 : Nat), Loads P 34 ⟨r_2, 0, none⟩ (.agg #[(.bool r0_2), (.slice r1_p_2 r1_n_2 r1_c_2), (.slice r2_p_2 r2_n_2 r2_c_2)]) wv_14 ∧ R (.tuple #[(.agg #[(.bool r0_2), (.slice r1_p_2 r1_n_2 r1_c_2), (.slice r2_p_2 r2_n_2 r2_c_2)]), (.bool t34)]) wv_14
def spec_RatMul (r0 : Bool) (r1_p : Option Addr) (r1_n : Nat) (r1_c : Nat) (r2_p : Option Addr) (r2_n : Nat) (r2_c : Nat) (s0 : Bool) (s1_p : Option Addr) (s1_n : Nat) (s1_c : Nat) (s2_p : Option Addr) (s2_n : Nat) (s2_c : Nat) (w : World) (R : Value → World → Prop) : Prop :=
 ∀ (r : Nat) (wv : World), New w (.cells ⟨[(.bool r0), (.slice r1_p r1_n r1_c), (.slice r2_p r2_n r2_c)]⟩ 34 (0, 0)) r wv →
 ∀ (r_1 : Nat) (wv_1 : World), New wv (.cells ⟨[(.bool s0), (.slice s1_p s1_n s1_c), (.slice s2_p s2_n s2_c)]⟩ 34 (0, 0)) r_1 wv_1 →
 ∀ (r_2 : Nat) (wv_2 : World), New wv_1 (.cells ⟨[(.bool false), (.slice none 0 0), (.slice none 0 0)]⟩ 34 (0, 0)) r_2 wv_2 →
 ∃ (t60 : Bool) (t61_p : Option Addr) (t61_n : Nat) (t61_c : Nat) (t62_p : Option Addr) (t62_n : Nat) (t62_c : Nat), Loads P 34 ⟨r, 0, none⟩ (.agg #[(.bool t60), (.slice t61_p t61_n t61_c), (.slice t62_p t62_n t62_c)]) wv_2 ∧ Calls P 85 ⟨[(.agg #[(.bool t60), (.slice t61_p t61_n t61_c), (.slice t62_p t62_n t62_c)])]⟩ wv_2 fun e wv_3 =>
 ∃ (t7 : Bool), e = .returned (.bool t7) ∧
 ((!t7) = true →
 (true = true →
 ∃ wv_4, Stores P 34 ⟨r_2, 0, none⟩ (.agg #[(.bool false), (.slice none 0 0), (.slice none 0 0)]) wv_3 wv_4 ∧
 ∃ (r0_1 : Bool) (r1_p_1 : Option Addr) (r1_n_1 : Nat) (r1_c_1 : Nat) (r2_p_1 : Option Addr) (r2_n_1 : Nat) (r2_c_1 : Nat), Loads P 34 ⟨r_2, 0, none⟩ (.agg #[(.bool r0_1), (.slice r1_p_1 r1_n_1 r1_c_1), (.slice r2_p_1 r2_n_1 r2_c_1)]) wv_4 ∧ R (.tuple #[(.agg #[(.bool r0_1), (.slice r1_p_1 r1_n_1 r1_c_1), (.slice r2_p_1 r2_n_1 r2_c_1)]), (.bool false)]) wv_4) ∧
 (true = false →
 spec_RatMul_j0 r r_1 r_2 wv_3 R)) ∧
 ((!t7) = false →
 ∃ (t100 : Bool) (t101_p : Option Addr) (t101_n : Nat) (t101_c : Nat) (t102_p : Option Addr) (t102_n : Nat) (t102_c : Nat), Loads P 34 ⟨r_1, 0, none⟩ (.agg #[(.bool t100), (.slice t101_p t101_n t101_c), (.slice t102_p t102_n t102_c)]) wv_3 ∧ Calls P 85 ⟨[(.agg #[(.bool t100), (.slice t101_p t101_n t101_c), (.slice t102_p t102_n t102_c)])]⟩ wv_3 fun e_4 wv_15 =>
 ∃ (t11 : Bool), e_4 = .returned (.bool t11) ∧
 ((!t11) = true →
 ∃ wv_16, Stores P 34 ⟨r_2, 0, none⟩ (.agg #[(.bool false), (.slice none 0 0), (.slice none 0 0)]) wv_15 wv_16 ∧
 ∃ (r0_3 : Bool) (r1_p_3 : Option Addr) (r1_n_3 : Nat) (r1_c_3 : Nat) (r2_p_3 : Option Addr) (r2_n_3 : Nat) (r2_c_3 : Nat), Loads P 34 ⟨r_2, 0, none⟩ (.agg #[(.bool r0_3), (.slice r1_p_3 r1_n_3 r1_c_3), (.slice r2_p_3 r2_n_3 r2_c_3)]) wv_16 ∧ R (.tuple #[(.agg #[(.bool r0_3), (.slice r1_p_3 r1_n_3 r1_c_3), (.slice r2_p_3 r2_n_3 r2_c_3)]), (.bool false)]) wv_16) ∧
 ((!t11) = false →
 spec_RatMul_j0 r r_1 r_2 wv_15 R))
theorem spec_RatMul_ret {r0 : Bool} {r1_p : Option Addr} {r1_n : Nat} {r1_c : Nat} {r2_p : Option Addr} {r2_n : Nat} {r2_c : Nat} {s0 : Bool} {s1_p : Option Addr} {s1_n : Nat} {s1_c : Nat} {s2_p : Option Addr} {s2_n : Nat} {s2_c : Nat} {w : World} {R : Value → World → Prop} (h : spec_RatMul r0 r1_p r1_n r1_c r2_p r2_n r2_c s0 s1_p s1_n s1_c s2_p s2_n s2_c w R) : Ret P 50 [(.agg #[(.bool r0), (.slice r1_p r1_n r1_c), (.slice r2_p r2_n r2_c)]), (.agg #[(.bool s0), (.slice s1_p s1_n s1_c), (.slice s2_p s2_n s2_c)])] w R :=
  Ret.of_fsem Tryz.func50 rfl (Eq.mp (show _ = fsem P Tryz.f50 (fun k => []) _ R w from by kernel_rfl) h)
def spec_DecRat (d0 : Bool) (d1_p : Option Addr) (d1_n : Nat) (d1_c : Nat) (d2 : Int) (w : World) (R : Value → World → Prop) : Prop :=
 ∀ (r : Nat) (wv : World), New w (.cells ⟨[(.bool d0), (.slice d1_p d1_n d1_c), (.int .i64 d2)]⟩ 60 (0, 0)) r wv →
 ∀ (r_1 : Nat) (wv_1 : World), New wv (.cells ⟨[(.bool false), (.slice none 0 0), (.slice none 0 0)]⟩ 34 (0, 0)) r_1 wv_1 →
 ∃ (t50 : Bool) (t51_p : Option Addr) (t51_n : Nat) (t51_c : Nat) (t52 : Int), Loads P 60 ⟨r, 0, none⟩ (.agg #[(.bool t50), (.slice t51_p t51_n t51_c), (.int .i64 t52)]) wv_1 ∧ Calls P 88 ⟨[(.agg #[(.bool t50), (.slice t51_p t51_n t51_c), (.int .i64 t52)])]⟩ wv_1 fun e wv_2 =>
 ∃ (t6 : Bool), e = .returned (.bool t6) ∧
 ((!t6) = true →
 ∃ wv_3, Stores P 34 ⟨r_1, 0, none⟩ (.agg #[(.bool false), (.slice none 0 0), (.slice none 0 0)]) wv_2 wv_3 ∧
 ∃ (r0 : Bool) (r1_p : Option Addr) (r1_n : Nat) (r1_c : Nat) (r2_p : Option Addr) (r2_n : Nat) (r2_c : Nat), Loads P 34 ⟨r_1, 0, none⟩ (.agg #[(.bool r0), (.slice r1_p r1_n r1_c), (.slice r2_p r2_n r2_c)]) wv_3 ∧ R (.agg #[(.bool r0), (.slice r1_p r1_n r1_c), (.slice r2_p r2_n r2_c)]) wv_3) ∧
 ((!t6) = false →
 ∃ (t110 : Bool) (t111_p : Option Addr) (t111_n : Nat) (t111_c : Nat), (∀ wv_4, Ext wv_2.drew wv_4 → Loads P 30 ((⟨r, 0, none⟩ : Addr).add 0) (.agg #[(.bool t110), (.slice t111_p t111_n t111_c)]) wv_4) ∧ ∃ (t13 : Int), (∀ wv_5, Ext wv_2.drew wv_5 → Loads P 3 ((⟨r, 0, none⟩ : Addr).add 2) (.int .i64 t13) wv_5) ∧ ∀ (ss : List (Option Nat)) (wv_6 : World), Fl [.cells ⟨[(.bool false), (.slice none 0 0), (.slice none 0 0)]⟩ 34 (0, 0)] [none] wv_2.drew ss wv_6 →
 Calls P 89 ⟨[(.int .i64 t13)]⟩ wv_6 fun e_1 wv_7 =>
 ∃ (t140 : Bool) (t141_p : Option Addr) (t141_n : Nat) (t141_c : Nat), e_1 = .returned (.agg #[(.bool t140), (.slice t141_p t141_n t141_c)]) ∧
 Ext wv_6 wv_7 ∧ ∀ (ss_1 : List (Option Nat)) (wv_8 : World), Fl [.cells ⟨[(.bool false), (.slice none 0 0), (.slice none 0 0)]⟩ 34 (0, 0)] ss wv_7 ss_1 wv_8 →
 Calls P 81 ⟨[(.agg #[(.bool t110), (.slice t111_p t111_n t111_c)]), (.agg #[(.bool t140), (.slice t141_p t141_n t141_c)])]⟩ wv_8 fun e_2 wv_9 =>
 ∃ (t150 : Bool) (t151_p : Option Addr) (t151_n : Nat) (t151_c : Nat) (t152_p : Option Addr) (t152_n : Nat) (t152_c : Nat) (t15 : Bool), e_2 = .returned (.tuple #[(.agg #[(.bool t150), (.slice t151_p t151_n t151_c), (.slice t152_p t152_n t152_c)]), (.bool t15)]) ∧
 ∀ (ss_2 : List (Option Nat)) (wv_10 : World) (r_2 : Nat), Fl [.cells ⟨[(.bool false), (.slice none 0 0), (.slice none 0 0)]⟩ 34 (0, 0)] ss_1 wv_9 ss_2 wv_10 → ss_2[0]? = some (some r_2) →
 ∃ wv_11, Stores P 34 ⟨r_2, 0, none⟩ (.agg #[(.bool t150), (.slice t151_p t151_n t151_c), (.slice t152_p t152_n t152_c)]) wv_10 wv_11 ∧
 ∃ (t180 : Bool) (t181_p : Option Addr) (t181_n : Nat) (t181_c : Nat) (t182_p : Option Addr) (t182_n : Nat) (t182_c : Nat), Loads P 34 ⟨r_2, 0, none⟩ (.agg #[(.bool t180), (.slice t181_p t181_n t181_c), (.slice t182_p t182_n t182_c)]) wv_11 ∧ ∃ wv_12, Stores P 34 ⟨r_1, 0, none⟩ (.agg #[(.bool t180), (.slice t181_p t181_n t181_c), (.slice t182_p t182_n t182_c)]) wv_11 wv_12 ∧
 ∃ (r0_1 : Bool) (r1_p_1 : Option Addr) (r1_n_1 : Nat) (r1_c_1 : Nat) (r2_p_1 : Option Addr) (r2_n_1 : Nat) (r2_c_1 : Nat), Loads P 34 ⟨r_1, 0, none⟩ (.agg #[(.bool r0_1), (.slice r1_p_1 r1_n_1 r1_c_1), (.slice r2_p_1 r2_n_1 r2_c_1)]) wv_12 ∧ R (.agg #[(.bool r0_1), (.slice r1_p_1 r1_n_1 r1_c_1), (.slice r2_p_1 r2_n_1 r2_c_1)]) wv_12)
theorem spec_DecRat_ret {d0 : Bool} {d1_p : Option Addr} {d1_n : Nat} {d1_c : Nat} {d2 : Int} {w : World} {R : Value → World → Prop} (h : spec_DecRat d0 d1_p d1_n d1_c d2 w R) : Ret P 51 [(.agg #[(.bool d0), (.slice d1_p d1_n d1_c), (.int .i64 d2)])] w R :=
  Ret.of_fsem Tryz.func51 rfl (Eq.mp (show _ = fsem P Tryz.f51 (fun k => []) _ R w from by kernel_rfl) h)
def spec_RatAdd_j0 (r : Nat) (r_1 : Nat) (r_2 : Nat) (W : World) (R : Value → World → Prop) : Prop :=
 ∃ (t20 : Bool), (∀ wv_5, Ext W.drew wv_5 → Loads P 4 (((⟨r, 0, none⟩ : Addr).add 0).add 0) (.bool t20) wv_5) ∧ ∃ (t23_p : Option Addr) (t23_n : Nat) (t23_c : Nat), (∀ wv_6, Ext W.drew wv_6 → Loads P 23 (((⟨r, 0, none⟩ : Addr).add 0).add 1) (.slice t23_p t23_n t23_c) wv_6) ∧ ∃ (t25_p : Option Addr) (t25_n : Nat) (t25_c : Nat), (∀ wv_7, Ext W.drew wv_7 → Loads P 23 ((⟨r_1, 0, none⟩ : Addr).add 2) (.slice t25_p t25_n t25_c) wv_7) ∧ ∀ (ss : List (Option Nat)) (wv_8 : World), Fl [.cells ⟨[(.bool false), (.slice none 0 0)]⟩ 30 (0, 0)] [none] W.drew ss wv_8 →
 Calls P 87 ⟨[(.slice t23_p t23_n t23_c), (.slice t25_p t25_n t25_c)]⟩ wv_8 fun e_1 wv_9 =>
 ∃ (t26_p : Option Addr) (t26_n : Nat) (t26_c : Nat), e_1 = .returned (.slice t26_p t26_n t26_c) ∧
 Ext wv_8 wv_9 ∧ ∀ (ss_1 : List (Option Nat)) (wv_10 : World), Fl [.cells ⟨[(.bool false), (.slice none 0 0)]⟩ 30 (0, 0)] ss wv_9 ss_1 wv_10 →
 Calls P 79 ⟨[(.bool t20), (.slice t26_p t26_n t26_c)]⟩ wv_10 fun e_2 wv_11 =>
 ∃ (t270 : Bool) (t271_p : Option Addr) (t271_n : Nat) (t271_c : Nat), e_2 = .returned (.agg #[(.bool t270), (.slice t271_p t271_n t271_c)]) ∧
 ∀ (ss_2 : List (Option Nat)) (wv_12 : World) (r_3 : Nat), Fl [.cells ⟨[(.bool false), (.slice none 0 0)]⟩ 30 (0, 0)] ss_1 wv_11 ss_2 wv_12 → ss_2[0]? = some (some r_3) →
 ∃ wv_13, Stores P 30 ⟨r_3, 0, none⟩ (.agg #[(.bool t270), (.slice t271_p t271_n t271_c)]) wv_12 wv_13 ∧
 ∃ (t30 : Bool), (∀ wv_14, Ext wv_13.drew wv_14 → Loads P 4 (((⟨r_1, 0, none⟩ : Addr).add 0).add 0) (.bool t30) wv_14) ∧ ∃ (t33_p : Option Addr) (t33_n : Nat) (t33_c : Nat), (∀ wv_15, Ext wv_13.drew wv_15 → Loads P 23 (((⟨r_1, 0, none⟩ : Addr).add 0).add 1) (.slice t33_p t33_n t33_c) wv_15) ∧ ∃ (t35_p : Option Addr) (t35_n : Nat) (t35_c : Nat), (∀ wv_16, Ext wv_13.drew wv_16 → Loads P 23 ((⟨r, 0, none⟩ : Addr).add 2) (.slice t35_p t35_n t35_c) wv_16) ∧ ∀ (ss_3 : List (Option Nat)) (wv_17 : World), Fl [.cells ⟨[(.bool false), (.slice none 0 0)]⟩ 30 (0, 0)] [none] wv_13.drew ss_3 wv_17 →
 Calls P 87 ⟨[(.slice t33_p t33_n t33_c), (.slice t35_p t35_n t35_c)]⟩ wv_17 fun e_3 wv_18 =>
 ∃ (t36_p : Option Addr) (t36_n : Nat) (t36_c : Nat), e_3 = .returned (.slice t36_p t36_n t36_c) ∧
 Ext wv_17 wv_18 ∧ ∀ (ss_4 : List (Option Nat)) (wv_19 : World), Fl [.cells ⟨[(.bool false), (.slice none 0 0)]⟩ 30 (0, 0)] ss_3 wv_18 ss_4 wv_19 →
 Calls P 79 ⟨[(.bool t30), (.slice t36_p t36_n t36_c)]⟩ wv_19 fun e_4 wv_20 =>
 ∃ (t370 : Bool) (t371_p : Option Addr) (t371_n : Nat) (t371_c : Nat), e_4 = .returned (.agg #[(.bool t370), (.slice t371_p t371_n t371_c)]) ∧
 ∀ (ss_5 : List (Option Nat)) (wv_21 : World) (r_4 : Nat), Fl [.cells ⟨[(.bool false), (.slice none 0 0)]⟩ 30 (0, 0)] ss_4 wv_20 ss_5 wv_21 → ss_5[0]? = some (some r_4) →
 ∃ wv_22, Stores P 30 ⟨r_4, 0, none⟩ (.agg #[(.bool t370), (.slice t371_p t371_n t371_c)]) wv_21 wv_22 ∧
 ∃ (t380 : Bool) (t381_p : Option Addr) (t381_n : Nat) (t381_c : Nat), Loads P 30 ⟨r_3, 0, none⟩ (.agg #[(.bool t380), (.slice t381_p t381_n t381_c)]) wv_22 ∧ ∃ (t390 : Bool) (t391_p : Option Addr) (t391_n : Nat) (t391_c : Nat), Loads P 30 ⟨r_4, 0, none⟩ (.agg #[(.bool t390), (.slice t391_p t391_n t391_c)]) wv_22 ∧ Calls P 82 ⟨[(.agg #[(.bool t380), (.slice t381_p t381_n t381_c)]), (.agg #[(.bool t390), (.slice t391_p t391_n t391_c)])]⟩ wv_22 fun e_5 wv_23 =>
 ∃ (t400 : Bool) (t401_p : Option Addr) (t401_n : Nat) (t401_c : Nat), e_5 = .returned (.agg #[(.bool t400), (.slice t401_p t401_n t401_c)]) ∧
 ∀ (r_5 : Nat) (wv_24 : World), New wv_23 (.cells ⟨[(.bool false), (.slice none 0 0)]⟩ 30 (0, 0)) r_5 wv_24 →
 ∃ wv_25, Stores P 30 ⟨r_5, 0, none⟩ (.agg #[(.bool t400), (.slice t401_p t401_n t401_c)]) wv_24 wv_25 ∧
 ∃ (t42 : Bool), (∀ wv_26, Ext wv_25.drew wv_26 → Loads P 4 ((⟨r_5, 0, none⟩ : Addr).add 0) (.bool t42) wv_26) ∧ ∃ (t44_p : Option Addr) (t44_n : Nat) (t44_c : Nat), (∀ wv_27, Ext wv_25.drew wv_27 → Loads P 23 ((⟨r_5, 0, none⟩ : Addr).add 1) (.slice t44_p t44_n t44_c) wv_27) ∧ ∃ (t46_p : Option Addr) (t46_n : Nat) (t46_c : Nat), (∀ wv_28, Ext wv_25.drew wv_28 → Loads P 23 ((⟨r, 0, none⟩ : Addr).add 2) (.slice t46_p t46_n t46_c) wv_28) ∧ ∃ (t48_p : Option Addr) (t48_n : Nat) (t48_c : Nat), (∀ wv_29, Ext wv_25.drew wv_29 → Loads P 23 ((⟨r_1, 0, none⟩ : Addr).add 2) (.slice t48_p t48_n t48_c) wv_29) ∧ Calls P 87 ⟨[(.slice t46_p t46_n t46_c), (.slice t48_p t48_n t48_c)]⟩ wv_25.drew fun e_6 wv_30 =>
 ∃ (t49_p : Option Addr) (t49_n : Nat) (t49_c : Nat), e_6 = .returned (.slice t49_p t49_n t49_c) ∧
 Ext wv_25.drew wv_30 ∧ Calls P 86 ⟨[(.bool t42), (.slice t44_p t44_n t44_c), (.slice t49_p t49_n t49_c)]⟩ wv_30 fun e_7 wv_31 =>
 ∃ (t500 : Bool) (t501_p : Option Addr) (t501_n : Nat) (t501_c : Nat) (t502_p : Option Addr) (t502_n : Nat) (t502_c : Nat) (t50 : Bool), e_7 = .returned (.tuple #[(.agg #[(.bool t500), (.slice t501_p t501_n t501_c), (.slice t502_p t502_n t502_c)]), (.bool t50)]) ∧
 ∃ wv_32, Stores P 34 ⟨r_2, 0, none⟩ (.agg #[(.bool t500), (.slice t501_p t501_n t501_c), (.slice t502_p t502_n t502_c)]) wv_31 wv_32 ∧
 ∃ (r0_2 : Bool) (r1_p_2 : Option Addr) (r1_n_2 : Nat) (r1_c_2 : Nat) (r2_p_2 : Option Addr) (r2_n_2 : Nat) (r2_c_2 : Nat), Loads P 34 ⟨r_2, 0, none⟩ (.agg #[(.bool r0_2), (.slice r1_p_2 r1_n_2 r1_c_2), (.slice r2_p_2 r2_n_2 r2_c_2)]) wv_32 ∧ R (.tuple #[(.agg #[(.bool r0_2), (.slice r1_p_2 r1_n_2 r1_c_2), (.slice r2_p_2 r2_n_2 r2_c_2)]), (.bool t50)]) wv_32
def spec_RatAdd (r0 : Bool) (r1_p : Option Addr) (r1_n : Nat) (r1_c : Nat) (r2_p : Option Addr) (r2_n : Nat) (r2_c : Nat) (s0 : Bool) (s1_p : Option Addr) (s1_n : Nat) (s1_c : Nat) (s2_p : Option Addr) (s2_n : Nat) (s2_c : Nat) (w : World) (R : Value → World → Prop) : Prop :=
 ∀ (r : Nat) (wv : World), New w (.cells ⟨[(.bool r0), (.slice r1_p r1_n r1_c), (.slice r2_p r2_n r2_c)]⟩ 34 (0, 0)) r wv →
 ∀ (r_1 : Nat) (wv_1 : World), New wv (.cells ⟨[(.bool s0), (.slice s1_p s1_n s1_c), (.slice s2_p s2_n s2_c)]⟩ 34 (0, 0)) r_1 wv_1 →
 ∀ (r_2 : Nat) (wv_2 : World), New wv_1 (.cells ⟨[(.bool false), (.slice none 0 0), (.slice none 0 0)]⟩ 34 (0, 0)) r_2 wv_2 →
 ∃ (t90 : Bool) (t91_p : Option Addr) (t91_n : Nat) (t91_c : Nat) (t92_p : Option Addr) (t92_n : Nat) (t92_c : Nat), Loads P 34 ⟨r, 0, none⟩ (.agg #[(.bool t90), (.slice t91_p t91_n t91_c), (.slice t92_p t92_n t92_c)]) wv_2 ∧ Calls P 85 ⟨[(.agg #[(.bool t90), (.slice t91_p t91_n t91_c), (.slice t92_p t92_n t92_c)])]⟩ wv_2 fun e wv_3 =>
 ∃ (t10 : Bool), e = .returned (.bool t10) ∧
 ((!t10) = true →
 (true = true →
 ∃ wv_4, Stores P 34 ⟨r_2, 0, none⟩ (.agg #[(.bool false), (.slice none 0 0), (.slice none 0 0)]) wv_3 wv_4 ∧
 ∃ (r0_1 : Bool) (r1_p_1 : Option Addr) (r1_n_1 : Nat) (r1_c_1 : Nat) (r2_p_1 : Option Addr) (r2_n_1 : Nat) (r2_c_1 : Nat), Loads P 34 ⟨r_2, 0, none⟩ (.agg #[(.bool r0_1), (.slice r1_p_1 r1_n_1 r1_c_1), (.slice r2_p_1 r2_n_1 r2_c_1)]) wv_4 ∧ R (.tuple #[(.agg #[(.bool r0_1), (.slice r1_p_1 r1_n_1 r1_c_1), (.slice r2_p_1 r2_n_1 r2_c_1)]), (.bool false)]) wv_4) ∧
 (true = false →
 spec_RatAdd_j0 r r_1 r_2 wv_3 R)) ∧
 ((!t10) = false →
 ∃ (t130 : Bool) (t131_p : Option Addr) (t131_n : Nat) (t131_c : Nat) (t132_p : Option Addr) (t132_n : Nat) (t132_c : Nat), Loads P 34 ⟨r_1, 0, none⟩ (.agg #[(.bool t130), (.slice t131_p t131_n t131_c), (.slice t132_p t132_n t132_c)]) wv_3 ∧ Calls P 85 ⟨[(.agg #[(.bool t130), (.slice t131_p t131_n t131_c), (.slice t132_p t132_n t132_c)])]⟩ wv_3 fun e_8 wv_33 =>
 ∃ (t14 : Bool), e_8 = .returned (.bool t14) ∧
 ((!t14) = true →
 ∃ wv_34, Stores P 34 ⟨r_2, 0, none⟩ (.agg #[(.bool false), (.slice none 0 0), (.slice none 0 0)]) wv_33 wv_34 ∧
 ∃ (r0_3 : Bool) (r1_p_3 : Option Addr) (r1_n_3 : Nat) (r1_c_3 : Nat) (r2_p_3 : Option Addr) (r2_n_3 : Nat) (r2_c_3 : Nat), Loads P 34 ⟨r_2, 0, none⟩ (.agg #[(.bool r0_3), (.slice r1_p_3 r1_n_3 r1_c_3), (.slice r2_p_3 r2_n_3 r2_c_3)]) wv_34 ∧ R (.tuple #[(.agg #[(.bool r0_3), (.slice r1_p_3 r1_n_3 r1_c_3), (.slice r2_p_3 r2_n_3 r2_c_3)]), (.bool false)]) wv_34) ∧
 ((!t14) = false →
 spec_RatAdd_j0 r r_1 r_2 wv_33 R))
theorem spec_RatAdd_ret {r0 : Bool} {r1_p : Option Addr} {r1_n : Nat} {r1_c : Nat} {r2_p : Option Addr} {r2_n : Nat} {r2_c : Nat} {s0 : Bool} {s1_p : Option Addr} {s1_n : Nat} {s1_c : Nat} {s2_p : Option Addr} {s2_n : Nat} {s2_c : Nat} {w : World} {R : Value → World → Prop} (h : spec_RatAdd r0 r1_p r1_n r1_c r2_p r2_n r2_c s0 s1_p s1_n s1_c s2_p s2_n s2_c w R) : Ret P 52 [(.agg #[(.bool r0), (.slice r1_p r1_n r1_c), (.slice r2_p r2_n r2_c)]), (.agg #[(.bool s0), (.slice s1_p s1_n s1_c), (.slice s2_p s2_n s2_c)])] w R :=
  Ret.of_fsem Tryz.func52 rfl (Eq.mp (show _ = fsem P Tryz.f52 (fun k => []) _ R w from by kernel_rfl) h)
def spec_CurKnown (code : ByteArray) (w : World) (R : Value → World → Prop) : Prop :=
 Calls P 90 ⟨[(.string code)]⟩ w fun e wv =>
 ∃ (t40 : ByteArray) (t41 : ByteArray) (t42 : Int) (t43 : Int), e = .returned (.agg #[(.string t40), (.string t41), (.int .i64 t42), (.int .i64 t43)]) ∧
 R (.bool (decide (t40 ≠ (S [])))) wv
theorem spec_CurKnown_ret {code : ByteArray} {w : World} {R : Value → World → Prop} (h : spec_CurKnown code w R) : Ret P 53 [(.string code)] w R :=
  Ret.of_fsem Tryz.func53 rfl (Eq.mp (show _ = fsem P Tryz.f53 (fun k => []) _ R w from by kernel_rfl) h)
def spec_RatRest (r0 : Bool) (r1_p : Option Addr) (r1_n : Nat) (r1_c : Nat) (r2_p : Option Addr) (r2_n : Nat) (r2_c : Nat) (m : Int) (w : World) (R : Value → World → Prop) : Prop :=
 ∀ (r : Nat) (wv : World), New w (.cells ⟨[(.bool r0), (.slice r1_p r1_n r1_c), (.slice r2_p r2_n r2_c)]⟩ 34 (0, 0)) r wv →
 ∀ (r_1 : Nat) (wv_1 : World), New wv (.cells ⟨[(.bool false), (.slice none 0 0)]⟩ 30 (0, 0)) r_1 wv_1 →
 ∀ (r_2 : Nat) (wv_2 : World), New wv_1 (.cells ⟨[(.bool false), (.slice none 0 0), (.slice none 0 0)]⟩ 34 (0, 0)) r_2 wv_2 →
 ∃ (t140 : Bool) (t141_p : Option Addr) (t141_n : Nat) (t141_c : Nat) (t142_p : Option Addr) (t142_n : Nat) (t142_c : Nat), Loads P 34 ⟨r, 0, none⟩ (.agg #[(.bool t140), (.slice t141_p t141_n t141_c), (.slice t142_p t142_n t142_c)]) wv_2 ∧ Calls P 91 ⟨[(.agg #[(.bool t140), (.slice t141_p t141_n t141_c), (.slice t142_p t142_n t142_c)]), (.int .i64 m)]⟩ wv_2 fun e wv_3 =>
 ∃ (t160 : Bool) (t161_p : Option Addr) (t161_n : Nat) (t161_c : Nat) (t16 : Bool), e = .returned (.tuple #[(.agg #[(.bool t160), (.slice t161_p t161_n t161_c)]), (.bool t16)]) ∧
 ∀ (r_3 : Nat) (wv_4 : World), New wv_3 (.cells ⟨[(.bool false), (.slice none 0 0)]⟩ 30 (0, 0)) r_3 wv_4 →
 ∃ wv_5, Stores P 30 ⟨r_3, 0, none⟩ (.agg #[(.bool t160), (.slice t161_p t161_n t161_c)]) wv_4 wv_5 ∧
 ∃ (t200 : Bool) (t201_p : Option Addr) (t201_n : Nat) (t201_c : Nat), Loads P 30 ⟨r_3, 0, none⟩ (.agg #[(.bool t200), (.slice t201_p t201_n t201_c)]) wv_5 ∧ Calls P 47 ⟨[(.agg #[(.bool t200), (.slice t201_p t201_n t201_c)])]⟩ wv_5 fun e_1 wv_6 =>
 ∃ (t210 : Bool) (t211_p : Option Addr) (t211_n : Nat) (t211_c : Nat) (t212_p : Option Addr) (t212_n : Nat) (t212_c : Nat) (t21 : Bool), e_1 = .returned (.tuple #[(.agg #[(.bool t210), (.slice t211_p t211_n t211_c), (.slice t212_p t212_n t212_c)]), (.bool t21)]) ∧
 ∀ (r_4 : Nat) (wv_7 : World), New wv_6 (.cells ⟨[(.bool false), (.slice none 0 0), (.slice none 0 0)]⟩ 34 (0, 0)) r_4 wv_7 →
 ∃ wv_8, Stores P 34 ⟨r_4, 0, none⟩ (.agg #[(.bool t210), (.slice t211_p t211_n t211_c), (.slice t212_p t212_n t212_c)]) wv_7 wv_8 ∧
 ∃ (t250 : Bool) (t251_p : Option Addr) (t251_n : Nat) (t251_c : Nat) (t252_p : Option Addr) (t252_n : Nat) (t252_c : Nat), Loads P 34 ⟨r, 0, none⟩ (.agg #[(.bool t250), (.slice t251_p t251_n t251_c), (.slice t252_p t252_n t252_c)]) wv_8 ∧ ∃ (t260 : Bool) (t261_p : Option Addr) (t261_n : Nat) (t261_c : Nat) (t262_p : Option Addr) (t262_n : Nat) (t262_c : Nat), Loads P 34 ⟨r_4, 0, none⟩ (.agg #[(.bool t260), (.slice t261_p t261_n t261_c), (.slice t262_p t262_n t262_c)]) wv_8 ∧ Calls P 92 ⟨[(.agg #[(.bool t250), (.slice t251_p t251_n t251_c), (.slice t252_p t252_n t252_c)]), (.agg #[(.bool t260), (.slice t261_p t261_n t261_c), (.slice t262_p t262_n t262_c)])]⟩ wv_8 fun e_2 wv_9 =>
 ∃ (t270 : Bool) (t271_p : Option Addr) (t271_n : Nat) (t271_c : Nat) (t272_p : Option Addr) (t272_n : Nat) (t272_c : Nat) (t27 : Bool), e_2 = .returned (.tuple #[(.agg #[(.bool t270), (.slice t271_p t271_n t271_c), (.slice t272_p t272_n t272_c)]), (.bool t27)]) ∧
 ∀ (r_5 : Nat) (wv_10 : World), New wv_9 (.cells ⟨[(.bool false), (.slice none 0 0), (.slice none 0 0)]⟩ 34 (0, 0)) r_5 wv_10 →
 ∃ wv_11, Stores P 34 ⟨r_5, 0, none⟩ (.agg #[(.bool t270), (.slice t271_p t271_n t271_c), (.slice t272_p t272_n t272_c)]) wv_10 wv_11 ∧
 ((!t16) = true →
 (true = true →
 (true = true →
 ∃ wv_12, Stores P 30 ⟨r_1, 0, none⟩ (.agg #[(.bool false), (.slice none 0 0)]) wv_11 wv_12 ∧
 ∃ wv_13, Stores P 34 ⟨r_2, 0, none⟩ (.agg #[(.bool false), (.slice none 0 0), (.slice none 0 0)]) wv_12 wv_13 ∧
 ∃ (r0_1 : Bool) (r1_p_1 : Option Addr) (r1_n_1 : Nat) (r1_c_1 : Nat), Loads P 30 ⟨r_1, 0, none⟩ (.agg #[(.bool r0_1), (.slice r1_p_1 r1_n_1 r1_c_1)]) wv_13 ∧ ∃ (r0_2 : Bool) (r1_p_2 : Option Addr) (r1_n_2 : Nat) (r1_c_2 : Nat) (r2_p_1 : Option Addr) (r2_n_1 : Nat) (r2_c_1 : Nat), Loads P 34 ⟨r_2, 0, none⟩ (.agg #[(.bool r0_2), (.slice r1_p_2 r1_n_2 r1_c_2), (.slice r2_p_1 r2_n_1 r2_c_1)]) wv_13 ∧ R (.tuple #[(.agg #[(.bool r0_1), (.slice r1_p_1 r1_n_1 r1_c_1)]), (.agg #[(.bool r0_2), (.slice r1_p_2 r1_n_2 r1_c_2), (.slice r2_p_1 r2_n_1 r2_c_1)]), (.bool false)]) wv_13) ∧
 (true = false →
 ∃ blks : List Nat, ∃ (t420 : Bool) (t421_p : Option Addr) (t421_n : Nat) (t421_c : Nat), (∀ wv_14, EX blks wv_11.drew wv_14 → Loads P 30 ⟨r_3, 0, none⟩ (.agg #[(.bool t420), (.slice t421_p t421_n t421_c)]) wv_14) ∧ ∃ (t430 : Bool) (t431_p : Option Addr) (t431_n : Nat) (t431_c : Nat) (t432_p : Option Addr) (t432_n : Nat) (t432_c : Nat), (∀ wv_15, EX blks wv_11.drew wv_15 → Loads P 34 ⟨r_5, 0, none⟩ (.agg #[(.bool t430), (.slice t431_p t431_n t431_c), (.slice t432_p t432_n t432_c)]) wv_15) ∧ ∃ wv_16, Stores P 30 ⟨r_1, 0, none⟩ (.agg #[(.bool t420), (.slice t421_p t421_n t421_c)]) wv_11.drew wv_16 ∧
 EX blks wv_11.drew wv_16 ∧ ∃ wv_17, Stores P 34 ⟨r_2, 0, none⟩ (.agg #[(.bool t430), (.slice t431_p t431_n t431_c), (.slice t432_p t432_n t432_c)]) wv_16 wv_17 ∧
 ∃ (r0_3 : Bool) (r1_p_3 : Option Addr) (r1_n_3 : Nat) (r1_c_3 : Nat), Loads P 30 ⟨r_1, 0, none⟩ (.agg #[(.bool r0_3), (.slice r1_p_3 r1_n_3 r1_c_3)]) wv_17 ∧ ∃ (r0_4 : Bool) (r1_p_4 : Option Addr) (r1_n_4 : Nat) (r1_c_4 : Nat) (r2_p_2 : Option Addr) (r2_n_2 : Nat) (r2_c_2 : Nat), Loads P 34 ⟨r_2, 0, none⟩ (.agg #[(.bool r0_4), (.slice r1_p_4 r1_n_4 r1_c_4), (.slice r2_p_2 r2_n_2 r2_c_2)]) wv_17 ∧ R (.tuple #[(.agg #[(.bool r0_3), (.slice r1_p_3 r1_n_3 r1_c_3)]), (.agg #[(.bool r0_4), (.slice r1_p_4 r1_n_4 r1_c_4), (.slice r2_p_2 r2_n_2 r2_c_2)]), (.bool true)]) wv_17)) ∧
 (true = false →
 ((!t27) = true →
 ∃ wv_18, Stores P 30 ⟨r_1, 0, none⟩ (.agg #[(.bool false), (.slice none 0 0)]) wv_11 wv_18 ∧
 ∃ wv_19, Stores P 34 ⟨r_2, 0, none⟩ (.agg #[(.bool false), (.slice none 0 0), (.slice none 0 0)]) wv_18 wv_19 ∧
 ∃ (r0_5 : Bool) (r1_p_5 : Option Addr) (r1_n_5 : Nat) (r1_c_5 : Nat), Loads P 30 ⟨r_1, 0, none⟩ (.agg #[(.bool r0_5), (.slice r1_p_5 r1_n_5 r1_c_5)]) wv_19 ∧ ∃ (r0_6 : Bool) (r1_p_6 : Option Addr) (r1_n_6 : Nat) (r1_c_6 : Nat) (r2_p_3 : Option Addr) (r2_n_3 : Nat) (r2_c_3 : Nat), Loads P 34 ⟨r_2, 0, none⟩ (.agg #[(.bool r0_6), (.slice r1_p_6 r1_n_6 r1_c_6), (.slice r2_p_3 r2_n_3 r2_c_3)]) wv_19 ∧ R (.tuple #[(.agg #[(.bool r0_5), (.slice r1_p_5 r1_n_5 r1_c_5)]), (.agg #[(.bool r0_6), (.slice r1_p_6 r1_n_6 r1_c_6), (.slice r2_p_3 r2_n_3 r2_c_3)]), (.bool false)]) wv_19) ∧
 ((!t27) = false →
 ∃ blks_1 : List Nat, ∃ (t420_1 : Bool) (t421_p_1 : Option Addr) (t421_n_1 : Nat) (t421_c_1 : Nat), (∀ wv_20, EX blks_1 wv_11.drew wv_20 → Loads P 30 ⟨r_3, 0, none⟩ (.agg #[(.bool t420_1), (.slice t421_p_1 t421_n_1 t421_c_1)]) wv_20) ∧ ∃ (t430_1 : Bool) (t431_p_1 : Option Addr) (t431_n_1 : Nat) (t431_c_1 : Nat) (t432_p_1 : Option Addr) (t432_n_1 : Nat) (t432_c_1 : Nat), (∀ wv_21, EX blks_1 wv_11.drew wv_21 → Loads P 34 ⟨r_5, 0, none⟩ (.agg #[(.bool t430_1), (.slice t431_p_1 t431_n_1 t431_c_1), (.slice t432_p_1 t432_n_1 t432_c_1)]) wv_21) ∧ ∃ wv_22, Stores P 30 ⟨r_1, 0, none⟩ (.agg #[(.bool t420_1), (.slice t421_p_1 t421_n_1 t421_c_1)]) wv_11.drew wv_22 ∧
 EX blks_1 wv_11.drew wv_22 ∧ ∃ wv_23, Stores P 34 ⟨r_2, 0, none⟩ (.agg #[(.bool t430_1), (.slice t431_p_1 t431_n_1 t431_c_1), (.slice t432_p_1 t432_n_1 t432_c_1)]) wv_22 wv_23 ∧
 ∃ (r0_7 : Bool) (r1_p_7 : Option Addr) (r1_n_7 : Nat) (r1_c_7 : Nat), Loads P 30 ⟨r_1, 0, none⟩ (.agg #[(.bool r0_7), (.slice r1_p_7 r1_n_7 r1_c_7)]) wv_23 ∧ ∃ (r0_8 : Bool) (r1_p_8 : Option Addr) (r1_n_8 : Nat) (r1_c_8 : Nat) (r2_p_4 : Option Addr) (r2_n_4 : Nat) (r2_c_4 : Nat), Loads P 34 ⟨r_2, 0, none⟩ (.agg #[(.bool r0_8), (.slice r1_p_8 r1_n_8 r1_c_8), (.slice r2_p_4 r2_n_4 r2_c_4)]) wv_23 ∧ R (.tuple #[(.agg #[(.bool r0_7), (.slice r1_p_7 r1_n_7 r1_c_7)]), (.agg #[(.bool r0_8), (.slice r1_p_8 r1_n_8 r1_c_8), (.slice r2_p_4 r2_n_4 r2_c_4)]), (.bool true)]) wv_23))) ∧
 ((!t16) = false →
 ((!t21) = true →
 (true = true →
 ∃ wv_24, Stores P 30 ⟨r_1, 0, none⟩ (.agg #[(.bool false), (.slice none 0 0)]) wv_11 wv_24 ∧
 ∃ wv_25, Stores P 34 ⟨r_2, 0, none⟩ (.agg #[(.bool false), (.slice none 0 0), (.slice none 0 0)]) wv_24 wv_25 ∧
 ∃ (r0_9 : Bool) (r1_p_9 : Option Addr) (r1_n_9 : Nat) (r1_c_9 : Nat), Loads P 30 ⟨r_1, 0, none⟩ (.agg #[(.bool r0_9), (.slice r1_p_9 r1_n_9 r1_c_9)]) wv_25 ∧ ∃ (r0_10 : Bool) (r1_p_10 : Option Addr) (r1_n_10 : Nat) (r1_c_10 : Nat) (r2_p_5 : Option Addr) (r2_n_5 : Nat) (r2_c_5 : Nat), Loads P 34 ⟨r_2, 0, none⟩ (.agg #[(.bool r0_10), (.slice r1_p_10 r1_n_10 r1_c_10), (.slice r2_p_5 r2_n_5 r2_c_5)]) wv_25 ∧ R (.tuple #[(.agg #[(.bool r0_9), (.slice r1_p_9 r1_n_9 r1_c_9)]), (.agg #[(.bool r0_10), (.slice r1_p_10 r1_n_10 r1_c_10), (.slice r2_p_5 r2_n_5 r2_c_5)]), (.bool false)]) wv_25) ∧
 (true = false →
 ∃ blks_2 : List Nat, ∃ (t420_2 : Bool) (t421_p_2 : Option Addr) (t421_n_2 : Nat) (t421_c_2 : Nat), (∀ wv_26, EX blks_2 wv_11.drew wv_26 → Loads P 30 ⟨r_3, 0, none⟩ (.agg #[(.bool t420_2), (.slice t421_p_2 t421_n_2 t421_c_2)]) wv_26) ∧ ∃ (t430_2 : Bool) (t431_p_2 : Option Addr) (t431_n_2 : Nat) (t431_c_2 : Nat) (t432_p_2 : Option Addr) (t432_n_2 : Nat) (t432_c_2 : Nat), (∀ wv_27, EX blks_2 wv_11.drew wv_27 → Loads P 34 ⟨r_5, 0, none⟩ (.agg #[(.bool t430_2), (.slice t431_p_2 t431_n_2 t431_c_2), (.slice t432_p_2 t432_n_2 t432_c_2)]) wv_27) ∧ ∃ wv_28, Stores P 30 ⟨r_1, 0, none⟩ (.agg #[(.bool t420_2), (.slice t421_p_2 t421_n_2 t421_c_2)]) wv_11.drew wv_28 ∧
 EX blks_2 wv_11.drew wv_28 ∧ ∃ wv_29, Stores P 34 ⟨r_2, 0, none⟩ (.agg #[(.bool t430_2), (.slice t431_p_2 t431_n_2 t431_c_2), (.slice t432_p_2 t432_n_2 t432_c_2)]) wv_28 wv_29 ∧
 ∃ (r0_11 : Bool) (r1_p_11 : Option Addr) (r1_n_11 : Nat) (r1_c_11 : Nat), Loads P 30 ⟨r_1, 0, none⟩ (.agg #[(.bool r0_11), (.slice r1_p_11 r1_n_11 r1_c_11)]) wv_29 ∧ ∃ (r0_12 : Bool) (r1_p_12 : Option Addr) (r1_n_12 : Nat) (r1_c_12 : Nat) (r2_p_6 : Option Addr) (r2_n_6 : Nat) (r2_c_6 : Nat), Loads P 34 ⟨r_2, 0, none⟩ (.agg #[(.bool r0_12), (.slice r1_p_12 r1_n_12 r1_c_12), (.slice r2_p_6 r2_n_6 r2_c_6)]) wv_29 ∧ R (.tuple #[(.agg #[(.bool r0_11), (.slice r1_p_11 r1_n_11 r1_c_11)]), (.agg #[(.bool r0_12), (.slice r1_p_12 r1_n_12 r1_c_12), (.slice r2_p_6 r2_n_6 r2_c_6)]), (.bool true)]) wv_29)) ∧
 ((!t21) = false →
 ((!t27) = true →
 ∃ wv_30, Stores P 30 ⟨r_1, 0, none⟩ (.agg #[(.bool false), (.slice none 0 0)]) wv_11 wv_30 ∧
 ∃ wv_31, Stores P 34 ⟨r_2, 0, none⟩ (.agg #[(.bool false), (.slice none 0 0), (.slice none 0 0)]) wv_30 wv_31 ∧
 ∃ (r0_13 : Bool) (r1_p_13 : Option Addr) (r1_n_13 : Nat) (r1_c_13 : Nat), Loads P 30 ⟨r_1, 0, none⟩ (.agg #[(.bool r0_13), (.slice r1_p_13 r1_n_13 r1_c_13)]) wv_31 ∧ ∃ (r0_14 : Bool) (r1_p_14 : Option Addr) (r1_n_14 : Nat) (r1_c_14 : Nat) (r2_p_7 : Option Addr) (r2_n_7 : Nat) (r2_c_7 : Nat), Loads P 34 ⟨r_2, 0, none⟩ (.agg #[(.bool r0_14), (.slice r1_p_14 r1_n_14 r1_c_14), (.slice r2_p_7 r2_n_7 r2_c_7)]) wv_31 ∧ R (.tuple #[(.agg #[(.bool r0_13), (.slice r1_p_13 r1_n_13 r1_c_13)]), (.agg #[(.bool r0_14), (.slice r1_p_14 r1_n_14 r1_c_14), (.slice r2_p_7 r2_n_7 r2_c_7)]), (.bool false)]) wv_31) ∧
 ((!t27) = false →
 ∃ blks_3 : List Nat, ∃ (t420_3 : Bool) (t421_p_3 : Option Addr) (t421_n_3 : Nat) (t421_c_3 : Nat), (∀ wv_32, EX blks_3 wv_11.drew wv_32 → Loads P 30 ⟨r_3, 0, none⟩ (.agg #[(.bool t420_3), (.slice t421_p_3 t421_n_3 t421_c_3)]) wv_32) ∧ ∃ (t430_3 : Bool) (t431_p_3 : Option Addr) (t431_n_3 : Nat) (t431_c_3 : Nat) (t432_p_3 : Option Addr) (t432_n_3 : Nat) (t432_c_3 : Nat), (∀ wv_33, EX blks_3 wv_11.drew wv_33 → Loads P 34 ⟨r_5, 0, none⟩ (.agg #[(.bool t430_3), (.slice t431_p_3 t431_n_3 t431_c_3), (.slice t432_p_3 t432_n_3 t432_c_3)]) wv_33) ∧ ∃ wv_34, Stores P 30 ⟨r_1, 0, none⟩ (.agg #[(.bool t420_3), (.slice t421_p_3 t421_n_3 t421_c_3)]) wv_11.drew wv_34 ∧
 EX blks_3 wv_11.drew wv_34 ∧ ∃ wv_35, Stores P 34 ⟨r_2, 0, none⟩ (.agg #[(.bool t430_3), (.slice t431_p_3 t431_n_3 t431_c_3), (.slice t432_p_3 t432_n_3 t432_c_3)]) wv_34 wv_35 ∧
 ∃ (r0_15 : Bool) (r1_p_15 : Option Addr) (r1_n_15 : Nat) (r1_c_15 : Nat), Loads P 30 ⟨r_1, 0, none⟩ (.agg #[(.bool r0_15), (.slice r1_p_15 r1_n_15 r1_c_15)]) wv_35 ∧ ∃ (r0_16 : Bool) (r1_p_16 : Option Addr) (r1_n_16 : Nat) (r1_c_16 : Nat) (r2_p_8 : Option Addr) (r2_n_8 : Nat) (r2_c_8 : Nat), Loads P 34 ⟨r_2, 0, none⟩ (.agg #[(.bool r0_16), (.slice r1_p_16 r1_n_16 r1_c_16), (.slice r2_p_8 r2_n_8 r2_c_8)]) wv_35 ∧ R (.tuple #[(.agg #[(.bool r0_15), (.slice r1_p_15 r1_n_15 r1_c_15)]), (.agg #[(.bool r0_16), (.slice r1_p_16 r1_n_16 r1_c_16), (.slice r2_p_8 r2_n_8 r2_c_8)]), (.bool true)]) wv_35)))
theorem spec_RatRest_ret {r0 : Bool} {r1_p : Option Addr} {r1_n : Nat} {r1_c : Nat} {r2_p : Option Addr} {r2_n : Nat} {r2_c : Nat} {m : Int} {w : World} {R : Value → World → Prop} (h : spec_RatRest r0 r1_p r1_n r1_c r2_p r2_n r2_c m w R) : Ret P 54 [(.agg #[(.bool r0), (.slice r1_p r1_n r1_c), (.slice r2_p r2_n r2_c)]), (.int .i64 m)] w R :=
  Ret.of_fsem Tryz.func54 rfl (Eq.mp (show _ = fsem P Tryz.f54 (fun k => []) _ R w from by kernel_rfl) h)
def spec_l09Make (cur : ByteArray) (x0 : Bool) (x1_p : Option Addr) (x1_n : Nat) (x1_c : Nat) (w : World) (R : Value → World → Prop) : Prop :=
 ∀ (r : Nat) (wv : World), New w (.cells ⟨[(.bool x0), (.slice x1_p x1_n x1_c)]⟩ 30 (0, 0)) r wv →
 ∀ (r_1 : Nat) (wv_1 : World), New wv (.cells ⟨[(.string ByteArray.empty), (.bool false), (.slice none 0 0)]⟩ 32 (0, 0)) r_1 wv_1 →
 ∃ (t80 : Bool) (t81_p : Option Addr) (t81_n : Nat) (t81_c : Nat), Loads P 30 ⟨r, 0, none⟩ (.agg #[(.bool t80), (.slice t81_p t81_n t81_c)]) wv_1 ∧ ∀ (r_2 : Nat) (wv_2 : World), New wv_1 (.cells ⟨[(.string ByteArray.empty), (.bool false), (.slice none 0 0)]⟩ 32 (0, 0)) r_2 wv_2 →
 ∃ wv_3, Stores P 32 ⟨r_2, 0, none⟩ (.agg #[(.string cur), (.bool t80), (.slice t81_p t81_n t81_c)]) wv_2 wv_3 ∧
 ∃ (t100 : ByteArray) (t101 : Bool) (t102_p : Option Addr) (t102_n : Nat) (t102_c : Nat), Loads P 32 ⟨r_2, 0, none⟩ (.agg #[(.string t100), (.bool t101), (.slice t102_p t102_n t102_c)]) wv_3 ∧ Calls P 24 ⟨[(.agg #[(.string t100), (.bool t101), (.slice t102_p t102_n t102_c)])]⟩ wv_3 fun e wv_4 =>
 ∃ (t11 : Bool), e = .returned (.bool t11) ∧
 ((!t11) = true →
 ∃ wv_5, Stores P 32 ⟨r_1, 0, none⟩ (.agg #[(.string ByteArray.empty), (.bool false), (.slice none 0 0)]) wv_4 wv_5 ∧
 ∃ (r0 : ByteArray) (r1 : Bool) (r2_p : Option Addr) (r2_n : Nat) (r2_c : Nat), Loads P 32 ⟨r_1, 0, none⟩ (.agg #[(.string r0), (.bool r1), (.slice r2_p r2_n r2_c)]) wv_5 ∧ R (.tuple #[(.agg #[(.string r0), (.bool r1), (.slice r2_p r2_n r2_c)]), (.bool false)]) wv_5) ∧
 ((!t11) = false →
 ∃ (t140 : ByteArray) (t141 : Bool) (t142_p : Option Addr) (t142_n : Nat) (t142_c : Nat), Loads P 32 ⟨r_2, 0, none⟩ (.agg #[(.string t140), (.bool t141), (.slice t142_p t142_n t142_c)]) wv_4 ∧ ∃ wv_6, Stores P 32 ⟨r_1, 0, none⟩ (.agg #[(.string t140), (.bool t141), (.slice t142_p t142_n t142_c)]) wv_4 wv_6 ∧
 ∃ (r0_1 : ByteArray) (r1_1 : Bool) (r2_p_1 : Option Addr) (r2_n_1 : Nat) (r2_c_1 : Nat), Loads P 32 ⟨r_1, 0, none⟩ (.agg #[(.string r0_1), (.bool r1_1), (.slice r2_p_1 r2_n_1 r2_c_1)]) wv_6 ∧ R (.tuple #[(.agg #[(.string r0_1), (.bool r1_1), (.slice r2_p_1 r2_n_1 r2_c_1)]), (.bool true)]) wv_6)
theorem spec_l09Make_ret {cur : ByteArray} {x0 : Bool} {x1_p : Option Addr} {x1_n : Nat} {x1_c : Nat} {w : World} {R : Value → World → Prop} (h : spec_l09Make cur x0 x1_p x1_n x1_c w R) : Ret P 55 [(.string cur), (.agg #[(.bool x0), (.slice x1_p x1_n x1_c)])] w R :=
  Ret.of_fsem Tryz.func55 rfl (Eq.mp (show _ = fsem P Tryz.f55 (fun k => []) _ R w from by kernel_rfl) h)
def impl_CurKnown (code : ByteArray) (w : World) (R : Value → World → Prop) : Prop :=
 Calls P 93 ⟨[(.string code)]⟩ w fun e wv =>
 ∃ (t70 : ByteArray) (t71 : ByteArray) (t72 : Int) (t73 : Int) (t7 : Bool), e = .returned (.tuple #[(.agg #[(.string t70), (.string t71), (.int .i64 t72), (.int .i64 t73)]), (.bool t7)]) ∧
 ∀ (r : Nat) (wv_1 : World), New wv (.cells ⟨[(.string ByteArray.empty), (.string ByteArray.empty), (.int .i64 0), (.int .i64 0)]⟩ 109 (0, 0)) r wv_1 →
 ∃ wv_2, Stores P 109 ⟨r, 0, none⟩ (.agg #[(.string t70), (.string t71), (.int .i64 t72), (.int .i64 t73)]) wv_1 wv_2 ∧
 R (.bool t7) wv_2
theorem impl_CurKnown_ret {code : ByteArray} {w : World} {R : Value → World → Prop} (h : impl_CurKnown code w R) : Ret P 58 [(.string code)] w R :=
  Ret.of_fsem Tryz.func58 rfl (Eq.mp (show _ = fsem P Tryz.f58 (fun k => []) _ R w from by kernel_rfl) h)
def impl_IntOk (x0 : Bool) (x1_p : Option Addr) (x1_n : Nat) (x1_c : Nat) (w : World) (R : Value → World → Prop) : Prop :=
 ∀ (r : Nat) (wv : World), New w (.cells ⟨[(.bool x0), (.slice x1_p x1_n x1_c)]⟩ 30 (0, 0)) r wv →
 ∃ (t4_p : Option Addr) (t4_n : Nat) (t4_c : Nat), Loads P 23 ((⟨r, 0, none⟩ : Addr).add 1) (.slice t4_p t4_n t4_c) wv ∧ Calls P 94 ⟨[(.slice t4_p t4_n t4_c)]⟩ wv fun e wv_1 =>
 ∃ (t5 : Bool), e = .returned (.bool t5) ∧
 (t5 = true →
 ∃ (t8 : Bool), Loads P 4 ((⟨r, 0, none⟩ : Addr).add 0) (.bool t8) wv_1 ∧ ((!t8) = true →
 R (.bool true) wv_1) ∧
 ((!t8) = false →
 ∃ (t12_p : Option Addr) (t12_n : Nat) (t12_c : Nat), Loads P 23 ((⟨r, 0, none⟩ : Addr).add 1) (.slice t12_p t12_n t12_c) wv_1 ∧ R (.bool (decide ((0 : Int) < ((t12_n : Nat) : Int)))) wv_1)) ∧
 (t5 = false →
 R (.bool false) wv_1)
theorem impl_IntOk_ret {x0 : Bool} {x1_p : Option Addr} {x1_n : Nat} {x1_c : Nat} {w : World} {R : Value → World → Prop} (h : impl_IntOk x0 x1_p x1_n x1_c w R) : Ret P 59 [(.agg #[(.bool x0), (.slice x1_p x1_n x1_c)])] w R :=
  Ret.of_fsem Tryz.func59 rfl (Eq.mp (show _ = fsem P Tryz.f59 (fun k => []) _ R w from by kernel_rfl) h)
def impl_StepsOk_j0 (l_p : Option Addr) (l_n : Nat) (W : World) (R : Value → World → Prop) : Prop :=
 ∃ (Inv : Int → World → Prop) (mu : Int → World → Nat), Inv 0 W ∧
 ∀ (junk : Fr) (wv : World) (t22 : Int), Inv t22 wv →
 ((decide ((t22 : Int) < ((l_n : Nat) : Int))) = true →
 (0 ≤ (t22 : Int) ∧ (t22 : Int) < (l_n : Nat)) ∧ ptrS l_p fun ad => ∃ (t260 : Int) (t261 : Bool) (t262_p : Option Addr) (t262_n : Nat) (t262_c : Nat) (t263 : Int), Loads P 62 (ad.add (t22.toNat * 4)) (.agg #[(.int .i64 t260), (.bool t261), (.slice t262_p t262_n t262_c), (.int .i64 t263)]) wv ∧ ∀ (r : Nat) (wv_1 : World), New wv (.cells ⟨[(.int .i64 0), (.bool false), (.slice none 0 0), (.int .i64 0)]⟩ 62 (0, 0)) r wv_1 →
 ∃ wv_2, Stores P 62 ⟨r, 0, none⟩ (.agg #[(.int .i64 t260), (.bool t261), (.slice t262_p t262_n t262_c), (.int .i64 t263)]) wv_1 wv_2 ∧
 ∃ (t28 : Int), (∀ wv_3, Ext wv_2.drew wv_3 → Loads P 3 ((⟨r, 0, none⟩ : Addr).add 0) (.int .i64 t28) wv_3) ∧ ((decide ((1000000000 : Int) < t28)) = true →
 (true = true →
 (true = true →
 R (.bool false) wv_2.drew) ∧
 (true = false →
 ∃ t51 : Int, t51 = IntKind.wrap .i64 (t22 + 1) ∧ Inv t51 wv_2.drew ∧ mu t51 wv_2.drew < mu t22 wv)) ∧
 (true = false →
 ∃ (t470 : Bool) (t471_p : Option Addr) (t471_n : Nat) (t471_c : Nat) (t472 : Int), (∀ wv_4, Ext wv_2.drew wv_4 → Loads P 60 ((⟨r, 0, none⟩ : Addr).add 1) (.agg #[(.bool t470), (.slice t471_p t471_n t471_c), (.int .i64 t472)]) wv_4) ∧ Calls P 95 ⟨[(.agg #[(.bool t470), (.slice t471_p t471_n t471_c), (.int .i64 t472)])]⟩ wv_2.drew fun e wv_5 =>
 ∃ (t48 : Bool), e = .returned (.bool t48) ∧
 ((!t48) = true →
 R (.bool false) wv_5) ∧
 ((!t48) = false →
 ∃ t51_1 : Int, t51_1 = IntKind.wrap .i64 (t22 + 1) ∧ Inv t51_1 wv_5 ∧ mu t51_1 wv_5 < mu t22 wv))) ∧
 ((decide ((1000000000 : Int) < t28)) = false →
 ((decide ((0 : Int) < t22)) = true →
 ∃ t36 : Int, t36 = IntKind.wrap .i64 (t22 - 1) ∧ (0 ≤ (t36 : Int) ∧ (t36 : Int) < (l_n : Nat)) ∧ ptrS l_p fun ad_1 => ∃ (t39 : Int), (∀ wv_6, Ext wv_2.drew wv_6 → Loads P 3 ((ad_1.add (t36.toNat * 4)).add 0) (.int .i64 t39) wv_6) ∧ ∃ (t41 : Int), (∀ wv_7, Ext wv_2.drew wv_7 → Loads P 3 ((⟨r, 0, none⟩ : Addr).add 0) (.int .i64 t41) wv_7) ∧ ((decide ((t41 : Int) ≤ t39)) = true →
 (true = true →
 R (.bool false) wv_2.drew) ∧
 (true = false →
 ∃ t51_2 : Int, t51_2 = IntKind.wrap .i64 (t22 + 1) ∧ Inv t51_2 wv_2.drew ∧ mu t51_2 wv_2.drew < mu t22 wv)) ∧
 ((decide ((t41 : Int) ≤ t39)) = false →
 ∃ (t470_1 : Bool) (t471_p_1 : Option Addr) (t471_n_1 : Nat) (t471_c_1 : Nat) (t472_1 : Int), (∀ wv_8, Ext wv_2.drew wv_8 → Loads P 60 ((⟨r, 0, none⟩ : Addr).add 1) (.agg #[(.bool t470_1), (.slice t471_p_1 t471_n_1 t471_c_1), (.int .i64 t472_1)]) wv_8) ∧ Calls P 95 ⟨[(.agg #[(.bool t470_1), (.slice t471_p_1 t471_n_1 t471_c_1), (.int .i64 t472_1)])]⟩ wv_2.drew fun e_1 wv_9 =>
 ∃ (t48_1 : Bool), e_1 = .returned (.bool t48_1) ∧
 ((!t48_1) = true →
 R (.bool false) wv_9) ∧
 ((!t48_1) = false →
 ∃ t51_3 : Int, t51_3 = IntKind.wrap .i64 (t22 + 1) ∧ Inv t51_3 wv_9 ∧ mu t51_3 wv_9 < mu t22 wv))) ∧
 ((decide ((0 : Int) < t22)) = false →
 (false = true →
 (true = true →
 R (.bool false) wv_2.drew) ∧
 (true = false →
 ∃ t51_4 : Int, t51_4 = IntKind.wrap .i64 (t22 + 1) ∧ Inv t51_4 wv_2.drew ∧ mu t51_4 wv_2.drew < mu t22 wv)) ∧
 (false = false →
 ∃ (t470_2 : Bool) (t471_p_2 : Option Addr) (t471_n_2 : Nat) (t471_c_2 : Nat) (t472_2 : Int), (∀ wv_10, Ext wv_2.drew wv_10 → Loads P 60 ((⟨r, 0, none⟩ : Addr).add 1) (.agg #[(.bool t470_2), (.slice t471_p_2 t471_n_2 t471_c_2), (.int .i64 t472_2)]) wv_10) ∧ Calls P 95 ⟨[(.agg #[(.bool t470_2), (.slice t471_p_2 t471_n_2 t471_c_2), (.int .i64 t472_2)])]⟩ wv_2.drew fun e_2 wv_11 =>
 ∃ (t48_2 : Bool), e_2 = .returned (.bool t48_2) ∧
 ((!t48_2) = true →
 R (.bool false) wv_11) ∧
 ((!t48_2) = false →
 ∃ t51_5 : Int, t51_5 = IntKind.wrap .i64 (t22 + 1) ∧ Inv t51_5 wv_11 ∧ mu t51_5 wv_11 < mu t22 wv))))) ∧
 ((decide ((t22 : Int) < ((l_n : Nat) : Int))) = false →
 R (.bool true) wv)
def impl_StepsOk (l_p : Option Addr) (l_n : Nat) (l_c : Nat) (w : World) (R : Value → World → Prop) : Prop :=
 ((decide ((((l_n : Nat) : Int) : Int) < 1)) = true →
 (true = true →
 (true = true →
 R (.bool false) w) ∧
 (true = false →
 impl_StepsOk_j0 l_p l_n w R)) ∧
 (true = false →
 (0 ≤ (0 : Int) ∧ (0 : Int) < (l_n : Nat)) ∧ ptrS l_p fun ad_2 => ∃ (t17 : Int), Loads P 3 ((ad_2.add (0 * 4)).add 0) (.int .i64 t17) w ∧ ((decide ((t17 : Int) ≠ 0)) = true →
 R (.bool false) w) ∧
 ((decide ((t17 : Int) ≠ 0)) = false →
 impl_StepsOk_j0 l_p l_n w R))) ∧
 ((decide ((((l_n : Nat) : Int) : Int) < 1)) = false →
 ((decide ((8 : Int) < ((l_n : Nat) : Int))) = true →
 (true = true →
 R (.bool false) w) ∧
 (true = false →
 impl_StepsOk_j0 l_p l_n w R)) ∧
 ((decide ((8 : Int) < ((l_n : Nat) : Int))) = false →
 (0 ≤ (0 : Int) ∧ (0 : Int) < (l_n : Nat)) ∧ ptrS l_p fun ad_3 => ∃ (t17_1 : Int), Loads P 3 ((ad_3.add (0 * 4)).add 0) (.int .i64 t17_1) w ∧ ((decide ((t17_1 : Int) ≠ 0)) = true →
 R (.bool false) w) ∧
 ((decide ((t17_1 : Int) ≠ 0)) = false →
 impl_StepsOk_j0 l_p l_n w R)))
theorem impl_StepsOk_ret {l_p : Option Addr} {l_n : Nat} {l_c : Nat} {w : World} {R : Value → World → Prop} (h : impl_StepsOk l_p l_n l_c w R) : Ret P 60 [(.slice l_p l_n l_c)] w R :=
  Ret.of_fsem Tryz.func60 rfl (Eq.mp (show _ = fsem P Tryz.f60 (fun k => cond (Nat.beq k 5) [(22, .one (.int .i64))] ([])) _ R w from by kernel_rfl) h)
def impl_RatZero (w : World) (R : Value → World → Prop) : Prop :=
 ∀ (r : Nat) (wv : World), New w (.cells ⟨[(.bool false), (.slice none 0 0), (.slice none 0 0)]⟩ 34 (0, 0)) r wv →
 ∀ (r_1 : Nat) (wv_1 : World), New wv (.cells ⟨[(.int .i64 1)]⟩ 3 (0, 0)) r_1 wv_1 →
 ∃ wv_2, Stores P 34 ⟨r, 0, none⟩ (.agg #[(.bool false), (.slice none 0 0), (.slice (some ⟨r_1, 0, none⟩) 1 1)]) wv_1 wv_2 ∧
 ∃ (r0 : Bool) (r1_p : Option Addr) (r1_n : Nat) (r1_c : Nat) (r2_p : Option Addr) (r2_n : Nat) (r2_c : Nat), Loads P 34 ⟨r, 0, none⟩ (.agg #[(.bool r0), (.slice r1_p r1_n r1_c), (.slice r2_p r2_n r2_c)]) wv_2 ∧ R (.agg #[(.bool r0), (.slice r1_p r1_n r1_c), (.slice r2_p r2_n r2_c)]) wv_2
theorem impl_RatZero_ret {w : World} {R : Value → World → Prop} (h : impl_RatZero w R) : Ret P 61 [] w R :=
  Ret.of_fsem Tryz.func61 rfl (Eq.mp (show _ = fsem P Tryz.f61 (fun k => []) _ R w from by kernel_rfl) h)
def impl_natCmp (a_p : Option Addr) (a_n : Nat) (a_c : Nat) (b_p : Option Addr) (b_n : Nat) (b_c : Nat) (w : World) (R : Value → World → Prop) : Prop :=
 ((decide ((((a_n : Nat) : Int) : Int) ≠ ((b_n : Nat) : Int))) = true →
 ((decide ((((a_n : Nat) : Int) : Int) < ((b_n : Nat) : Int))) = true →
 R (.int .i64 (-1)) w) ∧
 ((decide ((((a_n : Nat) : Int) : Int) < ((b_n : Nat) : Int))) = false →
 R (.int .i64 1) w)) ∧
 ((decide ((((a_n : Nat) : Int) : Int) ≠ ((b_n : Nat) : Int))) = false →
 ∃ t18 : Int, t18 = IntKind.wrap .i64 (((a_n : Nat) : Int) - 1) ∧ ∃ (Inv : Int → World → Prop) (mu : Int → World → Nat), Inv t18 w ∧
 ∀ (junk : Fr) (wv : World) (i : Int), Inv i wv →
 ((decide ((0 : Int) ≤ i)) = true →
 (0 ≤ (i : Int) ∧ (i : Int) < (a_n : Nat)) ∧ ptrS a_p fun ad => ∃ (t26 : Int), (∀ wv_1, Ext wv.drew wv_1 → Loads P 3 (ad.add (i.toNat * 1)) (.int .i64 t26) wv_1) ∧ (0 ≤ (i : Int) ∧ (i : Int) < (b_n : Nat)) ∧ ptrS b_p fun ad_1 => ∃ (t30 : Int), (∀ wv_2, Ext wv.drew wv_2 → Loads P 3 (ad_1.add (i.toNat * 1)) (.int .i64 t30) wv_2) ∧ ((decide ((t26 : Int) ≠ t30)) = true →
 (0 ≤ (i : Int) ∧ (i : Int) < (a_n : Nat)) ∧ ptrS a_p fun ad_2 => ∃ (t35 : Int), (∀ wv_3, Ext wv.drew.drew wv_3 → Loads P 3 (ad_2.add (i.toNat * 1)) (.int .i64 t35) wv_3) ∧ (0 ≤ (i : Int) ∧ (i : Int) < (b_n : Nat)) ∧ ptrS b_p fun ad_3 => ∃ (t39 : Int), (∀ wv_4, Ext wv.drew.drew wv_4 → Loads P 3 (ad_3.add (i.toNat * 1)) (.int .i64 t39) wv_4) ∧ ((decide ((t35 : Int) < t39)) = true →
 R (.int .i64 (-1)) wv.drew.drew) ∧
 ((decide ((t35 : Int) < t39)) = false →
 R (.int .i64 1) wv.drew.drew)) ∧
 ((decide ((t26 : Int) ≠ t30)) = false →
 ∃ t22 : Int, t22 = IntKind.wrap .i64 (i - 1) ∧ Inv t22 wv.drew ∧ mu t22 wv.drew < mu i wv)) ∧
 ((decide ((0 : Int) ≤ i)) = false →
 R (.int .i64 0) wv))
theorem impl_natCmp_ret {a_p : Option Addr} {a_n : Nat} {a_c : Nat} {b_p : Option Addr} {b_n : Nat} {b_c : Nat} {w : World} {R : Value → World → Prop} (h : impl_natCmp a_p a_n a_c b_p b_n b_c w R) : Ret P 63 [(.slice a_p a_n a_c), (.slice b_p b_n b_c)] w R :=
  Ret.of_fsem Tryz.func63 rfl (Eq.mp (show _ = fsem P Tryz.f63 (fun k => cond (Nat.beq k 7) [(5, .one (.int .i64))] ([])) _ R w from by kernel_rfl) h)
def impl_NatOf (n : Int) (w : World) (R : Value → World → Prop) : Prop :=
 ((decide ((n : Int) < 0)) = true →
 R (.slice none 0 0) w) ∧
 ((decide ((n : Int) < 0)) = false →
 ∃ t6 : Int, t6 = IntKind.wrap .u64 n ∧ Calls P 97 ⟨[(.int .u64 t6)]⟩ w fun e wv =>
 ∃ (t7_p : Option Addr) (t7_n : Nat) (t7_c : Nat), e = .returned (.slice t7_p t7_n t7_c) ∧
 R (.slice t7_p t7_n t7_c) wv)
theorem impl_NatOf_ret {n : Int} {w : World} {R : Value → World → Prop} (h : impl_NatOf n w R) : Ret P 64 [(.int .i64 n)] w R :=
  Ret.of_fsem Tryz.func64 rfl (Eq.mp (show _ = fsem P Tryz.f64 (fun k => []) _ R w from by kernel_rfl) h)
def impl_natSub_j1 (a_n : Nat) (r : Nat) (wv_1 : World) (Inv : Int → Int → World → Prop) (mu : Int → Int → World → Nat) (borrow : Int) (t14 : Int) (borrow_1 : Int) (n_1 : Int) (W_1 : World) (R : Value → World → Prop) : Prop :=
 (0 ≤ (t14 : Int) ∧ (t14 : Int) < (a_n : Nat)) ∧ ∃ wv_2, Stores P 3 ((⟨r, 0, none⟩ : Addr).add (t14.toNat * 1)) (.int .i64 n_1) W_1 wv_2 ∧
 ∃ t41 : Int, t41 = IntKind.wrap .i64 (t14 + 1) ∧ Inv borrow_1 t41 wv_2 ∧ mu borrow_1 t41 wv_2 < mu borrow t14 wv_1
def impl_natSub_j0 (a_n : Nat) (r : Nat) (wv_1 : World) (Inv : Int → Int → World → Prop) (mu : Int → Int → World → Nat) (borrow : Int) (t14 : Int) (n : Int) (W : World) (R : Value → World → Prop) : Prop :=
 ((decide ((n : Int) < 0)) = true →
 ∃ t36 : Int, t36 = IntKind.wrap .i64 (n + 1000000000) ∧ impl_natSub_j1 a_n r wv_1 Inv mu borrow t14 1 t36 W R) ∧
 ((decide ((n : Int) < 0)) = false →
 impl_natSub_j1 a_n r wv_1 Inv mu borrow t14 0 n W R)
def impl_natSub (a_p : Option Addr) (a_n : Nat) (a_c : Nat) (b_p : Option Addr) (b_n : Nat) (b_c : Nat) (w : World) (R : Value → World → Prop) : Prop :=
 (0 ≤ (((a_n : Nat) : Int) : Int) ∧ (((a_n : Nat) : Int) : Int) ≤ ((a_n : Nat) : Int) ∧ ((8 : Nat) : Int) * ((a_n : Nat) : Int) ≤ 281474976710656) ∧
 ∀ (r : Nat) (wv : World), New w (.cells ⟨zeroRow (.int .i64 0) (a_n * 1)⟩ 3 (0, 0)) r wv →
 ∃ (Inv : Int → Int → World → Prop) (mu : Int → Int → World → Nat), Inv 0 0 wv ∧
 ∀ (junk : Fr) (wv_1 : World) (borrow : Int) (t14 : Int), Inv borrow t14 wv_1 →
 ((decide ((t14 : Int) < ((a_n : Nat) : Int))) = true →
 (0 ≤ (t14 : Int) ∧ (t14 : Int) < (a_n : Nat)) ∧ ptrS a_p fun ad => ∃ (t20 : Int), Loads P 3 (ad.add (t14.toNat * 1)) (.int .i64 t20) wv_1 ∧ ∃ t22 : Int, t22 = IntKind.wrap .i64 (t20 - borrow) ∧ ((decide ((t14 : Int) < ((b_n : Nat) : Int))) = true →
 (0 ≤ (t14 : Int) ∧ (t14 : Int) < (b_n : Nat)) ∧ ptrS b_p fun ad_1 => ∃ (t31 : Int), Loads P 3 (ad_1.add (t14.toNat * 1)) (.int .i64 t31) wv_1 ∧ ∃ t32 : Int, t32 = IntKind.wrap .i64 (t22 - t31) ∧ impl_natSub_j0 a_n r wv_1 Inv mu borrow t14 t32 wv_1 R) ∧
 ((decide ((t14 : Int) < ((b_n : Nat) : Int))) = false →
 impl_natSub_j0 a_n r wv_1 Inv mu borrow t14 t22 wv_1 R)) ∧
 ((decide ((t14 : Int) < ((a_n : Nat) : Int))) = false →
 Calls P 98 ⟨[(.slice (some ⟨r, 0, none⟩) a_n a_n)]⟩ wv_1 fun e wv_3 =>
 ∃ (t43_p : Option Addr) (t43_n : Nat) (t43_c : Nat), e = .returned (.slice t43_p t43_n t43_c) ∧
 R (.slice t43_p t43_n t43_c) wv_3)
theorem impl_natSub_ret {a_p : Option Addr} {a_n : Nat} {a_c : Nat} {b_p : Option Addr} {b_n : Nat} {b_c : Nat} {w : World} {R : Value → World → Prop} (h : impl_natSub a_p a_n a_c b_p b_n b_c w R) : Ret P 65 [(.slice a_p a_n a_c), (.slice b_p b_n b_c)] w R :=
  Ret.of_fsem Tryz.func65 rfl (Eq.mp (show _ = fsem P Tryz.f65 (fun k => cond (Nat.beq k 5) [(6, .one (.int .i64)), (14, .one (.int .i64))] ([])) _ R w from by kernel_rfl) h)
def impl_RatMul (r0 : Bool) (r1_p : Option Addr) (r1_n : Nat) (r1_c : Nat) (r2_p : Option Addr) (r2_n : Nat) (r2_c : Nat) (s0 : Bool) (s1_p : Option Addr) (s1_n : Nat) (s1_c : Nat) (s2_p : Option Addr) (s2_n : Nat) (s2_c : Nat) (w : World) (R : Value → World → Prop) : Prop :=
 ∀ (r : Nat) (wv : World), New w (.cells ⟨[(.bool r0), (.slice r1_p r1_n r1_c), (.slice r2_p r2_n r2_c)]⟩ 34 (0, 0)) r wv →
 ∀ (r_1 : Nat) (wv_1 : World), New wv (.cells ⟨[(.bool s0), (.slice s1_p s1_n s1_c), (.slice s2_p s2_n s2_c)]⟩ 34 (0, 0)) r_1 wv_1 →
 ∀ (r_2 : Nat) (wv_2 : World), New wv_1 (.cells ⟨[(.bool false), (.slice none 0 0), (.slice none 0 0)]⟩ 34 (0, 0)) r_2 wv_2 →
 ∃ (t60 : Bool) (t61_p : Option Addr) (t61_n : Nat) (t61_c : Nat) (t62_p : Option Addr) (t62_n : Nat) (t62_c : Nat), Loads P 34 ⟨r, 0, none⟩ (.agg #[(.bool t60), (.slice t61_p t61_n t61_c), (.slice t62_p t62_n t62_c)]) wv_2 ∧ ∃ (t70 : Bool) (t71_p : Option Addr) (t71_n : Nat) (t71_c : Nat) (t72_p : Option Addr) (t72_n : Nat) (t72_c : Nat), Loads P 34 ⟨r_1, 0, none⟩ (.agg #[(.bool t70), (.slice t71_p t71_n t71_c), (.slice t72_p t72_n t72_c)]) wv_2 ∧ Calls P 99 ⟨[(.agg #[(.bool t60), (.slice t61_p t61_n t61_c), (.slice t62_p t62_n t62_c)]), (.agg #[(.bool t70), (.slice t71_p t71_n t71_c), (.slice t72_p t72_n t72_c)])]⟩ wv_2 fun e wv_3 =>
 ∃ (t8 : Bool), e = .returned (.bool t8) ∧
 ((!t8) = true →
 ∃ wv_4, Stores P 34 ⟨r_2, 0, none⟩ (.agg #[(.bool false), (.slice none 0 0), (.slice none 0 0)]) wv_3 wv_4 ∧
 ∃ (r0_1 : Bool) (r1_p_1 : Option Addr) (r1_n_1 : Nat) (r1_c_1 : Nat) (r2_p_1 : Option Addr) (r2_n_1 : Nat) (r2_c_1 : Nat), Loads P 34 ⟨r_2, 0, none⟩ (.agg #[(.bool r0_1), (.slice r1_p_1 r1_n_1 r1_c_1), (.slice r2_p_1 r2_n_1 r2_c_1)]) wv_4 ∧ R (.tuple #[(.agg #[(.bool r0_1), (.slice r1_p_1 r1_n_1 r1_c_1), (.slice r2_p_1 r2_n_1 r2_c_1)]), (.bool false)]) wv_4) ∧
 ((!t8) = false →
 ∃ (t120 : Bool) (t121_p : Option Addr) (t121_n : Nat) (t121_c : Nat), (∀ wv_5, Ext wv_3.drew wv_5 → Loads P 30 ((⟨r, 0, none⟩ : Addr).add 0) (.agg #[(.bool t120), (.slice t121_p t121_n t121_c)]) wv_5) ∧ ∃ (t140 : Bool) (t141_p : Option Addr) (t141_n : Nat) (t141_c : Nat), (∀ wv_6, Ext wv_3.drew wv_6 → Loads P 30 ((⟨r_1, 0, none⟩ : Addr).add 0) (.agg #[(.bool t140), (.slice t141_p t141_n t141_c)]) wv_6) ∧ Calls P 101 ⟨[(.agg #[(.bool t120), (.slice t121_p t121_n t121_c)]), (.agg #[(.bool t140), (.slice t141_p t141_n t141_c)])]⟩ wv_3.drew fun e_1 wv_7 =>
 ∃ (t150 : Bool) (t151_p : Option Addr) (t151_n : Nat) (t151_c : Nat), e_1 = .returned (.agg #[(.bool t150), (.slice t151_p t151_n t151_c)]) ∧
 Ext wv_3.drew wv_7 ∧ ∃ (t17_p : Option Addr) (t17_n : Nat) (t17_c : Nat), (∀ wv_8, Ext wv_3.drew wv_8 → Loads P 23 ((⟨r, 0, none⟩ : Addr).add 2) (.slice t17_p t17_n t17_c) wv_8) ∧ ∃ (t19_p : Option Addr) (t19_n : Nat) (t19_c : Nat), (∀ wv_9, Ext wv_3.drew wv_9 → Loads P 23 ((⟨r_1, 0, none⟩ : Addr).add 2) (.slice t19_p t19_n t19_c) wv_9) ∧ Calls P 102 ⟨[(.slice t17_p t17_n t17_c), (.slice t19_p t19_n t19_c)]⟩ wv_7 fun e_2 wv_10 =>
 ∃ (t20_p : Option Addr) (t20_n : Nat) (t20_c : Nat), e_2 = .returned (.slice t20_p t20_n t20_c) ∧
 Calls P 100 ⟨[(.agg #[(.bool t150), (.slice t151_p t151_n t151_c)]), (.slice t20_p t20_n t20_c)]⟩ wv_10 fun e_3 wv_11 =>
 ∃ (t210 : Bool) (t211_p : Option Addr) (t211_n : Nat) (t211_c : Nat) (t212_p : Option Addr) (t212_n : Nat) (t212_c : Nat) (t21 : Bool), e_3 = .returned (.tuple #[(.agg #[(.bool t210), (.slice t211_p t211_n t211_c), (.slice t212_p t212_n t212_c)]), (.bool t21)]) ∧
 ∃ wv_12, Stores P 34 ⟨r_2, 0, none⟩ (.agg #[(.bool t210), (.slice t211_p t211_n t211_c), (.slice t212_p t212_n t212_c)]) wv_11 wv_12 ∧
 ∃ (r0_2 : Bool) (r1_p_2 : Option Addr) (r1_n_2 : Nat) (r1_c_2 : Nat) (r2_p_2 : Option Addr) (r2_n_2 : Nat) (r2_c_2 : Nat), Loads P 34 ⟨r_2, 0, none⟩ (.agg #[(.bool r0_2), (.slice r1_p_2 r1_n_2 r1_c_2), (.slice r2_p_2 r2_n_2 r2_c_2)]) wv_12 ∧ R (.tuple #[(.agg #[(.bool r0_2), (.slice r1_p_2 r1_n_2 r1_c_2), (.slice r2_p_2 r2_n_2 r2_c_2)]), (.bool t21)]) wv_12)
theorem impl_RatMul_ret {r0 : Bool} {r1_p : Option Addr} {r1_n : Nat} {r1_c : Nat} {r2_p : Option Addr} {r2_n : Nat} {r2_c : Nat} {s0 : Bool} {s1_p : Option Addr} {s1_n : Nat} {s1_c : Nat} {s2_p : Option Addr} {s2_n : Nat} {s2_c : Nat} {w : World} {R : Value → World → Prop} (h : impl_RatMul r0 r1_p r1_n r1_c r2_p r2_n r2_c s0 s1_p s1_n s1_c s2_p s2_n s2_c w R) : Ret P 66 [(.agg #[(.bool r0), (.slice r1_p r1_n r1_c), (.slice r2_p r2_n r2_c)]), (.agg #[(.bool s0), (.slice s1_p s1_n s1_c), (.slice s2_p s2_n s2_c)])] w R :=
  Ret.of_fsem Tryz.func66 rfl (Eq.mp (show _ = fsem P Tryz.f66 (fun k => []) _ R w from by kernel_rfl) h)
def impl_DecRat (d0 : Bool) (d1_p : Option Addr) (d1_n : Nat) (d1_c : Nat) (d2 : Int) (w : World) (R : Value → World → Prop) : Prop :=
 ∀ (r : Nat) (wv : World), New w (.cells ⟨[(.bool d0), (.slice d1_p d1_n d1_c), (.int .i64 d2)]⟩ 60 (0, 0)) r wv →
 ∀ (r_1 : Nat) (wv_1 : World), New wv (.cells ⟨[(.bool false), (.slice none 0 0), (.slice none 0 0)]⟩ 34 (0, 0)) r_1 wv_1 →
 ∃ (t50 : Bool) (t51_p : Option Addr) (t51_n : Nat) (t51_c : Nat) (t52 : Int), Loads P 60 ⟨r, 0, none⟩ (.agg #[(.bool t50), (.slice t51_p t51_n t51_c), (.int .i64 t52)]) wv_1 ∧ Calls P 103 ⟨[(.agg #[(.bool t50), (.slice t51_p t51_n t51_c), (.int .i64 t52)])]⟩ wv_1 fun e wv_2 =>
 ∃ (t6 : Bool), e = .returned (.bool t6) ∧
 ((!t6) = true →
 ∃ wv_3, Stores P 34 ⟨r_1, 0, none⟩ (.agg #[(.bool false), (.slice none 0 0), (.slice none 0 0)]) wv_2 wv_3 ∧
 ∃ (r0 : Bool) (r1_p : Option Addr) (r1_n : Nat) (r1_c : Nat) (r2_p : Option Addr) (r2_n : Nat) (r2_c : Nat), Loads P 34 ⟨r_1, 0, none⟩ (.agg #[(.bool r0), (.slice r1_p r1_n r1_c), (.slice r2_p r2_n r2_c)]) wv_3 ∧ R (.agg #[(.bool r0), (.slice r1_p r1_n r1_c), (.slice r2_p r2_n r2_c)]) wv_3) ∧
 ((!t6) = false →
 ∃ (t110 : Bool) (t111_p : Option Addr) (t111_n : Nat) (t111_c : Nat), (∀ wv_4, Ext wv_2.drew wv_4 → Loads P 30 ((⟨r, 0, none⟩ : Addr).add 0) (.agg #[(.bool t110), (.slice t111_p t111_n t111_c)]) wv_4) ∧ ∃ (t13 : Int), (∀ wv_5, Ext wv_2.drew wv_5 → Loads P 3 ((⟨r, 0, none⟩ : Addr).add 2) (.int .i64 t13) wv_5) ∧ ∀ (ss : List (Option Nat)) (wv_6 : World), Fl [.cells ⟨[(.bool false), (.slice none 0 0), (.slice none 0 0)]⟩ 34 (0, 0)] [none] wv_2.drew ss wv_6 →
 Calls P 104 ⟨[(.int .i64 t13)]⟩ wv_6 fun e_1 wv_7 =>
 ∃ (t14_p : Option Addr) (t14_n : Nat) (t14_c : Nat), e_1 = .returned (.slice t14_p t14_n t14_c) ∧
 Ext wv_6 wv_7 ∧ ∀ (ss_1 : List (Option Nat)) (wv_8 : World), Fl [.cells ⟨[(.bool false), (.slice none 0 0), (.slice none 0 0)]⟩ 34 (0, 0)] ss wv_7 ss_1 wv_8 →
 Calls P 100 ⟨[(.agg #[(.bool t110), (.slice t111_p t111_n t111_c)]), (.slice t14_p t14_n t14_c)]⟩ wv_8 fun e_2 wv_9 =>
 ∃ (t150 : Bool) (t151_p : Option Addr) (t151_n : Nat) (t151_c : Nat) (t152_p : Option Addr) (t152_n : Nat) (t152_c : Nat) (t15 : Bool), e_2 = .returned (.tuple #[(.agg #[(.bool t150), (.slice t151_p t151_n t151_c), (.slice t152_p t152_n t152_c)]), (.bool t15)]) ∧
 ∀ (ss_2 : List (Option Nat)) (wv_10 : World) (r_2 : Nat), Fl [.cells ⟨[(.bool false), (.slice none 0 0), (.slice none 0 0)]⟩ 34 (0, 0)] ss_1 wv_9 ss_2 wv_10 → ss_2[0]? = some (some r_2) →
 ∃ wv_11, Stores P 34 ⟨r_2, 0, none⟩ (.agg #[(.bool t150), (.slice t151_p t151_n t151_c), (.slice t152_p t152_n t152_c)]) wv_10 wv_11 ∧
 ∃ (t180 : Bool) (t181_p : Option Addr) (t181_n : Nat) (t181_c : Nat) (t182_p : Option Addr) (t182_n : Nat) (t182_c : Nat), Loads P 34 ⟨r_2, 0, none⟩ (.agg #[(.bool t180), (.slice t181_p t181_n t181_c), (.slice t182_p t182_n t182_c)]) wv_11 ∧ ∃ wv_12, Stores P 34 ⟨r_1, 0, none⟩ (.agg #[(.bool t180), (.slice t181_p t181_n t181_c), (.slice t182_p t182_n t182_c)]) wv_11 wv_12 ∧
 ∃ (r0_1 : Bool) (r1_p_1 : Option Addr) (r1_n_1 : Nat) (r1_c_1 : Nat) (r2_p_1 : Option Addr) (r2_n_1 : Nat) (r2_c_1 : Nat), Loads P 34 ⟨r_1, 0, none⟩ (.agg #[(.bool r0_1), (.slice r1_p_1 r1_n_1 r1_c_1), (.slice r2_p_1 r2_n_1 r2_c_1)]) wv_12 ∧ R (.agg #[(.bool r0_1), (.slice r1_p_1 r1_n_1 r1_c_1), (.slice r2_p_1 r2_n_1 r2_c_1)]) wv_12)
theorem impl_DecRat_ret {d0 : Bool} {d1_p : Option Addr} {d1_n : Nat} {d1_c : Nat} {d2 : Int} {w : World} {R : Value → World → Prop} (h : impl_DecRat d0 d1_p d1_n d1_c d2 w R) : Ret P 67 [(.agg #[(.bool d0), (.slice d1_p d1_n d1_c), (.int .i64 d2)])] w R :=
  Ret.of_fsem Tryz.func67 rfl (Eq.mp (show _ = fsem P Tryz.f67 (fun k => []) _ R w from by kernel_rfl) h)
def impl_RatAdd (r0 : Bool) (r1_p : Option Addr) (r1_n : Nat) (r1_c : Nat) (r2_p : Option Addr) (r2_n : Nat) (r2_c : Nat) (s0 : Bool) (s1_p : Option Addr) (s1_n : Nat) (s1_c : Nat) (s2_p : Option Addr) (s2_n : Nat) (s2_c : Nat) (w : World) (R : Value → World → Prop) : Prop :=
 ∀ (r : Nat) (wv : World), New w (.cells ⟨[(.bool r0), (.slice r1_p r1_n r1_c), (.slice r2_p r2_n r2_c)]⟩ 34 (0, 0)) r wv →
 ∀ (r_1 : Nat) (wv_1 : World), New wv (.cells ⟨[(.bool s0), (.slice s1_p s1_n s1_c), (.slice s2_p s2_n s2_c)]⟩ 34 (0, 0)) r_1 wv_1 →
 ∀ (r_2 : Nat) (wv_2 : World), New wv_1 (.cells ⟨[(.bool false), (.slice none 0 0), (.slice none 0 0)]⟩ 34 (0, 0)) r_2 wv_2 →
 ∃ (t80 : Bool) (t81_p : Option Addr) (t81_n : Nat) (t81_c : Nat) (t82_p : Option Addr) (t82_n : Nat) (t82_c : Nat), Loads P 34 ⟨r, 0, none⟩ (.agg #[(.bool t80), (.slice t81_p t81_n t81_c), (.slice t82_p t82_n t82_c)]) wv_2 ∧ ∃ (t90 : Bool) (t91_p : Option Addr) (t91_n : Nat) (t91_c : Nat) (t92_p : Option Addr) (t92_n : Nat) (t92_c : Nat), Loads P 34 ⟨r_1, 0, none⟩ (.agg #[(.bool t90), (.slice t91_p t91_n t91_c), (.slice t92_p t92_n t92_c)]) wv_2 ∧ Calls P 99 ⟨[(.agg #[(.bool t80), (.slice t81_p t81_n t81_c), (.slice t82_p t82_n t82_c)]), (.agg #[(.bool t90), (.slice t91_p t91_n t91_c), (.slice t92_p t92_n t92_c)])]⟩ wv_2 fun e wv_3 =>
 ∃ (t10 : Bool), e = .returned (.bool t10) ∧
 ((!t10) = true →
 ∃ wv_4, Stores P 34 ⟨r_2, 0, none⟩ (.agg #[(.bool false), (.slice none 0 0), (.slice none 0 0)]) wv_3 wv_4 ∧
 ∃ (r0_1 : Bool) (r1_p_1 : Option Addr) (r1_n_1 : Nat) (r1_c_1 : Nat) (r2_p_1 : Option Addr) (r2_n_1 : Nat) (r2_c_1 : Nat), Loads P 34 ⟨r_2, 0, none⟩ (.agg #[(.bool r0_1), (.slice r1_p_1 r1_n_1 r1_c_1), (.slice r2_p_1 r2_n_1 r2_c_1)]) wv_4 ∧ R (.tuple #[(.agg #[(.bool r0_1), (.slice r1_p_1 r1_n_1 r1_c_1), (.slice r2_p_1 r2_n_1 r2_c_1)]), (.bool false)]) wv_4) ∧
 ((!t10) = false →
 ∃ (t130 : Bool) (t131_p : Option Addr) (t131_n : Nat) (t131_c : Nat) (t132_p : Option Addr) (t132_n : Nat) (t132_c : Nat), (∀ wv_5, Ext wv_3.drew wv_5 → Loads P 34 ⟨r, 0, none⟩ (.agg #[(.bool t130), (.slice t131_p t131_n t131_c), (.slice t132_p t132_n t132_c)]) wv_5) ∧ ∃ (t150 : Bool) (t151_p : Option Addr) (t151_n : Nat) (t151_c : Nat) (t152_p : Option Addr) (t152_n : Nat) (t152_c : Nat), (∀ wv_6, Ext wv_3.drew wv_6 → Loads P 34 ⟨r_1, 0, none⟩ (.agg #[(.bool t150), (.slice t151_p t151_n t151_c), (.slice t152_p t152_n t152_c)]) wv_6) ∧ ∃ (t19_p : Option Addr) (t19_n : Nat) (t19_c : Nat), (∀ wv_7, Ext wv_3.drew.drew wv_7 → Loads P 23 ((⟨r_1, 0, none⟩ : Addr).add 2) (.slice t19_p t19_n t19_c) wv_7) ∧ CallW P (.func (.func 105) #[(.agg #[(.bool t130), (.slice t131_p t131_n t131_c), (.slice t132_p t132_n t132_c)])] #[]) [(.slice t19_p t19_n t19_c)] wv_3.drew.drew fun e_1 wv_8 =>
 ∃ (t200 : Bool) (t201_p : Option Addr) (t201_n : Nat) (t201_c : Nat), e_1 = .returned (.agg #[(.bool t200), (.slice t201_p t201_n t201_c)]) ∧
 Ext wv_3.drew.drew wv_8 ∧ ∃ (t23_p : Option Addr) (t23_n : Nat) (t23_c : Nat), (∀ wv_9, Ext wv_3.drew.drew wv_9 → Loads P 23 ((⟨r, 0, none⟩ : Addr).add 2) (.slice t23_p t23_n t23_c) wv_9) ∧ CallW P (.func (.func 105) #[(.agg #[(.bool t150), (.slice t151_p t151_n t151_c), (.slice t152_p t152_n t152_c)])] #[]) [(.slice t23_p t23_n t23_c)] wv_8 fun e_2 wv_10 =>
 ∃ (t240 : Bool) (t241_p : Option Addr) (t241_n : Nat) (t241_c : Nat), e_2 = .returned (.agg #[(.bool t240), (.slice t241_p t241_n t241_c)]) ∧
 Ext wv_8 wv_10 ∧ Calls P 74 ⟨[(.agg #[(.bool t200), (.slice t201_p t201_n t201_c)]), (.agg #[(.bool t240), (.slice t241_p t241_n t241_c)])]⟩ wv_10 fun e_3 wv_11 =>
 ∃ (t250 : Bool) (t251_p : Option Addr) (t251_n : Nat) (t251_c : Nat), e_3 = .returned (.agg #[(.bool t250), (.slice t251_p t251_n t251_c)]) ∧
 Ext wv_10 wv_11 ∧ ∃ (t27_p : Option Addr) (t27_n : Nat) (t27_c : Nat), (∀ wv_12, Ext wv_3.drew.drew wv_12 → Loads P 23 ((⟨r, 0, none⟩ : Addr).add 2) (.slice t27_p t27_n t27_c) wv_12) ∧ ∃ (t29_p : Option Addr) (t29_n : Nat) (t29_c : Nat), (∀ wv_13, Ext wv_3.drew.drew wv_13 → Loads P 23 ((⟨r_1, 0, none⟩ : Addr).add 2) (.slice t29_p t29_n t29_c) wv_13) ∧ Calls P 102 ⟨[(.slice t27_p t27_n t27_c), (.slice t29_p t29_n t29_c)]⟩ wv_11 fun e_4 wv_14 =>
 ∃ (t30_p : Option Addr) (t30_n : Nat) (t30_c : Nat), e_4 = .returned (.slice t30_p t30_n t30_c) ∧
 Calls P 100 ⟨[(.agg #[(.bool t250), (.slice t251_p t251_n t251_c)]), (.slice t30_p t30_n t30_c)]⟩ wv_14 fun e_5 wv_15 =>
 ∃ (t310 : Bool) (t311_p : Option Addr) (t311_n : Nat) (t311_c : Nat) (t312_p : Option Addr) (t312_n : Nat) (t312_c : Nat) (t31 : Bool), e_5 = .returned (.tuple #[(.agg #[(.bool t310), (.slice t311_p t311_n t311_c), (.slice t312_p t312_n t312_c)]), (.bool t31)]) ∧
 ∃ wv_16, Stores P 34 ⟨r_2, 0, none⟩ (.agg #[(.bool t310), (.slice t311_p t311_n t311_c), (.slice t312_p t312_n t312_c)]) wv_15 wv_16 ∧
 ∃ (r0_2 : Bool) (r1_p_2 : Option Addr) (r1_n_2 : Nat) (r1_c_2 : Nat) (r2_p_2 : Option Addr) (r2_n_2 : Nat) (r2_c_2 : Nat), Loads P 34 ⟨r_2, 0, none⟩ (.agg #[(.bool r0_2), (.slice r1_p_2 r1_n_2 r1_c_2), (.slice r2_p_2 r2_n_2 r2_c_2)]) wv_16 ∧ R (.tuple #[(.agg #[(.bool r0_2), (.slice r1_p_2 r1_n_2 r1_c_2), (.slice r2_p_2 r2_n_2 r2_c_2)]), (.bool t31)]) wv_16)
theorem impl_RatAdd_ret {r0 : Bool} {r1_p : Option Addr} {r1_n : Nat} {r1_c : Nat} {r2_p : Option Addr} {r2_n : Nat} {r2_c : Nat} {s0 : Bool} {s1_p : Option Addr} {s1_n : Nat} {s1_c : Nat} {s2_p : Option Addr} {s2_n : Nat} {s2_c : Nat} {w : World} {R : Value → World → Prop} (h : impl_RatAdd r0 r1_p r1_n r1_c r2_p r2_n r2_c s0 s1_p s1_n s1_c s2_p s2_n s2_c w R) : Ret P 68 [(.agg #[(.bool r0), (.slice r1_p r1_n r1_c), (.slice r2_p r2_n r2_c)]), (.agg #[(.bool s0), (.slice s1_p s1_n s1_c), (.slice s2_p s2_n s2_c)])] w R :=
  Ret.of_fsem Tryz.func68 rfl (Eq.mp (show _ = fsem P Tryz.f68 (fun k => []) _ R w from by kernel_rfl) h)
end Go.Proofs.YtmajiilehdpdmaaGreatDoor
