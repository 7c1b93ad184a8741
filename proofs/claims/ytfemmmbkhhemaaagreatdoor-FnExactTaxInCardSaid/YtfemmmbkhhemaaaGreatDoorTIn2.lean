/-
  Parts of the proof of taxIn_holds: G2, G3, G4.
  Conditions: none.
-/
import Derived.Test.YtfemmmbkhhemaaaGreatDoorTIn1

namespace Go.Proofs.YtfemmmbkhhemaaaGreatDoor
open Go Go.Proofs.YtfemmmbkhhemaaaGreatDoor.Sx
set_option linter.unusedVariables false
set_option maxRecDepth 100000
def spec_TaxIn_j0 (mode : Int) (r : Nat) (r_1 : Nat) (r_2 : Nat) (r_3 : Nat) (r_4 : Nat) (W : World) (R : Value → World → Prop) : Prop :=
  Calls P 58 ⟨[(.int .i64 1)]⟩ W fun e_1 wv_9 =>
  ∃ (t330 : Bool) (t331_p : Option Addr) (t331_n : Nat) (t331_c : Nat), e_1 = .returned (.agg #[(.bool t330), (.slice t331_p t331_n t331_c)]) ∧
  Calls P 57 ⟨[(.agg #[(.bool t330), (.slice t331_p t331_n t331_c)])]⟩ wv_9 fun e_2 wv_10 =>
  ∃ (t340 : Bool) (t341_p : Option Addr) (t341_n : Nat) (t341_c : Nat) (t342_p : Option Addr) (t342_n : Nat) (t342_c : Nat) (t34 : Bool), e_2 = .returned (.tuple #[(.agg #[(.bool t340), (.slice t341_p t341_n t341_c), (.slice t342_p t342_n t342_c)]), (.bool t34)]) ∧
  ∀ (r_5 : Nat) (wv_11 : World), New wv_10 (.cells ⟨[(.bool false), (.slice none 0 0), (.slice none 0 0)]⟩ 35 (0, 0)) r_5 wv_11 →
  ∃ wv_12, Stores P 35 ⟨r_5, 0, none⟩ (.agg #[(.bool t340), (.slice t341_p t341_n t341_c), (.slice t342_p t342_n t342_c)]) wv_11 wv_12 ∧
  ∃ (t380 : Bool) (t381_p : Option Addr) (t381_n : Nat) (t381_c : Nat) (t382_p : Option Addr) (t382_n : Nat) (t382_c : Nat), (∀ wv_13, Ext wv_12.drew wv_13 → Loads P 35 ⟨r_5, 0, none⟩ (.agg #[(.bool t380), (.slice t381_p t381_n t381_c), (.slice t382_p t382_n t382_c)]) wv_13) ∧ ∃ (t390 : Bool) (t391_p : Option Addr) (t391_n : Nat) (t391_c : Nat) (t392 : Int), (∀ wv_14, Ext wv_12.drew wv_14 → Loads P 40 ⟨r_1, 0, none⟩ (.agg #[(.bool t390), (.slice t391_p t391_n t391_c), (.int .i64 t392)]) wv_14) ∧ ∀ (ss : List (Option Nat)) (wv_15 : World), Fl [.cells ⟨[(.bool false), (.slice none 0 0), (.slice none 0 0)]⟩ 35 (0, 0)] [none] wv_12.drew ss wv_15 →
  Calls P 42 ⟨[(.agg #[(.bool t390), (.slice t391_p t391_n t391_c), (.int .i64 t392)])]⟩ wv_15 fun e_3 wv_16 =>
  ∃ (t400 : Bool) (t401_p : Option Addr) (t401_n : Nat) (t401_c : Nat) (t402_p : Option Addr) (t402_n : Nat) (t402_c : Nat), e_3 = .returned (.agg #[(.bool t400), (.slice t401_p t401_n t401_c), (.slice t402_p t402_n t402_c)]) ∧
  Ext wv_15 wv_16 ∧ ∀ (ss_1 : List (Option Nat)) (wv_17 : World), Fl [.cells ⟨[(.bool false), (.slice none 0 0), (.slice none 0 0)]⟩ 35 (0, 0)] ss wv_16 ss_1 wv_17 →
  Calls P 59 ⟨[(.agg #[(.bool t380), (.slice t381_p t381_n t381_c), (.slice t382_p t382_n t382_c)]), (.agg #[(.bool t400), (.slice t401_p t401_n t401_c), (.slice t402_p t402_n t402_c)])]⟩ wv_17 fun e_4 wv_18 =>
  ∃ (t410 : Bool) (t411_p : Option Addr) (t411_n : Nat) (t411_c : Nat) (t412_p : Option Addr) (t412_n : Nat) (t412_c : Nat) (t41 : Bool), e_4 = .returned (.tuple #[(.agg #[(.bool t410), (.slice t411_p t411_n t411_c), (.slice t412_p t412_n t412_c)]), (.bool t41)]) ∧
  ∀ (ss_2 : List (Option Nat)) (wv_19 : World) (r_6 : Nat), Fl [.cells ⟨[(.bool false), (.slice none 0 0), (.slice none 0 0)]⟩ 35 (0, 0)] ss_1 wv_18 ss_2 wv_19 → ss_2[0]? = some (some r_6) →
  ∃ wv_20, Stores P 35 ⟨r_6, 0, none⟩ (.agg #[(.bool t410), (.slice t411_p t411_n t411_c), (.slice t412_p t412_n t412_c)]) wv_19 wv_20 ∧
  ∃ (t450 : ByteArray) (t451 : Bool) (t452_p : Option Addr) (t452_n : Nat) (t452_c : Nat), (∀ wv_21, Ext wv_20.drew wv_21 → Loads P 33 ⟨r, 0, none⟩ (.agg #[(.string t450), (.bool t451), (.slice t452_p t452_n t452_c)]) wv_21) ∧ ∀ (ss_3 : List (Option Nat)) (wv_22 : World), Fl [.cells ⟨[(.bool false), (.slice none 0 0), (.slice none 0 0)]⟩ 35 (0, 0)] [none] wv_20.drew ss_3 wv_22 →
  Calls P 41 ⟨[(.agg #[(.string t450), (.bool t451), (.slice t452_p t452_n t452_c)])]⟩ wv_22 fun e_5 wv_23 =>
  ∃ (t460 : Bool) (t461_p : Option Addr) (t461_n : Nat) (t461_c : Nat) (t462_p : Option Addr) (t462_n : Nat) (t462_c : Nat), e_5 = .returned (.agg #[(.bool t460), (.slice t461_p t461_n t461_c), (.slice t462_p t462_n t462_c)]) ∧
  Ext wv_22 wv_23 ∧ ∃ (t470 : Bool) (t471_p : Option Addr) (t471_n : Nat) (t471_c : Nat) (t472_p : Option Addr) (t472_n : Nat) (t472_c : Nat), (∀ wv_24, Ext wv_20.drew wv_24 → Loads P 35 ⟨r_6, 0, none⟩ (.agg #[(.bool t470), (.slice t471_p t471_n t471_c), (.slice t472_p t472_n t472_c)]) wv_24) ∧ ∀ (ss_4 : List (Option Nat)) (wv_25 : World), Fl [.cells ⟨[(.bool false), (.slice none 0 0), (.slice none 0 0)]⟩ 35 (0, 0)] ss_3 wv_23 ss_4 wv_25 →
  Calls P 60 ⟨[(.agg #[(.bool t460), (.slice t461_p t461_n t461_c), (.slice t462_p t462_n t462_c)]), (.agg #[(.bool t470), (.slice t471_p t471_n t471_c), (.slice t472_p t472_n t472_c)])]⟩ wv_25 fun e_6 wv_26 =>
  ∃ (t480 : Bool) (t481_p : Option Addr) (t481_n : Nat) (t481_c : Nat) (t482_p : Option Addr) (t482_n : Nat) (t482_c : Nat) (t48 : Bool), e_6 = .returned (.tuple #[(.agg #[(.bool t480), (.slice t481_p t481_n t481_c), (.slice t482_p t482_n t482_c)]), (.bool t48)]) ∧
  ∀ (ss_5 : List (Option Nat)) (wv_27 : World) (r_7 : Nat), Fl [.cells ⟨[(.bool false), (.slice none 0 0), (.slice none 0 0)]⟩ 35 (0, 0)] ss_4 wv_26 ss_5 wv_27 → ss_5[0]? = some (some r_7) →
  ∃ wv_28, Stores P 35 ⟨r_7, 0, none⟩ (.agg #[(.bool t480), (.slice t481_p t481_n t481_c), (.slice t482_p t482_n t482_c)]) wv_27 wv_28 ∧
  ∃ (t53 : ByteArray), Loads P 9 ((⟨r, 0, none⟩ : Addr).add 0) (.string t53) wv_28 ∧ ∃ (t540 : Bool) (t541_p : Option Addr) (t541_n : Nat) (t541_c : Nat) (t542_p : Option Addr) (t542_n : Nat) (t542_c : Nat), Loads P 35 ⟨r_7, 0, none⟩ (.agg #[(.bool t540), (.slice t541_p t541_n t541_c), (.slice t542_p t542_n t542_c)]) wv_28 ∧ Calls P 43 ⟨[(.string t53), (.agg #[(.bool t540), (.slice t541_p t541_n t541_c), (.slice t542_p t542_n t542_c)]), (.int .i64 mode)]⟩ wv_28 fun e_7 wv_29 =>
  ∃ (t560 : ByteArray) (t561 : Bool) (t562_p : Option Addr) (t562_n : Nat) (t562_c : Nat) (t560_1 : Bool) (t561_p : Option Addr) (t561_n : Nat) (t561_c : Nat) (t562_p_1 : Option Addr) (t562_n_1 : Nat) (t562_c_1 : Nat) (t56 : Bool), e_7 = .returned (.tuple #[(.agg #[(.string t560), (.bool t561), (.slice t562_p t562_n t562_c)]), (.agg #[(.bool t560_1), (.slice t561_p t561_n t561_c), (.slice t562_p_1 t562_n_1 t562_c_1)]), (.bool t56)]) ∧
  ∀ (r_8 : Nat) (wv_30 : World), New wv_29 (.cells ⟨[(.string ByteArray.empty), (.bool false), (.slice none 0 0)]⟩ 33 (0, 0)) r_8 wv_30 →
  ∀ (r_9 : Nat) (wv_31 : World), New wv_30 (.cells ⟨[(.bool false), (.slice none 0 0), (.slice none 0 0)]⟩ 35 (0, 0)) r_9 wv_31 →
  ∃ wv_32, Stores P 33 ⟨r_8, 0, none⟩ (.agg #[(.string t560), (.bool t561), (.slice t562_p t562_n t562_c)]) wv_31 wv_32 ∧
  ∃ wv_33, Stores P 35 ⟨r_9, 0, none⟩ (.agg #[(.bool t560_1), (.slice t561_p t561_n t561_c), (.slice t562_p_1 t562_n_1 t562_c_1)]) wv_32 wv_33 ∧
  ∃ (t610 : ByteArray) (t611 : Bool) (t612_p : Option Addr) (t612_n : Nat) (t612_c : Nat), Loads P 33 ⟨r, 0, none⟩ (.agg #[(.string t610), (.bool t611), (.slice t612_p t612_n t612_c)]) wv_33 ∧ ∃ (t620 : ByteArray) (t621 : Bool) (t622_p : Option Addr) (t622_n : Nat) (t622_c : Nat), Loads P 33 ⟨r_8, 0, none⟩ (.agg #[(.string t620), (.bool t621), (.slice t622_p t622_n t622_c)]) wv_33 ∧ Calls P 61 ⟨[(.agg #[(.string t610), (.bool t611), (.slice t612_p t612_n t612_c)]), (.agg #[(.string t620), (.bool t621), (.slice t622_p t622_n t622_c)])]⟩ wv_33 fun e_8 wv_34 =>
  ∃ (t630 : ByteArray) (t631 : Bool) (t632_p : Option Addr) (t632_n : Nat) (t632_c : Nat) (t63 : Bool), e_8 = .returned (.tuple #[(.agg #[(.string t630), (.bool t631), (.slice t632_p t632_n t632_c)]), (.bool t63)]) ∧
  ∀ (r_10 : Nat) (wv_35 : World), New wv_34 (.cells ⟨[(.string ByteArray.empty), (.bool false), (.slice none 0 0)]⟩ 33 (0, 0)) r_10 wv_35 →
  ∃ wv_36, Stores P 33 ⟨r_10, 0, none⟩ (.agg #[(.string t630), (.bool t631), (.slice t632_p t632_n t632_c)]) wv_35 wv_36 ∧
  ((!t56) = true →
    (true = true →
      ∃ wv_37, Stores P 33 ⟨r_2, 0, none⟩ (.agg #[(.string ByteArray.empty), (.bool false), (.slice none 0 0)]) wv_36 wv_37 ∧
      ∃ wv_38, Stores P 33 ⟨r_3, 0, none⟩ (.agg #[(.string ByteArray.empty), (.bool false), (.slice none 0 0)]) wv_37 wv_38 ∧
      ∃ wv_39, Stores P 35 ⟨r_4, 0, none⟩ (.agg #[(.bool false), (.slice none 0 0), (.slice none 0 0)]) wv_38 wv_39 ∧
      ∃ (r0_4 : ByteArray) (r1_2 : Bool) (r2_p_3 : Option Addr) (r2_n_3 : Nat) (r2_c_3 : Nat), Loads P 33 ⟨r_2, 0, none⟩ (.agg #[(.string r0_4), (.bool r1_2), (.slice r2_p_3 r2_n_3 r2_c_3)]) wv_39 ∧ ∃ (r0_5 : ByteArray) (r1_3 : Bool) (r2_p_4 : Option Addr) (r2_n_4 : Nat) (r2_c_4 : Nat), Loads P 33 ⟨r_3, 0, none⟩ (.agg #[(.string r0_5), (.bool r1_3), (.slice r2_p_4 r2_n_4 r2_c_4)]) wv_39 ∧ ∃ (r0_6 : Bool) (r1_p_2 : Option Addr) (r1_n_2 : Nat) (r1_c_2 : Nat) (r2_p_5 : Option Addr) (r2_n_5 : Nat) (r2_c_5 : Nat), Loads P 35 ⟨r_4, 0, none⟩ (.agg #[(.bool r0_6), (.slice r1_p_2 r1_n_2 r1_c_2), (.slice r2_p_5 r2_n_5 r2_c_5)]) wv_39 ∧ R (.tuple #[(.agg #[(.string r0_4), (.bool r1_2), (.slice r2_p_3 r2_n_3 r2_c_3)]), (.agg #[(.string r0_5), (.bool r1_3), (.slice r2_p_4 r2_n_4 r2_c_4)]), (.agg #[(.bool r0_6), (.slice r1_p_2 r1_n_2 r1_c_2), (.slice r2_p_5 r2_n_5 r2_c_5)]), (.bool false)]) wv_39) ∧
    (true = false →
      ∃ blks : List Nat, ∃ (t750 : ByteArray) (t751 : Bool) (t752_p : Option Addr) (t752_n : Nat) (t752_c : Nat), (∀ wv_40, EX blks wv_36.drew wv_40 → Loads P 33 ⟨r_8, 0, none⟩ (.agg #[(.string t750), (.bool t751), (.slice t752_p t752_n t752_c)]) wv_40) ∧ ∃ (t760 : ByteArray) (t761 : Bool) (t762_p : Option Addr) (t762_n : Nat) (t762_c : Nat), (∀ wv_41, EX blks wv_36.drew wv_41 → Loads P 33 ⟨r_10, 0, none⟩ (.agg #[(.string t760), (.bool t761), (.slice t762_p t762_n t762_c)]) wv_41) ∧ ∃ (t770 : Bool) (t771_p : Option Addr) (t771_n : Nat) (t771_c : Nat) (t772_p : Option Addr) (t772_n : Nat) (t772_c : Nat), (∀ wv_42, EX blks wv_36.drew wv_42 → Loads P 35 ⟨r_9, 0, none⟩ (.agg #[(.bool t770), (.slice t771_p t771_n t771_c), (.slice t772_p t772_n t772_c)]) wv_42) ∧ ∃ wv_43, Stores P 33 ⟨r_2, 0, none⟩ (.agg #[(.string t750), (.bool t751), (.slice t752_p t752_n t752_c)]) wv_36.drew wv_43 ∧
      EX blks wv_36.drew wv_43 ∧ ∃ wv_44, Stores P 33 ⟨r_3, 0, none⟩ (.agg #[(.string t760), (.bool t761), (.slice t762_p t762_n t762_c)]) wv_43 wv_44 ∧
      EX blks wv_43 wv_44 ∧ ∃ wv_45, Stores P 35 ⟨r_4, 0, none⟩ (.agg #[(.bool t770), (.slice t771_p t771_n t771_c), (.slice t772_p t772_n t772_c)]) wv_44 wv_45 ∧
      ∃ (r0_7 : ByteArray) (r1_4 : Bool) (r2_p_6 : Option Addr) (r2_n_6 : Nat) (r2_c_6 : Nat), Loads P 33 ⟨r_2, 0, none⟩ (.agg #[(.string r0_7), (.bool r1_4), (.slice r2_p_6 r2_n_6 r2_c_6)]) wv_45 ∧ ∃ (r0_8 : ByteArray) (r1_5 : Bool) (r2_p_7 : Option Addr) (r2_n_7 : Nat) (r2_c_7 : Nat), Loads P 33 ⟨r_3, 0, none⟩ (.agg #[(.string r0_8), (.bool r1_5), (.slice r2_p_7 r2_n_7 r2_c_7)]) wv_45 ∧ ∃ (r0_9 : Bool) (r1_p_3 : Option Addr) (r1_n_3 : Nat) (r1_c_3 : Nat) (r2_p_8 : Option Addr) (r2_n_8 : Nat) (r2_c_8 : Nat), Loads P 35 ⟨r_4, 0, none⟩ (.agg #[(.bool r0_9), (.slice r1_p_3 r1_n_3 r1_c_3), (.slice r2_p_8 r2_n_8 r2_c_8)]) wv_45 ∧ R (.tuple #[(.agg #[(.string r0_7), (.bool r1_4), (.slice r2_p_6 r2_n_6 r2_c_6)]), (.agg #[(.string r0_8), (.bool r1_5), (.slice r2_p_7 r2_n_7 r2_c_7)]), (.agg #[(.bool r0_9), (.slice r1_p_3 r1_n_3 r1_c_3), (.slice r2_p_8 r2_n_8 r2_c_8)]), (.bool true)]) wv_45)) ∧
  ((!t56) = false →
    ((!t63) = true →
      ∃ wv_46, Stores P 33 ⟨r_2, 0, none⟩ (.agg #[(.string ByteArray.empty), (.bool false), (.slice none 0 0)]) wv_36 wv_46 ∧
      ∃ wv_47, Stores P 33 ⟨r_3, 0, none⟩ (.agg #[(.string ByteArray.empty), (.bool false), (.slice none 0 0)]) wv_46 wv_47 ∧
      ∃ wv_48, Stores P 35 ⟨r_4, 0, none⟩ (.agg #[(.bool false), (.slice none 0 0), (.slice none 0 0)]) wv_47 wv_48 ∧
      ∃ (r0_10 : ByteArray) (r1_6 : Bool) (r2_p_9 : Option Addr) (r2_n_9 : Nat) (r2_c_9 : Nat), Loads P 33 ⟨r_2, 0, none⟩ (.agg #[(.string r0_10), (.bool r1_6), (.slice r2_p_9 r2_n_9 r2_c_9)]) wv_48 ∧ ∃ (r0_11 : ByteArray) (r1_7 : Bool) (r2_p_10 : Option Addr) (r2_n_10 : Nat) (r2_c_10 : Nat), Loads P 33 ⟨r_3, 0, none⟩ (.agg #[(.string r0_11), (.bool r1_7), (.slice r2_p_10 r2_n_10 r2_c_10)]) wv_48 ∧ ∃ (r0_12 : Bool) (r1_p_4 : Option Addr) (r1_n_4 : Nat) (r1_c_4 : Nat) (r2_p_11 : Option Addr) (r2_n_11 : Nat) (r2_c_11 : Nat), Loads P 35 ⟨r_4, 0, none⟩ (.agg #[(.bool r0_12), (.slice r1_p_4 r1_n_4 r1_c_4), (.slice r2_p_11 r2_n_11 r2_c_11)]) wv_48 ∧ R (.tuple #[(.agg #[(.string r0_10), (.bool r1_6), (.slice r2_p_9 r2_n_9 r2_c_9)]), (.agg #[(.string r0_11), (.bool r1_7), (.slice r2_p_10 r2_n_10 r2_c_10)]), (.agg #[(.bool r0_12), (.slice r1_p_4 r1_n_4 r1_c_4), (.slice r2_p_11 r2_n_11 r2_c_11)]), (.bool false)]) wv_48) ∧
    ((!t63) = false →
      ∃ blks_1 : List Nat, ∃ (t750_1 : ByteArray) (t751_1 : Bool) (t752_p_1 : Option Addr) (t752_n_1 : Nat) (t752_c_1 : Nat), (∀ wv_49, EX blks_1 wv_36.drew wv_49 → Loads P 33 ⟨r_8, 0, none⟩ (.agg #[(.string t750_1), (.bool t751_1), (.slice t752_p_1 t752_n_1 t752_c_1)]) wv_49) ∧ ∃ (t760_1 : ByteArray) (t761_1 : Bool) (t762_p_1 : Option Addr) (t762_n_1 : Nat) (t762_c_1 : Nat), (∀ wv_50, EX blks_1 wv_36.drew wv_50 → Loads P 33 ⟨r_10, 0, none⟩ (.agg #[(.string t760_1), (.bool t761_1), (.slice t762_p_1 t762_n_1 t762_c_1)]) wv_50) ∧ ∃ (t770_1 : Bool) (t771_p_1 : Option Addr) (t771_n_1 : Nat) (t771_c_1 : Nat) (t772_p_1 : Option Addr) (t772_n_1 : Nat) (t772_c_1 : Nat), (∀ wv_51, EX blks_1 wv_36.drew wv_51 → Loads P 35 ⟨r_9, 0, none⟩ (.agg #[(.bool t770_1), (.slice t771_p_1 t771_n_1 t771_c_1), (.slice t772_p_1 t772_n_1 t772_c_1)]) wv_51) ∧ ∃ wv_52, Stores P 33 ⟨r_2, 0, none⟩ (.agg #[(.string t750_1), (.bool t751_1), (.slice t752_p_1 t752_n_1 t752_c_1)]) wv_36.drew wv_52 ∧
      EX blks_1 wv_36.drew wv_52 ∧ ∃ wv_53, Stores P 33 ⟨r_3, 0, none⟩ (.agg #[(.string t760_1), (.bool t761_1), (.slice t762_p_1 t762_n_1 t762_c_1)]) wv_52 wv_53 ∧
      EX blks_1 wv_52 wv_53 ∧ ∃ wv_54, Stores P 35 ⟨r_4, 0, none⟩ (.agg #[(.bool t770_1), (.slice t771_p_1 t771_n_1 t771_c_1), (.slice t772_p_1 t772_n_1 t772_c_1)]) wv_53 wv_54 ∧
      ∃ (r0_13 : ByteArray) (r1_8 : Bool) (r2_p_12 : Option Addr) (r2_n_12 : Nat) (r2_c_12 : Nat), Loads P 33 ⟨r_2, 0, none⟩ (.agg #[(.string r0_13), (.bool r1_8), (.slice r2_p_12 r2_n_12 r2_c_12)]) wv_54 ∧ ∃ (r0_14 : ByteArray) (r1_9 : Bool) (r2_p_13 : Option Addr) (r2_n_13 : Nat) (r2_c_13 : Nat), Loads P 33 ⟨r_3, 0, none⟩ (.agg #[(.string r0_14), (.bool r1_9), (.slice r2_p_13 r2_n_13 r2_c_13)]) wv_54 ∧ ∃ (r0_15 : Bool) (r1_p_5 : Option Addr) (r1_n_5 : Nat) (r1_c_5 : Nat) (r2_p_14 : Option Addr) (r2_n_14 : Nat) (r2_c_14 : Nat), Loads P 35 ⟨r_4, 0, none⟩ (.agg #[(.bool r0_15), (.slice r1_p_5 r1_n_5 r1_c_5), (.slice r2_p_14 r2_n_14 r2_c_14)]) wv_54 ∧ R (.tuple #[(.agg #[(.string r0_13), (.bool r1_8), (.slice r2_p_12 r2_n_12 r2_c_12)]), (.agg #[(.string r0_14), (.bool r1_9), (.slice r2_p_13 r2_n_13 r2_c_13)]), (.agg #[(.bool r0_15), (.slice r1_p_5 r1_n_5 r1_c_5), (.slice r2_p_14 r2_n_14 r2_c_14)]), (.bool true)]) wv_54))
def spec_TaxIn (gross0 : ByteArray) (gross1 : Bool) (gross2_p : Option Addr) (gross2_n : Nat) (gross2_c : Nat) (r0 : Bool) (r1_p : Option Addr) (r1_n : Nat) (r1_c : Nat) (r2 : Int) (mode : Int) (w : World) (R : Value → World → Prop) : Prop :=
  ∀ (r : Nat) (wv : World), New w (.cells ⟨[(.string gross0), (.bool gross1), (.slice gross2_p gross2_n gross2_c)]⟩ 33 (0, 0)) r wv →
  ∀ (r_1 : Nat) (wv_1 : World), New wv (.cells ⟨[(.bool r0), (.slice r1_p r1_n r1_c), (.int .i64 r2)]⟩ 40 (0, 0)) r_1 wv_1 →
  ∀ (r_2 : Nat) (wv_2 : World), New wv_1 (.cells ⟨[(.string ByteArray.empty), (.bool false), (.slice none 0 0)]⟩ 33 (0, 0)) r_2 wv_2 →
  ∀ (r_3 : Nat) (wv_3 : World), New wv_2 (.cells ⟨[(.string ByteArray.empty), (.bool false), (.slice none 0 0)]⟩ 33 (0, 0)) r_3 wv_3 →
  ∀ (r_4 : Nat) (wv_4 : World), New wv_3 (.cells ⟨[(.bool false), (.slice none 0 0), (.slice none 0 0)]⟩ 35 (0, 0)) r_4 wv_4 →
  ∃ (t210 : ByteArray) (t211 : Bool) (t212_p : Option Addr) (t212_n : Nat) (t212_c : Nat), Loads P 33 ⟨r, 0, none⟩ (.agg #[(.string t210), (.bool t211), (.slice t212_p t212_n t212_c)]) wv_4 ∧ Calls P 38 ⟨[(.agg #[(.string t210), (.bool t211), (.slice t212_p t212_n t212_c)])]⟩ wv_4 fun e wv_5 =>
  ∃ (t22 : Bool), e = .returned (.bool t22) ∧
  ((!t22) = true →
    (true = true →
      ∃ wv_6, Stores P 33 ⟨r_2, 0, none⟩ (.agg #[(.string ByteArray.empty), (.bool false), (.slice none 0 0)]) wv_5 wv_6 ∧
      ∃ wv_7, Stores P 33 ⟨r_3, 0, none⟩ (.agg #[(.string ByteArray.empty), (.bool false), (.slice none 0 0)]) wv_6 wv_7 ∧
      ∃ wv_8, Stores P 35 ⟨r_4, 0, none⟩ (.agg #[(.bool false), (.slice none 0 0), (.slice none 0 0)]) wv_7 wv_8 ∧
      ∃ (r0_1 : ByteArray) (r1 : Bool) (r2_p : Option Addr) (r2_n : Nat) (r2_c : Nat), Loads P 33 ⟨r_2, 0, none⟩ (.agg #[(.string r0_1), (.bool r1), (.slice r2_p r2_n r2_c)]) wv_8 ∧ ∃ (r0_2 : ByteArray) (r1_1 : Bool) (r2_p_1 : Option Addr) (r2_n_1 : Nat) (r2_c_1 : Nat), Loads P 33 ⟨r_3, 0, none⟩ (.agg #[(.string r0_2), (.bool r1_1), (.slice r2_p_1 r2_n_1 r2_c_1)]) wv_8 ∧ ∃ (r0_3 : Bool) (r1_p_1 : Option Addr) (r1_n_1 : Nat) (r1_c_1 : Nat) (r2_p_2 : Option Addr) (r2_n_2 : Nat) (r2_c_2 : Nat), Loads P 35 ⟨r_4, 0, none⟩ (.agg #[(.bool r0_3), (.slice r1_p_1 r1_n_1 r1_c_1), (.slice r2_p_2 r2_n_2 r2_c_2)]) wv_8 ∧ R (.tuple #[(.agg #[(.string r0_1), (.bool r1), (.slice r2_p r2_n r2_c)]), (.agg #[(.string r0_2), (.bool r1_1), (.slice r2_p_1 r2_n_1 r2_c_1)]), (.agg #[(.bool r0_3), (.slice r1_p_1 r1_n_1 r1_c_1), (.slice r2_p_2 r2_n_2 r2_c_2)]), (.bool false)]) wv_8) ∧
    (true = false →
      spec_TaxIn_j0 mode r r_1 r_2 r_3 r_4 wv_5 R)) ∧
  ((!t22) = false →
    ∃ (t250 : Bool) (t251_p : Option Addr) (t251_n : Nat) (t251_c : Nat) (t252 : Int), Loads P 40 ⟨r_1, 0, none⟩ (.agg #[(.bool t250), (.slice t251_p t251_n t251_c), (.int .i64 t252)]) wv_5 ∧ Calls P 39 ⟨[(.agg #[(.bool t250), (.slice t251_p t251_n t251_c), (.int .i64 t252)])]⟩ wv_5 fun e_9 wv_55 =>
    ∃ (t26 : Bool), e_9 = .returned (.bool t26) ∧
    ((!t26) = true →
      ∃ wv_56, Stores P 33 ⟨r_2, 0, none⟩ (.agg #[(.string ByteArray.empty), (.bool false), (.slice none 0 0)]) wv_55 wv_56 ∧
      ∃ wv_57, Stores P 33 ⟨r_3, 0, none⟩ (.agg #[(.string ByteArray.empty), (.bool false), (.slice none 0 0)]) wv_56 wv_57 ∧
      ∃ wv_58, Stores P 35 ⟨r_4, 0, none⟩ (.agg #[(.bool false), (.slice none 0 0), (.slice none 0 0)]) wv_57 wv_58 ∧
      ∃ (r0_16 : ByteArray) (r1_10 : Bool) (r2_p_15 : Option Addr) (r2_n_15 : Nat) (r2_c_15 : Nat), Loads P 33 ⟨r_2, 0, none⟩ (.agg #[(.string r0_16), (.bool r1_10), (.slice r2_p_15 r2_n_15 r2_c_15)]) wv_58 ∧ ∃ (r0_17 : ByteArray) (r1_11 : Bool) (r2_p_16 : Option Addr) (r2_n_16 : Nat) (r2_c_16 : Nat), Loads P 33 ⟨r_3, 0, none⟩ (.agg #[(.string r0_17), (.bool r1_11), (.slice r2_p_16 r2_n_16 r2_c_16)]) wv_58 ∧ ∃ (r0_18 : Bool) (r1_p_6 : Option Addr) (r1_n_6 : Nat) (r1_c_6 : Nat) (r2_p_17 : Option Addr) (r2_n_17 : Nat) (r2_c_17 : Nat), Loads P 35 ⟨r_4, 0, none⟩ (.agg #[(.bool r0_18), (.slice r1_p_6 r1_n_6 r1_c_6), (.slice r2_p_17 r2_n_17 r2_c_17)]) wv_58 ∧ R (.tuple #[(.agg #[(.string r0_16), (.bool r1_10), (.slice r2_p_15 r2_n_15 r2_c_15)]), (.agg #[(.string r0_17), (.bool r1_11), (.slice r2_p_16 r2_n_16 r2_c_16)]), (.agg #[(.bool r0_18), (.slice r1_p_6 r1_n_6 r1_c_6), (.slice r2_p_17 r2_n_17 r2_c_17)]), (.bool false)]) wv_58) ∧
    ((!t26) = false →
      spec_TaxIn_j0 mode r r_1 r_2 r_3 r_4 wv_55 R))
theorem spec_TaxIn_eq (gross0 : ByteArray) (gross1 : Bool) (gross2_p : Option Addr) (gross2_n : Nat) (gross2_c : Nat) (r0 : Bool) (r1_p : Option Addr) (r1_n : Nat) (r1_c : Nat) (r2 : Int) (mode : Int) (w : World) (R : Value → World → Prop) : spec_TaxIn gross0 gross1 gross2_p gross2_n gross2_c r0 r1_p r1_n r1_c r2 mode w R = fsem P Tryz.f22 (fun k => []) [(.agg #[(.string gross0), (.bool gross1), (.slice gross2_p gross2_n gross2_c)]), (.agg #[(.bool r0), (.slice r1_p r1_n r1_c), (.int .i64 r2)]), (.int .i64 mode)] R w := by kernel_rfl
theorem spec_TaxIn_ret {gross0 : ByteArray} {gross1 : Bool} {gross2_p : Option Addr} {gross2_n : Nat} {gross2_c : Nat} {r0 : Bool} {r1_p : Option Addr} {r1_n : Nat} {r1_c : Nat} {r2 : Int} {mode : Int} {w : World} {R : Value → World → Prop} (h : spec_TaxIn gross0 gross1 gross2_p gross2_n gross2_c r0 r1_p r1_n r1_c r2 mode w R) : Ret P 22 [(.agg #[(.string gross0), (.bool gross1), (.slice gross2_p gross2_n gross2_c)]), (.agg #[(.bool r0), (.slice r1_p r1_n r1_c), (.int .i64 r2)]), (.int .i64 mode)] w R :=
  Ret.of_fsem Tryz.func22 rfl (Eq.mp (spec_TaxIn_eq gross0 gross1 gross2_p gross2_n gross2_c r0 r1_p r1_n r1_c r2 mode w R) h)
end Go.Proofs.YtfemmmbkhhemaaaGreatDoor

namespace Go.Proofs.YtfemmmbkhhemaaaGreatDoor
open Go Go.Proofs.YtfemmmbkhhemaaaGreatDoor.Sx
set_option linter.unusedVariables false
set_option maxRecDepth 100000
def impl_TaxIn_j0 (mode : Int) (r : Nat) (r_1 : Nat) (r_2 : Nat) (r_3 : Nat) (r_4 : Nat) (W : World) (R : Value → World → Prop) : Prop :=
  Calls P 63 ⟨[(.int .i64 1)]⟩ W fun e_1 wv_9 =>
  ∃ (t330 : Bool) (t331_p : Option Addr) (t331_n : Nat) (t331_c : Nat), e_1 = .returned (.agg #[(.bool t330), (.slice t331_p t331_n t331_c)]) ∧
  Calls P 62 ⟨[(.agg #[(.bool t330), (.slice t331_p t331_n t331_c)])]⟩ wv_9 fun e_2 wv_10 =>
  ∃ (t340 : Bool) (t341_p : Option Addr) (t341_n : Nat) (t341_c : Nat) (t342_p : Option Addr) (t342_n : Nat) (t342_c : Nat) (t34 : Bool), e_2 = .returned (.tuple #[(.agg #[(.bool t340), (.slice t341_p t341_n t341_c), (.slice t342_p t342_n t342_c)]), (.bool t34)]) ∧
  ∀ (r_5 : Nat) (wv_11 : World), New wv_10 (.cells ⟨[(.bool false), (.slice none 0 0), (.slice none 0 0)]⟩ 35 (0, 0)) r_5 wv_11 →
  ∃ wv_12, Stores P 35 ⟨r_5, 0, none⟩ (.agg #[(.bool t340), (.slice t341_p t341_n t341_c), (.slice t342_p t342_n t342_c)]) wv_11 wv_12 ∧
  ∃ (t380 : Bool) (t381_p : Option Addr) (t381_n : Nat) (t381_c : Nat) (t382_p : Option Addr) (t382_n : Nat) (t382_c : Nat), (∀ wv_13, Ext wv_12.drew wv_13 → Loads P 35 ⟨r_5, 0, none⟩ (.agg #[(.bool t380), (.slice t381_p t381_n t381_c), (.slice t382_p t382_n t382_c)]) wv_13) ∧ ∃ (t390 : Bool) (t391_p : Option Addr) (t391_n : Nat) (t391_c : Nat) (t392 : Int), (∀ wv_14, Ext wv_12.drew wv_14 → Loads P 40 ⟨r_1, 0, none⟩ (.agg #[(.bool t390), (.slice t391_p t391_n t391_c), (.int .i64 t392)]) wv_14) ∧ ∀ (ss : List (Option Nat)) (wv_15 : World), Fl [.cells ⟨[(.bool false), (.slice none 0 0), (.slice none 0 0)]⟩ 35 (0, 0)] [none] wv_12.drew ss wv_15 →
  Calls P 49 ⟨[(.agg #[(.bool t390), (.slice t391_p t391_n t391_c), (.int .i64 t392)])]⟩ wv_15 fun e_3 wv_16 =>
  ∃ (t400 : Bool) (t401_p : Option Addr) (t401_n : Nat) (t401_c : Nat) (t402_p : Option Addr) (t402_n : Nat) (t402_c : Nat), e_3 = .returned (.agg #[(.bool t400), (.slice t401_p t401_n t401_c), (.slice t402_p t402_n t402_c)]) ∧
  Ext wv_15 wv_16 ∧ ∀ (ss_1 : List (Option Nat)) (wv_17 : World), Fl [.cells ⟨[(.bool false), (.slice none 0 0), (.slice none 0 0)]⟩ 35 (0, 0)] ss wv_16 ss_1 wv_17 →
  Calls P 64 ⟨[(.agg #[(.bool t380), (.slice t381_p t381_n t381_c), (.slice t382_p t382_n t382_c)]), (.agg #[(.bool t400), (.slice t401_p t401_n t401_c), (.slice t402_p t402_n t402_c)])]⟩ wv_17 fun e_4 wv_18 =>
  ∃ (t410 : Bool) (t411_p : Option Addr) (t411_n : Nat) (t411_c : Nat) (t412_p : Option Addr) (t412_n : Nat) (t412_c : Nat) (t41 : Bool), e_4 = .returned (.tuple #[(.agg #[(.bool t410), (.slice t411_p t411_n t411_c), (.slice t412_p t412_n t412_c)]), (.bool t41)]) ∧
  ∀ (ss_2 : List (Option Nat)) (wv_19 : World) (r_6 : Nat), Fl [.cells ⟨[(.bool false), (.slice none 0 0), (.slice none 0 0)]⟩ 35 (0, 0)] ss_1 wv_18 ss_2 wv_19 → ss_2[0]? = some (some r_6) →
  ∃ wv_20, Stores P 35 ⟨r_6, 0, none⟩ (.agg #[(.bool t410), (.slice t411_p t411_n t411_c), (.slice t412_p t412_n t412_c)]) wv_19 wv_20 ∧
  ∃ (t450 : ByteArray) (t451 : Bool) (t452_p : Option Addr) (t452_n : Nat) (t452_c : Nat), (∀ wv_21, Ext wv_20.drew wv_21 → Loads P 33 ⟨r, 0, none⟩ (.agg #[(.string t450), (.bool t451), (.slice t452_p t452_n t452_c)]) wv_21) ∧ ∀ (ss_3 : List (Option Nat)) (wv_22 : World), Fl [.cells ⟨[(.bool false), (.slice none 0 0), (.slice none 0 0)]⟩ 35 (0, 0)] [none] wv_20.drew ss_3 wv_22 →
  Calls P 48 ⟨[(.agg #[(.string t450), (.bool t451), (.slice t452_p t452_n t452_c)])]⟩ wv_22 fun e_5 wv_23 =>
  ∃ (t460 : Bool) (t461_p : Option Addr) (t461_n : Nat) (t461_c : Nat) (t462_p : Option Addr) (t462_n : Nat) (t462_c : Nat), e_5 = .returned (.agg #[(.bool t460), (.slice t461_p t461_n t461_c), (.slice t462_p t462_n t462_c)]) ∧
  Ext wv_22 wv_23 ∧ ∃ (t470 : Bool) (t471_p : Option Addr) (t471_n : Nat) (t471_c : Nat) (t472_p : Option Addr) (t472_n : Nat) (t472_c : Nat), (∀ wv_24, Ext wv_20.drew wv_24 → Loads P 35 ⟨r_6, 0, none⟩ (.agg #[(.bool t470), (.slice t471_p t471_n t471_c), (.slice t472_p t472_n t472_c)]) wv_24) ∧ ∀ (ss_4 : List (Option Nat)) (wv_25 : World), Fl [.cells ⟨[(.bool false), (.slice none 0 0), (.slice none 0 0)]⟩ 35 (0, 0)] ss_3 wv_23 ss_4 wv_25 →
  Calls P 65 ⟨[(.agg #[(.bool t460), (.slice t461_p t461_n t461_c), (.slice t462_p t462_n t462_c)]), (.agg #[(.bool t470), (.slice t471_p t471_n t471_c), (.slice t472_p t472_n t472_c)])]⟩ wv_25 fun e_6 wv_26 =>
  ∃ (t480 : Bool) (t481_p : Option Addr) (t481_n : Nat) (t481_c : Nat) (t482_p : Option Addr) (t482_n : Nat) (t482_c : Nat) (t48 : Bool), e_6 = .returned (.tuple #[(.agg #[(.bool t480), (.slice t481_p t481_n t481_c), (.slice t482_p t482_n t482_c)]), (.bool t48)]) ∧
  ∀ (ss_5 : List (Option Nat)) (wv_27 : World) (r_7 : Nat), Fl [.cells ⟨[(.bool false), (.slice none 0 0), (.slice none 0 0)]⟩ 35 (0, 0)] ss_4 wv_26 ss_5 wv_27 → ss_5[0]? = some (some r_7) →
  ∃ wv_28, Stores P 35 ⟨r_7, 0, none⟩ (.agg #[(.bool t480), (.slice t481_p t481_n t481_c), (.slice t482_p t482_n t482_c)]) wv_27 wv_28 ∧
  ∃ (t53 : ByteArray), Loads P 9 ((⟨r, 0, none⟩ : Addr).add 0) (.string t53) wv_28 ∧ ∃ (t540 : Bool) (t541_p : Option Addr) (t541_n : Nat) (t541_c : Nat) (t542_p : Option Addr) (t542_n : Nat) (t542_c : Nat), Loads P 35 ⟨r_7, 0, none⟩ (.agg #[(.bool t540), (.slice t541_p t541_n t541_c), (.slice t542_p t542_n t542_c)]) wv_28 ∧ Calls P 50 ⟨[(.string t53), (.agg #[(.bool t540), (.slice t541_p t541_n t541_c), (.slice t542_p t542_n t542_c)]), (.int .i64 mode)]⟩ wv_28 fun e_7 wv_29 =>
  ∃ (t560 : ByteArray) (t561 : Bool) (t562_p : Option Addr) (t562_n : Nat) (t562_c : Nat) (t560_1 : Bool) (t561_p : Option Addr) (t561_n : Nat) (t561_c : Nat) (t562_p_1 : Option Addr) (t562_n_1 : Nat) (t562_c_1 : Nat) (t56 : Bool), e_7 = .returned (.tuple #[(.agg #[(.string t560), (.bool t561), (.slice t562_p t562_n t562_c)]), (.agg #[(.bool t560_1), (.slice t561_p t561_n t561_c), (.slice t562_p_1 t562_n_1 t562_c_1)]), (.bool t56)]) ∧
  ∀ (r_8 : Nat) (wv_30 : World), New wv_29 (.cells ⟨[(.string ByteArray.empty), (.bool false), (.slice none 0 0)]⟩ 33 (0, 0)) r_8 wv_30 →
  ∀ (r_9 : Nat) (wv_31 : World), New wv_30 (.cells ⟨[(.bool false), (.slice none 0 0), (.slice none 0 0)]⟩ 35 (0, 0)) r_9 wv_31 →
  ∃ wv_32, Stores P 33 ⟨r_8, 0, none⟩ (.agg #[(.string t560), (.bool t561), (.slice t562_p t562_n t562_c)]) wv_31 wv_32 ∧
  ∃ wv_33, Stores P 35 ⟨r_9, 0, none⟩ (.agg #[(.bool t560_1), (.slice t561_p t561_n t561_c), (.slice t562_p_1 t562_n_1 t562_c_1)]) wv_32 wv_33 ∧
  ∃ (t610 : ByteArray) (t611 : Bool) (t612_p : Option Addr) (t612_n : Nat) (t612_c : Nat), Loads P 33 ⟨r, 0, none⟩ (.agg #[(.string t610), (.bool t611), (.slice t612_p t612_n t612_c)]) wv_33 ∧ ∃ (t620 : ByteArray) (t621 : Bool) (t622_p : Option Addr) (t622_n : Nat) (t622_c : Nat), Loads P 33 ⟨r_8, 0, none⟩ (.agg #[(.string t620), (.bool t621), (.slice t622_p t622_n t622_c)]) wv_33 ∧ Calls P 66 ⟨[(.agg #[(.string t610), (.bool t611), (.slice t612_p t612_n t612_c)]), (.agg #[(.string t620), (.bool t621), (.slice t622_p t622_n t622_c)])]⟩ wv_33 fun e_8 wv_34 =>
  ∃ (t630 : ByteArray) (t631 : Bool) (t632_p : Option Addr) (t632_n : Nat) (t632_c : Nat) (t63 : Bool), e_8 = .returned (.tuple #[(.agg #[(.string t630), (.bool t631), (.slice t632_p t632_n t632_c)]), (.bool t63)]) ∧
  ∀ (r_10 : Nat) (wv_35 : World), New wv_34 (.cells ⟨[(.string ByteArray.empty), (.bool false), (.slice none 0 0)]⟩ 33 (0, 0)) r_10 wv_35 →
  ∃ wv_36, Stores P 33 ⟨r_10, 0, none⟩ (.agg #[(.string t630), (.bool t631), (.slice t632_p t632_n t632_c)]) wv_35 wv_36 ∧
  ((!t41) = true →
    (true = true →
      (true = true →
        (true = true →
          ∃ wv_37, Stores P 33 ⟨r_2, 0, none⟩ (.agg #[(.string ByteArray.empty), (.bool false), (.slice none 0 0)]) wv_36 wv_37 ∧
          ∃ wv_38, Stores P 33 ⟨r_3, 0, none⟩ (.agg #[(.string ByteArray.empty), (.bool false), (.slice none 0 0)]) wv_37 wv_38 ∧
          ∃ wv_39, Stores P 35 ⟨r_4, 0, none⟩ (.agg #[(.bool false), (.slice none 0 0), (.slice none 0 0)]) wv_38 wv_39 ∧
          ∃ (r0_4 : ByteArray) (r1_2 : Bool) (r2_p_3 : Option Addr) (r2_n_3 : Nat) (r2_c_3 : Nat), Loads P 33 ⟨r_2, 0, none⟩ (.agg #[(.string r0_4), (.bool r1_2), (.slice r2_p_3 r2_n_3 r2_c_3)]) wv_39 ∧ ∃ (r0_5 : ByteArray) (r1_3 : Bool) (r2_p_4 : Option Addr) (r2_n_4 : Nat) (r2_c_4 : Nat), Loads P 33 ⟨r_3, 0, none⟩ (.agg #[(.string r0_5), (.bool r1_3), (.slice r2_p_4 r2_n_4 r2_c_4)]) wv_39 ∧ ∃ (r0_6 : Bool) (r1_p_2 : Option Addr) (r1_n_2 : Nat) (r1_c_2 : Nat) (r2_p_5 : Option Addr) (r2_n_5 : Nat) (r2_c_5 : Nat), Loads P 35 ⟨r_4, 0, none⟩ (.agg #[(.bool r0_6), (.slice r1_p_2 r1_n_2 r1_c_2), (.slice r2_p_5 r2_n_5 r2_c_5)]) wv_39 ∧ R (.tuple #[(.agg #[(.string r0_4), (.bool r1_2), (.slice r2_p_3 r2_n_3 r2_c_3)]), (.agg #[(.string r0_5), (.bool r1_3), (.slice r2_p_4 r2_n_4 r2_c_4)]), (.agg #[(.bool r0_6), (.slice r1_p_2 r1_n_2 r1_c_2), (.slice r2_p_5 r2_n_5 r2_c_5)]), (.bool false)]) wv_39) ∧
        (true = false →
          ∃ blks : List Nat, ∃ (t830 : ByteArray) (t831 : Bool) (t832_p : Option Addr) (t832_n : Nat) (t832_c : Nat), (∀ wv_40, EX blks wv_36.drew wv_40 → Loads P 33 ⟨r_8, 0, none⟩ (.agg #[(.string t830), (.bool t831), (.slice t832_p t832_n t832_c)]) wv_40) ∧ ∃ (t840 : ByteArray) (t841 : Bool) (t842_p : Option Addr) (t842_n : Nat) (t842_c : Nat), (∀ wv_41, EX blks wv_36.drew wv_41 → Loads P 33 ⟨r_10, 0, none⟩ (.agg #[(.string t840), (.bool t841), (.slice t842_p t842_n t842_c)]) wv_41) ∧ ∃ (t850 : Bool) (t851_p : Option Addr) (t851_n : Nat) (t851_c : Nat) (t852_p : Option Addr) (t852_n : Nat) (t852_c : Nat), (∀ wv_42, EX blks wv_36.drew wv_42 → Loads P 35 ⟨r_9, 0, none⟩ (.agg #[(.bool t850), (.slice t851_p t851_n t851_c), (.slice t852_p t852_n t852_c)]) wv_42) ∧ ∃ wv_43, Stores P 33 ⟨r_2, 0, none⟩ (.agg #[(.string t830), (.bool t831), (.slice t832_p t832_n t832_c)]) wv_36.drew wv_43 ∧
          EX blks wv_36.drew wv_43 ∧ ∃ wv_44, Stores P 33 ⟨r_3, 0, none⟩ (.agg #[(.string t840), (.bool t841), (.slice t842_p t842_n t842_c)]) wv_43 wv_44 ∧
          EX blks wv_43 wv_44 ∧ ∃ wv_45, Stores P 35 ⟨r_4, 0, none⟩ (.agg #[(.bool t850), (.slice t851_p t851_n t851_c), (.slice t852_p t852_n t852_c)]) wv_44 wv_45 ∧
          ∃ (r0_7 : ByteArray) (r1_4 : Bool) (r2_p_6 : Option Addr) (r2_n_6 : Nat) (r2_c_6 : Nat), Loads P 33 ⟨r_2, 0, none⟩ (.agg #[(.string r0_7), (.bool r1_4), (.slice r2_p_6 r2_n_6 r2_c_6)]) wv_45 ∧ ∃ (r0_8 : ByteArray) (r1_5 : Bool) (r2_p_7 : Option Addr) (r2_n_7 : Nat) (r2_c_7 : Nat), Loads P 33 ⟨r_3, 0, none⟩ (.agg #[(.string r0_8), (.bool r1_5), (.slice r2_p_7 r2_n_7 r2_c_7)]) wv_45 ∧ ∃ (r0_9 : Bool) (r1_p_3 : Option Addr) (r1_n_3 : Nat) (r1_c_3 : Nat) (r2_p_8 : Option Addr) (r2_n_8 : Nat) (r2_c_8 : Nat), Loads P 35 ⟨r_4, 0, none⟩ (.agg #[(.bool r0_9), (.slice r1_p_3 r1_n_3 r1_c_3), (.slice r2_p_8 r2_n_8 r2_c_8)]) wv_45 ∧ R (.tuple #[(.agg #[(.string r0_7), (.bool r1_4), (.slice r2_p_6 r2_n_6 r2_c_6)]), (.agg #[(.string r0_8), (.bool r1_5), (.slice r2_p_7 r2_n_7 r2_c_7)]), (.agg #[(.bool r0_9), (.slice r1_p_3 r1_n_3 r1_c_3), (.slice r2_p_8 r2_n_8 r2_c_8)]), (.bool true)]) wv_45)) ∧
      (true = false →
        ((!t63) = true →
          ∃ wv_46, Stores P 33 ⟨r_2, 0, none⟩ (.agg #[(.string ByteArray.empty), (.bool false), (.slice none 0 0)]) wv_36 wv_46 ∧
          ∃ wv_47, Stores P 33 ⟨r_3, 0, none⟩ (.agg #[(.string ByteArray.empty), (.bool false), (.slice none 0 0)]) wv_46 wv_47 ∧
          ∃ wv_48, Stores P 35 ⟨r_4, 0, none⟩ (.agg #[(.bool false), (.slice none 0 0), (.slice none 0 0)]) wv_47 wv_48 ∧
          ∃ (r0_10 : ByteArray) (r1_6 : Bool) (r2_p_9 : Option Addr) (r2_n_9 : Nat) (r2_c_9 : Nat), Loads P 33 ⟨r_2, 0, none⟩ (.agg #[(.string r0_10), (.bool r1_6), (.slice r2_p_9 r2_n_9 r2_c_9)]) wv_48 ∧ ∃ (r0_11 : ByteArray) (r1_7 : Bool) (r2_p_10 : Option Addr) (r2_n_10 : Nat) (r2_c_10 : Nat), Loads P 33 ⟨r_3, 0, none⟩ (.agg #[(.string r0_11), (.bool r1_7), (.slice r2_p_10 r2_n_10 r2_c_10)]) wv_48 ∧ ∃ (r0_12 : Bool) (r1_p_4 : Option Addr) (r1_n_4 : Nat) (r1_c_4 : Nat) (r2_p_11 : Option Addr) (r2_n_11 : Nat) (r2_c_11 : Nat), Loads P 35 ⟨r_4, 0, none⟩ (.agg #[(.bool r0_12), (.slice r1_p_4 r1_n_4 r1_c_4), (.slice r2_p_11 r2_n_11 r2_c_11)]) wv_48 ∧ R (.tuple #[(.agg #[(.string r0_10), (.bool r1_6), (.slice r2_p_9 r2_n_9 r2_c_9)]), (.agg #[(.string r0_11), (.bool r1_7), (.slice r2_p_10 r2_n_10 r2_c_10)]), (.agg #[(.bool r0_12), (.slice r1_p_4 r1_n_4 r1_c_4), (.slice r2_p_11 r2_n_11 r2_c_11)]), (.bool false)]) wv_48) ∧
        ((!t63) = false →
          ∃ blks_1 : List Nat, ∃ (t830_1 : ByteArray) (t831_1 : Bool) (t832_p_1 : Option Addr) (t832_n_1 : Nat) (t832_c_1 : Nat), (∀ wv_49, EX blks_1 wv_36.drew wv_49 → Loads P 33 ⟨r_8, 0, none⟩ (.agg #[(.string t830_1), (.bool t831_1), (.slice t832_p_1 t832_n_1 t832_c_1)]) wv_49) ∧ ∃ (t840_1 : ByteArray) (t841_1 : Bool) (t842_p_1 : Option Addr) (t842_n_1 : Nat) (t842_c_1 : Nat), (∀ wv_50, EX blks_1 wv_36.drew wv_50 → Loads P 33 ⟨r_10, 0, none⟩ (.agg #[(.string t840_1), (.bool t841_1), (.slice t842_p_1 t842_n_1 t842_c_1)]) wv_50) ∧ ∃ (t850_1 : Bool) (t851_p_1 : Option Addr) (t851_n_1 : Nat) (t851_c_1 : Nat) (t852_p_1 : Option Addr) (t852_n_1 : Nat) (t852_c_1 : Nat), (∀ wv_51, EX blks_1 wv_36.drew wv_51 → Loads P 35 ⟨r_9, 0, none⟩ (.agg #[(.bool t850_1), (.slice t851_p_1 t851_n_1 t851_c_1), (.slice t852_p_1 t852_n_1 t852_c_1)]) wv_51) ∧ ∃ wv_52, Stores P 33 ⟨r_2, 0, none⟩ (.agg #[(.string t830_1), (.bool t831_1), (.slice t832_p_1 t832_n_1 t832_c_1)]) wv_36.drew wv_52 ∧
          EX blks_1 wv_36.drew wv_52 ∧ ∃ wv_53, Stores P 33 ⟨r_3, 0, none⟩ (.agg #[(.string t840_1), (.bool t841_1), (.slice t842_p_1 t842_n_1 t842_c_1)]) wv_52 wv_53 ∧
          EX blks_1 wv_52 wv_53 ∧ ∃ wv_54, Stores P 35 ⟨r_4, 0, none⟩ (.agg #[(.bool t850_1), (.slice t851_p_1 t851_n_1 t851_c_1), (.slice t852_p_1 t852_n_1 t852_c_1)]) wv_53 wv_54 ∧
          ∃ (r0_13 : ByteArray) (r1_8 : Bool) (r2_p_12 : Option Addr) (r2_n_12 : Nat) (r2_c_12 : Nat), Loads P 33 ⟨r_2, 0, none⟩ (.agg #[(.string r0_13), (.bool r1_8), (.slice r2_p_12 r2_n_12 r2_c_12)]) wv_54 ∧ ∃ (r0_14 : ByteArray) (r1_9 : Bool) (r2_p_13 : Option Addr) (r2_n_13 : Nat) (r2_c_13 : Nat), Loads P 33 ⟨r_3, 0, none⟩ (.agg #[(.string r0_14), (.bool r1_9), (.slice r2_p_13 r2_n_13 r2_c_13)]) wv_54 ∧ ∃ (r0_15 : Bool) (r1_p_5 : Option Addr) (r1_n_5 : Nat) (r1_c_5 : Nat) (r2_p_14 : Option Addr) (r2_n_14 : Nat) (r2_c_14 : Nat), Loads P 35 ⟨r_4, 0, none⟩ (.agg #[(.bool r0_15), (.slice r1_p_5 r1_n_5 r1_c_5), (.slice r2_p_14 r2_n_14 r2_c_14)]) wv_54 ∧ R (.tuple #[(.agg #[(.string r0_13), (.bool r1_8), (.slice r2_p_12 r2_n_12 r2_c_12)]), (.agg #[(.string r0_14), (.bool r1_9), (.slice r2_p_13 r2_n_13 r2_c_13)]), (.agg #[(.bool r0_15), (.slice r1_p_5 r1_n_5 r1_c_5), (.slice r2_p_14 r2_n_14 r2_c_14)]), (.bool true)]) wv_54))) ∧
    (true = false →
      ((!t56) = true →
        (true = true →
          ∃ wv_55, Stores P 33 ⟨r_2, 0, none⟩ (.agg #[(.string ByteArray.empty), (.bool false), (.slice none 0 0)]) wv_36 wv_55 ∧
          ∃ wv_56, Stores P 33 ⟨r_3, 0, none⟩ (.agg #[(.string ByteArray.empty), (.bool false), (.slice none 0 0)]) wv_55 wv_56 ∧
          ∃ wv_57, Stores P 35 ⟨r_4, 0, none⟩ (.agg #[(.bool false), (.slice none 0 0), (.slice none 0 0)]) wv_56 wv_57 ∧
          ∃ (r0_16 : ByteArray) (r1_10 : Bool) (r2_p_15 : Option Addr) (r2_n_15 : Nat) (r2_c_15 : Nat), Loads P 33 ⟨r_2, 0, none⟩ (.agg #[(.string r0_16), (.bool r1_10), (.slice r2_p_15 r2_n_15 r2_c_15)]) wv_57 ∧ ∃ (r0_17 : ByteArray) (r1_11 : Bool) (r2_p_16 : Option Addr) (r2_n_16 : Nat) (r2_c_16 : Nat), Loads P 33 ⟨r_3, 0, none⟩ (.agg #[(.string r0_17), (.bool r1_11), (.slice r2_p_16 r2_n_16 r2_c_16)]) wv_57 ∧ ∃ (r0_18 : Bool) (r1_p_6 : Option Addr) (r1_n_6 : Nat) (r1_c_6 : Nat) (r2_p_17 : Option Addr) (r2_n_17 : Nat) (r2_c_17 : Nat), Loads P 35 ⟨r_4, 0, none⟩ (.agg #[(.bool r0_18), (.slice r1_p_6 r1_n_6 r1_c_6), (.slice r2_p_17 r2_n_17 r2_c_17)]) wv_57 ∧ R (.tuple #[(.agg #[(.string r0_16), (.bool r1_10), (.slice r2_p_15 r2_n_15 r2_c_15)]), (.agg #[(.string r0_17), (.bool r1_11), (.slice r2_p_16 r2_n_16 r2_c_16)]), (.agg #[(.bool r0_18), (.slice r1_p_6 r1_n_6 r1_c_6), (.slice r2_p_17 r2_n_17 r2_c_17)]), (.bool false)]) wv_57) ∧
        (true = false →
          ∃ blks_2 : List Nat, ∃ (t830_2 : ByteArray) (t831_2 : Bool) (t832_p_2 : Option Addr) (t832_n_2 : Nat) (t832_c_2 : Nat), (∀ wv_58, EX blks_2 wv_36.drew wv_58 → Loads P 33 ⟨r_8, 0, none⟩ (.agg #[(.string t830_2), (.bool t831_2), (.slice t832_p_2 t832_n_2 t832_c_2)]) wv_58) ∧ ∃ (t840_2 : ByteArray) (t841_2 : Bool) (t842_p_2 : Option Addr) (t842_n_2 : Nat) (t842_c_2 : Nat), (∀ wv_59, EX blks_2 wv_36.drew wv_59 → Loads P 33 ⟨r_10, 0, none⟩ (.agg #[(.string t840_2), (.bool t841_2), (.slice t842_p_2 t842_n_2 t842_c_2)]) wv_59) ∧ ∃ (t850_2 : Bool) (t851_p_2 : Option Addr) (t851_n_2 : Nat) (t851_c_2 : Nat) (t852_p_2 : Option Addr) (t852_n_2 : Nat) (t852_c_2 : Nat), (∀ wv_60, EX blks_2 wv_36.drew wv_60 → Loads P 35 ⟨r_9, 0, none⟩ (.agg #[(.bool t850_2), (.slice t851_p_2 t851_n_2 t851_c_2), (.slice t852_p_2 t852_n_2 t852_c_2)]) wv_60) ∧ ∃ wv_61, Stores P 33 ⟨r_2, 0, none⟩ (.agg #[(.string t830_2), (.bool t831_2), (.slice t832_p_2 t832_n_2 t832_c_2)]) wv_36.drew wv_61 ∧
          EX blks_2 wv_36.drew wv_61 ∧ ∃ wv_62, Stores P 33 ⟨r_3, 0, none⟩ (.agg #[(.string t840_2), (.bool t841_2), (.slice t842_p_2 t842_n_2 t842_c_2)]) wv_61 wv_62 ∧
          EX blks_2 wv_61 wv_62 ∧ ∃ wv_63, Stores P 35 ⟨r_4, 0, none⟩ (.agg #[(.bool t850_2), (.slice t851_p_2 t851_n_2 t851_c_2), (.slice t852_p_2 t852_n_2 t852_c_2)]) wv_62 wv_63 ∧
          ∃ (r0_19 : ByteArray) (r1_12 : Bool) (r2_p_18 : Option Addr) (r2_n_18 : Nat) (r2_c_18 : Nat), Loads P 33 ⟨r_2, 0, none⟩ (.agg #[(.string r0_19), (.bool r1_12), (.slice r2_p_18 r2_n_18 r2_c_18)]) wv_63 ∧ ∃ (r0_20 : ByteArray) (r1_13 : Bool) (r2_p_19 : Option Addr) (r2_n_19 : Nat) (r2_c_19 : Nat), Loads P 33 ⟨r_3, 0, none⟩ (.agg #[(.string r0_20), (.bool r1_13), (.slice r2_p_19 r2_n_19 r2_c_19)]) wv_63 ∧ ∃ (r0_21 : Bool) (r1_p_7 : Option Addr) (r1_n_7 : Nat) (r1_c_7 : Nat) (r2_p_20 : Option Addr) (r2_n_20 : Nat) (r2_c_20 : Nat), Loads P 35 ⟨r_4, 0, none⟩ (.agg #[(.bool r0_21), (.slice r1_p_7 r1_n_7 r1_c_7), (.slice r2_p_20 r2_n_20 r2_c_20)]) wv_63 ∧ R (.tuple #[(.agg #[(.string r0_19), (.bool r1_12), (.slice r2_p_18 r2_n_18 r2_c_18)]), (.agg #[(.string r0_20), (.bool r1_13), (.slice r2_p_19 r2_n_19 r2_c_19)]), (.agg #[(.bool r0_21), (.slice r1_p_7 r1_n_7 r1_c_7), (.slice r2_p_20 r2_n_20 r2_c_20)]), (.bool true)]) wv_63)) ∧
      ((!t56) = false →
        ((!t63) = true →
          ∃ wv_64, Stores P 33 ⟨r_2, 0, none⟩ (.agg #[(.string ByteArray.empty), (.bool false), (.slice none 0 0)]) wv_36 wv_64 ∧
          ∃ wv_65, Stores P 33 ⟨r_3, 0, none⟩ (.agg #[(.string ByteArray.empty), (.bool false), (.slice none 0 0)]) wv_64 wv_65 ∧
          ∃ wv_66, Stores P 35 ⟨r_4, 0, none⟩ (.agg #[(.bool false), (.slice none 0 0), (.slice none 0 0)]) wv_65 wv_66 ∧
          ∃ (r0_22 : ByteArray) (r1_14 : Bool) (r2_p_21 : Option Addr) (r2_n_21 : Nat) (r2_c_21 : Nat), Loads P 33 ⟨r_2, 0, none⟩ (.agg #[(.string r0_22), (.bool r1_14), (.slice r2_p_21 r2_n_21 r2_c_21)]) wv_66 ∧ ∃ (r0_23 : ByteArray) (r1_15 : Bool) (r2_p_22 : Option Addr) (r2_n_22 : Nat) (r2_c_22 : Nat), Loads P 33 ⟨r_3, 0, none⟩ (.agg #[(.string r0_23), (.bool r1_15), (.slice r2_p_22 r2_n_22 r2_c_22)]) wv_66 ∧ ∃ (r0_24 : Bool) (r1_p_8 : Option Addr) (r1_n_8 : Nat) (r1_c_8 : Nat) (r2_p_23 : Option Addr) (r2_n_23 : Nat) (r2_c_23 : Nat), Loads P 35 ⟨r_4, 0, none⟩ (.agg #[(.bool r0_24), (.slice r1_p_8 r1_n_8 r1_c_8), (.slice r2_p_23 r2_n_23 r2_c_23)]) wv_66 ∧ R (.tuple #[(.agg #[(.string r0_22), (.bool r1_14), (.slice r2_p_21 r2_n_21 r2_c_21)]), (.agg #[(.string r0_23), (.bool r1_15), (.slice r2_p_22 r2_n_22 r2_c_22)]), (.agg #[(.bool r0_24), (.slice r1_p_8 r1_n_8 r1_c_8), (.slice r2_p_23 r2_n_23 r2_c_23)]), (.bool false)]) wv_66) ∧
        ((!t63) = false →
          ∃ blks_3 : List Nat, ∃ (t830_3 : ByteArray) (t831_3 : Bool) (t832_p_3 : Option Addr) (t832_n_3 : Nat) (t832_c_3 : Nat), (∀ wv_67, EX blks_3 wv_36.drew wv_67 → Loads P 33 ⟨r_8, 0, none⟩ (.agg #[(.string t830_3), (.bool t831_3), (.slice t832_p_3 t832_n_3 t832_c_3)]) wv_67) ∧ ∃ (t840_3 : ByteArray) (t841_3 : Bool) (t842_p_3 : Option Addr) (t842_n_3 : Nat) (t842_c_3 : Nat), (∀ wv_68, EX blks_3 wv_36.drew wv_68 → Loads P 33 ⟨r_10, 0, none⟩ (.agg #[(.string t840_3), (.bool t841_3), (.slice t842_p_3 t842_n_3 t842_c_3)]) wv_68) ∧ ∃ (t850_3 : Bool) (t851_p_3 : Option Addr) (t851_n_3 : Nat) (t851_c_3 : Nat) (t852_p_3 : Option Addr) (t852_n_3 : Nat) (t852_c_3 : Nat), (∀ wv_69, EX blks_3 wv_36.drew wv_69 → Loads P 35 ⟨r_9, 0, none⟩ (.agg #[(.bool t850_3), (.slice t851_p_3 t851_n_3 t851_c_3), (.slice t852_p_3 t852_n_3 t852_c_3)]) wv_69) ∧ ∃ wv_70, Stores P 33 ⟨r_2, 0, none⟩ (.agg #[(.string t830_3), (.bool t831_3), (.slice t832_p_3 t832_n_3 t832_c_3)]) wv_36.drew wv_70 ∧
          EX blks_3 wv_36.drew wv_70 ∧ ∃ wv_71, Stores P 33 ⟨r_3, 0, none⟩ (.agg #[(.string t840_3), (.bool t841_3), (.slice t842_p_3 t842_n_3 t842_c_3)]) wv_70 wv_71 ∧
          EX blks_3 wv_70 wv_71 ∧ ∃ wv_72, Stores P 35 ⟨r_4, 0, none⟩ (.agg #[(.bool t850_3), (.slice t851_p_3 t851_n_3 t851_c_3), (.slice t852_p_3 t852_n_3 t852_c_3)]) wv_71 wv_72 ∧
          ∃ (r0_25 : ByteArray) (r1_16 : Bool) (r2_p_24 : Option Addr) (r2_n_24 : Nat) (r2_c_24 : Nat), Loads P 33 ⟨r_2, 0, none⟩ (.agg #[(.string r0_25), (.bool r1_16), (.slice r2_p_24 r2_n_24 r2_c_24)]) wv_72 ∧ ∃ (r0_26 : ByteArray) (r1_17 : Bool) (r2_p_25 : Option Addr) (r2_n_25 : Nat) (r2_c_25 : Nat), Loads P 33 ⟨r_3, 0, none⟩ (.agg #[(.string r0_26), (.bool r1_17), (.slice r2_p_25 r2_n_25 r2_c_25)]) wv_72 ∧ ∃ (r0_27 : Bool) (r1_p_9 : Option Addr) (r1_n_9 : Nat) (r1_c_9 : Nat) (r2_p_26 : Option Addr) (r2_n_26 : Nat) (r2_c_26 : Nat), Loads P 35 ⟨r_4, 0, none⟩ (.agg #[(.bool r0_27), (.slice r1_p_9 r1_n_9 r1_c_9), (.slice r2_p_26 r2_n_26 r2_c_26)]) wv_72 ∧ R (.tuple #[(.agg #[(.string r0_25), (.bool r1_16), (.slice r2_p_24 r2_n_24 r2_c_24)]), (.agg #[(.string r0_26), (.bool r1_17), (.slice r2_p_25 r2_n_25 r2_c_25)]), (.agg #[(.bool r0_27), (.slice r1_p_9 r1_n_9 r1_c_9), (.slice r2_p_26 r2_n_26 r2_c_26)]), (.bool true)]) wv_72)))) ∧
  ((!t41) = false →
    ((!t48) = true →
      (true = true →
        (true = true →
          ∃ wv_73, Stores P 33 ⟨r_2, 0, none⟩ (.agg #[(.string ByteArray.empty), (.bool false), (.slice none 0 0)]) wv_36 wv_73 ∧
          ∃ wv_74, Stores P 33 ⟨r_3, 0, none⟩ (.agg #[(.string ByteArray.empty), (.bool false), (.slice none 0 0)]) wv_73 wv_74 ∧
          ∃ wv_75, Stores P 35 ⟨r_4, 0, none⟩ (.agg #[(.bool false), (.slice none 0 0), (.slice none 0 0)]) wv_74 wv_75 ∧
          ∃ (r0_28 : ByteArray) (r1_18 : Bool) (r2_p_27 : Option Addr) (r2_n_27 : Nat) (r2_c_27 : Nat), Loads P 33 ⟨r_2, 0, none⟩ (.agg #[(.string r0_28), (.bool r1_18), (.slice r2_p_27 r2_n_27 r2_c_27)]) wv_75 ∧ ∃ (r0_29 : ByteArray) (r1_19 : Bool) (r2_p_28 : Option Addr) (r2_n_28 : Nat) (r2_c_28 : Nat), Loads P 33 ⟨r_3, 0, none⟩ (.agg #[(.string r0_29), (.bool r1_19), (.slice r2_p_28 r2_n_28 r2_c_28)]) wv_75 ∧ ∃ (r0_30 : Bool) (r1_p_10 : Option Addr) (r1_n_10 : Nat) (r1_c_10 : Nat) (r2_p_29 : Option Addr) (r2_n_29 : Nat) (r2_c_29 : Nat), Loads P 35 ⟨r_4, 0, none⟩ (.agg #[(.bool r0_30), (.slice r1_p_10 r1_n_10 r1_c_10), (.slice r2_p_29 r2_n_29 r2_c_29)]) wv_75 ∧ R (.tuple #[(.agg #[(.string r0_28), (.bool r1_18), (.slice r2_p_27 r2_n_27 r2_c_27)]), (.agg #[(.string r0_29), (.bool r1_19), (.slice r2_p_28 r2_n_28 r2_c_28)]), (.agg #[(.bool r0_30), (.slice r1_p_10 r1_n_10 r1_c_10), (.slice r2_p_29 r2_n_29 r2_c_29)]), (.bool false)]) wv_75) ∧
        (true = false →
          ∃ blks_4 : List Nat, ∃ (t830_4 : ByteArray) (t831_4 : Bool) (t832_p_4 : Option Addr) (t832_n_4 : Nat) (t832_c_4 : Nat), (∀ wv_76, EX blks_4 wv_36.drew wv_76 → Loads P 33 ⟨r_8, 0, none⟩ (.agg #[(.string t830_4), (.bool t831_4), (.slice t832_p_4 t832_n_4 t832_c_4)]) wv_76) ∧ ∃ (t840_4 : ByteArray) (t841_4 : Bool) (t842_p_4 : Option Addr) (t842_n_4 : Nat) (t842_c_4 : Nat), (∀ wv_77, EX blks_4 wv_36.drew wv_77 → Loads P 33 ⟨r_10, 0, none⟩ (.agg #[(.string t840_4), (.bool t841_4), (.slice t842_p_4 t842_n_4 t842_c_4)]) wv_77) ∧ ∃ (t850_4 : Bool) (t851_p_4 : Option Addr) (t851_n_4 : Nat) (t851_c_4 : Nat) (t852_p_4 : Option Addr) (t852_n_4 : Nat) (t852_c_4 : Nat), (∀ wv_78, EX blks_4 wv_36.drew wv_78 → Loads P 35 ⟨r_9, 0, none⟩ (.agg #[(.bool t850_4), (.slice t851_p_4 t851_n_4 t851_c_4), (.slice t852_p_4 t852_n_4 t852_c_4)]) wv_78) ∧ ∃ wv_79, Stores P 33 ⟨r_2, 0, none⟩ (.agg #[(.string t830_4), (.bool t831_4), (.slice t832_p_4 t832_n_4 t832_c_4)]) wv_36.drew wv_79 ∧
          EX blks_4 wv_36.drew wv_79 ∧ ∃ wv_80, Stores P 33 ⟨r_3, 0, none⟩ (.agg #[(.string t840_4), (.bool t841_4), (.slice t842_p_4 t842_n_4 t842_c_4)]) wv_79 wv_80 ∧
          EX blks_4 wv_79 wv_80 ∧ ∃ wv_81, Stores P 35 ⟨r_4, 0, none⟩ (.agg #[(.bool t850_4), (.slice t851_p_4 t851_n_4 t851_c_4), (.slice t852_p_4 t852_n_4 t852_c_4)]) wv_80 wv_81 ∧
          ∃ (r0_31 : ByteArray) (r1_20 : Bool) (r2_p_30 : Option Addr) (r2_n_30 : Nat) (r2_c_30 : Nat), Loads P 33 ⟨r_2, 0, none⟩ (.agg #[(.string r0_31), (.bool r1_20), (.slice r2_p_30 r2_n_30 r2_c_30)]) wv_81 ∧ ∃ (r0_32 : ByteArray) (r1_21 : Bool) (r2_p_31 : Option Addr) (r2_n_31 : Nat) (r2_c_31 : Nat), Loads P 33 ⟨r_3, 0, none⟩ (.agg #[(.string r0_32), (.bool r1_21), (.slice r2_p_31 r2_n_31 r2_c_31)]) wv_81 ∧ ∃ (r0_33 : Bool) (r1_p_11 : Option Addr) (r1_n_11 : Nat) (r1_c_11 : Nat) (r2_p_32 : Option Addr) (r2_n_32 : Nat) (r2_c_32 : Nat), Loads P 35 ⟨r_4, 0, none⟩ (.agg #[(.bool r0_33), (.slice r1_p_11 r1_n_11 r1_c_11), (.slice r2_p_32 r2_n_32 r2_c_32)]) wv_81 ∧ R (.tuple #[(.agg #[(.string r0_31), (.bool r1_20), (.slice r2_p_30 r2_n_30 r2_c_30)]), (.agg #[(.string r0_32), (.bool r1_21), (.slice r2_p_31 r2_n_31 r2_c_31)]), (.agg #[(.bool r0_33), (.slice r1_p_11 r1_n_11 r1_c_11), (.slice r2_p_32 r2_n_32 r2_c_32)]), (.bool true)]) wv_81)) ∧
      (true = false →
        ((!t63) = true →
          ∃ wv_82, Stores P 33 ⟨r_2, 0, none⟩ (.agg #[(.string ByteArray.empty), (.bool false), (.slice none 0 0)]) wv_36 wv_82 ∧
          ∃ wv_83, Stores P 33 ⟨r_3, 0, none⟩ (.agg #[(.string ByteArray.empty), (.bool false), (.slice none 0 0)]) wv_82 wv_83 ∧
          ∃ wv_84, Stores P 35 ⟨r_4, 0, none⟩ (.agg #[(.bool false), (.slice none 0 0), (.slice none 0 0)]) wv_83 wv_84 ∧
          ∃ (r0_34 : ByteArray) (r1_22 : Bool) (r2_p_33 : Option Addr) (r2_n_33 : Nat) (r2_c_33 : Nat), Loads P 33 ⟨r_2, 0, none⟩ (.agg #[(.string r0_34), (.bool r1_22), (.slice r2_p_33 r2_n_33 r2_c_33)]) wv_84 ∧ ∃ (r0_35 : ByteArray) (r1_23 : Bool) (r2_p_34 : Option Addr) (r2_n_34 : Nat) (r2_c_34 : Nat), Loads P 33 ⟨r_3, 0, none⟩ (.agg #[(.string r0_35), (.bool r1_23), (.slice r2_p_34 r2_n_34 r2_c_34)]) wv_84 ∧ ∃ (r0_36 : Bool) (r1_p_12 : Option Addr) (r1_n_12 : Nat) (r1_c_12 : Nat) (r2_p_35 : Option Addr) (r2_n_35 : Nat) (r2_c_35 : Nat), Loads P 35 ⟨r_4, 0, none⟩ (.agg #[(.bool r0_36), (.slice r1_p_12 r1_n_12 r1_c_12), (.slice r2_p_35 r2_n_35 r2_c_35)]) wv_84 ∧ R (.tuple #[(.agg #[(.string r0_34), (.bool r1_22), (.slice r2_p_33 r2_n_33 r2_c_33)]), (.agg #[(.string r0_35), (.bool r1_23), (.slice r2_p_34 r2_n_34 r2_c_34)]), (.agg #[(.bool r0_36), (.slice r1_p_12 r1_n_12 r1_c_12), (.slice r2_p_35 r2_n_35 r2_c_35)]), (.bool false)]) wv_84) ∧
        ((!t63) = false →
          ∃ blks_5 : List Nat, ∃ (t830_5 : ByteArray) (t831_5 : Bool) (t832_p_5 : Option Addr) (t832_n_5 : Nat) (t832_c_5 : Nat), (∀ wv_85, EX blks_5 wv_36.drew wv_85 → Loads P 33 ⟨r_8, 0, none⟩ (.agg #[(.string t830_5), (.bool t831_5), (.slice t832_p_5 t832_n_5 t832_c_5)]) wv_85) ∧ ∃ (t840_5 : ByteArray) (t841_5 : Bool) (t842_p_5 : Option Addr) (t842_n_5 : Nat) (t842_c_5 : Nat), (∀ wv_86, EX blks_5 wv_36.drew wv_86 → Loads P 33 ⟨r_10, 0, none⟩ (.agg #[(.string t840_5), (.bool t841_5), (.slice t842_p_5 t842_n_5 t842_c_5)]) wv_86) ∧ ∃ (t850_5 : Bool) (t851_p_5 : Option Addr) (t851_n_5 : Nat) (t851_c_5 : Nat) (t852_p_5 : Option Addr) (t852_n_5 : Nat) (t852_c_5 : Nat), (∀ wv_87, EX blks_5 wv_36.drew wv_87 → Loads P 35 ⟨r_9, 0, none⟩ (.agg #[(.bool t850_5), (.slice t851_p_5 t851_n_5 t851_c_5), (.slice t852_p_5 t852_n_5 t852_c_5)]) wv_87) ∧ ∃ wv_88, Stores P 33 ⟨r_2, 0, none⟩ (.agg #[(.string t830_5), (.bool t831_5), (.slice t832_p_5 t832_n_5 t832_c_5)]) wv_36.drew wv_88 ∧
          EX blks_5 wv_36.drew wv_88 ∧ ∃ wv_89, Stores P 33 ⟨r_3, 0, none⟩ (.agg #[(.string t840_5), (.bool t841_5), (.slice t842_p_5 t842_n_5 t842_c_5)]) wv_88 wv_89 ∧
          EX blks_5 wv_88 wv_89 ∧ ∃ wv_90, Stores P 35 ⟨r_4, 0, none⟩ (.agg #[(.bool t850_5), (.slice t851_p_5 t851_n_5 t851_c_5), (.slice t852_p_5 t852_n_5 t852_c_5)]) wv_89 wv_90 ∧
          ∃ (r0_37 : ByteArray) (r1_24 : Bool) (r2_p_36 : Option Addr) (r2_n_36 : Nat) (r2_c_36 : Nat), Loads P 33 ⟨r_2, 0, none⟩ (.agg #[(.string r0_37), (.bool r1_24), (.slice r2_p_36 r2_n_36 r2_c_36)]) wv_90 ∧ ∃ (r0_38 : ByteArray) (r1_25 : Bool) (r2_p_37 : Option Addr) (r2_n_37 : Nat) (r2_c_37 : Nat), Loads P 33 ⟨r_3, 0, none⟩ (.agg #[(.string r0_38), (.bool r1_25), (.slice r2_p_37 r2_n_37 r2_c_37)]) wv_90 ∧ ∃ (r0_39 : Bool) (r1_p_13 : Option Addr) (r1_n_13 : Nat) (r1_c_13 : Nat) (r2_p_38 : Option Addr) (r2_n_38 : Nat) (r2_c_38 : Nat), Loads P 35 ⟨r_4, 0, none⟩ (.agg #[(.bool r0_39), (.slice r1_p_13 r1_n_13 r1_c_13), (.slice r2_p_38 r2_n_38 r2_c_38)]) wv_90 ∧ R (.tuple #[(.agg #[(.string r0_37), (.bool r1_24), (.slice r2_p_36 r2_n_36 r2_c_36)]), (.agg #[(.string r0_38), (.bool r1_25), (.slice r2_p_37 r2_n_37 r2_c_37)]), (.agg #[(.bool r0_39), (.slice r1_p_13 r1_n_13 r1_c_13), (.slice r2_p_38 r2_n_38 r2_c_38)]), (.bool true)]) wv_90))) ∧
    ((!t48) = false →
      ((!t56) = true →
        (true = true →
          ∃ wv_91, Stores P 33 ⟨r_2, 0, none⟩ (.agg #[(.string ByteArray.empty), (.bool false), (.slice none 0 0)]) wv_36 wv_91 ∧
          ∃ wv_92, Stores P 33 ⟨r_3, 0, none⟩ (.agg #[(.string ByteArray.empty), (.bool false), (.slice none 0 0)]) wv_91 wv_92 ∧
          ∃ wv_93, Stores P 35 ⟨r_4, 0, none⟩ (.agg #[(.bool false), (.slice none 0 0), (.slice none 0 0)]) wv_92 wv_93 ∧
          ∃ (r0_40 : ByteArray) (r1_26 : Bool) (r2_p_39 : Option Addr) (r2_n_39 : Nat) (r2_c_39 : Nat), Loads P 33 ⟨r_2, 0, none⟩ (.agg #[(.string r0_40), (.bool r1_26), (.slice r2_p_39 r2_n_39 r2_c_39)]) wv_93 ∧ ∃ (r0_41 : ByteArray) (r1_27 : Bool) (r2_p_40 : Option Addr) (r2_n_40 : Nat) (r2_c_40 : Nat), Loads P 33 ⟨r_3, 0, none⟩ (.agg #[(.string r0_41), (.bool r1_27), (.slice r2_p_40 r2_n_40 r2_c_40)]) wv_93 ∧ ∃ (r0_42 : Bool) (r1_p_14 : Option Addr) (r1_n_14 : Nat) (r1_c_14 : Nat) (r2_p_41 : Option Addr) (r2_n_41 : Nat) (r2_c_41 : Nat), Loads P 35 ⟨r_4, 0, none⟩ (.agg #[(.bool r0_42), (.slice r1_p_14 r1_n_14 r1_c_14), (.slice r2_p_41 r2_n_41 r2_c_41)]) wv_93 ∧ R (.tuple #[(.agg #[(.string r0_40), (.bool r1_26), (.slice r2_p_39 r2_n_39 r2_c_39)]), (.agg #[(.string r0_41), (.bool r1_27), (.slice r2_p_40 r2_n_40 r2_c_40)]), (.agg #[(.bool r0_42), (.slice r1_p_14 r1_n_14 r1_c_14), (.slice r2_p_41 r2_n_41 r2_c_41)]), (.bool false)]) wv_93) ∧
        (true = false →
          ∃ blks_6 : List Nat, ∃ (t830_6 : ByteArray) (t831_6 : Bool) (t832_p_6 : Option Addr) (t832_n_6 : Nat) (t832_c_6 : Nat), (∀ wv_94, EX blks_6 wv_36.drew wv_94 → Loads P 33 ⟨r_8, 0, none⟩ (.agg #[(.string t830_6), (.bool t831_6), (.slice t832_p_6 t832_n_6 t832_c_6)]) wv_94) ∧ ∃ (t840_6 : ByteArray) (t841_6 : Bool) (t842_p_6 : Option Addr) (t842_n_6 : Nat) (t842_c_6 : Nat), (∀ wv_95, EX blks_6 wv_36.drew wv_95 → Loads P 33 ⟨r_10, 0, none⟩ (.agg #[(.string t840_6), (.bool t841_6), (.slice t842_p_6 t842_n_6 t842_c_6)]) wv_95) ∧ ∃ (t850_6 : Bool) (t851_p_6 : Option Addr) (t851_n_6 : Nat) (t851_c_6 : Nat) (t852_p_6 : Option Addr) (t852_n_6 : Nat) (t852_c_6 : Nat), (∀ wv_96, EX blks_6 wv_36.drew wv_96 → Loads P 35 ⟨r_9, 0, none⟩ (.agg #[(.bool t850_6), (.slice t851_p_6 t851_n_6 t851_c_6), (.slice t852_p_6 t852_n_6 t852_c_6)]) wv_96) ∧ ∃ wv_97, Stores P 33 ⟨r_2, 0, none⟩ (.agg #[(.string t830_6), (.bool t831_6), (.slice t832_p_6 t832_n_6 t832_c_6)]) wv_36.drew wv_97 ∧
          EX blks_6 wv_36.drew wv_97 ∧ ∃ wv_98, Stores P 33 ⟨r_3, 0, none⟩ (.agg #[(.string t840_6), (.bool t841_6), (.slice t842_p_6 t842_n_6 t842_c_6)]) wv_97 wv_98 ∧
          EX blks_6 wv_97 wv_98 ∧ ∃ wv_99, Stores P 35 ⟨r_4, 0, none⟩ (.agg #[(.bool t850_6), (.slice t851_p_6 t851_n_6 t851_c_6), (.slice t852_p_6 t852_n_6 t852_c_6)]) wv_98 wv_99 ∧
          ∃ (r0_43 : ByteArray) (r1_28 : Bool) (r2_p_42 : Option Addr) (r2_n_42 : Nat) (r2_c_42 : Nat), Loads P 33 ⟨r_2, 0, none⟩ (.agg #[(.string r0_43), (.bool r1_28), (.slice r2_p_42 r2_n_42 r2_c_42)]) wv_99 ∧ ∃ (r0_44 : ByteArray) (r1_29 : Bool) (r2_p_43 : Option Addr) (r2_n_43 : Nat) (r2_c_43 : Nat), Loads P 33 ⟨r_3, 0, none⟩ (.agg #[(.string r0_44), (.bool r1_29), (.slice r2_p_43 r2_n_43 r2_c_43)]) wv_99 ∧ ∃ (r0_45 : Bool) (r1_p_15 : Option Addr) (r1_n_15 : Nat) (r1_c_15 : Nat) (r2_p_44 : Option Addr) (r2_n_44 : Nat) (r2_c_44 : Nat), Loads P 35 ⟨r_4, 0, none⟩ (.agg #[(.bool r0_45), (.slice r1_p_15 r1_n_15 r1_c_15), (.slice r2_p_44 r2_n_44 r2_c_44)]) wv_99 ∧ R (.tuple #[(.agg #[(.string r0_43), (.bool r1_28), (.slice r2_p_42 r2_n_42 r2_c_42)]), (.agg #[(.string r0_44), (.bool r1_29), (.slice r2_p_43 r2_n_43 r2_c_43)]), (.agg #[(.bool r0_45), (.slice r1_p_15 r1_n_15 r1_c_15), (.slice r2_p_44 r2_n_44 r2_c_44)]), (.bool true)]) wv_99)) ∧
      ((!t56) = false →
        ((!t63) = true →
          ∃ wv_100, Stores P 33 ⟨r_2, 0, none⟩ (.agg #[(.string ByteArray.empty), (.bool false), (.slice none 0 0)]) wv_36 wv_100 ∧
          ∃ wv_101, Stores P 33 ⟨r_3, 0, none⟩ (.agg #[(.string ByteArray.empty), (.bool false), (.slice none 0 0)]) wv_100 wv_101 ∧
          ∃ wv_102, Stores P 35 ⟨r_4, 0, none⟩ (.agg #[(.bool false), (.slice none 0 0), (.slice none 0 0)]) wv_101 wv_102 ∧
          ∃ (r0_46 : ByteArray) (r1_30 : Bool) (r2_p_45 : Option Addr) (r2_n_45 : Nat) (r2_c_45 : Nat), Loads P 33 ⟨r_2, 0, none⟩ (.agg #[(.string r0_46), (.bool r1_30), (.slice r2_p_45 r2_n_45 r2_c_45)]) wv_102 ∧ ∃ (r0_47 : ByteArray) (r1_31 : Bool) (r2_p_46 : Option Addr) (r2_n_46 : Nat) (r2_c_46 : Nat), Loads P 33 ⟨r_3, 0, none⟩ (.agg #[(.string r0_47), (.bool r1_31), (.slice r2_p_46 r2_n_46 r2_c_46)]) wv_102 ∧ ∃ (r0_48 : Bool) (r1_p_16 : Option Addr) (r1_n_16 : Nat) (r1_c_16 : Nat) (r2_p_47 : Option Addr) (r2_n_47 : Nat) (r2_c_47 : Nat), Loads P 35 ⟨r_4, 0, none⟩ (.agg #[(.bool r0_48), (.slice r1_p_16 r1_n_16 r1_c_16), (.slice r2_p_47 r2_n_47 r2_c_47)]) wv_102 ∧ R (.tuple #[(.agg #[(.string r0_46), (.bool r1_30), (.slice r2_p_45 r2_n_45 r2_c_45)]), (.agg #[(.string r0_47), (.bool r1_31), (.slice r2_p_46 r2_n_46 r2_c_46)]), (.agg #[(.bool r0_48), (.slice r1_p_16 r1_n_16 r1_c_16), (.slice r2_p_47 r2_n_47 r2_c_47)]), (.bool false)]) wv_102) ∧
        ((!t63) = false →
          ∃ blks_7 : List Nat, ∃ (t830_7 : ByteArray) (t831_7 : Bool) (t832_p_7 : Option Addr) (t832_n_7 : Nat) (t832_c_7 : Nat), (∀ wv_103, EX blks_7 wv_36.drew wv_103 → Loads P 33 ⟨r_8, 0, none⟩ (.agg #[(.string t830_7), (.bool t831_7), (.slice t832_p_7 t832_n_7 t832_c_7)]) wv_103) ∧ ∃ (t840_7 : ByteArray) (t841_7 : Bool) (t842_p_7 : Option Addr) (t842_n_7 : Nat) (t842_c_7 : Nat), (∀ wv_104, EX blks_7 wv_36.drew wv_104 → Loads P 33 ⟨r_10, 0, none⟩ (.agg #[(.string t840_7), (.bool t841_7), (.slice t842_p_7 t842_n_7 t842_c_7)]) wv_104) ∧ ∃ (t850_7 : Bool) (t851_p_7 : Option Addr) (t851_n_7 : Nat) (t851_c_7 : Nat) (t852_p_7 : Option Addr) (t852_n_7 : Nat) (t852_c_7 : Nat), (∀ wv_105, EX blks_7 wv_36.drew wv_105 → Loads P 35 ⟨r_9, 0, none⟩ (.agg #[(.bool t850_7), (.slice t851_p_7 t851_n_7 t851_c_7), (.slice t852_p_7 t852_n_7 t852_c_7)]) wv_105) ∧ ∃ wv_106, Stores P 33 ⟨r_2, 0, none⟩ (.agg #[(.string t830_7), (.bool t831_7), (.slice t832_p_7 t832_n_7 t832_c_7)]) wv_36.drew wv_106 ∧
          EX blks_7 wv_36.drew wv_106 ∧ ∃ wv_107, Stores P 33 ⟨r_3, 0, none⟩ (.agg #[(.string t840_7), (.bool t841_7), (.slice t842_p_7 t842_n_7 t842_c_7)]) wv_106 wv_107 ∧
          EX blks_7 wv_106 wv_107 ∧ ∃ wv_108, Stores P 35 ⟨r_4, 0, none⟩ (.agg #[(.bool t850_7), (.slice t851_p_7 t851_n_7 t851_c_7), (.slice t852_p_7 t852_n_7 t852_c_7)]) wv_107 wv_108 ∧
          ∃ (r0_49 : ByteArray) (r1_32 : Bool) (r2_p_48 : Option Addr) (r2_n_48 : Nat) (r2_c_48 : Nat), Loads P 33 ⟨r_2, 0, none⟩ (.agg #[(.string r0_49), (.bool r1_32), (.slice r2_p_48 r2_n_48 r2_c_48)]) wv_108 ∧ ∃ (r0_50 : ByteArray) (r1_33 : Bool) (r2_p_49 : Option Addr) (r2_n_49 : Nat) (r2_c_49 : Nat), Loads P 33 ⟨r_3, 0, none⟩ (.agg #[(.string r0_50), (.bool r1_33), (.slice r2_p_49 r2_n_49 r2_c_49)]) wv_108 ∧ ∃ (r0_51 : Bool) (r1_p_17 : Option Addr) (r1_n_17 : Nat) (r1_c_17 : Nat) (r2_p_50 : Option Addr) (r2_n_50 : Nat) (r2_c_50 : Nat), Loads P 35 ⟨r_4, 0, none⟩ (.agg #[(.bool r0_51), (.slice r1_p_17 r1_n_17 r1_c_17), (.slice r2_p_50 r2_n_50 r2_c_50)]) wv_108 ∧ R (.tuple #[(.agg #[(.string r0_49), (.bool r1_32), (.slice r2_p_48 r2_n_48 r2_c_48)]), (.agg #[(.string r0_50), (.bool r1_33), (.slice r2_p_49 r2_n_49 r2_c_49)]), (.agg #[(.bool r0_51), (.slice r1_p_17 r1_n_17 r1_c_17), (.slice r2_p_50 r2_n_50 r2_c_50)]), (.bool true)]) wv_108))))
def impl_TaxIn (gross0 : ByteArray) (gross1 : Bool) (gross2_p : Option Addr) (gross2_n : Nat) (gross2_c : Nat) (r0 : Bool) (r1_p : Option Addr) (r1_n : Nat) (r1_c : Nat) (r2 : Int) (mode : Int) (w : World) (R : Value → World → Prop) : Prop :=
  ∀ (r : Nat) (wv : World), New w (.cells ⟨[(.string gross0), (.bool gross1), (.slice gross2_p gross2_n gross2_c)]⟩ 33 (0, 0)) r wv →
  ∀ (r_1 : Nat) (wv_1 : World), New wv (.cells ⟨[(.bool r0), (.slice r1_p r1_n r1_c), (.int .i64 r2)]⟩ 40 (0, 0)) r_1 wv_1 →
  ∀ (r_2 : Nat) (wv_2 : World), New wv_1 (.cells ⟨[(.string ByteArray.empty), (.bool false), (.slice none 0 0)]⟩ 33 (0, 0)) r_2 wv_2 →
  ∀ (r_3 : Nat) (wv_3 : World), New wv_2 (.cells ⟨[(.string ByteArray.empty), (.bool false), (.slice none 0 0)]⟩ 33 (0, 0)) r_3 wv_3 →
  ∀ (r_4 : Nat) (wv_4 : World), New wv_3 (.cells ⟨[(.bool false), (.slice none 0 0), (.slice none 0 0)]⟩ 35 (0, 0)) r_4 wv_4 →
  ∃ (t210 : ByteArray) (t211 : Bool) (t212_p : Option Addr) (t212_n : Nat) (t212_c : Nat), Loads P 33 ⟨r, 0, none⟩ (.agg #[(.string t210), (.bool t211), (.slice t212_p t212_n t212_c)]) wv_4 ∧ Calls P 45 ⟨[(.agg #[(.string t210), (.bool t211), (.slice t212_p t212_n t212_c)])]⟩ wv_4 fun e wv_5 =>
  ∃ (t22 : Bool), e = .returned (.bool t22) ∧
  ((!t22) = true →
    (true = true →
      ∃ wv_6, Stores P 33 ⟨r_2, 0, none⟩ (.agg #[(.string ByteArray.empty), (.bool false), (.slice none 0 0)]) wv_5 wv_6 ∧
      ∃ wv_7, Stores P 33 ⟨r_3, 0, none⟩ (.agg #[(.string ByteArray.empty), (.bool false), (.slice none 0 0)]) wv_6 wv_7 ∧
      ∃ wv_8, Stores P 35 ⟨r_4, 0, none⟩ (.agg #[(.bool false), (.slice none 0 0), (.slice none 0 0)]) wv_7 wv_8 ∧
      ∃ (r0_1 : ByteArray) (r1 : Bool) (r2_p : Option Addr) (r2_n : Nat) (r2_c : Nat), Loads P 33 ⟨r_2, 0, none⟩ (.agg #[(.string r0_1), (.bool r1), (.slice r2_p r2_n r2_c)]) wv_8 ∧ ∃ (r0_2 : ByteArray) (r1_1 : Bool) (r2_p_1 : Option Addr) (r2_n_1 : Nat) (r2_c_1 : Nat), Loads P 33 ⟨r_3, 0, none⟩ (.agg #[(.string r0_2), (.bool r1_1), (.slice r2_p_1 r2_n_1 r2_c_1)]) wv_8 ∧ ∃ (r0_3 : Bool) (r1_p_1 : Option Addr) (r1_n_1 : Nat) (r1_c_1 : Nat) (r2_p_2 : Option Addr) (r2_n_2 : Nat) (r2_c_2 : Nat), Loads P 35 ⟨r_4, 0, none⟩ (.agg #[(.bool r0_3), (.slice r1_p_1 r1_n_1 r1_c_1), (.slice r2_p_2 r2_n_2 r2_c_2)]) wv_8 ∧ R (.tuple #[(.agg #[(.string r0_1), (.bool r1), (.slice r2_p r2_n r2_c)]), (.agg #[(.string r0_2), (.bool r1_1), (.slice r2_p_1 r2_n_1 r2_c_1)]), (.agg #[(.bool r0_3), (.slice r1_p_1 r1_n_1 r1_c_1), (.slice r2_p_2 r2_n_2 r2_c_2)]), (.bool false)]) wv_8) ∧
    (true = false →
      impl_TaxIn_j0 mode r r_1 r_2 r_3 r_4 wv_5 R)) ∧
  ((!t22) = false →
    ∃ (t250 : Bool) (t251_p : Option Addr) (t251_n : Nat) (t251_c : Nat) (t252 : Int), Loads P 40 ⟨r_1, 0, none⟩ (.agg #[(.bool t250), (.slice t251_p t251_n t251_c), (.int .i64 t252)]) wv_5 ∧ Calls P 46 ⟨[(.agg #[(.bool t250), (.slice t251_p t251_n t251_c), (.int .i64 t252)])]⟩ wv_5 fun e_9 wv_109 =>
    ∃ (t26 : Bool), e_9 = .returned (.bool t26) ∧
    ((!t26) = true →
      ∃ wv_110, Stores P 33 ⟨r_2, 0, none⟩ (.agg #[(.string ByteArray.empty), (.bool false), (.slice none 0 0)]) wv_109 wv_110 ∧
      ∃ wv_111, Stores P 33 ⟨r_3, 0, none⟩ (.agg #[(.string ByteArray.empty), (.bool false), (.slice none 0 0)]) wv_110 wv_111 ∧
      ∃ wv_112, Stores P 35 ⟨r_4, 0, none⟩ (.agg #[(.bool false), (.slice none 0 0), (.slice none 0 0)]) wv_111 wv_112 ∧
      ∃ (r0_52 : ByteArray) (r1_34 : Bool) (r2_p_51 : Option Addr) (r2_n_51 : Nat) (r2_c_51 : Nat), Loads P 33 ⟨r_2, 0, none⟩ (.agg #[(.string r0_52), (.bool r1_34), (.slice r2_p_51 r2_n_51 r2_c_51)]) wv_112 ∧ ∃ (r0_53 : ByteArray) (r1_35 : Bool) (r2_p_52 : Option Addr) (r2_n_52 : Nat) (r2_c_52 : Nat), Loads P 33 ⟨r_3, 0, none⟩ (.agg #[(.string r0_53), (.bool r1_35), (.slice r2_p_52 r2_n_52 r2_c_52)]) wv_112 ∧ ∃ (r0_54 : Bool) (r1_p_18 : Option Addr) (r1_n_18 : Nat) (r1_c_18 : Nat) (r2_p_53 : Option Addr) (r2_n_53 : Nat) (r2_c_53 : Nat), Loads P 35 ⟨r_4, 0, none⟩ (.agg #[(.bool r0_54), (.slice r1_p_18 r1_n_18 r1_c_18), (.slice r2_p_53 r2_n_53 r2_c_53)]) wv_112 ∧ R (.tuple #[(.agg #[(.string r0_52), (.bool r1_34), (.slice r2_p_51 r2_n_51 r2_c_51)]), (.agg #[(.string r0_53), (.bool r1_35), (.slice r2_p_52 r2_n_52 r2_c_52)]), (.agg #[(.bool r0_54), (.slice r1_p_18 r1_n_18 r1_c_18), (.slice r2_p_53 r2_n_53 r2_c_53)]), (.bool false)]) wv_112) ∧
    ((!t26) = false →
      impl_TaxIn_j0 mode r r_1 r_2 r_3 r_4 wv_109 R))
theorem impl_TaxIn_eq (gross0 : ByteArray) (gross1 : Bool) (gross2_p : Option Addr) (gross2_n : Nat) (gross2_c : Nat) (r0 : Bool) (r1_p : Option Addr) (r1_n : Nat) (r1_c : Nat) (r2 : Int) (mode : Int) (w : World) (R : Value → World → Prop) : impl_TaxIn gross0 gross1 gross2_p gross2_n gross2_c r0 r1_p r1_n r1_c r2 mode w R = fsem P Tryz.f23 (fun k => []) [(.agg #[(.string gross0), (.bool gross1), (.slice gross2_p gross2_n gross2_c)]), (.agg #[(.bool r0), (.slice r1_p r1_n r1_c), (.int .i64 r2)]), (.int .i64 mode)] R w := by kernel_rfl
theorem impl_TaxIn_ret {gross0 : ByteArray} {gross1 : Bool} {gross2_p : Option Addr} {gross2_n : Nat} {gross2_c : Nat} {r0 : Bool} {r1_p : Option Addr} {r1_n : Nat} {r1_c : Nat} {r2 : Int} {mode : Int} {w : World} {R : Value → World → Prop} (h : impl_TaxIn gross0 gross1 gross2_p gross2_n gross2_c r0 r1_p r1_n r1_c r2 mode w R) : Ret P 23 [(.agg #[(.string gross0), (.bool gross1), (.slice gross2_p gross2_n gross2_c)]), (.agg #[(.bool r0), (.slice r1_p r1_n r1_c), (.int .i64 r2)]), (.int .i64 mode)] w R :=
  Ret.of_fsem Tryz.func23 rfl (Eq.mp (impl_TaxIn_eq gross0 gross1 gross2_p gross2_n gross2_c r0 r1_p r1_n r1_c r2 mode w R) h)
def spec_MoneyOk (m0 : ByteArray) (m1 : Bool) (m2_p : Option Addr) (m2_n : Nat) (m2_c : Nat) (w : World) (R : Value → World → Prop) : Prop :=
  ∀ (r : Nat) (wv : World), New w (.cells ⟨[(.string m0), (.bool m1), (.slice m2_p m2_n m2_c)]⟩ 33 (0, 0)) r wv →
  ∃ (t4 : ByteArray), Loads P 9 ((⟨r, 0, none⟩ : Addr).add 0) (.string t4) wv ∧ Calls P 81 ⟨[(.string t4)]⟩ wv fun e wv_1 =>
  ∃ (t5 : Bool), e = .returned (.bool t5) ∧
  (t5 = true →
    ∃ (t80 : Bool) (t81_p : Option Addr) (t81_n : Nat) (t81_c : Nat), Loads P 31 ((⟨r, 0, none⟩ : Addr).add 1) (.agg #[(.bool t80), (.slice t81_p t81_n t81_c)]) wv_1 ∧ Calls P 82 ⟨[(.agg #[(.bool t80), (.slice t81_p t81_n t81_c)])]⟩ wv_1 fun e_1 wv_2 =>
    ∃ (t9 : Bool), e_1 = .returned (.bool t9) ∧
    (t9 = true →
      ∃ (t14_p : Option Addr) (t14_n : Nat) (t14_c : Nat), Loads P 22 (((⟨r, 0, none⟩ : Addr).add 1).add 1) (.slice t14_p t14_n t14_c) wv_2 ∧ R (.bool (decide ((((t14_n : Nat) : Int) : Int) ≤ 4))) wv_2) ∧
    (t9 = false →
      R (.bool false) wv_2)) ∧
  (t5 = false →
    (false = true →
      ∃ (t14_p_1 : Option Addr) (t14_n_1 : Nat) (t14_c_1 : Nat), Loads P 22 (((⟨r, 0, none⟩ : Addr).add 1).add 1) (.slice t14_p_1 t14_n_1 t14_c_1) wv_1 ∧ R (.bool (decide ((((t14_n_1 : Nat) : Int) : Int) ≤ 4))) wv_1) ∧
    (false = false →
      R (.bool false) wv_1))
theorem spec_MoneyOk_eq (m0 : ByteArray) (m1 : Bool) (m2_p : Option Addr) (m2_n : Nat) (m2_c : Nat) (w : World) (R : Value → World → Prop) : spec_MoneyOk m0 m1 m2_p m2_n m2_c w R = fsem P Tryz.f38 (fun k => []) [(.agg #[(.string m0), (.bool m1), (.slice m2_p m2_n m2_c)])] R w := by kernel_rfl
theorem spec_MoneyOk_ret {m0 : ByteArray} {m1 : Bool} {m2_p : Option Addr} {m2_n : Nat} {m2_c : Nat} {w : World} {R : Value → World → Prop} (h : spec_MoneyOk m0 m1 m2_p m2_n m2_c w R) : Ret P 38 [(.agg #[(.string m0), (.bool m1), (.slice m2_p m2_n m2_c)])] w R :=
  Ret.of_fsem Tryz.func38 rfl (Eq.mp (spec_MoneyOk_eq m0 m1 m2_p m2_n m2_c w R) h)
end Go.Proofs.YtfemmmbkhhemaaaGreatDoor

namespace Go.Proofs.YtfemmmbkhhemaaaGreatDoor
open Go Go.Proofs.YtfemmmbkhhemaaaGreatDoor.Sx
set_option linter.unusedVariables false
set_option maxRecDepth 100000
def spec_TaxRateOk (r0 : Bool) (r1_p : Option Addr) (r1_n : Nat) (r1_c : Nat) (r2 : Int) (w : World) (R : Value → World → Prop) : Prop :=
  ∀ (r : Nat) (wv : World), New w (.cells ⟨[(.bool r0), (.slice r1_p r1_n r1_c), (.int .i64 r2)]⟩ 40 (0, 0)) r wv →
  ∃ (t30 : Bool) (t31_p : Option Addr) (t31_n : Nat) (t31_c : Nat) (t32 : Int), (∀ wv_1, Ext wv.drew wv_1 → Loads P 40 ⟨r, 0, none⟩ (.agg #[(.bool t30), (.slice t31_p t31_n t31_c), (.int .i64 t32)]) wv_1) ∧ Calls P 83 ⟨[(.agg #[(.bool t30), (.slice t31_p t31_n t31_c), (.int .i64 t32)])]⟩ wv.drew fun e wv_2 =>
  ∃ (t4 : Bool), e = .returned (.bool t4) ∧
  (t4 = true →
    ∃ (t8 : Bool), (∀ wv_3, Ext wv_2 wv_3 → Loads P 4 (((⟨r, 0, none⟩ : Addr).add 0).add 0) (.bool t8) wv_3) ∧ ((!t8) = true →
      ∃ (t14_p : Option Addr) (t14_n : Nat) (t14_c : Nat), (∀ wv_4, Ext wv_2 wv_4 → Loads P 22 (((⟨r, 0, none⟩ : Addr).add 0).add 1) (.slice t14_p t14_n t14_c) wv_4) ∧ ((decide ((((t14_n : Nat) : Int) : Int) ≤ 1)) = true →
        ∃ (t190 : Bool) (t191_p : Option Addr) (t191_n : Nat) (t191_c : Nat) (t192 : Int), (∀ wv_5, Ext wv_2 wv_5 → Loads P 40 ⟨r, 0, none⟩ (.agg #[(.bool t190), (.slice t191_p t191_n t191_c), (.int .i64 t192)]) wv_5) ∧ Calls P 58 ⟨[(.int .i64 1)]⟩ wv_2 fun e_1 wv_6 =>
        ∃ (t200 : Bool) (t201_p : Option Addr) (t201_n : Nat) (t201_c : Nat), e_1 = .returned (.agg #[(.bool t200), (.slice t201_p t201_n t201_c)]) ∧
        Ext wv_2 wv_6 ∧ Calls P 84 ⟨[(.agg #[(.bool t190), (.slice t191_p t191_n t191_c), (.int .i64 t192)]), (.agg #[(.bool t200), (.slice t201_p t201_n t201_c), (.int .i64 0)])]⟩ wv_6 fun e_2 wv_7 =>
        ∃ (t22 : Int), e_2 = .returned (.int .i64 t22) ∧
        R (.bool (decide ((t22 : Int) ≤ 0))) wv_7) ∧
      ((decide ((((t14_n : Nat) : Int) : Int) ≤ 1)) = false →
        R (.bool false) wv_2)) ∧
    ((!t8) = false →
      (false = true →
        ∃ (t190_1 : Bool) (t191_p_1 : Option Addr) (t191_n_1 : Nat) (t191_c_1 : Nat) (t192_1 : Int), (∀ wv_8, Ext wv_2 wv_8 → Loads P 40 ⟨r, 0, none⟩ (.agg #[(.bool t190_1), (.slice t191_p_1 t191_n_1 t191_c_1), (.int .i64 t192_1)]) wv_8) ∧ Calls P 58 ⟨[(.int .i64 1)]⟩ wv_2 fun e_3 wv_9 =>
        ∃ (t200_1 : Bool) (t201_p_1 : Option Addr) (t201_n_1 : Nat) (t201_c_1 : Nat), e_3 = .returned (.agg #[(.bool t200_1), (.slice t201_p_1 t201_n_1 t201_c_1)]) ∧
        Ext wv_2 wv_9 ∧ Calls P 84 ⟨[(.agg #[(.bool t190_1), (.slice t191_p_1 t191_n_1 t191_c_1), (.int .i64 t192_1)]), (.agg #[(.bool t200_1), (.slice t201_p_1 t201_n_1 t201_c_1), (.int .i64 0)])]⟩ wv_9 fun e_4 wv_10 =>
        ∃ (t22_1 : Int), e_4 = .returned (.int .i64 t22_1) ∧
        R (.bool (decide ((t22_1 : Int) ≤ 0))) wv_10) ∧
      (false = false →
        R (.bool false) wv_2))) ∧
  (t4 = false →
    (false = true →
      ∃ (t14_p_1 : Option Addr) (t14_n_1 : Nat) (t14_c_1 : Nat), (∀ wv_11, Ext wv_2 wv_11 → Loads P 22 (((⟨r, 0, none⟩ : Addr).add 0).add 1) (.slice t14_p_1 t14_n_1 t14_c_1) wv_11) ∧ ((decide ((((t14_n_1 : Nat) : Int) : Int) ≤ 1)) = true →
        ∃ (t190_2 : Bool) (t191_p_2 : Option Addr) (t191_n_2 : Nat) (t191_c_2 : Nat) (t192_2 : Int), (∀ wv_12, Ext wv_2 wv_12 → Loads P 40 ⟨r, 0, none⟩ (.agg #[(.bool t190_2), (.slice t191_p_2 t191_n_2 t191_c_2), (.int .i64 t192_2)]) wv_12) ∧ Calls P 58 ⟨[(.int .i64 1)]⟩ wv_2 fun e_5 wv_13 =>
        ∃ (t200_2 : Bool) (t201_p_2 : Option Addr) (t201_n_2 : Nat) (t201_c_2 : Nat), e_5 = .returned (.agg #[(.bool t200_2), (.slice t201_p_2 t201_n_2 t201_c_2)]) ∧
        Ext wv_2 wv_13 ∧ Calls P 84 ⟨[(.agg #[(.bool t190_2), (.slice t191_p_2 t191_n_2 t191_c_2), (.int .i64 t192_2)]), (.agg #[(.bool t200_2), (.slice t201_p_2 t201_n_2 t201_c_2), (.int .i64 0)])]⟩ wv_13 fun e_6 wv_14 =>
        ∃ (t22_2 : Int), e_6 = .returned (.int .i64 t22_2) ∧
        R (.bool (decide ((t22_2 : Int) ≤ 0))) wv_14) ∧
      ((decide ((((t14_n_1 : Nat) : Int) : Int) ≤ 1)) = false →
        R (.bool false) wv_2)) ∧
    (false = false →
      (false = true →
        ∃ (t190_3 : Bool) (t191_p_3 : Option Addr) (t191_n_3 : Nat) (t191_c_3 : Nat) (t192_3 : Int), (∀ wv_15, Ext wv_2 wv_15 → Loads P 40 ⟨r, 0, none⟩ (.agg #[(.bool t190_3), (.slice t191_p_3 t191_n_3 t191_c_3), (.int .i64 t192_3)]) wv_15) ∧ Calls P 58 ⟨[(.int .i64 1)]⟩ wv_2 fun e_7 wv_16 =>
        ∃ (t200_3 : Bool) (t201_p_3 : Option Addr) (t201_n_3 : Nat) (t201_c_3 : Nat), e_7 = .returned (.agg #[(.bool t200_3), (.slice t201_p_3 t201_n_3 t201_c_3)]) ∧
        Ext wv_2 wv_16 ∧ Calls P 84 ⟨[(.agg #[(.bool t190_3), (.slice t191_p_3 t191_n_3 t191_c_3), (.int .i64 t192_3)]), (.agg #[(.bool t200_3), (.slice t201_p_3 t201_n_3 t201_c_3), (.int .i64 0)])]⟩ wv_16 fun e_8 wv_17 =>
        ∃ (t22_3 : Int), e_8 = .returned (.int .i64 t22_3) ∧
        R (.bool (decide ((t22_3 : Int) ≤ 0))) wv_17) ∧
      (false = false →
        R (.bool false) wv_2)))
theorem spec_TaxRateOk_eq (r0 : Bool) (r1_p : Option Addr) (r1_n : Nat) (r1_c : Nat) (r2 : Int) (w : World) (R : Value → World → Prop) : spec_TaxRateOk r0 r1_p r1_n r1_c r2 w R = fsem P Tryz.f39 (fun k => []) [(.agg #[(.bool r0), (.slice r1_p r1_n r1_c), (.int .i64 r2)])] R w := by kernel_rfl
theorem spec_TaxRateOk_ret {r0 : Bool} {r1_p : Option Addr} {r1_n : Nat} {r1_c : Nat} {r2 : Int} {w : World} {R : Value → World → Prop} (h : spec_TaxRateOk r0 r1_p r1_n r1_c r2 w R) : Ret P 39 [(.agg #[(.bool r0), (.slice r1_p r1_n r1_c), (.int .i64 r2)])] w R :=
  Ret.of_fsem Tryz.func39 rfl (Eq.mp (spec_TaxRateOk_eq r0 r1_p r1_n r1_c r2 w R) h)
def spec_MoneyRat (m0 : ByteArray) (m1 : Bool) (m2_p : Option Addr) (m2_n : Nat) (m2_c : Nat) (w : World) (R : Value → World → Prop) : Prop :=
  ∀ (r : Nat) (wv : World), New w (.cells ⟨[(.string m0), (.bool m1), (.slice m2_p m2_n m2_c)]⟩ 33 (0, 0)) r wv →
  ∀ (r_1 : Nat) (wv_1 : World), New wv (.cells ⟨[(.bool false), (.slice none 0 0), (.slice none 0 0)]⟩ 35 (0, 0)) r_1 wv_1 →
  ∃ (t50 : ByteArray) (t51 : Bool) (t52_p : Option Addr) (t52_n : Nat) (t52_c : Nat), Loads P 33 ⟨r, 0, none⟩ (.agg #[(.string t50), (.bool t51), (.slice t52_p t52_n t52_c)]) wv_1 ∧ Calls P 38 ⟨[(.agg #[(.string t50), (.bool t51), (.slice t52_p t52_n t52_c)])]⟩ wv_1 fun e wv_2 =>
  ∃ (t6 : Bool), e = .returned (.bool t6) ∧
  ((!t6) = true →
    ∃ wv_3, Stores P 35 ⟨r_1, 0, none⟩ (.agg #[(.bool false), (.slice none 0 0), (.slice none 0 0)]) wv_2 wv_3 ∧
    ∃ (r0 : Bool) (r1_p : Option Addr) (r1_n : Nat) (r1_c : Nat) (r2_p : Option Addr) (r2_n : Nat) (r2_c : Nat), Loads P 35 ⟨r_1, 0, none⟩ (.agg #[(.bool r0), (.slice r1_p r1_n r1_c), (.slice r2_p r2_n r2_c)]) wv_3 ∧ R (.agg #[(.bool r0), (.slice r1_p r1_n r1_c), (.slice r2_p r2_n r2_c)]) wv_3) ∧
  ((!t6) = false →
    ∃ (t110 : Bool) (t111_p : Option Addr) (t111_n : Nat) (t111_c : Nat), Loads P 31 ((⟨r, 0, none⟩ : Addr).add 1) (.agg #[(.bool t110), (.slice t111_p t111_n t111_c)]) wv_2 ∧ Calls P 57 ⟨[(.agg #[(.bool t110), (.slice t111_p t111_n t111_c)])]⟩ wv_2 fun e_1 wv_4 =>
    ∃ (t120 : Bool) (t121_p : Option Addr) (t121_n : Nat) (t121_c : Nat) (t122_p : Option Addr) (t122_n : Nat) (t122_c : Nat) (t12 : Bool), e_1 = .returned (.tuple #[(.agg #[(.bool t120), (.slice t121_p t121_n t121_c), (.slice t122_p t122_n t122_c)]), (.bool t12)]) ∧
    ∀ (r_2 : Nat) (wv_5 : World), New wv_4 (.cells ⟨[(.bool false), (.slice none 0 0), (.slice none 0 0)]⟩ 35 (0, 0)) r_2 wv_5 →
    ∃ wv_6, Stores P 35 ⟨r_2, 0, none⟩ (.agg #[(.bool t120), (.slice t121_p t121_n t121_c), (.slice t122_p t122_n t122_c)]) wv_5 wv_6 ∧
    ∃ (t150 : Bool) (t151_p : Option Addr) (t151_n : Nat) (t151_c : Nat) (t152_p : Option Addr) (t152_n : Nat) (t152_c : Nat), Loads P 35 ⟨r_2, 0, none⟩ (.agg #[(.bool t150), (.slice t151_p t151_n t151_c), (.slice t152_p t152_n t152_c)]) wv_6 ∧ ∃ wv_7, Stores P 35 ⟨r_1, 0, none⟩ (.agg #[(.bool t150), (.slice t151_p t151_n t151_c), (.slice t152_p t152_n t152_c)]) wv_6 wv_7 ∧
    ∃ (r0_1 : Bool) (r1_p_1 : Option Addr) (r1_n_1 : Nat) (r1_c_1 : Nat) (r2_p_1 : Option Addr) (r2_n_1 : Nat) (r2_c_1 : Nat), Loads P 35 ⟨r_1, 0, none⟩ (.agg #[(.bool r0_1), (.slice r1_p_1 r1_n_1 r1_c_1), (.slice r2_p_1 r2_n_1 r2_c_1)]) wv_7 ∧ R (.agg #[(.bool r0_1), (.slice r1_p_1 r1_n_1 r1_c_1), (.slice r2_p_1 r2_n_1 r2_c_1)]) wv_7)
theorem spec_MoneyRat_eq (m0 : ByteArray) (m1 : Bool) (m2_p : Option Addr) (m2_n : Nat) (m2_c : Nat) (w : World) (R : Value → World → Prop) : spec_MoneyRat m0 m1 m2_p m2_n m2_c w R = fsem P Tryz.f41 (fun k => []) [(.agg #[(.string m0), (.bool m1), (.slice m2_p m2_n m2_c)])] R w := by kernel_rfl
theorem spec_MoneyRat_ret {m0 : ByteArray} {m1 : Bool} {m2_p : Option Addr} {m2_n : Nat} {m2_c : Nat} {w : World} {R : Value → World → Prop} (h : spec_MoneyRat m0 m1 m2_p m2_n m2_c w R) : Ret P 41 [(.agg #[(.string m0), (.bool m1), (.slice m2_p m2_n m2_c)])] w R :=
  Ret.of_fsem Tryz.func41 rfl (Eq.mp (spec_MoneyRat_eq m0 m1 m2_p m2_n m2_c w R) h)
def spec_DecRat (d0 : Bool) (d1_p : Option Addr) (d1_n : Nat) (d1_c : Nat) (d2 : Int) (w : World) (R : Value → World → Prop) : Prop :=
  ∀ (r : Nat) (wv : World), New w (.cells ⟨[(.bool d0), (.slice d1_p d1_n d1_c), (.int .i64 d2)]⟩ 40 (0, 0)) r wv →
  ∀ (r_1 : Nat) (wv_1 : World), New wv (.cells ⟨[(.bool false), (.slice none 0 0), (.slice none 0 0)]⟩ 35 (0, 0)) r_1 wv_1 →
  ∃ (t50 : Bool) (t51_p : Option Addr) (t51_n : Nat) (t51_c : Nat) (t52 : Int), Loads P 40 ⟨r, 0, none⟩ (.agg #[(.bool t50), (.slice t51_p t51_n t51_c), (.int .i64 t52)]) wv_1 ∧ Calls P 83 ⟨[(.agg #[(.bool t50), (.slice t51_p t51_n t51_c), (.int .i64 t52)])]⟩ wv_1 fun e wv_2 =>
  ∃ (t6 : Bool), e = .returned (.bool t6) ∧
  ((!t6) = true →
    ∃ wv_3, Stores P 35 ⟨r_1, 0, none⟩ (.agg #[(.bool false), (.slice none 0 0), (.slice none 0 0)]) wv_2 wv_3 ∧
    ∃ (r0 : Bool) (r1_p : Option Addr) (r1_n : Nat) (r1_c : Nat) (r2_p : Option Addr) (r2_n : Nat) (r2_c : Nat), Loads P 35 ⟨r_1, 0, none⟩ (.agg #[(.bool r0), (.slice r1_p r1_n r1_c), (.slice r2_p r2_n r2_c)]) wv_3 ∧ R (.agg #[(.bool r0), (.slice r1_p r1_n r1_c), (.slice r2_p r2_n r2_c)]) wv_3) ∧
  ((!t6) = false →
    ∃ (t110 : Bool) (t111_p : Option Addr) (t111_n : Nat) (t111_c : Nat), (∀ wv_4, Ext wv_2.drew wv_4 → Loads P 31 ((⟨r, 0, none⟩ : Addr).add 0) (.agg #[(.bool t110), (.slice t111_p t111_n t111_c)]) wv_4) ∧ ∃ (t13 : Int), (∀ wv_5, Ext wv_2.drew wv_5 → Loads P 3 ((⟨r, 0, none⟩ : Addr).add 2) (.int .i64 t13) wv_5) ∧ ∀ (ss : List (Option Nat)) (wv_6 : World), Fl [.cells ⟨[(.bool false), (.slice none 0 0), (.slice none 0 0)]⟩ 35 (0, 0)] [none] wv_2.drew ss wv_6 →
    Calls P 89 ⟨[(.int .i64 t13)]⟩ wv_6 fun e_1 wv_7 =>
    ∃ (t140 : Bool) (t141_p : Option Addr) (t141_n : Nat) (t141_c : Nat), e_1 = .returned (.agg #[(.bool t140), (.slice t141_p t141_n t141_c)]) ∧
    Ext wv_6 wv_7 ∧ ∀ (ss_1 : List (Option Nat)) (wv_8 : World), Fl [.cells ⟨[(.bool false), (.slice none 0 0), (.slice none 0 0)]⟩ 35 (0, 0)] ss wv_7 ss_1 wv_8 →
    Calls P 88 ⟨[(.agg #[(.bool t110), (.slice t111_p t111_n t111_c)]), (.agg #[(.bool t140), (.slice t141_p t141_n t141_c)])]⟩ wv_8 fun e_2 wv_9 =>
    ∃ (t150 : Bool) (t151_p : Option Addr) (t151_n : Nat) (t151_c : Nat) (t152_p : Option Addr) (t152_n : Nat) (t152_c : Nat) (t15 : Bool), e_2 = .returned (.tuple #[(.agg #[(.bool t150), (.slice t151_p t151_n t151_c), (.slice t152_p t152_n t152_c)]), (.bool t15)]) ∧
    ∀ (ss_2 : List (Option Nat)) (wv_10 : World) (r_2 : Nat), Fl [.cells ⟨[(.bool false), (.slice none 0 0), (.slice none 0 0)]⟩ 35 (0, 0)] ss_1 wv_9 ss_2 wv_10 → ss_2[0]? = some (some r_2) →
    ∃ wv_11, Stores P 35 ⟨r_2, 0, none⟩ (.agg #[(.bool t150), (.slice t151_p t151_n t151_c), (.slice t152_p t152_n t152_c)]) wv_10 wv_11 ∧
    ∃ (t180 : Bool) (t181_p : Option Addr) (t181_n : Nat) (t181_c : Nat) (t182_p : Option Addr) (t182_n : Nat) (t182_c : Nat), Loads P 35 ⟨r_2, 0, none⟩ (.agg #[(.bool t180), (.slice t181_p t181_n t181_c), (.slice t182_p t182_n t182_c)]) wv_11 ∧ ∃ wv_12, Stores P 35 ⟨r_1, 0, none⟩ (.agg #[(.bool t180), (.slice t181_p t181_n t181_c), (.slice t182_p t182_n t182_c)]) wv_11 wv_12 ∧
    ∃ (r0_1 : Bool) (r1_p_1 : Option Addr) (r1_n_1 : Nat) (r1_c_1 : Nat) (r2_p_1 : Option Addr) (r2_n_1 : Nat) (r2_c_1 : Nat), Loads P 35 ⟨r_1, 0, none⟩ (.agg #[(.bool r0_1), (.slice r1_p_1 r1_n_1 r1_c_1), (.slice r2_p_1 r2_n_1 r2_c_1)]) wv_12 ∧ R (.agg #[(.bool r0_1), (.slice r1_p_1 r1_n_1 r1_c_1), (.slice r2_p_1 r2_n_1 r2_c_1)]) wv_12)
theorem spec_DecRat_eq (d0 : Bool) (d1_p : Option Addr) (d1_n : Nat) (d1_c : Nat) (d2 : Int) (w : World) (R : Value → World → Prop) : spec_DecRat d0 d1_p d1_n d1_c d2 w R = fsem P Tryz.f42 (fun k => []) [(.agg #[(.bool d0), (.slice d1_p d1_n d1_c), (.int .i64 d2)])] R w := by kernel_rfl
theorem spec_DecRat_ret {d0 : Bool} {d1_p : Option Addr} {d1_n : Nat} {d1_c : Nat} {d2 : Int} {w : World} {R : Value → World → Prop} (h : spec_DecRat d0 d1_p d1_n d1_c d2 w R) : Ret P 42 [(.agg #[(.bool d0), (.slice d1_p d1_n d1_c), (.int .i64 d2)])] w R :=
  Ret.of_fsem Tryz.func42 rfl (Eq.mp (spec_DecRat_eq d0 d1_p d1_n d1_c d2 w R) h)
def spec_RatMoney (cur : ByteArray) (r0 : Bool) (r1_p : Option Addr) (r1_n : Nat) (r1_c : Nat) (r2_p : Option Addr) (r2_n : Nat) (r2_c : Nat) (mode : Int) (w : World) (R : Value → World → Prop) : Prop :=
  ∀ (r : Nat) (wv : World), New w (.cells ⟨[(.bool r0), (.slice r1_p r1_n r1_c), (.slice r2_p r2_n r2_c)]⟩ 35 (0, 0)) r wv →
  ∀ (r_1 : Nat) (wv_1 : World), New wv (.cells ⟨[(.string ByteArray.empty), (.bool false), (.slice none 0 0)]⟩ 33 (0, 0)) r_1 wv_1 →
  ∀ (r_2 : Nat) (wv_2 : World), New wv_1 (.cells ⟨[(.bool false), (.slice none 0 0), (.slice none 0 0)]⟩ 35 (0, 0)) r_2 wv_2 →
  ∃ (t150 : Bool) (t151_p : Option Addr) (t151_n : Nat) (t151_c : Nat) (t152_p : Option Addr) (t152_n : Nat) (t152_c : Nat), Loads P 35 ⟨r, 0, none⟩ (.agg #[(.bool t150), (.slice t151_p t151_n t151_c), (.slice t152_p t152_n t152_c)]) wv_2 ∧ Calls P 90 ⟨[(.agg #[(.bool t150), (.slice t151_p t151_n t151_c), (.slice t152_p t152_n t152_c)]), (.int .i64 mode)]⟩ wv_2 fun e wv_3 =>
  ∃ (t170 : Bool) (t171_p : Option Addr) (t171_n : Nat) (t171_c : Nat) (t170_1 : Bool) (t171_p_1 : Option Addr) (t171_n_1 : Nat) (t171_c_1 : Nat) (t172_p : Option Addr) (t172_n : Nat) (t172_c : Nat) (t17 : Bool), e = .returned (.tuple #[(.agg #[(.bool t170), (.slice t171_p t171_n t171_c)]), (.agg #[(.bool t170_1), (.slice t171_p_1 t171_n_1 t171_c_1), (.slice t172_p t172_n t172_c)]), (.bool t17)]) ∧
  ∀ (r_3 : Nat) (wv_4 : World), New wv_3 (.cells ⟨[(.bool false), (.slice none 0 0)]⟩ 31 (0, 0)) r_3 wv_4 →
  ∀ (r_4 : Nat) (wv_5 : World), New wv_4 (.cells ⟨[(.bool false), (.slice none 0 0), (.slice none 0 0)]⟩ 35 (0, 0)) r_4 wv_5 →
  ∃ wv_6, Stores P 31 ⟨r_3, 0, none⟩ (.agg #[(.bool t170), (.slice t171_p t171_n t171_c)]) wv_5 wv_6 ∧
  ∃ wv_7, Stores P 35 ⟨r_4, 0, none⟩ (.agg #[(.bool t170_1), (.slice t171_p_1 t171_n_1 t171_c_1), (.slice t172_p t172_n t172_c)]) wv_6 wv_7 ∧
  ∃ (t230 : Bool) (t231_p : Option Addr) (t231_n : Nat) (t231_c : Nat), Loads P 31 ⟨r_3, 0, none⟩ (.agg #[(.bool t230), (.slice t231_p t231_n t231_c)]) wv_7 ∧ Calls P 91 ⟨[(.string cur), (.agg #[(.bool t230), (.slice t231_p t231_n t231_c)])]⟩ wv_7 fun e_1 wv_8 =>
  ∃ (t240 : ByteArray) (t241 : Bool) (t242_p : Option Addr) (t242_n : Nat) (t242_c : Nat) (t24 : Bool), e_1 = .returned (.tuple #[(.agg #[(.string t240), (.bool t241), (.slice t242_p t242_n t242_c)]), (.bool t24)]) ∧
  ∀ (r_5 : Nat) (wv_9 : World), New wv_8 (.cells ⟨[(.string ByteArray.empty), (.bool false), (.slice none 0 0)]⟩ 33 (0, 0)) r_5 wv_9 →
  ∃ wv_10, Stores P 33 ⟨r_5, 0, none⟩ (.agg #[(.string t240), (.bool t241), (.slice t242_p t242_n t242_c)]) wv_9 wv_10 ∧
  ((!t17) = true →
    (true = true →
      ∃ wv_11, Stores P 33 ⟨r_1, 0, none⟩ (.agg #[(.string ByteArray.empty), (.bool false), (.slice none 0 0)]) wv_10 wv_11 ∧
      ∃ wv_12, Stores P 35 ⟨r_2, 0, none⟩ (.agg #[(.bool false), (.slice none 0 0), (.slice none 0 0)]) wv_11 wv_12 ∧
      ∃ (r0_1 : ByteArray) (r1 : Bool) (r2_p_1 : Option Addr) (r2_n_1 : Nat) (r2_c_1 : Nat), Loads P 33 ⟨r_1, 0, none⟩ (.agg #[(.string r0_1), (.bool r1), (.slice r2_p_1 r2_n_1 r2_c_1)]) wv_12 ∧ ∃ (r0_2 : Bool) (r1_p_1 : Option Addr) (r1_n_1 : Nat) (r1_c_1 : Nat) (r2_p_2 : Option Addr) (r2_n_2 : Nat) (r2_c_2 : Nat), Loads P 35 ⟨r_2, 0, none⟩ (.agg #[(.bool r0_2), (.slice r1_p_1 r1_n_1 r1_c_1), (.slice r2_p_2 r2_n_2 r2_c_2)]) wv_12 ∧ R (.tuple #[(.agg #[(.string r0_1), (.bool r1), (.slice r2_p_1 r2_n_1 r2_c_1)]), (.agg #[(.bool r0_2), (.slice r1_p_1 r1_n_1 r1_c_1), (.slice r2_p_2 r2_n_2 r2_c_2)]), (.bool false)]) wv_12) ∧
    (true = false →
      ∃ blks : List Nat, ∃ (t350 : ByteArray) (t351 : Bool) (t352_p : Option Addr) (t352_n : Nat) (t352_c : Nat), (∀ wv_13, EX blks wv_10.drew wv_13 → Loads P 33 ⟨r_5, 0, none⟩ (.agg #[(.string t350), (.bool t351), (.slice t352_p t352_n t352_c)]) wv_13) ∧ ∃ (t360 : Bool) (t361_p : Option Addr) (t361_n : Nat) (t361_c : Nat) (t362_p : Option Addr) (t362_n : Nat) (t362_c : Nat), (∀ wv_14, EX blks wv_10.drew wv_14 → Loads P 35 ⟨r_4, 0, none⟩ (.agg #[(.bool t360), (.slice t361_p t361_n t361_c), (.slice t362_p t362_n t362_c)]) wv_14) ∧ ∃ wv_15, Stores P 33 ⟨r_1, 0, none⟩ (.agg #[(.string t350), (.bool t351), (.slice t352_p t352_n t352_c)]) wv_10.drew wv_15 ∧
      EX blks wv_10.drew wv_15 ∧ ∃ wv_16, Stores P 35 ⟨r_2, 0, none⟩ (.agg #[(.bool t360), (.slice t361_p t361_n t361_c), (.slice t362_p t362_n t362_c)]) wv_15 wv_16 ∧
      ∃ (r0_3 : ByteArray) (r1_1 : Bool) (r2_p_3 : Option Addr) (r2_n_3 : Nat) (r2_c_3 : Nat), Loads P 33 ⟨r_1, 0, none⟩ (.agg #[(.string r0_3), (.bool r1_1), (.slice r2_p_3 r2_n_3 r2_c_3)]) wv_16 ∧ ∃ (r0_4 : Bool) (r1_p_2 : Option Addr) (r1_n_2 : Nat) (r1_c_2 : Nat) (r2_p_4 : Option Addr) (r2_n_4 : Nat) (r2_c_4 : Nat), Loads P 35 ⟨r_2, 0, none⟩ (.agg #[(.bool r0_4), (.slice r1_p_2 r1_n_2 r1_c_2), (.slice r2_p_4 r2_n_4 r2_c_4)]) wv_16 ∧ R (.tuple #[(.agg #[(.string r0_3), (.bool r1_1), (.slice r2_p_3 r2_n_3 r2_c_3)]), (.agg #[(.bool r0_4), (.slice r1_p_2 r1_n_2 r1_c_2), (.slice r2_p_4 r2_n_4 r2_c_4)]), (.bool true)]) wv_16)) ∧
  ((!t17) = false →
    ((!t24) = true →
      ∃ wv_17, Stores P 33 ⟨r_1, 0, none⟩ (.agg #[(.string ByteArray.empty), (.bool false), (.slice none 0 0)]) wv_10 wv_17 ∧
      ∃ wv_18, Stores P 35 ⟨r_2, 0, none⟩ (.agg #[(.bool false), (.slice none 0 0), (.slice none 0 0)]) wv_17 wv_18 ∧
      ∃ (r0_5 : ByteArray) (r1_2 : Bool) (r2_p_5 : Option Addr) (r2_n_5 : Nat) (r2_c_5 : Nat), Loads P 33 ⟨r_1, 0, none⟩ (.agg #[(.string r0_5), (.bool r1_2), (.slice r2_p_5 r2_n_5 r2_c_5)]) wv_18 ∧ ∃ (r0_6 : Bool) (r1_p_3 : Option Addr) (r1_n_3 : Nat) (r1_c_3 : Nat) (r2_p_6 : Option Addr) (r2_n_6 : Nat) (r2_c_6 : Nat), Loads P 35 ⟨r_2, 0, none⟩ (.agg #[(.bool r0_6), (.slice r1_p_3 r1_n_3 r1_c_3), (.slice r2_p_6 r2_n_6 r2_c_6)]) wv_18 ∧ R (.tuple #[(.agg #[(.string r0_5), (.bool r1_2), (.slice r2_p_5 r2_n_5 r2_c_5)]), (.agg #[(.bool r0_6), (.slice r1_p_3 r1_n_3 r1_c_3), (.slice r2_p_6 r2_n_6 r2_c_6)]), (.bool false)]) wv_18) ∧
    ((!t24) = false →
      ∃ blks_1 : List Nat, ∃ (t350_1 : ByteArray) (t351_1 : Bool) (t352_p_1 : Option Addr) (t352_n_1 : Nat) (t352_c_1 : Nat), (∀ wv_19, EX blks_1 wv_10.drew wv_19 → Loads P 33 ⟨r_5, 0, none⟩ (.agg #[(.string t350_1), (.bool t351_1), (.slice t352_p_1 t352_n_1 t352_c_1)]) wv_19) ∧ ∃ (t360_1 : Bool) (t361_p_1 : Option Addr) (t361_n_1 : Nat) (t361_c_1 : Nat) (t362_p_1 : Option Addr) (t362_n_1 : Nat) (t362_c_1 : Nat), (∀ wv_20, EX blks_1 wv_10.drew wv_20 → Loads P 35 ⟨r_4, 0, none⟩ (.agg #[(.bool t360_1), (.slice t361_p_1 t361_n_1 t361_c_1), (.slice t362_p_1 t362_n_1 t362_c_1)]) wv_20) ∧ ∃ wv_21, Stores P 33 ⟨r_1, 0, none⟩ (.agg #[(.string t350_1), (.bool t351_1), (.slice t352_p_1 t352_n_1 t352_c_1)]) wv_10.drew wv_21 ∧
      EX blks_1 wv_10.drew wv_21 ∧ ∃ wv_22, Stores P 35 ⟨r_2, 0, none⟩ (.agg #[(.bool t360_1), (.slice t361_p_1 t361_n_1 t361_c_1), (.slice t362_p_1 t362_n_1 t362_c_1)]) wv_21 wv_22 ∧
      ∃ (r0_7 : ByteArray) (r1_3 : Bool) (r2_p_7 : Option Addr) (r2_n_7 : Nat) (r2_c_7 : Nat), Loads P 33 ⟨r_1, 0, none⟩ (.agg #[(.string r0_7), (.bool r1_3), (.slice r2_p_7 r2_n_7 r2_c_7)]) wv_22 ∧ ∃ (r0_8 : Bool) (r1_p_4 : Option Addr) (r1_n_4 : Nat) (r1_c_4 : Nat) (r2_p_8 : Option Addr) (r2_n_8 : Nat) (r2_c_8 : Nat), Loads P 35 ⟨r_2, 0, none⟩ (.agg #[(.bool r0_8), (.slice r1_p_4 r1_n_4 r1_c_4), (.slice r2_p_8 r2_n_8 r2_c_8)]) wv_22 ∧ R (.tuple #[(.agg #[(.string r0_7), (.bool r1_3), (.slice r2_p_7 r2_n_7 r2_c_7)]), (.agg #[(.bool r0_8), (.slice r1_p_4 r1_n_4 r1_c_4), (.slice r2_p_8 r2_n_8 r2_c_8)]), (.bool true)]) wv_22))
theorem spec_RatMoney_eq (cur : ByteArray) (r0 : Bool) (r1_p : Option Addr) (r1_n : Nat) (r1_c : Nat) (r2_p : Option Addr) (r2_n : Nat) (r2_c : Nat) (mode : Int) (w : World) (R : Value → World → Prop) : spec_RatMoney cur r0 r1_p r1_n r1_c r2_p r2_n r2_c mode w R = fsem P Tryz.f43 (fun k => []) [(.string cur), (.agg #[(.bool r0), (.slice r1_p r1_n r1_c), (.slice r2_p r2_n r2_c)]), (.int .i64 mode)] R w := by kernel_rfl
theorem spec_RatMoney_ret {cur : ByteArray} {r0 : Bool} {r1_p : Option Addr} {r1_n : Nat} {r1_c : Nat} {r2_p : Option Addr} {r2_n : Nat} {r2_c : Nat} {mode : Int} {w : World} {R : Value → World → Prop} (h : spec_RatMoney cur r0 r1_p r1_n r1_c r2_p r2_n r2_c mode w R) : Ret P 43 [(.string cur), (.agg #[(.bool r0), (.slice r1_p r1_n r1_c), (.slice r2_p r2_n r2_c)]), (.int .i64 mode)] w R :=
  Ret.of_fsem Tryz.func43 rfl (Eq.mp (spec_RatMoney_eq cur r0 r1_p r1_n r1_c r2_p r2_n r2_c mode w R) h)
def impl_MoneyOk (m0 : ByteArray) (m1 : Bool) (m2_p : Option Addr) (m2_n : Nat) (m2_c : Nat) (w : World) (R : Value → World → Prop) : Prop :=
  ∀ (r : Nat) (wv : World), New w (.cells ⟨[(.string m0), (.bool m1), (.slice m2_p m2_n m2_c)]⟩ 33 (0, 0)) r wv →
  ∃ (t4 : ByteArray), Loads P 9 ((⟨r, 0, none⟩ : Addr).add 0) (.string t4) wv ∧ Calls P 93 ⟨[(.string t4)]⟩ wv fun e wv_1 =>
  ∃ (t5 : Bool), e = .returned (.bool t5) ∧
  (t5 = true →
    ∃ (t80 : Bool) (t81_p : Option Addr) (t81_n : Nat) (t81_c : Nat), Loads P 31 ((⟨r, 0, none⟩ : Addr).add 1) (.agg #[(.bool t80), (.slice t81_p t81_n t81_c)]) wv_1 ∧ Calls P 94 ⟨[(.agg #[(.bool t80), (.slice t81_p t81_n t81_c)])]⟩ wv_1 fun e_1 wv_2 =>
    ∃ (t9 : Bool), e_1 = .returned (.bool t9) ∧
    (t9 = true →
      ∃ (t14_p : Option Addr) (t14_n : Nat) (t14_c : Nat), Loads P 22 (((⟨r, 0, none⟩ : Addr).add 1).add 1) (.slice t14_p t14_n t14_c) wv_2 ∧ R (.bool (decide ((((t14_n : Nat) : Int) : Int) ≤ 4))) wv_2) ∧
    (t9 = false →
      R (.bool false) wv_2)) ∧
  (t5 = false →
    (false = true →
      ∃ (t14_p_1 : Option Addr) (t14_n_1 : Nat) (t14_c_1 : Nat), Loads P 22 (((⟨r, 0, none⟩ : Addr).add 1).add 1) (.slice t14_p_1 t14_n_1 t14_c_1) wv_1 ∧ R (.bool (decide ((((t14_n_1 : Nat) : Int) : Int) ≤ 4))) wv_1) ∧
    (false = false →
      R (.bool false) wv_1))
theorem impl_MoneyOk_eq (m0 : ByteArray) (m1 : Bool) (m2_p : Option Addr) (m2_n : Nat) (m2_c : Nat) (w : World) (R : Value → World → Prop) : impl_MoneyOk m0 m1 m2_p m2_n m2_c w R = fsem P Tryz.f45 (fun k => []) [(.agg #[(.string m0), (.bool m1), (.slice m2_p m2_n m2_c)])] R w := by kernel_rfl
theorem impl_MoneyOk_ret {m0 : ByteArray} {m1 : Bool} {m2_p : Option Addr} {m2_n : Nat} {m2_c : Nat} {w : World} {R : Value → World → Prop} (h : impl_MoneyOk m0 m1 m2_p m2_n m2_c w R) : Ret P 45 [(.agg #[(.string m0), (.bool m1), (.slice m2_p m2_n m2_c)])] w R :=
  Ret.of_fsem Tryz.func45 rfl (Eq.mp (impl_MoneyOk_eq m0 m1 m2_p m2_n m2_c w R) h)
def impl_TaxRateOk (r0 : Bool) (r1_p : Option Addr) (r1_n : Nat) (r1_c : Nat) (r2 : Int) (w : World) (R : Value → World → Prop) : Prop :=
  ∀ (r : Nat) (wv : World), New w (.cells ⟨[(.bool r0), (.slice r1_p r1_n r1_c), (.int .i64 r2)]⟩ 40 (0, 0)) r wv →
  ∃ (t30 : Bool) (t31_p : Option Addr) (t31_n : Nat) (t31_c : Nat) (t32 : Int), (∀ wv_1, Ext wv.drew wv_1 → Loads P 40 ⟨r, 0, none⟩ (.agg #[(.bool t30), (.slice t31_p t31_n t31_c), (.int .i64 t32)]) wv_1) ∧ Calls P 95 ⟨[(.agg #[(.bool t30), (.slice t31_p t31_n t31_c), (.int .i64 t32)])]⟩ wv.drew fun e wv_2 =>
  ∃ (t4 : Bool), e = .returned (.bool t4) ∧
  (t4 = true →
    ∃ (t8_p : Option Addr) (t8_n : Nat) (t8_c : Nat), (∀ wv_3, Ext wv_2 wv_3 → Loads P 22 (((⟨r, 0, none⟩ : Addr).add 0).add 1) (.slice t8_p t8_n t8_c) wv_3) ∧ ((decide ((((t8_n : Nat) : Int) : Int) ≤ 1)) = true →
      ∃ (t15 : Bool), (∀ wv_4, Ext wv_2 wv_4 → Loads P 4 (((⟨r, 0, none⟩ : Addr).add 0).add 0) (.bool t15) wv_4) ∧ ((!t15) = true →
        ∃ (t190 : Bool) (t191_p : Option Addr) (t191_n : Nat) (t191_c : Nat) (t192 : Int), (∀ wv_5, Ext wv_2 wv_5 → Loads P 40 ⟨r, 0, none⟩ (.agg #[(.bool t190), (.slice t191_p t191_n t191_c), (.int .i64 t192)]) wv_5) ∧ Calls P 63 ⟨[(.int .i64 1)]⟩ wv_2 fun e_1 wv_6 =>
        ∃ (t200 : Bool) (t201_p : Option Addr) (t201_n : Nat) (t201_c : Nat), e_1 = .returned (.agg #[(.bool t200), (.slice t201_p t201_n t201_c)]) ∧
        Ext wv_2 wv_6 ∧ Calls P 96 ⟨[(.agg #[(.bool t190), (.slice t191_p t191_n t191_c), (.int .i64 t192)]), (.agg #[(.bool t200), (.slice t201_p t201_n t201_c), (.int .i64 0)])]⟩ wv_6 fun e_2 wv_7 =>
        ∃ (t22 : Int), e_2 = .returned (.int .i64 t22) ∧
        R (.bool (decide ((t22 : Int) ≤ 0))) wv_7) ∧
      ((!t15) = false →
        R (.bool false) wv_2)) ∧
    ((decide ((((t8_n : Nat) : Int) : Int) ≤ 1)) = false →
      (false = true →
        ∃ (t190_1 : Bool) (t191_p_1 : Option Addr) (t191_n_1 : Nat) (t191_c_1 : Nat) (t192_1 : Int), (∀ wv_8, Ext wv_2 wv_8 → Loads P 40 ⟨r, 0, none⟩ (.agg #[(.bool t190_1), (.slice t191_p_1 t191_n_1 t191_c_1), (.int .i64 t192_1)]) wv_8) ∧ Calls P 63 ⟨[(.int .i64 1)]⟩ wv_2 fun e_3 wv_9 =>
        ∃ (t200_1 : Bool) (t201_p_1 : Option Addr) (t201_n_1 : Nat) (t201_c_1 : Nat), e_3 = .returned (.agg #[(.bool t200_1), (.slice t201_p_1 t201_n_1 t201_c_1)]) ∧
        Ext wv_2 wv_9 ∧ Calls P 96 ⟨[(.agg #[(.bool t190_1), (.slice t191_p_1 t191_n_1 t191_c_1), (.int .i64 t192_1)]), (.agg #[(.bool t200_1), (.slice t201_p_1 t201_n_1 t201_c_1), (.int .i64 0)])]⟩ wv_9 fun e_4 wv_10 =>
        ∃ (t22_1 : Int), e_4 = .returned (.int .i64 t22_1) ∧
        R (.bool (decide ((t22_1 : Int) ≤ 0))) wv_10) ∧
      (false = false →
        R (.bool false) wv_2))) ∧
  (t4 = false →
    (false = true →
      ∃ (t15_1 : Bool), (∀ wv_11, Ext wv_2 wv_11 → Loads P 4 (((⟨r, 0, none⟩ : Addr).add 0).add 0) (.bool t15_1) wv_11) ∧ ((!t15_1) = true →
        ∃ (t190_2 : Bool) (t191_p_2 : Option Addr) (t191_n_2 : Nat) (t191_c_2 : Nat) (t192_2 : Int), (∀ wv_12, Ext wv_2 wv_12 → Loads P 40 ⟨r, 0, none⟩ (.agg #[(.bool t190_2), (.slice t191_p_2 t191_n_2 t191_c_2), (.int .i64 t192_2)]) wv_12) ∧ Calls P 63 ⟨[(.int .i64 1)]⟩ wv_2 fun e_5 wv_13 =>
        ∃ (t200_2 : Bool) (t201_p_2 : Option Addr) (t201_n_2 : Nat) (t201_c_2 : Nat), e_5 = .returned (.agg #[(.bool t200_2), (.slice t201_p_2 t201_n_2 t201_c_2)]) ∧
        Ext wv_2 wv_13 ∧ Calls P 96 ⟨[(.agg #[(.bool t190_2), (.slice t191_p_2 t191_n_2 t191_c_2), (.int .i64 t192_2)]), (.agg #[(.bool t200_2), (.slice t201_p_2 t201_n_2 t201_c_2), (.int .i64 0)])]⟩ wv_13 fun e_6 wv_14 =>
        ∃ (t22_2 : Int), e_6 = .returned (.int .i64 t22_2) ∧
        R (.bool (decide ((t22_2 : Int) ≤ 0))) wv_14) ∧
      ((!t15_1) = false →
        R (.bool false) wv_2)) ∧
    (false = false →
      (false = true →
        ∃ (t190_3 : Bool) (t191_p_3 : Option Addr) (t191_n_3 : Nat) (t191_c_3 : Nat) (t192_3 : Int), (∀ wv_15, Ext wv_2 wv_15 → Loads P 40 ⟨r, 0, none⟩ (.agg #[(.bool t190_3), (.slice t191_p_3 t191_n_3 t191_c_3), (.int .i64 t192_3)]) wv_15) ∧ Calls P 63 ⟨[(.int .i64 1)]⟩ wv_2 fun e_7 wv_16 =>
        ∃ (t200_3 : Bool) (t201_p_3 : Option Addr) (t201_n_3 : Nat) (t201_c_3 : Nat), e_7 = .returned (.agg #[(.bool t200_3), (.slice t201_p_3 t201_n_3 t201_c_3)]) ∧
        Ext wv_2 wv_16 ∧ Calls P 96 ⟨[(.agg #[(.bool t190_3), (.slice t191_p_3 t191_n_3 t191_c_3), (.int .i64 t192_3)]), (.agg #[(.bool t200_3), (.slice t201_p_3 t201_n_3 t201_c_3), (.int .i64 0)])]⟩ wv_16 fun e_8 wv_17 =>
        ∃ (t22_3 : Int), e_8 = .returned (.int .i64 t22_3) ∧
        R (.bool (decide ((t22_3 : Int) ≤ 0))) wv_17) ∧
      (false = false →
        R (.bool false) wv_2)))
theorem impl_TaxRateOk_eq (r0 : Bool) (r1_p : Option Addr) (r1_n : Nat) (r1_c : Nat) (r2 : Int) (w : World) (R : Value → World → Prop) : impl_TaxRateOk r0 r1_p r1_n r1_c r2 w R = fsem P Tryz.f46 (fun k => []) [(.agg #[(.bool r0), (.slice r1_p r1_n r1_c), (.int .i64 r2)])] R w := by kernel_rfl
theorem impl_TaxRateOk_ret {r0 : Bool} {r1_p : Option Addr} {r1_n : Nat} {r1_c : Nat} {r2 : Int} {w : World} {R : Value → World → Prop} (h : impl_TaxRateOk r0 r1_p r1_n r1_c r2 w R) : Ret P 46 [(.agg #[(.bool r0), (.slice r1_p r1_n r1_c), (.int .i64 r2)])] w R :=
  Ret.of_fsem Tryz.func46 rfl (Eq.mp (impl_TaxRateOk_eq r0 r1_p r1_n r1_c r2 w R) h)
def impl_MoneyRat (m0 : ByteArray) (m1 : Bool) (m2_p : Option Addr) (m2_n : Nat) (m2_c : Nat) (w : World) (R : Value → World → Prop) : Prop :=
  ∀ (r : Nat) (wv : World), New w (.cells ⟨[(.string m0), (.bool m1), (.slice m2_p m2_n m2_c)]⟩ 33 (0, 0)) r wv →
  ∀ (r_1 : Nat) (wv_1 : World), New wv (.cells ⟨[(.bool false), (.slice none 0 0), (.slice none 0 0)]⟩ 35 (0, 0)) r_1 wv_1 →
  ∃ (t30 : ByteArray) (t31 : Bool) (t32_p : Option Addr) (t32_n : Nat) (t32_c : Nat), Loads P 33 ⟨r, 0, none⟩ (.agg #[(.string t30), (.bool t31), (.slice t32_p t32_n t32_c)]) wv_1 ∧ Calls P 45 ⟨[(.agg #[(.string t30), (.bool t31), (.slice t32_p t32_n t32_c)])]⟩ wv_1 fun e wv_2 =>
  ∃ (t4 : Bool), e = .returned (.bool t4) ∧
  ((!t4) = true →
    ∃ wv_3, Stores P 35 ⟨r_1, 0, none⟩ (.agg #[(.bool false), (.slice none 0 0), (.slice none 0 0)]) wv_2 wv_3 ∧
    ∃ (r0 : Bool) (r1_p : Option Addr) (r1_n : Nat) (r1_c : Nat) (r2_p : Option Addr) (r2_n : Nat) (r2_c : Nat), Loads P 35 ⟨r_1, 0, none⟩ (.agg #[(.bool r0), (.slice r1_p r1_n r1_c), (.slice r2_p r2_n r2_c)]) wv_3 ∧ R (.agg #[(.bool r0), (.slice r1_p r1_n r1_c), (.slice r2_p r2_n r2_c)]) wv_3) ∧
  ((!t4) = false →
    ∃ (t80 : Bool) (t81_p : Option Addr) (t81_n : Nat) (t81_c : Nat), Loads P 31 ((⟨r, 0, none⟩ : Addr).add 1) (.agg #[(.bool t80), (.slice t81_p t81_n t81_c)]) wv_2 ∧ Calls P 101 ⟨[(.agg #[(.bool t80), (.slice t81_p t81_n t81_c)])]⟩ wv_2 fun e_1 wv_4 =>
    ∃ (t90 : Bool) (t91_p : Option Addr) (t91_n : Nat) (t91_c : Nat), e_1 = .returned (.agg #[(.bool t90), (.slice t91_p t91_n t91_c)]) ∧
    ∀ (r_2 : Nat) (wv_5 : World), New wv_4 (.cells ⟨[(.int .i64 1)]⟩ 3 (0, 0)) r_2 wv_5 →
    ∃ wv_6, Stores P 35 ⟨r_1, 0, none⟩ (.agg #[(.bool t90), (.slice t91_p t91_n t91_c), (.slice (some ⟨r_2, 0, none⟩) 1 1)]) wv_5 wv_6 ∧
    ∃ (r0_1 : Bool) (r1_p_1 : Option Addr) (r1_n_1 : Nat) (r1_c_1 : Nat) (r2_p_1 : Option Addr) (r2_n_1 : Nat) (r2_c_1 : Nat), Loads P 35 ⟨r_1, 0, none⟩ (.agg #[(.bool r0_1), (.slice r1_p_1 r1_n_1 r1_c_1), (.slice r2_p_1 r2_n_1 r2_c_1)]) wv_6 ∧ R (.agg #[(.bool r0_1), (.slice r1_p_1 r1_n_1 r1_c_1), (.slice r2_p_1 r2_n_1 r2_c_1)]) wv_6)
theorem impl_MoneyRat_eq (m0 : ByteArray) (m1 : Bool) (m2_p : Option Addr) (m2_n : Nat) (m2_c : Nat) (w : World) (R : Value → World → Prop) : impl_MoneyRat m0 m1 m2_p m2_n m2_c w R = fsem P Tryz.f48 (fun k => []) [(.agg #[(.string m0), (.bool m1), (.slice m2_p m2_n m2_c)])] R w := by kernel_rfl
theorem impl_MoneyRat_ret {m0 : ByteArray} {m1 : Bool} {m2_p : Option Addr} {m2_n : Nat} {m2_c : Nat} {w : World} {R : Value → World → Prop} (h : impl_MoneyRat m0 m1 m2_p m2_n m2_c w R) : Ret P 48 [(.agg #[(.string m0), (.bool m1), (.slice m2_p m2_n m2_c)])] w R :=
  Ret.of_fsem Tryz.func48 rfl (Eq.mp (impl_MoneyRat_eq m0 m1 m2_p m2_n m2_c w R) h)
def impl_DecRat (d0 : Bool) (d1_p : Option Addr) (d1_n : Nat) (d1_c : Nat) (d2 : Int) (w : World) (R : Value → World → Prop) : Prop :=
  ∀ (r : Nat) (wv : World), New w (.cells ⟨[(.bool d0), (.slice d1_p d1_n d1_c), (.int .i64 d2)]⟩ 40 (0, 0)) r wv →
  ∀ (r_1 : Nat) (wv_1 : World), New wv (.cells ⟨[(.bool false), (.slice none 0 0), (.slice none 0 0)]⟩ 35 (0, 0)) r_1 wv_1 →
  ∃ (t50 : Bool) (t51_p : Option Addr) (t51_n : Nat) (t51_c : Nat) (t52 : Int), Loads P 40 ⟨r, 0, none⟩ (.agg #[(.bool t50), (.slice t51_p t51_n t51_c), (.int .i64 t52)]) wv_1 ∧ Calls P 95 ⟨[(.agg #[(.bool t50), (.slice t51_p t51_n t51_c), (.int .i64 t52)])]⟩ wv_1 fun e wv_2 =>
  ∃ (t6 : Bool), e = .returned (.bool t6) ∧
  ((!t6) = true →
    ∃ wv_3, Stores P 35 ⟨r_1, 0, none⟩ (.agg #[(.bool false), (.slice none 0 0), (.slice none 0 0)]) wv_2 wv_3 ∧
    ∃ (r0 : Bool) (r1_p : Option Addr) (r1_n : Nat) (r1_c : Nat) (r2_p : Option Addr) (r2_n : Nat) (r2_c : Nat), Loads P 35 ⟨r_1, 0, none⟩ (.agg #[(.bool r0), (.slice r1_p r1_n r1_c), (.slice r2_p r2_n r2_c)]) wv_3 ∧ R (.agg #[(.bool r0), (.slice r1_p r1_n r1_c), (.slice r2_p r2_n r2_c)]) wv_3) ∧
  ((!t6) = false →
    ∃ (t110 : Bool) (t111_p : Option Addr) (t111_n : Nat) (t111_c : Nat), (∀ wv_4, Ext wv_2.drew wv_4 → Loads P 31 ((⟨r, 0, none⟩ : Addr).add 0) (.agg #[(.bool t110), (.slice t111_p t111_n t111_c)]) wv_4) ∧ ∃ (t13 : Int), (∀ wv_5, Ext wv_2.drew wv_5 → Loads P 3 ((⟨r, 0, none⟩ : Addr).add 2) (.int .i64 t13) wv_5) ∧ ∀ (ss : List (Option Nat)) (wv_6 : World), Fl [.cells ⟨[(.bool false), (.slice none 0 0), (.slice none 0 0)]⟩ 35 (0, 0)] [none] wv_2.drew ss wv_6 →
    Calls P 102 ⟨[(.int .i64 t13)]⟩ wv_6 fun e_1 wv_7 =>
    ∃ (t14_p : Option Addr) (t14_n : Nat) (t14_c : Nat), e_1 = .returned (.slice t14_p t14_n t14_c) ∧
    Ext wv_6 wv_7 ∧ ∀ (ss_1 : List (Option Nat)) (wv_8 : World), Fl [.cells ⟨[(.bool false), (.slice none 0 0), (.slice none 0 0)]⟩ 35 (0, 0)] ss wv_7 ss_1 wv_8 →
    Calls P 98 ⟨[(.agg #[(.bool t110), (.slice t111_p t111_n t111_c)]), (.slice t14_p t14_n t14_c)]⟩ wv_8 fun e_2 wv_9 =>
    ∃ (t150 : Bool) (t151_p : Option Addr) (t151_n : Nat) (t151_c : Nat) (t152_p : Option Addr) (t152_n : Nat) (t152_c : Nat) (t15 : Bool), e_2 = .returned (.tuple #[(.agg #[(.bool t150), (.slice t151_p t151_n t151_c), (.slice t152_p t152_n t152_c)]), (.bool t15)]) ∧
    ∀ (ss_2 : List (Option Nat)) (wv_10 : World) (r_2 : Nat), Fl [.cells ⟨[(.bool false), (.slice none 0 0), (.slice none 0 0)]⟩ 35 (0, 0)] ss_1 wv_9 ss_2 wv_10 → ss_2[0]? = some (some r_2) →
    ∃ wv_11, Stores P 35 ⟨r_2, 0, none⟩ (.agg #[(.bool t150), (.slice t151_p t151_n t151_c), (.slice t152_p t152_n t152_c)]) wv_10 wv_11 ∧
    ∃ (t180 : Bool) (t181_p : Option Addr) (t181_n : Nat) (t181_c : Nat) (t182_p : Option Addr) (t182_n : Nat) (t182_c : Nat), Loads P 35 ⟨r_2, 0, none⟩ (.agg #[(.bool t180), (.slice t181_p t181_n t181_c), (.slice t182_p t182_n t182_c)]) wv_11 ∧ ∃ wv_12, Stores P 35 ⟨r_1, 0, none⟩ (.agg #[(.bool t180), (.slice t181_p t181_n t181_c), (.slice t182_p t182_n t182_c)]) wv_11 wv_12 ∧
    ∃ (r0_1 : Bool) (r1_p_1 : Option Addr) (r1_n_1 : Nat) (r1_c_1 : Nat) (r2_p_1 : Option Addr) (r2_n_1 : Nat) (r2_c_1 : Nat), Loads P 35 ⟨r_1, 0, none⟩ (.agg #[(.bool r0_1), (.slice r1_p_1 r1_n_1 r1_c_1), (.slice r2_p_1 r2_n_1 r2_c_1)]) wv_12 ∧ R (.agg #[(.bool r0_1), (.slice r1_p_1 r1_n_1 r1_c_1), (.slice r2_p_1 r2_n_1 r2_c_1)]) wv_12)
theorem impl_DecRat_eq (d0 : Bool) (d1_p : Option Addr) (d1_n : Nat) (d1_c : Nat) (d2 : Int) (w : World) (R : Value → World → Prop) : impl_DecRat d0 d1_p d1_n d1_c d2 w R = fsem P Tryz.f49 (fun k => []) [(.agg #[(.bool d0), (.slice d1_p d1_n d1_c), (.int .i64 d2)])] R w := by kernel_rfl
theorem impl_DecRat_ret {d0 : Bool} {d1_p : Option Addr} {d1_n : Nat} {d1_c : Nat} {d2 : Int} {w : World} {R : Value → World → Prop} (h : impl_DecRat d0 d1_p d1_n d1_c d2 w R) : Ret P 49 [(.agg #[(.bool d0), (.slice d1_p d1_n d1_c), (.int .i64 d2)])] w R :=
  Ret.of_fsem Tryz.func49 rfl (Eq.mp (impl_DecRat_eq d0 d1_p d1_n d1_c d2 w R) h)
def impl_RatMoney (cur : ByteArray) (r0 : Bool) (r1_p : Option Addr) (r1_n : Nat) (r1_c : Nat) (r2_p : Option Addr) (r2_n : Nat) (r2_c : Nat) (mode : Int) (w : World) (R : Value → World → Prop) : Prop :=
  ∀ (r : Nat) (wv : World), New w (.cells ⟨[(.bool r0), (.slice r1_p r1_n r1_c), (.slice r2_p r2_n r2_c)]⟩ 35 (0, 0)) r wv →
  ∀ (r_1 : Nat) (wv_1 : World), New wv (.cells ⟨[(.string ByteArray.empty), (.bool false), (.slice none 0 0)]⟩ 33 (0, 0)) r_1 wv_1 →
  ∀ (r_2 : Nat) (wv_2 : World), New wv_1 (.cells ⟨[(.bool false), (.slice none 0 0), (.slice none 0 0)]⟩ 35 (0, 0)) r_2 wv_2 →
  ∃ (t140 : Bool) (t141_p : Option Addr) (t141_n : Nat) (t141_c : Nat) (t142_p : Option Addr) (t142_n : Nat) (t142_c : Nat), Loads P 35 ⟨r, 0, none⟩ (.agg #[(.bool t140), (.slice t141_p t141_n t141_c), (.slice t142_p t142_n t142_c)]) wv_2 ∧ Calls P 103 ⟨[(.agg #[(.bool t140), (.slice t141_p t141_n t141_c), (.slice t142_p t142_n t142_c)]), (.int .i64 mode)]⟩ wv_2 fun e wv_3 =>
  ∃ (t160 : Bool) (t161_p : Option Addr) (t161_n : Nat) (t161_c : Nat) (t160_1 : Bool) (t161_p_1 : Option Addr) (t161_n_1 : Nat) (t161_c_1 : Nat) (t162_p : Option Addr) (t162_n : Nat) (t162_c : Nat) (t16 : Bool), e = .returned (.tuple #[(.agg #[(.bool t160), (.slice t161_p t161_n t161_c)]), (.agg #[(.bool t160_1), (.slice t161_p_1 t161_n_1 t161_c_1), (.slice t162_p t162_n t162_c)]), (.bool t16)]) ∧
  ∀ (r_3 : Nat) (wv_4 : World), New wv_3 (.cells ⟨[(.bool false), (.slice none 0 0)]⟩ 31 (0, 0)) r_3 wv_4 →
  ∀ (r_4 : Nat) (wv_5 : World), New wv_4 (.cells ⟨[(.bool false), (.slice none 0 0), (.slice none 0 0)]⟩ 35 (0, 0)) r_4 wv_5 →
  ∃ wv_6, Stores P 31 ⟨r_3, 0, none⟩ (.agg #[(.bool t160), (.slice t161_p t161_n t161_c)]) wv_5 wv_6 ∧
  ∃ wv_7, Stores P 35 ⟨r_4, 0, none⟩ (.agg #[(.bool t160_1), (.slice t161_p_1 t161_n_1 t161_c_1), (.slice t162_p t162_n t162_c)]) wv_6 wv_7 ∧
  ((!t16) = true →
    ∃ wv_8, Stores P 33 ⟨r_1, 0, none⟩ (.agg #[(.string ByteArray.empty), (.bool false), (.slice none 0 0)]) wv_7 wv_8 ∧
    ∃ wv_9, Stores P 35 ⟨r_2, 0, none⟩ (.agg #[(.bool false), (.slice none 0 0), (.slice none 0 0)]) wv_8 wv_9 ∧
    ∃ (r0_1 : ByteArray) (r1 : Bool) (r2_p_1 : Option Addr) (r2_n_1 : Nat) (r2_c_1 : Nat), Loads P 33 ⟨r_1, 0, none⟩ (.agg #[(.string r0_1), (.bool r1), (.slice r2_p_1 r2_n_1 r2_c_1)]) wv_9 ∧ ∃ (r0_2 : Bool) (r1_p_1 : Option Addr) (r1_n_1 : Nat) (r1_c_1 : Nat) (r2_p_2 : Option Addr) (r2_n_2 : Nat) (r2_c_2 : Nat), Loads P 35 ⟨r_2, 0, none⟩ (.agg #[(.bool r0_2), (.slice r1_p_1 r1_n_1 r1_c_1), (.slice r2_p_2 r2_n_2 r2_c_2)]) wv_9 ∧ R (.tuple #[(.agg #[(.string r0_1), (.bool r1), (.slice r2_p_1 r2_n_1 r2_c_1)]), (.agg #[(.bool r0_2), (.slice r1_p_1 r1_n_1 r1_c_1), (.slice r2_p_2 r2_n_2 r2_c_2)]), (.bool false)]) wv_9) ∧
  ((!t16) = false →
    ∃ (t260 : Bool) (t261_p : Option Addr) (t261_n : Nat) (t261_c : Nat), Loads P 31 ⟨r_3, 0, none⟩ (.agg #[(.bool t260), (.slice t261_p t261_n t261_c)]) wv_7 ∧ Calls P 104 ⟨[(.string cur), (.agg #[(.bool t260), (.slice t261_p t261_n t261_c)])]⟩ wv_7 fun e_1 wv_10 =>
    ∃ (t270 : ByteArray) (t271 : Bool) (t272_p : Option Addr) (t272_n : Nat) (t272_c : Nat) (t27 : Bool), e_1 = .returned (.tuple #[(.agg #[(.string t270), (.bool t271), (.slice t272_p t272_n t272_c)]), (.bool t27)]) ∧
    ∀ (r_5 : Nat) (wv_11 : World), New wv_10 (.cells ⟨[(.string ByteArray.empty), (.bool false), (.slice none 0 0)]⟩ 33 (0, 0)) r_5 wv_11 →
    ∃ wv_12, Stores P 33 ⟨r_5, 0, none⟩ (.agg #[(.string t270), (.bool t271), (.slice t272_p t272_n t272_c)]) wv_11 wv_12 ∧
    ((!t27) = true →
      ∃ wv_13, Stores P 33 ⟨r_1, 0, none⟩ (.agg #[(.string ByteArray.empty), (.bool false), (.slice none 0 0)]) wv_12 wv_13 ∧
      ∃ wv_14, Stores P 35 ⟨r_2, 0, none⟩ (.agg #[(.bool false), (.slice none 0 0), (.slice none 0 0)]) wv_13 wv_14 ∧
      ∃ (r0_3 : ByteArray) (r1_1 : Bool) (r2_p_3 : Option Addr) (r2_n_3 : Nat) (r2_c_3 : Nat), Loads P 33 ⟨r_1, 0, none⟩ (.agg #[(.string r0_3), (.bool r1_1), (.slice r2_p_3 r2_n_3 r2_c_3)]) wv_14 ∧ ∃ (r0_4 : Bool) (r1_p_2 : Option Addr) (r1_n_2 : Nat) (r1_c_2 : Nat) (r2_p_4 : Option Addr) (r2_n_4 : Nat) (r2_c_4 : Nat), Loads P 35 ⟨r_2, 0, none⟩ (.agg #[(.bool r0_4), (.slice r1_p_2 r1_n_2 r1_c_2), (.slice r2_p_4 r2_n_4 r2_c_4)]) wv_14 ∧ R (.tuple #[(.agg #[(.string r0_3), (.bool r1_1), (.slice r2_p_3 r2_n_3 r2_c_3)]), (.agg #[(.bool r0_4), (.slice r1_p_2 r1_n_2 r1_c_2), (.slice r2_p_4 r2_n_4 r2_c_4)]), (.bool false)]) wv_14) ∧
    ((!t27) = false →
      ∃ blks : List Nat, ∃ (t340 : ByteArray) (t341 : Bool) (t342_p : Option Addr) (t342_n : Nat) (t342_c : Nat), (∀ wv_15, EX blks wv_12.drew wv_15 → Loads P 33 ⟨r_5, 0, none⟩ (.agg #[(.string t340), (.bool t341), (.slice t342_p t342_n t342_c)]) wv_15) ∧ ∃ (t350 : Bool) (t351_p : Option Addr) (t351_n : Nat) (t351_c : Nat) (t352_p : Option Addr) (t352_n : Nat) (t352_c : Nat), (∀ wv_16, EX blks wv_12.drew wv_16 → Loads P 35 ⟨r_4, 0, none⟩ (.agg #[(.bool t350), (.slice t351_p t351_n t351_c), (.slice t352_p t352_n t352_c)]) wv_16) ∧ ∃ wv_17, Stores P 33 ⟨r_1, 0, none⟩ (.agg #[(.string t340), (.bool t341), (.slice t342_p t342_n t342_c)]) wv_12.drew wv_17 ∧
      EX blks wv_12.drew wv_17 ∧ ∃ wv_18, Stores P 35 ⟨r_2, 0, none⟩ (.agg #[(.bool t350), (.slice t351_p t351_n t351_c), (.slice t352_p t352_n t352_c)]) wv_17 wv_18 ∧
      ∃ (r0_5 : ByteArray) (r1_2 : Bool) (r2_p_5 : Option Addr) (r2_n_5 : Nat) (r2_c_5 : Nat), Loads P 33 ⟨r_1, 0, none⟩ (.agg #[(.string r0_5), (.bool r1_2), (.slice r2_p_5 r2_n_5 r2_c_5)]) wv_18 ∧ ∃ (r0_6 : Bool) (r1_p_3 : Option Addr) (r1_n_3 : Nat) (r1_c_3 : Nat) (r2_p_6 : Option Addr) (r2_n_6 : Nat) (r2_c_6 : Nat), Loads P 35 ⟨r_2, 0, none⟩ (.agg #[(.bool r0_6), (.slice r1_p_3 r1_n_3 r1_c_3), (.slice r2_p_6 r2_n_6 r2_c_6)]) wv_18 ∧ R (.tuple #[(.agg #[(.string r0_5), (.bool r1_2), (.slice r2_p_5 r2_n_5 r2_c_5)]), (.agg #[(.bool r0_6), (.slice r1_p_3 r1_n_3 r1_c_3), (.slice r2_p_6 r2_n_6 r2_c_6)]), (.bool true)]) wv_18))
theorem impl_RatMoney_eq (cur : ByteArray) (r0 : Bool) (r1_p : Option Addr) (r1_n : Nat) (r1_c : Nat) (r2_p : Option Addr) (r2_n : Nat) (r2_c : Nat) (mode : Int) (w : World) (R : Value → World → Prop) : impl_RatMoney cur r0 r1_p r1_n r1_c r2_p r2_n r2_c mode w R = fsem P Tryz.f50 (fun k => []) [(.string cur), (.agg #[(.bool r0), (.slice r1_p r1_n r1_c), (.slice r2_p r2_n r2_c)]), (.int .i64 mode)] R w := by kernel_rfl
theorem impl_RatMoney_ret {cur : ByteArray} {r0 : Bool} {r1_p : Option Addr} {r1_n : Nat} {r1_c : Nat} {r2_p : Option Addr} {r2_n : Nat} {r2_c : Nat} {mode : Int} {w : World} {R : Value → World → Prop} (h : impl_RatMoney cur r0 r1_p r1_n r1_c r2_p r2_n r2_c mode w R) : Ret P 50 [(.string cur), (.agg #[(.bool r0), (.slice r1_p r1_n r1_c), (.slice r2_p r2_n r2_c)]), (.int .i64 mode)] w R :=
  Ret.of_fsem Tryz.func50 rfl (Eq.mp (impl_RatMoney_eq cur r0 r1_p r1_n r1_c r2_p r2_n r2_c mode w R) h)
def spec_RatInt (x0 : Bool) (x1_p : Option Addr) (x1_n : Nat) (x1_c : Nat) (w : World) (R : Value → World → Prop) : Prop :=
  ∀ (r : Nat) (wv : World), New w (.cells ⟨[(.bool x0), (.slice x1_p x1_n x1_c)]⟩ 31 (0, 0)) r wv →
  ∀ (r_1 : Nat) (wv_1 : World), New wv (.cells ⟨[(.bool false), (.slice none 0 0), (.slice none 0 0)]⟩ 35 (0, 0)) r_1 wv_1 →
  ∃ (t40 : Bool) (t41_p : Option Addr) (t41_n : Nat) (t41_c : Nat), (∀ wv_2, Ext wv_1.drew wv_2 → Loads P 31 ⟨r, 0, none⟩ (.agg #[(.bool t40), (.slice t41_p t41_n t41_c)]) wv_2) ∧ Calls P 58 ⟨[(.int .i64 1)]⟩ wv_1.drew fun e wv_3 =>
  ∃ (t50 : Bool) (t51_p : Option Addr) (t51_n : Nat) (t51_c : Nat), e = .returned (.agg #[(.bool t50), (.slice t51_p t51_n t51_c)]) ∧
  Ext wv_1.drew wv_3 ∧ Calls P 88 ⟨[(.agg #[(.bool t40), (.slice t41_p t41_n t41_c)]), (.agg #[(.bool t50), (.slice t51_p t51_n t51_c)])]⟩ wv_3 fun e_1 wv_4 =>
  ∃ (t60 : Bool) (t61_p : Option Addr) (t61_n : Nat) (t61_c : Nat) (t62_p : Option Addr) (t62_n : Nat) (t62_c : Nat) (t6 : Bool), e_1 = .returned (.tuple #[(.agg #[(.bool t60), (.slice t61_p t61_n t61_c), (.slice t62_p t62_n t62_c)]), (.bool t6)]) ∧
  ∃ wv_5, Stores P 35 ⟨r_1, 0, none⟩ (.agg #[(.bool t60), (.slice t61_p t61_n t61_c), (.slice t62_p t62_n t62_c)]) wv_4 wv_5 ∧
  ∃ (r0 : Bool) (r1_p : Option Addr) (r1_n : Nat) (r1_c : Nat) (r2_p : Option Addr) (r2_n : Nat) (r2_c : Nat), Loads P 35 ⟨r_1, 0, none⟩ (.agg #[(.bool r0), (.slice r1_p r1_n r1_c), (.slice r2_p r2_n r2_c)]) wv_5 ∧ R (.tuple #[(.agg #[(.bool r0), (.slice r1_p r1_n r1_c), (.slice r2_p r2_n r2_c)]), (.bool t6)]) wv_5
theorem spec_RatInt_eq (x0 : Bool) (x1_p : Option Addr) (x1_n : Nat) (x1_c : Nat) (w : World) (R : Value → World → Prop) : spec_RatInt x0 x1_p x1_n x1_c w R = fsem P Tryz.f57 (fun k => []) [(.agg #[(.bool x0), (.slice x1_p x1_n x1_c)])] R w := by kernel_rfl
theorem spec_RatInt_ret {x0 : Bool} {x1_p : Option Addr} {x1_n : Nat} {x1_c : Nat} {w : World} {R : Value → World → Prop} (h : spec_RatInt x0 x1_p x1_n x1_c w R) : Ret P 57 [(.agg #[(.bool x0), (.slice x1_p x1_n x1_c)])] w R :=
  Ret.of_fsem Tryz.func57 rfl (Eq.mp (spec_RatInt_eq x0 x1_p x1_n x1_c w R) h)
def spec_IntOf (n : Int) (w : World) (R : Value → World → Prop) : Prop :=
  ∀ (r : Nat) (wv : World), New w (.cells ⟨[(.bool false), (.slice none 0 0)]⟩ 31 (0, 0)) r wv →
  ((decide ((n : Int) = (-9223372036854775808))) = true →
    ∀ (r_1 : Nat) (wv_1 : World), New wv (.cells ⟨[(.int .i64 854775808), (.int .i64 223372036), (.int .i64 9)]⟩ 3 (0, 0)) r_1 wv_1 →
    Calls P 70 ⟨[(.bool true), (.slice (some ⟨r_1, 0, none⟩) 3 3)]⟩ wv_1 fun e wv_2 =>
    ∃ (t60 : Bool) (t61_p : Option Addr) (t61_n : Nat) (t61_c : Nat), e = .returned (.agg #[(.bool t60), (.slice t61_p t61_n t61_c)]) ∧
    ∃ wv_3, Stores P 31 ⟨r, 0, none⟩ (.agg #[(.bool t60), (.slice t61_p t61_n t61_c)]) wv_2 wv_3 ∧
    ∃ (r0 : Bool) (r1_p : Option Addr) (r1_n : Nat) (r1_c : Nat), Loads P 31 ⟨r, 0, none⟩ (.agg #[(.bool r0), (.slice r1_p r1_n r1_c)]) wv_3 ∧ R (.agg #[(.bool r0), (.slice r1_p r1_n r1_c)]) wv_3) ∧
  ((decide ((n : Int) = (-9223372036854775808))) = false →
    ((decide ((n : Int) < 0)) = true →
      ∃ t10 : Int, t10 = IntKind.wrap .i64 (0 - n) ∧ Calls P 105 ⟨[(.int .i64 t10)]⟩ wv fun e_1 wv_4 =>
      ∃ (t11_p : Option Addr) (t11_n : Nat) (t11_c : Nat), e_1 = .returned (.slice t11_p t11_n t11_c) ∧
      Calls P 70 ⟨[(.bool true), (.slice t11_p t11_n t11_c)]⟩ wv_4 fun e_2 wv_5 =>
      ∃ (t120 : Bool) (t121_p : Option Addr) (t121_n : Nat) (t121_c : Nat), e_2 = .returned (.agg #[(.bool t120), (.slice t121_p t121_n t121_c)]) ∧
      ∃ wv_6, Stores P 31 ⟨r, 0, none⟩ (.agg #[(.bool t120), (.slice t121_p t121_n t121_c)]) wv_5 wv_6 ∧
      ∃ (r0_1 : Bool) (r1_p_1 : Option Addr) (r1_n_1 : Nat) (r1_c_1 : Nat), Loads P 31 ⟨r, 0, none⟩ (.agg #[(.bool r0_1), (.slice r1_p_1 r1_n_1 r1_c_1)]) wv_6 ∧ R (.agg #[(.bool r0_1), (.slice r1_p_1 r1_n_1 r1_c_1)]) wv_6) ∧
    ((decide ((n : Int) < 0)) = false →
      Calls P 105 ⟨[(.int .i64 n)]⟩ wv fun e_3 wv_7 =>
      ∃ (t14_p : Option Addr) (t14_n : Nat) (t14_c : Nat), e_3 = .returned (.slice t14_p t14_n t14_c) ∧
      Calls P 70 ⟨[(.bool false), (.slice t14_p t14_n t14_c)]⟩ wv_7 fun e_4 wv_8 =>
      ∃ (t150 : Bool) (t151_p : Option Addr) (t151_n : Nat) (t151_c : Nat), e_4 = .returned (.agg #[(.bool t150), (.slice t151_p t151_n t151_c)]) ∧
      ∃ wv_9, Stores P 31 ⟨r, 0, none⟩ (.agg #[(.bool t150), (.slice t151_p t151_n t151_c)]) wv_8 wv_9 ∧
      ∃ (r0_2 : Bool) (r1_p_2 : Option Addr) (r1_n_2 : Nat) (r1_c_2 : Nat), Loads P 31 ⟨r, 0, none⟩ (.agg #[(.bool r0_2), (.slice r1_p_2 r1_n_2 r1_c_2)]) wv_9 ∧ R (.agg #[(.bool r0_2), (.slice r1_p_2 r1_n_2 r1_c_2)]) wv_9))
theorem spec_IntOf_eq (n : Int) (w : World) (R : Value → World → Prop) : spec_IntOf n w R = fsem P Tryz.f58 (fun k => []) [(.int .i64 n)] R w := by kernel_rfl
theorem spec_IntOf_ret {n : Int} {w : World} {R : Value → World → Prop} (h : spec_IntOf n w R) : Ret P 58 [(.int .i64 n)] w R :=
  Ret.of_fsem Tryz.func58 rfl (Eq.mp (spec_IntOf_eq n w R) h)
def spec_RatAdd_j0 (r : Nat) (r_1 : Nat) (r_2 : Nat) (W : World) (R : Value → World → Prop) : Prop :=
  ∃ (t20 : Bool), (∀ wv_5, Ext W.drew wv_5 → Loads P 4 (((⟨r, 0, none⟩ : Addr).add 0).add 0) (.bool t20) wv_5) ∧ ∃ (t23_p : Option Addr) (t23_n : Nat) (t23_c : Nat), (∀ wv_6, Ext W.drew wv_6 → Loads P 22 (((⟨r, 0, none⟩ : Addr).add 0).add 1) (.slice t23_p t23_n t23_c) wv_6) ∧ ∃ (t25_p : Option Addr) (t25_n : Nat) (t25_c : Nat), (∀ wv_7, Ext W.drew wv_7 → Loads P 22 ((⟨r_1, 0, none⟩ : Addr).add 2) (.slice t25_p t25_n t25_c) wv_7) ∧ ∀ (ss : List (Option Nat)) (wv_8 : World), Fl [.cells ⟨[(.bool false), (.slice none 0 0)]⟩ 31 (0, 0)] [none] W.drew ss wv_8 →
  Calls P 87 ⟨[(.slice t23_p t23_n t23_c), (.slice t25_p t25_n t25_c)]⟩ wv_8 fun e_1 wv_9 =>
  ∃ (t26_p : Option Addr) (t26_n : Nat) (t26_c : Nat), e_1 = .returned (.slice t26_p t26_n t26_c) ∧
  Ext wv_8 wv_9 ∧ ∀ (ss_1 : List (Option Nat)) (wv_10 : World), Fl [.cells ⟨[(.bool false), (.slice none 0 0)]⟩ 31 (0, 0)] ss wv_9 ss_1 wv_10 →
  Calls P 70 ⟨[(.bool t20), (.slice t26_p t26_n t26_c)]⟩ wv_10 fun e_2 wv_11 =>
  ∃ (t270 : Bool) (t271_p : Option Addr) (t271_n : Nat) (t271_c : Nat), e_2 = .returned (.agg #[(.bool t270), (.slice t271_p t271_n t271_c)]) ∧
  ∀ (ss_2 : List (Option Nat)) (wv_12 : World) (r_3 : Nat), Fl [.cells ⟨[(.bool false), (.slice none 0 0)]⟩ 31 (0, 0)] ss_1 wv_11 ss_2 wv_12 → ss_2[0]? = some (some r_3) →
  ∃ wv_13, Stores P 31 ⟨r_3, 0, none⟩ (.agg #[(.bool t270), (.slice t271_p t271_n t271_c)]) wv_12 wv_13 ∧
  ∃ (t30 : Bool), (∀ wv_14, Ext wv_13.drew wv_14 → Loads P 4 (((⟨r_1, 0, none⟩ : Addr).add 0).add 0) (.bool t30) wv_14) ∧ ∃ (t33_p : Option Addr) (t33_n : Nat) (t33_c : Nat), (∀ wv_15, Ext wv_13.drew wv_15 → Loads P 22 (((⟨r_1, 0, none⟩ : Addr).add 0).add 1) (.slice t33_p t33_n t33_c) wv_15) ∧ ∃ (t35_p : Option Addr) (t35_n : Nat) (t35_c : Nat), (∀ wv_16, Ext wv_13.drew wv_16 → Loads P 22 ((⟨r, 0, none⟩ : Addr).add 2) (.slice t35_p t35_n t35_c) wv_16) ∧ ∀ (ss_3 : List (Option Nat)) (wv_17 : World), Fl [.cells ⟨[(.bool false), (.slice none 0 0)]⟩ 31 (0, 0)] [none] wv_13.drew ss_3 wv_17 →
  Calls P 87 ⟨[(.slice t33_p t33_n t33_c), (.slice t35_p t35_n t35_c)]⟩ wv_17 fun e_3 wv_18 =>
  ∃ (t36_p : Option Addr) (t36_n : Nat) (t36_c : Nat), e_3 = .returned (.slice t36_p t36_n t36_c) ∧
  Ext wv_17 wv_18 ∧ ∀ (ss_4 : List (Option Nat)) (wv_19 : World), Fl [.cells ⟨[(.bool false), (.slice none 0 0)]⟩ 31 (0, 0)] ss_3 wv_18 ss_4 wv_19 →
  Calls P 70 ⟨[(.bool t30), (.slice t36_p t36_n t36_c)]⟩ wv_19 fun e_4 wv_20 =>
  ∃ (t370 : Bool) (t371_p : Option Addr) (t371_n : Nat) (t371_c : Nat), e_4 = .returned (.agg #[(.bool t370), (.slice t371_p t371_n t371_c)]) ∧
  ∀ (ss_5 : List (Option Nat)) (wv_21 : World) (r_4 : Nat), Fl [.cells ⟨[(.bool false), (.slice none 0 0)]⟩ 31 (0, 0)] ss_4 wv_20 ss_5 wv_21 → ss_5[0]? = some (some r_4) →
  ∃ wv_22, Stores P 31 ⟨r_4, 0, none⟩ (.agg #[(.bool t370), (.slice t371_p t371_n t371_c)]) wv_21 wv_22 ∧
  ∃ (t380 : Bool) (t381_p : Option Addr) (t381_n : Nat) (t381_c : Nat), Loads P 31 ⟨r_3, 0, none⟩ (.agg #[(.bool t380), (.slice t381_p t381_n t381_c)]) wv_22 ∧ ∃ (t390 : Bool) (t391_p : Option Addr) (t391_n : Nat) (t391_c : Nat), Loads P 31 ⟨r_4, 0, none⟩ (.agg #[(.bool t390), (.slice t391_p t391_n t391_c)]) wv_22 ∧ Calls P 106 ⟨[(.agg #[(.bool t380), (.slice t381_p t381_n t381_c)]), (.agg #[(.bool t390), (.slice t391_p t391_n t391_c)])]⟩ wv_22 fun e_5 wv_23 =>
  ∃ (t400 : Bool) (t401_p : Option Addr) (t401_n : Nat) (t401_c : Nat), e_5 = .returned (.agg #[(.bool t400), (.slice t401_p t401_n t401_c)]) ∧
  ∀ (r_5 : Nat) (wv_24 : World), New wv_23 (.cells ⟨[(.bool false), (.slice none 0 0)]⟩ 31 (0, 0)) r_5 wv_24 →
  ∃ wv_25, Stores P 31 ⟨r_5, 0, none⟩ (.agg #[(.bool t400), (.slice t401_p t401_n t401_c)]) wv_24 wv_25 ∧
  ∃ (t42 : Bool), (∀ wv_26, Ext wv_25.drew wv_26 → Loads P 4 ((⟨r_5, 0, none⟩ : Addr).add 0) (.bool t42) wv_26) ∧ ∃ (t44_p : Option Addr) (t44_n : Nat) (t44_c : Nat), (∀ wv_27, Ext wv_25.drew wv_27 → Loads P 22 ((⟨r_5, 0, none⟩ : Addr).add 1) (.slice t44_p t44_n t44_c) wv_27) ∧ ∃ (t46_p : Option Addr) (t46_n : Nat) (t46_c : Nat), (∀ wv_28, Ext wv_25.drew wv_28 → Loads P 22 ((⟨r, 0, none⟩ : Addr).add 2) (.slice t46_p t46_n t46_c) wv_28) ∧ ∃ (t48_p : Option Addr) (t48_n : Nat) (t48_c : Nat), (∀ wv_29, Ext wv_25.drew wv_29 → Loads P 22 ((⟨r_1, 0, none⟩ : Addr).add 2) (.slice t48_p t48_n t48_c) wv_29) ∧ Calls P 87 ⟨[(.slice t46_p t46_n t46_c), (.slice t48_p t48_n t48_c)]⟩ wv_25.drew fun e_6 wv_30 =>
  ∃ (t49_p : Option Addr) (t49_n : Nat) (t49_c : Nat), e_6 = .returned (.slice t49_p t49_n t49_c) ∧
  Ext wv_25.drew wv_30 ∧ Calls P 86 ⟨[(.bool t42), (.slice t44_p t44_n t44_c), (.slice t49_p t49_n t49_c)]⟩ wv_30 fun e_7 wv_31 =>
  ∃ (t500 : Bool) (t501_p : Option Addr) (t501_n : Nat) (t501_c : Nat) (t502_p : Option Addr) (t502_n : Nat) (t502_c : Nat) (t50 : Bool), e_7 = .returned (.tuple #[(.agg #[(.bool t500), (.slice t501_p t501_n t501_c), (.slice t502_p t502_n t502_c)]), (.bool t50)]) ∧
  ∃ wv_32, Stores P 35 ⟨r_2, 0, none⟩ (.agg #[(.bool t500), (.slice t501_p t501_n t501_c), (.slice t502_p t502_n t502_c)]) wv_31 wv_32 ∧
  ∃ (r0_2 : Bool) (r1_p_2 : Option Addr) (r1_n_2 : Nat) (r1_c_2 : Nat) (r2_p_2 : Option Addr) (r2_n_2 : Nat) (r2_c_2 : Nat), Loads P 35 ⟨r_2, 0, none⟩ (.agg #[(.bool r0_2), (.slice r1_p_2 r1_n_2 r1_c_2), (.slice r2_p_2 r2_n_2 r2_c_2)]) wv_32 ∧ R (.tuple #[(.agg #[(.bool r0_2), (.slice r1_p_2 r1_n_2 r1_c_2), (.slice r2_p_2 r2_n_2 r2_c_2)]), (.bool t50)]) wv_32
def spec_RatAdd (r0 : Bool) (r1_p : Option Addr) (r1_n : Nat) (r1_c : Nat) (r2_p : Option Addr) (r2_n : Nat) (r2_c : Nat) (s0 : Bool) (s1_p : Option Addr) (s1_n : Nat) (s1_c : Nat) (s2_p : Option Addr) (s2_n : Nat) (s2_c : Nat) (w : World) (R : Value → World → Prop) : Prop :=
  ∀ (r : Nat) (wv : World), New w (.cells ⟨[(.bool r0), (.slice r1_p r1_n r1_c), (.slice r2_p r2_n r2_c)]⟩ 35 (0, 0)) r wv →
  ∀ (r_1 : Nat) (wv_1 : World), New wv (.cells ⟨[(.bool s0), (.slice s1_p s1_n s1_c), (.slice s2_p s2_n s2_c)]⟩ 35 (0, 0)) r_1 wv_1 →
  ∀ (r_2 : Nat) (wv_2 : World), New wv_1 (.cells ⟨[(.bool false), (.slice none 0 0), (.slice none 0 0)]⟩ 35 (0, 0)) r_2 wv_2 →
  ∃ (t90 : Bool) (t91_p : Option Addr) (t91_n : Nat) (t91_c : Nat) (t92_p : Option Addr) (t92_n : Nat) (t92_c : Nat), Loads P 35 ⟨r, 0, none⟩ (.agg #[(.bool t90), (.slice t91_p t91_n t91_c), (.slice t92_p t92_n t92_c)]) wv_2 ∧ Calls P 85 ⟨[(.agg #[(.bool t90), (.slice t91_p t91_n t91_c), (.slice t92_p t92_n t92_c)])]⟩ wv_2 fun e wv_3 =>
  ∃ (t10 : Bool), e = .returned (.bool t10) ∧
  ((!t10) = true →
    (true = true →
      ∃ wv_4, Stores P 35 ⟨r_2, 0, none⟩ (.agg #[(.bool false), (.slice none 0 0), (.slice none 0 0)]) wv_3 wv_4 ∧
      ∃ (r0_1 : Bool) (r1_p_1 : Option Addr) (r1_n_1 : Nat) (r1_c_1 : Nat) (r2_p_1 : Option Addr) (r2_n_1 : Nat) (r2_c_1 : Nat), Loads P 35 ⟨r_2, 0, none⟩ (.agg #[(.bool r0_1), (.slice r1_p_1 r1_n_1 r1_c_1), (.slice r2_p_1 r2_n_1 r2_c_1)]) wv_4 ∧ R (.tuple #[(.agg #[(.bool r0_1), (.slice r1_p_1 r1_n_1 r1_c_1), (.slice r2_p_1 r2_n_1 r2_c_1)]), (.bool false)]) wv_4) ∧
    (true = false →
      spec_RatAdd_j0 r r_1 r_2 wv_3 R)) ∧
  ((!t10) = false →
    ∃ (t130 : Bool) (t131_p : Option Addr) (t131_n : Nat) (t131_c : Nat) (t132_p : Option Addr) (t132_n : Nat) (t132_c : Nat), Loads P 35 ⟨r_1, 0, none⟩ (.agg #[(.bool t130), (.slice t131_p t131_n t131_c), (.slice t132_p t132_n t132_c)]) wv_3 ∧ Calls P 85 ⟨[(.agg #[(.bool t130), (.slice t131_p t131_n t131_c), (.slice t132_p t132_n t132_c)])]⟩ wv_3 fun e_8 wv_33 =>
    ∃ (t14 : Bool), e_8 = .returned (.bool t14) ∧
    ((!t14) = true →
      ∃ wv_34, Stores P 35 ⟨r_2, 0, none⟩ (.agg #[(.bool false), (.slice none 0 0), (.slice none 0 0)]) wv_33 wv_34 ∧
      ∃ (r0_3 : Bool) (r1_p_3 : Option Addr) (r1_n_3 : Nat) (r1_c_3 : Nat) (r2_p_3 : Option Addr) (r2_n_3 : Nat) (r2_c_3 : Nat), Loads P 35 ⟨r_2, 0, none⟩ (.agg #[(.bool r0_3), (.slice r1_p_3 r1_n_3 r1_c_3), (.slice r2_p_3 r2_n_3 r2_c_3)]) wv_34 ∧ R (.tuple #[(.agg #[(.bool r0_3), (.slice r1_p_3 r1_n_3 r1_c_3), (.slice r2_p_3 r2_n_3 r2_c_3)]), (.bool false)]) wv_34) ∧
    ((!t14) = false →
      spec_RatAdd_j0 r r_1 r_2 wv_33 R))
theorem spec_RatAdd_eq (r0 : Bool) (r1_p : Option Addr) (r1_n : Nat) (r1_c : Nat) (r2_p : Option Addr) (r2_n : Nat) (r2_c : Nat) (s0 : Bool) (s1_p : Option Addr) (s1_n : Nat) (s1_c : Nat) (s2_p : Option Addr) (s2_n : Nat) (s2_c : Nat) (w : World) (R : Value → World → Prop) : spec_RatAdd r0 r1_p r1_n r1_c r2_p r2_n r2_c s0 s1_p s1_n s1_c s2_p s2_n s2_c w R = fsem P Tryz.f59 (fun k => []) [(.agg #[(.bool r0), (.slice r1_p r1_n r1_c), (.slice r2_p r2_n r2_c)]), (.agg #[(.bool s0), (.slice s1_p s1_n s1_c), (.slice s2_p s2_n s2_c)])] R w := by kernel_rfl
theorem spec_RatAdd_ret {r0 : Bool} {r1_p : Option Addr} {r1_n : Nat} {r1_c : Nat} {r2_p : Option Addr} {r2_n : Nat} {r2_c : Nat} {s0 : Bool} {s1_p : Option Addr} {s1_n : Nat} {s1_c : Nat} {s2_p : Option Addr} {s2_n : Nat} {s2_c : Nat} {w : World} {R : Value → World → Prop} (h : spec_RatAdd r0 r1_p r1_n r1_c r2_p r2_n r2_c s0 s1_p s1_n s1_c s2_p s2_n s2_c w R) : Ret P 59 [(.agg #[(.bool r0), (.slice r1_p r1_n r1_c), (.slice r2_p r2_n r2_c)]), (.agg #[(.bool s0), (.slice s1_p s1_n s1_c), (.slice s2_p s2_n s2_c)])] w R :=
  Ret.of_fsem Tryz.func59 rfl (Eq.mp (spec_RatAdd_eq r0 r1_p r1_n r1_c r2_p r2_n r2_c s0 s1_p s1_n s1_c s2_p s2_n s2_c w R) h)
def spec_RatDiv_j0 (r : Nat) (r_1 : Nat) (r_2 : Nat) (W : World) (R : Value → World → Prop) : Prop :=
  ∃ (t17 : Bool), (∀ wv_5, Ext W.drew wv_5 → Loads P 4 (((⟨r, 0, none⟩ : Addr).add 0).add 0) (.bool t17) wv_5) ∧ ∃ (t20 : Bool), (∀ wv_6, Ext W.drew wv_6 → Loads P 4 (((⟨r_1, 0, none⟩ : Addr).add 0).add 0) (.bool t20) wv_6) ∧ ∃ (t24_p : Option Addr) (t24_n : Nat) (t24_c : Nat), (∀ wv_7, Ext W.drew wv_7 → Loads P 22 (((⟨r, 0, none⟩ : Addr).add 0).add 1) (.slice t24_p t24_n t24_c) wv_7) ∧ ∃ (t26_p : Option Addr) (t26_n : Nat) (t26_c : Nat), (∀ wv_8, Ext W.drew wv_8 → Loads P 22 ((⟨r_1, 0, none⟩ : Addr).add 2) (.slice t26_p t26_n t26_c) wv_8) ∧ Calls P 87 ⟨[(.slice t24_p t24_n t24_c), (.slice t26_p t26_n t26_c)]⟩ W.drew fun e_1 wv_9 =>
  ∃ (t27_p : Option Addr) (t27_n : Nat) (t27_c : Nat), e_1 = .returned (.slice t27_p t27_n t27_c) ∧
  Ext W.drew wv_9 ∧ ∃ (t29_p : Option Addr) (t29_n : Nat) (t29_c : Nat), (∀ wv_10, Ext W.drew wv_10 → Loads P 22 ((⟨r, 0, none⟩ : Addr).add 2) (.slice t29_p t29_n t29_c) wv_10) ∧ ∃ (t32_p : Option Addr) (t32_n : Nat) (t32_c : Nat), (∀ wv_11, Ext W.drew wv_11 → Loads P 22 (((⟨r_1, 0, none⟩ : Addr).add 0).add 1) (.slice t32_p t32_n t32_c) wv_11) ∧ Calls P 87 ⟨[(.slice t29_p t29_n t29_c), (.slice t32_p t32_n t32_c)]⟩ wv_9 fun e_2 wv_12 =>
  ∃ (t33_p : Option Addr) (t33_n : Nat) (t33_c : Nat), e_2 = .returned (.slice t33_p t33_n t33_c) ∧
  Ext wv_9 wv_12 ∧ Calls P 86 ⟨[(.bool (!(t17 == t20))), (.slice t27_p t27_n t27_c), (.slice t33_p t33_n t33_c)]⟩ wv_12 fun e_3 wv_13 =>
  ∃ (t340 : Bool) (t341_p : Option Addr) (t341_n : Nat) (t341_c : Nat) (t342_p : Option Addr) (t342_n : Nat) (t342_c : Nat) (t34 : Bool), e_3 = .returned (.tuple #[(.agg #[(.bool t340), (.slice t341_p t341_n t341_c), (.slice t342_p t342_n t342_c)]), (.bool t34)]) ∧
  ∃ wv_14, Stores P 35 ⟨r_2, 0, none⟩ (.agg #[(.bool t340), (.slice t341_p t341_n t341_c), (.slice t342_p t342_n t342_c)]) wv_13 wv_14 ∧
  ∃ (r0_2 : Bool) (r1_p_2 : Option Addr) (r1_n_2 : Nat) (r1_c_2 : Nat) (r2_p_2 : Option Addr) (r2_n_2 : Nat) (r2_c_2 : Nat), Loads P 35 ⟨r_2, 0, none⟩ (.agg #[(.bool r0_2), (.slice r1_p_2 r1_n_2 r1_c_2), (.slice r2_p_2 r2_n_2 r2_c_2)]) wv_14 ∧ R (.tuple #[(.agg #[(.bool r0_2), (.slice r1_p_2 r1_n_2 r1_c_2), (.slice r2_p_2 r2_n_2 r2_c_2)]), (.bool t34)]) wv_14
def spec_RatDiv (r0 : Bool) (r1_p : Option Addr) (r1_n : Nat) (r1_c : Nat) (r2_p : Option Addr) (r2_n : Nat) (r2_c : Nat) (s0 : Bool) (s1_p : Option Addr) (s1_n : Nat) (s1_c : Nat) (s2_p : Option Addr) (s2_n : Nat) (s2_c : Nat) (w : World) (R : Value → World → Prop) : Prop :=
  ∀ (r : Nat) (wv : World), New w (.cells ⟨[(.bool r0), (.slice r1_p r1_n r1_c), (.slice r2_p r2_n r2_c)]⟩ 35 (0, 0)) r wv →
  ∀ (r_1 : Nat) (wv_1 : World), New wv (.cells ⟨[(.bool s0), (.slice s1_p s1_n s1_c), (.slice s2_p s2_n s2_c)]⟩ 35 (0, 0)) r_1 wv_1 →
  ∀ (r_2 : Nat) (wv_2 : World), New wv_1 (.cells ⟨[(.bool false), (.slice none 0 0), (.slice none 0 0)]⟩ 35 (0, 0)) r_2 wv_2 →
  ∃ (t60 : Bool) (t61_p : Option Addr) (t61_n : Nat) (t61_c : Nat) (t62_p : Option Addr) (t62_n : Nat) (t62_c : Nat), Loads P 35 ⟨r, 0, none⟩ (.agg #[(.bool t60), (.slice t61_p t61_n t61_c), (.slice t62_p t62_n t62_c)]) wv_2 ∧ Calls P 85 ⟨[(.agg #[(.bool t60), (.slice t61_p t61_n t61_c), (.slice t62_p t62_n t62_c)])]⟩ wv_2 fun e wv_3 =>
  ∃ (t7 : Bool), e = .returned (.bool t7) ∧
  ((!t7) = true →
    (true = true →
      ∃ wv_4, Stores P 35 ⟨r_2, 0, none⟩ (.agg #[(.bool false), (.slice none 0 0), (.slice none 0 0)]) wv_3 wv_4 ∧
      ∃ (r0_1 : Bool) (r1_p_1 : Option Addr) (r1_n_1 : Nat) (r1_c_1 : Nat) (r2_p_1 : Option Addr) (r2_n_1 : Nat) (r2_c_1 : Nat), Loads P 35 ⟨r_2, 0, none⟩ (.agg #[(.bool r0_1), (.slice r1_p_1 r1_n_1 r1_c_1), (.slice r2_p_1 r2_n_1 r2_c_1)]) wv_4 ∧ R (.tuple #[(.agg #[(.bool r0_1), (.slice r1_p_1 r1_n_1 r1_c_1), (.slice r2_p_1 r2_n_1 r2_c_1)]), (.bool false)]) wv_4) ∧
    (true = false →
      spec_RatDiv_j0 r r_1 r_2 wv_3 R)) ∧
  ((!t7) = false →
    ∃ (t100 : Bool) (t101_p : Option Addr) (t101_n : Nat) (t101_c : Nat) (t102_p : Option Addr) (t102_n : Nat) (t102_c : Nat), Loads P 35 ⟨r_1, 0, none⟩ (.agg #[(.bool t100), (.slice t101_p t101_n t101_c), (.slice t102_p t102_n t102_c)]) wv_3 ∧ Calls P 85 ⟨[(.agg #[(.bool t100), (.slice t101_p t101_n t101_c), (.slice t102_p t102_n t102_c)])]⟩ wv_3 fun e_4 wv_15 =>
    ∃ (t11 : Bool), e_4 = .returned (.bool t11) ∧
    ((!t11) = true →
      ∃ wv_16, Stores P 35 ⟨r_2, 0, none⟩ (.agg #[(.bool false), (.slice none 0 0), (.slice none 0 0)]) wv_15 wv_16 ∧
      ∃ (r0_3 : Bool) (r1_p_3 : Option Addr) (r1_n_3 : Nat) (r1_c_3 : Nat) (r2_p_3 : Option Addr) (r2_n_3 : Nat) (r2_c_3 : Nat), Loads P 35 ⟨r_2, 0, none⟩ (.agg #[(.bool r0_3), (.slice r1_p_3 r1_n_3 r1_c_3), (.slice r2_p_3 r2_n_3 r2_c_3)]) wv_16 ∧ R (.tuple #[(.agg #[(.bool r0_3), (.slice r1_p_3 r1_n_3 r1_c_3), (.slice r2_p_3 r2_n_3 r2_c_3)]), (.bool false)]) wv_16) ∧
    ((!t11) = false →
      spec_RatDiv_j0 r r_1 r_2 wv_15 R))
theorem spec_RatDiv_eq (r0 : Bool) (r1_p : Option Addr) (r1_n : Nat) (r1_c : Nat) (r2_p : Option Addr) (r2_n : Nat) (r2_c : Nat) (s0 : Bool) (s1_p : Option Addr) (s1_n : Nat) (s1_c : Nat) (s2_p : Option Addr) (s2_n : Nat) (s2_c : Nat) (w : World) (R : Value → World → Prop) : spec_RatDiv r0 r1_p r1_n r1_c r2_p r2_n r2_c s0 s1_p s1_n s1_c s2_p s2_n s2_c w R = fsem P Tryz.f60 (fun k => []) [(.agg #[(.bool r0), (.slice r1_p r1_n r1_c), (.slice r2_p r2_n r2_c)]), (.agg #[(.bool s0), (.slice s1_p s1_n s1_c), (.slice s2_p s2_n s2_c)])] R w := by kernel_rfl
theorem spec_RatDiv_ret {r0 : Bool} {r1_p : Option Addr} {r1_n : Nat} {r1_c : Nat} {r2_p : Option Addr} {r2_n : Nat} {r2_c : Nat} {s0 : Bool} {s1_p : Option Addr} {s1_n : Nat} {s1_c : Nat} {s2_p : Option Addr} {s2_n : Nat} {s2_c : Nat} {w : World} {R : Value → World → Prop} (h : spec_RatDiv r0 r1_p r1_n r1_c r2_p r2_n r2_c s0 s1_p s1_n s1_c s2_p s2_n s2_c w R) : Ret P 60 [(.agg #[(.bool r0), (.slice r1_p r1_n r1_c), (.slice r2_p r2_n r2_c)]), (.agg #[(.bool s0), (.slice s1_p s1_n s1_c), (.slice s2_p s2_n s2_c)])] w R :=
  Ret.of_fsem Tryz.func60 rfl (Eq.mp (spec_RatDiv_eq r0 r1_p r1_n r1_c r2_p r2_n r2_c s0 s1_p s1_n s1_c s2_p s2_n s2_c w R) h)
def spec_MoneySub (m0 : ByteArray) (m1 : Bool) (m2_p : Option Addr) (m2_n : Nat) (m2_c : Nat) (n0 : ByteArray) (n1 : Bool) (n2_p : Option Addr) (n2_n : Nat) (n2_c : Nat) (w : World) (R : Value → World → Prop) : Prop :=
  ∀ (r : Nat) (wv : World), New w (.cells ⟨[(.string m0), (.bool m1), (.slice m2_p m2_n m2_c)]⟩ 33 (0, 0)) r wv →
  ∀ (r_1 : Nat) (wv_1 : World), New wv (.cells ⟨[(.string n0), (.bool n1), (.slice n2_p n2_n n2_c)]⟩ 33 (0, 0)) r_1 wv_1 →
  ∀ (r_2 : Nat) (wv_2 : World), New wv_1 (.cells ⟨[(.string ByteArray.empty), (.bool false), (.slice none 0 0)]⟩ 33 (0, 0)) r_2 wv_2 →
  ∃ (t60 : ByteArray) (t61 : Bool) (t62_p : Option Addr) (t62_n : Nat) (t62_c : Nat), Loads P 33 ⟨r, 0, none⟩ (.agg #[(.string t60), (.bool t61), (.slice t62_p t62_n t62_c)]) wv_2 ∧ ∃ (t70 : ByteArray) (t71 : Bool) (t72_p : Option Addr) (t72_n : Nat) (t72_c : Nat), Loads P 33 ⟨r_1, 0, none⟩ (.agg #[(.string t70), (.bool t71), (.slice t72_p t72_n t72_c)]) wv_2 ∧ Calls P 67 ⟨[(.agg #[(.string t60), (.bool t61), (.slice t62_p t62_n t62_c)]), (.agg #[(.string t70), (.bool t71), (.slice t72_p t72_n t72_c)])]⟩ wv_2 fun e wv_3 =>
  ∃ (t8 : Bool), e = .returned (.bool t8) ∧
  ((!t8) = true →
    ∃ wv_4, Stores P 33 ⟨r_2, 0, none⟩ (.agg #[(.string ByteArray.empty), (.bool false), (.slice none 0 0)]) wv_3 wv_4 ∧
    ∃ (r0 : ByteArray) (r1 : Bool) (r2_p : Option Addr) (r2_n : Nat) (r2_c : Nat), Loads P 33 ⟨r_2, 0, none⟩ (.agg #[(.string r0), (.bool r1), (.slice r2_p r2_n r2_c)]) wv_4 ∧ R (.tuple #[(.agg #[(.string r0), (.bool r1), (.slice r2_p r2_n r2_c)]), (.bool false)]) wv_4) ∧
  ((!t8) = false →
    ∃ (t12 : ByteArray), (∀ wv_5, Ext wv_3.drew wv_5 → Loads P 9 ((⟨r, 0, none⟩ : Addr).add 0) (.string t12) wv_5) ∧ ∃ (t140 : Bool) (t141_p : Option Addr) (t141_n : Nat) (t141_c : Nat), (∀ wv_6, Ext wv_3.drew wv_6 → Loads P 31 ((⟨r, 0, none⟩ : Addr).add 1) (.agg #[(.bool t140), (.slice t141_p t141_n t141_c)]) wv_6) ∧ ∃ (t160 : Bool) (t161_p : Option Addr) (t161_n : Nat) (t161_c : Nat), (∀ wv_7, Ext wv_3.drew wv_7 → Loads P 31 ((⟨r_1, 0, none⟩ : Addr).add 1) (.agg #[(.bool t160), (.slice t161_p t161_n t161_c)]) wv_7) ∧ Calls P 107 ⟨[(.agg #[(.bool t140), (.slice t141_p t141_n t141_c)]), (.agg #[(.bool t160), (.slice t161_p t161_n t161_c)])]⟩ wv_3.drew fun e_1 wv_8 =>
    ∃ (t170 : Bool) (t171_p : Option Addr) (t171_n : Nat) (t171_c : Nat), e_1 = .returned (.agg #[(.bool t170), (.slice t171_p t171_n t171_c)]) ∧
    Ext wv_3.drew wv_8 ∧ Calls P 91 ⟨[(.string t12), (.agg #[(.bool t170), (.slice t171_p t171_n t171_c)])]⟩ wv_8 fun e_2 wv_9 =>
    ∃ (t180 : ByteArray) (t181 : Bool) (t182_p : Option Addr) (t182_n : Nat) (t182_c : Nat) (t18 : Bool), e_2 = .returned (.tuple #[(.agg #[(.string t180), (.bool t181), (.slice t182_p t182_n t182_c)]), (.bool t18)]) ∧
    ∃ wv_10, Stores P 33 ⟨r_2, 0, none⟩ (.agg #[(.string t180), (.bool t181), (.slice t182_p t182_n t182_c)]) wv_9 wv_10 ∧
    ∃ (r0_1 : ByteArray) (r1_1 : Bool) (r2_p_1 : Option Addr) (r2_n_1 : Nat) (r2_c_1 : Nat), Loads P 33 ⟨r_2, 0, none⟩ (.agg #[(.string r0_1), (.bool r1_1), (.slice r2_p_1 r2_n_1 r2_c_1)]) wv_10 ∧ R (.tuple #[(.agg #[(.string r0_1), (.bool r1_1), (.slice r2_p_1 r2_n_1 r2_c_1)]), (.bool t18)]) wv_10)
theorem spec_MoneySub_eq (m0 : ByteArray) (m1 : Bool) (m2_p : Option Addr) (m2_n : Nat) (m2_c : Nat) (n0 : ByteArray) (n1 : Bool) (n2_p : Option Addr) (n2_n : Nat) (n2_c : Nat) (w : World) (R : Value → World → Prop) : spec_MoneySub m0 m1 m2_p m2_n m2_c n0 n1 n2_p n2_n n2_c w R = fsem P Tryz.f61 (fun k => []) [(.agg #[(.string m0), (.bool m1), (.slice m2_p m2_n m2_c)]), (.agg #[(.string n0), (.bool n1), (.slice n2_p n2_n n2_c)])] R w := by kernel_rfl
theorem spec_MoneySub_ret {m0 : ByteArray} {m1 : Bool} {m2_p : Option Addr} {m2_n : Nat} {m2_c : Nat} {n0 : ByteArray} {n1 : Bool} {n2_p : Option Addr} {n2_n : Nat} {n2_c : Nat} {w : World} {R : Value → World → Prop} (h : spec_MoneySub m0 m1 m2_p m2_n m2_c n0 n1 n2_p n2_n n2_c w R) : Ret P 61 [(.agg #[(.string m0), (.bool m1), (.slice m2_p m2_n m2_c)]), (.agg #[(.string n0), (.bool n1), (.slice n2_p n2_n n2_c)])] w R :=
  Ret.of_fsem Tryz.func61 rfl (Eq.mp (spec_MoneySub_eq m0 m1 m2_p m2_n m2_c n0 n1 n2_p n2_n n2_c w R) h)
def impl_RatInt (x0 : Bool) (x1_p : Option Addr) (x1_n : Nat) (x1_c : Nat) (w : World) (R : Value → World → Prop) : Prop :=
  ∀ (r : Nat) (wv : World), New w (.cells ⟨[(.bool x0), (.slice x1_p x1_n x1_c)]⟩ 31 (0, 0)) r wv →
  ∀ (r_1 : Nat) (wv_1 : World), New wv (.cells ⟨[(.bool false), (.slice none 0 0), (.slice none 0 0)]⟩ 35 (0, 0)) r_1 wv_1 →
  ∃ (t40 : Bool) (t41_p : Option Addr) (t41_n : Nat) (t41_c : Nat), (∀ wv_2, Ext wv_1.drew wv_2 → Loads P 31 ⟨r, 0, none⟩ (.agg #[(.bool t40), (.slice t41_p t41_n t41_c)]) wv_2) ∧ Calls P 63 ⟨[(.int .i64 1)]⟩ wv_1.drew fun e wv_3 =>
  ∃ (t50 : Bool) (t51_p : Option Addr) (t51_n : Nat) (t51_c : Nat), e = .returned (.agg #[(.bool t50), (.slice t51_p t51_n t51_c)]) ∧
  Ext wv_1.drew wv_3 ∧ Calls P 108 ⟨[(.agg #[(.bool t40), (.slice t41_p t41_n t41_c)]), (.agg #[(.bool t50), (.slice t51_p t51_n t51_c)])]⟩ wv_3 fun e_1 wv_4 =>
  ∃ (t60 : Bool) (t61_p : Option Addr) (t61_n : Nat) (t61_c : Nat) (t62_p : Option Addr) (t62_n : Nat) (t62_c : Nat) (t6 : Bool), e_1 = .returned (.tuple #[(.agg #[(.bool t60), (.slice t61_p t61_n t61_c), (.slice t62_p t62_n t62_c)]), (.bool t6)]) ∧
  ∃ wv_5, Stores P 35 ⟨r_1, 0, none⟩ (.agg #[(.bool t60), (.slice t61_p t61_n t61_c), (.slice t62_p t62_n t62_c)]) wv_4 wv_5 ∧
  ∃ (r0 : Bool) (r1_p : Option Addr) (r1_n : Nat) (r1_c : Nat) (r2_p : Option Addr) (r2_n : Nat) (r2_c : Nat), Loads P 35 ⟨r_1, 0, none⟩ (.agg #[(.bool r0), (.slice r1_p r1_n r1_c), (.slice r2_p r2_n r2_c)]) wv_5 ∧ R (.tuple #[(.agg #[(.bool r0), (.slice r1_p r1_n r1_c), (.slice r2_p r2_n r2_c)]), (.bool t6)]) wv_5
theorem impl_RatInt_eq (x0 : Bool) (x1_p : Option Addr) (x1_n : Nat) (x1_c : Nat) (w : World) (R : Value → World → Prop) : impl_RatInt x0 x1_p x1_n x1_c w R = fsem P Tryz.f62 (fun k => []) [(.agg #[(.bool x0), (.slice x1_p x1_n x1_c)])] R w := by kernel_rfl
theorem impl_RatInt_ret {x0 : Bool} {x1_p : Option Addr} {x1_n : Nat} {x1_c : Nat} {w : World} {R : Value → World → Prop} (h : impl_RatInt x0 x1_p x1_n x1_c w R) : Ret P 62 [(.agg #[(.bool x0), (.slice x1_p x1_n x1_c)])] w R :=
  Ret.of_fsem Tryz.func62 rfl (Eq.mp (impl_RatInt_eq x0 x1_p x1_n x1_c w R) h)
def impl_IntOf (n : Int) (w : World) (R : Value → World → Prop) : Prop :=
  ∀ (r : Nat) (wv : World), New w (.cells ⟨[(.bool false), (.slice none 0 0)]⟩ 31 (0, 0)) r wv →
  ((decide ((n : Int) < 0)) = true →
    ∃ t6 : Int, t6 = IntKind.wrap .u64 n ∧ ∃ t7 : Int, t7 = IntKind.wrap .u64 (0 - t6) ∧ Calls P 109 ⟨[(.int .u64 t7)]⟩ wv fun e wv_1 =>
    ∃ (t8_p : Option Addr) (t8_n : Nat) (t8_c : Nat), e = .returned (.slice t8_p t8_n t8_c) ∧
    ∃ wv_2, Stores P 31 ⟨r, 0, none⟩ (.agg #[(.bool true), (.slice t8_p t8_n t8_c)]) wv_1 wv_2 ∧
    ∃ (r0 : Bool) (r1_p : Option Addr) (r1_n : Nat) (r1_c : Nat), Loads P 31 ⟨r, 0, none⟩ (.agg #[(.bool r0), (.slice r1_p r1_n r1_c)]) wv_2 ∧ R (.agg #[(.bool r0), (.slice r1_p r1_n r1_c)]) wv_2) ∧
  ((decide ((n : Int) < 0)) = false →
    ∃ t11 : Int, t11 = IntKind.wrap .u64 n ∧ Calls P 109 ⟨[(.int .u64 t11)]⟩ wv fun e_1 wv_3 =>
    ∃ (t12_p : Option Addr) (t12_n : Nat) (t12_c : Nat), e_1 = .returned (.slice t12_p t12_n t12_c) ∧
    ∃ wv_4, Stores P 31 ⟨r, 0, none⟩ (.agg #[(.bool false), (.slice t12_p t12_n t12_c)]) wv_3 wv_4 ∧
    ∃ (r0_1 : Bool) (r1_p_1 : Option Addr) (r1_n_1 : Nat) (r1_c_1 : Nat), Loads P 31 ⟨r, 0, none⟩ (.agg #[(.bool r0_1), (.slice r1_p_1 r1_n_1 r1_c_1)]) wv_4 ∧ R (.agg #[(.bool r0_1), (.slice r1_p_1 r1_n_1 r1_c_1)]) wv_4)
theorem impl_IntOf_eq (n : Int) (w : World) (R : Value → World → Prop) : impl_IntOf n w R = fsem P Tryz.f63 (fun k => []) [(.int .i64 n)] R w := by kernel_rfl
theorem impl_IntOf_ret {n : Int} {w : World} {R : Value → World → Prop} (h : impl_IntOf n w R) : Ret P 63 [(.int .i64 n)] w R :=
  Ret.of_fsem Tryz.func63 rfl (Eq.mp (impl_IntOf_eq n w R) h)
def impl_RatAdd (r0 : Bool) (r1_p : Option Addr) (r1_n : Nat) (r1_c : Nat) (r2_p : Option Addr) (r2_n : Nat) (r2_c : Nat) (s0 : Bool) (s1_p : Option Addr) (s1_n : Nat) (s1_c : Nat) (s2_p : Option Addr) (s2_n : Nat) (s2_c : Nat) (w : World) (R : Value → World → Prop) : Prop :=
  ∀ (r : Nat) (wv : World), New w (.cells ⟨[(.bool r0), (.slice r1_p r1_n r1_c), (.slice r2_p r2_n r2_c)]⟩ 35 (0, 0)) r wv →
  ∀ (r_1 : Nat) (wv_1 : World), New wv (.cells ⟨[(.bool s0), (.slice s1_p s1_n s1_c), (.slice s2_p s2_n s2_c)]⟩ 35 (0, 0)) r_1 wv_1 →
  ∀ (r_2 : Nat) (wv_2 : World), New wv_1 (.cells ⟨[(.bool false), (.slice none 0 0), (.slice none 0 0)]⟩ 35 (0, 0)) r_2 wv_2 →
  ∃ (t80 : Bool) (t81_p : Option Addr) (t81_n : Nat) (t81_c : Nat) (t82_p : Option Addr) (t82_n : Nat) (t82_c : Nat), Loads P 35 ⟨r, 0, none⟩ (.agg #[(.bool t80), (.slice t81_p t81_n t81_c), (.slice t82_p t82_n t82_c)]) wv_2 ∧ ∃ (t90 : Bool) (t91_p : Option Addr) (t91_n : Nat) (t91_c : Nat) (t92_p : Option Addr) (t92_n : Nat) (t92_c : Nat), Loads P 35 ⟨r_1, 0, none⟩ (.agg #[(.bool t90), (.slice t91_p t91_n t91_c), (.slice t92_p t92_n t92_c)]) wv_2 ∧ Calls P 97 ⟨[(.agg #[(.bool t80), (.slice t81_p t81_n t81_c), (.slice t82_p t82_n t82_c)]), (.agg #[(.bool t90), (.slice t91_p t91_n t91_c), (.slice t92_p t92_n t92_c)])]⟩ wv_2 fun e wv_3 =>
  ∃ (t10 : Bool), e = .returned (.bool t10) ∧
  ((!t10) = true →
    ∃ wv_4, Stores P 35 ⟨r_2, 0, none⟩ (.agg #[(.bool false), (.slice none 0 0), (.slice none 0 0)]) wv_3 wv_4 ∧
    ∃ (r0_1 : Bool) (r1_p_1 : Option Addr) (r1_n_1 : Nat) (r1_c_1 : Nat) (r2_p_1 : Option Addr) (r2_n_1 : Nat) (r2_c_1 : Nat), Loads P 35 ⟨r_2, 0, none⟩ (.agg #[(.bool r0_1), (.slice r1_p_1 r1_n_1 r1_c_1), (.slice r2_p_1 r2_n_1 r2_c_1)]) wv_4 ∧ R (.tuple #[(.agg #[(.bool r0_1), (.slice r1_p_1 r1_n_1 r1_c_1), (.slice r2_p_1 r2_n_1 r2_c_1)]), (.bool false)]) wv_4) ∧
  ((!t10) = false →
    ∃ (t130 : Bool) (t131_p : Option Addr) (t131_n : Nat) (t131_c : Nat) (t132_p : Option Addr) (t132_n : Nat) (t132_c : Nat), (∀ wv_5, Ext wv_3.drew wv_5 → Loads P 35 ⟨r, 0, none⟩ (.agg #[(.bool t130), (.slice t131_p t131_n t131_c), (.slice t132_p t132_n t132_c)]) wv_5) ∧ ∃ (t150 : Bool) (t151_p : Option Addr) (t151_n : Nat) (t151_c : Nat) (t152_p : Option Addr) (t152_n : Nat) (t152_c : Nat), (∀ wv_6, Ext wv_3.drew wv_6 → Loads P 35 ⟨r_1, 0, none⟩ (.agg #[(.bool t150), (.slice t151_p t151_n t151_c), (.slice t152_p t152_n t152_c)]) wv_6) ∧ ∃ (t19_p : Option Addr) (t19_n : Nat) (t19_c : Nat), (∀ wv_7, Ext wv_3.drew.drew wv_7 → Loads P 22 ((⟨r_1, 0, none⟩ : Addr).add 2) (.slice t19_p t19_n t19_c) wv_7) ∧ CallW P (.func (.func 110) #[(.agg #[(.bool t130), (.slice t131_p t131_n t131_c), (.slice t132_p t132_n t132_c)])] #[]) [(.slice t19_p t19_n t19_c)] wv_3.drew.drew fun e_1 wv_8 =>
    ∃ (t200 : Bool) (t201_p : Option Addr) (t201_n : Nat) (t201_c : Nat), e_1 = .returned (.agg #[(.bool t200), (.slice t201_p t201_n t201_c)]) ∧
    Ext wv_3.drew.drew wv_8 ∧ ∃ (t23_p : Option Addr) (t23_n : Nat) (t23_c : Nat), (∀ wv_9, Ext wv_3.drew.drew wv_9 → Loads P 22 ((⟨r, 0, none⟩ : Addr).add 2) (.slice t23_p t23_n t23_c) wv_9) ∧ CallW P (.func (.func 110) #[(.agg #[(.bool t150), (.slice t151_p t151_n t151_c), (.slice t152_p t152_n t152_c)])] #[]) [(.slice t23_p t23_n t23_c)] wv_8 fun e_2 wv_10 =>
    ∃ (t240 : Bool) (t241_p : Option Addr) (t241_n : Nat) (t241_c : Nat), e_2 = .returned (.agg #[(.bool t240), (.slice t241_p t241_n t241_c)]) ∧
    Ext wv_8 wv_10 ∧ Calls P 111 ⟨[(.agg #[(.bool t200), (.slice t201_p t201_n t201_c)]), (.agg #[(.bool t240), (.slice t241_p t241_n t241_c)])]⟩ wv_10 fun e_3 wv_11 =>
    ∃ (t250 : Bool) (t251_p : Option Addr) (t251_n : Nat) (t251_c : Nat), e_3 = .returned (.agg #[(.bool t250), (.slice t251_p t251_n t251_c)]) ∧
    Ext wv_10 wv_11 ∧ ∃ (t27_p : Option Addr) (t27_n : Nat) (t27_c : Nat), (∀ wv_12, Ext wv_3.drew.drew wv_12 → Loads P 22 ((⟨r, 0, none⟩ : Addr).add 2) (.slice t27_p t27_n t27_c) wv_12) ∧ ∃ (t29_p : Option Addr) (t29_n : Nat) (t29_c : Nat), (∀ wv_13, Ext wv_3.drew.drew wv_13 → Loads P 22 ((⟨r_1, 0, none⟩ : Addr).add 2) (.slice t29_p t29_n t29_c) wv_13) ∧ Calls P 100 ⟨[(.slice t27_p t27_n t27_c), (.slice t29_p t29_n t29_c)]⟩ wv_11 fun e_4 wv_14 =>
    ∃ (t30_p : Option Addr) (t30_n : Nat) (t30_c : Nat), e_4 = .returned (.slice t30_p t30_n t30_c) ∧
    Calls P 98 ⟨[(.agg #[(.bool t250), (.slice t251_p t251_n t251_c)]), (.slice t30_p t30_n t30_c)]⟩ wv_14 fun e_5 wv_15 =>
    ∃ (t310 : Bool) (t311_p : Option Addr) (t311_n : Nat) (t311_c : Nat) (t312_p : Option Addr) (t312_n : Nat) (t312_c : Nat) (t31 : Bool), e_5 = .returned (.tuple #[(.agg #[(.bool t310), (.slice t311_p t311_n t311_c), (.slice t312_p t312_n t312_c)]), (.bool t31)]) ∧
    ∃ wv_16, Stores P 35 ⟨r_2, 0, none⟩ (.agg #[(.bool t310), (.slice t311_p t311_n t311_c), (.slice t312_p t312_n t312_c)]) wv_15 wv_16 ∧
    ∃ (r0_2 : Bool) (r1_p_2 : Option Addr) (r1_n_2 : Nat) (r1_c_2 : Nat) (r2_p_2 : Option Addr) (r2_n_2 : Nat) (r2_c_2 : Nat), Loads P 35 ⟨r_2, 0, none⟩ (.agg #[(.bool r0_2), (.slice r1_p_2 r1_n_2 r1_c_2), (.slice r2_p_2 r2_n_2 r2_c_2)]) wv_16 ∧ R (.tuple #[(.agg #[(.bool r0_2), (.slice r1_p_2 r1_n_2 r1_c_2), (.slice r2_p_2 r2_n_2 r2_c_2)]), (.bool t31)]) wv_16)
theorem impl_RatAdd_eq (r0 : Bool) (r1_p : Option Addr) (r1_n : Nat) (r1_c : Nat) (r2_p : Option Addr) (r2_n : Nat) (r2_c : Nat) (s0 : Bool) (s1_p : Option Addr) (s1_n : Nat) (s1_c : Nat) (s2_p : Option Addr) (s2_n : Nat) (s2_c : Nat) (w : World) (R : Value → World → Prop) : impl_RatAdd r0 r1_p r1_n r1_c r2_p r2_n r2_c s0 s1_p s1_n s1_c s2_p s2_n s2_c w R = fsem P Tryz.f64 (fun k => []) [(.agg #[(.bool r0), (.slice r1_p r1_n r1_c), (.slice r2_p r2_n r2_c)]), (.agg #[(.bool s0), (.slice s1_p s1_n s1_c), (.slice s2_p s2_n s2_c)])] R w := by kernel_rfl
theorem impl_RatAdd_ret {r0 : Bool} {r1_p : Option Addr} {r1_n : Nat} {r1_c : Nat} {r2_p : Option Addr} {r2_n : Nat} {r2_c : Nat} {s0 : Bool} {s1_p : Option Addr} {s1_n : Nat} {s1_c : Nat} {s2_p : Option Addr} {s2_n : Nat} {s2_c : Nat} {w : World} {R : Value → World → Prop} (h : impl_RatAdd r0 r1_p r1_n r1_c r2_p r2_n r2_c s0 s1_p s1_n s1_c s2_p s2_n s2_c w R) : Ret P 64 [(.agg #[(.bool r0), (.slice r1_p r1_n r1_c), (.slice r2_p r2_n r2_c)]), (.agg #[(.bool s0), (.slice s1_p s1_n s1_c), (.slice s2_p s2_n s2_c)])] w R :=
  Ret.of_fsem Tryz.func64 rfl (Eq.mp (impl_RatAdd_eq r0 r1_p r1_n r1_c r2_p r2_n r2_c s0 s1_p s1_n s1_c s2_p s2_n s2_c w R) h)
def impl_RatDiv_j0 (r : Nat) (r_1 : Nat) (r_2 : Nat) (W : World) (R : Value → World → Prop) : Prop :=
  ∃ (t20 : Bool), (∀ wv_5, Ext W.drew wv_5 → Loads P 4 (((⟨r, 0, none⟩ : Addr).add 0).add 0) (.bool t20) wv_5) ∧ ∃ (t23 : Bool), (∀ wv_6, Ext W.drew wv_6 → Loads P 4 (((⟨r_1, 0, none⟩ : Addr).add 0).add 0) (.bool t23) wv_6) ∧ ∃ (t27_p : Option Addr) (t27_n : Nat) (t27_c : Nat), (∀ wv_7, Ext W.drew wv_7 → Loads P 22 (((⟨r, 0, none⟩ : Addr).add 0).add 1) (.slice t27_p t27_n t27_c) wv_7) ∧ ∃ (t29_p : Option Addr) (t29_n : Nat) (t29_c : Nat), (∀ wv_8, Ext W.drew wv_8 → Loads P 22 ((⟨r_1, 0, none⟩ : Addr).add 2) (.slice t29_p t29_n t29_c) wv_8) ∧ Calls P 100 ⟨[(.slice t27_p t27_n t27_c), (.slice t29_p t29_n t29_c)]⟩ W.drew fun e_1 wv_9 =>
  ∃ (t30_p : Option Addr) (t30_n : Nat) (t30_c : Nat), e_1 = .returned (.slice t30_p t30_n t30_c) ∧
  Ext W.drew wv_9 ∧ Calls P 112 ⟨[(.bool (!(t20 == t23))), (.slice t30_p t30_n t30_c)]⟩ wv_9 fun e_2 wv_10 =>
  ∃ (t310 : Bool) (t311_p : Option Addr) (t311_n : Nat) (t311_c : Nat), e_2 = .returned (.agg #[(.bool t310), (.slice t311_p t311_n t311_c)]) ∧
  Ext wv_9 wv_10 ∧ ∃ (t33_p : Option Addr) (t33_n : Nat) (t33_c : Nat), (∀ wv_11, Ext W.drew wv_11 → Loads P 22 ((⟨r, 0, none⟩ : Addr).add 2) (.slice t33_p t33_n t33_c) wv_11) ∧ ∃ (t36_p : Option Addr) (t36_n : Nat) (t36_c : Nat), (∀ wv_12, Ext W.drew wv_12 → Loads P 22 (((⟨r_1, 0, none⟩ : Addr).add 0).add 1) (.slice t36_p t36_n t36_c) wv_12) ∧ Calls P 100 ⟨[(.slice t33_p t33_n t33_c), (.slice t36_p t36_n t36_c)]⟩ wv_10 fun e_3 wv_13 =>
  ∃ (t37_p : Option Addr) (t37_n : Nat) (t37_c : Nat), e_3 = .returned (.slice t37_p t37_n t37_c) ∧
  Calls P 98 ⟨[(.agg #[(.bool t310), (.slice t311_p t311_n t311_c)]), (.slice t37_p t37_n t37_c)]⟩ wv_13 fun e_4 wv_14 =>
  ∃ (t380 : Bool) (t381_p : Option Addr) (t381_n : Nat) (t381_c : Nat) (t382_p : Option Addr) (t382_n : Nat) (t382_c : Nat) (t38 : Bool), e_4 = .returned (.tuple #[(.agg #[(.bool t380), (.slice t381_p t381_n t381_c), (.slice t382_p t382_n t382_c)]), (.bool t38)]) ∧
  ∃ wv_15, Stores P 35 ⟨r_2, 0, none⟩ (.agg #[(.bool t380), (.slice t381_p t381_n t381_c), (.slice t382_p t382_n t382_c)]) wv_14 wv_15 ∧
  ∃ (r0_2 : Bool) (r1_p_2 : Option Addr) (r1_n_2 : Nat) (r1_c_2 : Nat) (r2_p_2 : Option Addr) (r2_n_2 : Nat) (r2_c_2 : Nat), Loads P 35 ⟨r_2, 0, none⟩ (.agg #[(.bool r0_2), (.slice r1_p_2 r1_n_2 r1_c_2), (.slice r2_p_2 r2_n_2 r2_c_2)]) wv_15 ∧ R (.tuple #[(.agg #[(.bool r0_2), (.slice r1_p_2 r1_n_2 r1_c_2), (.slice r2_p_2 r2_n_2 r2_c_2)]), (.bool t38)]) wv_15
def impl_RatDiv (r0 : Bool) (r1_p : Option Addr) (r1_n : Nat) (r1_c : Nat) (r2_p : Option Addr) (r2_n : Nat) (r2_c : Nat) (s0 : Bool) (s1_p : Option Addr) (s1_n : Nat) (s1_c : Nat) (s2_p : Option Addr) (s2_n : Nat) (s2_c : Nat) (w : World) (R : Value → World → Prop) : Prop :=
  ∀ (r : Nat) (wv : World), New w (.cells ⟨[(.bool r0), (.slice r1_p r1_n r1_c), (.slice r2_p r2_n r2_c)]⟩ 35 (0, 0)) r wv →
  ∀ (r_1 : Nat) (wv_1 : World), New wv (.cells ⟨[(.bool s0), (.slice s1_p s1_n s1_c), (.slice s2_p s2_n s2_c)]⟩ 35 (0, 0)) r_1 wv_1 →
  ∀ (r_2 : Nat) (wv_2 : World), New wv_1 (.cells ⟨[(.bool false), (.slice none 0 0), (.slice none 0 0)]⟩ 35 (0, 0)) r_2 wv_2 →
  ∃ (t60 : Bool) (t61_p : Option Addr) (t61_n : Nat) (t61_c : Nat) (t62_p : Option Addr) (t62_n : Nat) (t62_c : Nat), Loads P 35 ⟨r, 0, none⟩ (.agg #[(.bool t60), (.slice t61_p t61_n t61_c), (.slice t62_p t62_n t62_c)]) wv_2 ∧ ∃ (t70 : Bool) (t71_p : Option Addr) (t71_n : Nat) (t71_c : Nat) (t72_p : Option Addr) (t72_n : Nat) (t72_c : Nat), Loads P 35 ⟨r_1, 0, none⟩ (.agg #[(.bool t70), (.slice t71_p t71_n t71_c), (.slice t72_p t72_n t72_c)]) wv_2 ∧ Calls P 97 ⟨[(.agg #[(.bool t60), (.slice t61_p t61_n t61_c), (.slice t62_p t62_n t62_c)]), (.agg #[(.bool t70), (.slice t71_p t71_n t71_c), (.slice t72_p t72_n t72_c)])]⟩ wv_2 fun e wv_3 =>
  ∃ (t8 : Bool), e = .returned (.bool t8) ∧
  ((!t8) = true →
    (true = true →
      ∃ wv_4, Stores P 35 ⟨r_2, 0, none⟩ (.agg #[(.bool false), (.slice none 0 0), (.slice none 0 0)]) wv_3 wv_4 ∧
      ∃ (r0_1 : Bool) (r1_p_1 : Option Addr) (r1_n_1 : Nat) (r1_c_1 : Nat) (r2_p_1 : Option Addr) (r2_n_1 : Nat) (r2_c_1 : Nat), Loads P 35 ⟨r_2, 0, none⟩ (.agg #[(.bool r0_1), (.slice r1_p_1 r1_n_1 r1_c_1), (.slice r2_p_1 r2_n_1 r2_c_1)]) wv_4 ∧ R (.tuple #[(.agg #[(.bool r0_1), (.slice r1_p_1 r1_n_1 r1_c_1), (.slice r2_p_1 r2_n_1 r2_c_1)]), (.bool false)]) wv_4) ∧
    (true = false →
      impl_RatDiv_j0 r r_1 r_2 wv_3 R)) ∧
  ((!t8) = false →
    ∃ (t13_p : Option Addr) (t13_n : Nat) (t13_c : Nat), Loads P 22 (((⟨r_1, 0, none⟩ : Addr).add 0).add 1) (.slice t13_p t13_n t13_c) wv_3 ∧ ((decide ((((t13_n : Nat) : Int) : Int) = 0)) = true →
      ∃ wv_16, Stores P 35 ⟨r_2, 0, none⟩ (.agg #[(.bool false), (.slice none 0 0), (.slice none 0 0)]) wv_3 wv_16 ∧
      ∃ (r0_3 : Bool) (r1_p_3 : Option Addr) (r1_n_3 : Nat) (r1_c_3 : Nat) (r2_p_3 : Option Addr) (r2_n_3 : Nat) (r2_c_3 : Nat), Loads P 35 ⟨r_2, 0, none⟩ (.agg #[(.bool r0_3), (.slice r1_p_3 r1_n_3 r1_c_3), (.slice r2_p_3 r2_n_3 r2_c_3)]) wv_16 ∧ R (.tuple #[(.agg #[(.bool r0_3), (.slice r1_p_3 r1_n_3 r1_c_3), (.slice r2_p_3 r2_n_3 r2_c_3)]), (.bool false)]) wv_16) ∧
    ((decide ((((t13_n : Nat) : Int) : Int) = 0)) = false →
      impl_RatDiv_j0 r r_1 r_2 wv_3 R))
theorem impl_RatDiv_eq (r0 : Bool) (r1_p : Option Addr) (r1_n : Nat) (r1_c : Nat) (r2_p : Option Addr) (r2_n : Nat) (r2_c : Nat) (s0 : Bool) (s1_p : Option Addr) (s1_n : Nat) (s1_c : Nat) (s2_p : Option Addr) (s2_n : Nat) (s2_c : Nat) (w : World) (R : Value → World → Prop) : impl_RatDiv r0 r1_p r1_n r1_c r2_p r2_n r2_c s0 s1_p s1_n s1_c s2_p s2_n s2_c w R = fsem P Tryz.f65 (fun k => []) [(.agg #[(.bool r0), (.slice r1_p r1_n r1_c), (.slice r2_p r2_n r2_c)]), (.agg #[(.bool s0), (.slice s1_p s1_n s1_c), (.slice s2_p s2_n s2_c)])] R w := by kernel_rfl
theorem impl_RatDiv_ret {r0 : Bool} {r1_p : Option Addr} {r1_n : Nat} {r1_c : Nat} {r2_p : Option Addr} {r2_n : Nat} {r2_c : Nat} {s0 : Bool} {s1_p : Option Addr} {s1_n : Nat} {s1_c : Nat} {s2_p : Option Addr} {s2_n : Nat} {s2_c : Nat} {w : World} {R : Value → World → Prop} (h : impl_RatDiv r0 r1_p r1_n r1_c r2_p r2_n r2_c s0 s1_p s1_n s1_c s2_p s2_n s2_c w R) : Ret P 65 [(.agg #[(.bool r0), (.slice r1_p r1_n r1_c), (.slice r2_p r2_n r2_c)]), (.agg #[(.bool s0), (.slice s1_p s1_n s1_c), (.slice s2_p s2_n s2_c)])] w R :=
  Ret.of_fsem Tryz.func65 rfl (Eq.mp (impl_RatDiv_eq r0 r1_p r1_n r1_c r2_p r2_n r2_c s0 s1_p s1_n s1_c s2_p s2_n s2_c w R) h)
def impl_MoneySub (m0 : ByteArray) (m1 : Bool) (m2_p : Option Addr) (m2_n : Nat) (m2_c : Nat) (n0 : ByteArray) (n1 : Bool) (n2_p : Option Addr) (n2_n : Nat) (n2_c : Nat) (w : World) (R : Value → World → Prop) : Prop :=
  ∀ (r : Nat) (wv : World), New w (.cells ⟨[(.string m0), (.bool m1), (.slice m2_p m2_n m2_c)]⟩ 33 (0, 0)) r wv →
  ∀ (r_1 : Nat) (wv_1 : World), New wv (.cells ⟨[(.string n0), (.bool n1), (.slice n2_p n2_n n2_c)]⟩ 33 (0, 0)) r_1 wv_1 →
  ∀ (r_2 : Nat) (wv_2 : World), New wv_1 (.cells ⟨[(.string ByteArray.empty), (.bool false), (.slice none 0 0)]⟩ 33 (0, 0)) r_2 wv_2 →
  ∃ (t60 : ByteArray) (t61 : Bool) (t62_p : Option Addr) (t62_n : Nat) (t62_c : Nat), Loads P 33 ⟨r, 0, none⟩ (.agg #[(.string t60), (.bool t61), (.slice t62_p t62_n t62_c)]) wv_2 ∧ ∃ (t70 : ByteArray) (t71 : Bool) (t72_p : Option Addr) (t72_n : Nat) (t72_c : Nat), Loads P 33 ⟨r_1, 0, none⟩ (.agg #[(.string t70), (.bool t71), (.slice t72_p t72_n t72_c)]) wv_2 ∧ Calls P 71 ⟨[(.agg #[(.string t60), (.bool t61), (.slice t62_p t62_n t62_c)]), (.agg #[(.string t70), (.bool t71), (.slice t72_p t72_n t72_c)])]⟩ wv_2 fun e wv_3 =>
  ∃ (t8 : Bool), e = .returned (.bool t8) ∧
  ((!t8) = true →
    ∃ wv_4, Stores P 33 ⟨r_2, 0, none⟩ (.agg #[(.string ByteArray.empty), (.bool false), (.slice none 0 0)]) wv_3 wv_4 ∧
    ∃ (r0 : ByteArray) (r1 : Bool) (r2_p : Option Addr) (r2_n : Nat) (r2_c : Nat), Loads P 33 ⟨r_2, 0, none⟩ (.agg #[(.string r0), (.bool r1), (.slice r2_p r2_n r2_c)]) wv_4 ∧ R (.tuple #[(.agg #[(.string r0), (.bool r1), (.slice r2_p r2_n r2_c)]), (.bool false)]) wv_4) ∧
  ((!t8) = false →
    ∃ (t12 : ByteArray), (∀ wv_5, Ext wv_3.drew wv_5 → Loads P 9 ((⟨r, 0, none⟩ : Addr).add 0) (.string t12) wv_5) ∧ ∃ (t140 : Bool) (t141_p : Option Addr) (t141_n : Nat) (t141_c : Nat), (∀ wv_6, Ext wv_3.drew wv_6 → Loads P 31 ((⟨r, 0, none⟩ : Addr).add 1) (.agg #[(.bool t140), (.slice t141_p t141_n t141_c)]) wv_6) ∧ ∃ (t160 : Bool) (t161_p : Option Addr) (t161_n : Nat) (t161_c : Nat), (∀ wv_7, Ext wv_3.drew wv_7 → Loads P 31 ((⟨r_1, 0, none⟩ : Addr).add 1) (.agg #[(.bool t160), (.slice t161_p t161_n t161_c)]) wv_7) ∧ Calls P 113 ⟨[(.agg #[(.bool t160), (.slice t161_p t161_n t161_c)])]⟩ wv_3.drew fun e_1 wv_8 =>
    ∃ (t170 : Bool) (t171_p : Option Addr) (t171_n : Nat) (t171_c : Nat), e_1 = .returned (.agg #[(.bool t170), (.slice t171_p t171_n t171_c)]) ∧
    Ext wv_3.drew wv_8 ∧ Calls P 111 ⟨[(.agg #[(.bool t140), (.slice t141_p t141_n t141_c)]), (.agg #[(.bool t170), (.slice t171_p t171_n t171_c)])]⟩ wv_8 fun e_2 wv_9 =>
    ∃ (t180 : Bool) (t181_p : Option Addr) (t181_n : Nat) (t181_c : Nat), e_2 = .returned (.agg #[(.bool t180), (.slice t181_p t181_n t181_c)]) ∧
    Ext wv_8 wv_9 ∧ Calls P 104 ⟨[(.string t12), (.agg #[(.bool t180), (.slice t181_p t181_n t181_c)])]⟩ wv_9 fun e_3 wv_10 =>
    ∃ (t190 : ByteArray) (t191 : Bool) (t192_p : Option Addr) (t192_n : Nat) (t192_c : Nat) (t19 : Bool), e_3 = .returned (.tuple #[(.agg #[(.string t190), (.bool t191), (.slice t192_p t192_n t192_c)]), (.bool t19)]) ∧
    ∃ wv_11, Stores P 33 ⟨r_2, 0, none⟩ (.agg #[(.string t190), (.bool t191), (.slice t192_p t192_n t192_c)]) wv_10 wv_11 ∧
    ∃ (r0_1 : ByteArray) (r1_1 : Bool) (r2_p_1 : Option Addr) (r2_n_1 : Nat) (r2_c_1 : Nat), Loads P 33 ⟨r_2, 0, none⟩ (.agg #[(.string r0_1), (.bool r1_1), (.slice r2_p_1 r2_n_1 r2_c_1)]) wv_11 ∧ R (.tuple #[(.agg #[(.string r0_1), (.bool r1_1), (.slice r2_p_1 r2_n_1 r2_c_1)]), (.bool t19)]) wv_11)
theorem impl_MoneySub_eq (m0 : ByteArray) (m1 : Bool) (m2_p : Option Addr) (m2_n : Nat) (m2_c : Nat) (n0 : ByteArray) (n1 : Bool) (n2_p : Option Addr) (n2_n : Nat) (n2_c : Nat) (w : World) (R : Value → World → Prop) : impl_MoneySub m0 m1 m2_p m2_n m2_c n0 n1 n2_p n2_n n2_c w R = fsem P Tryz.f66 (fun k => []) [(.agg #[(.string m0), (.bool m1), (.slice m2_p m2_n m2_c)]), (.agg #[(.string n0), (.bool n1), (.slice n2_p n2_n n2_c)])] R w := by kernel_rfl
theorem impl_MoneySub_ret {m0 : ByteArray} {m1 : Bool} {m2_p : Option Addr} {m2_n : Nat} {m2_c : Nat} {n0 : ByteArray} {n1 : Bool} {n2_p : Option Addr} {n2_n : Nat} {n2_c : Nat} {w : World} {R : Value → World → Prop} (h : impl_MoneySub m0 m1 m2_p m2_n m2_c n0 n1 n2_p n2_n n2_c w R) : Ret P 66 [(.agg #[(.string m0), (.bool m1), (.slice m2_p m2_n m2_c)]), (.agg #[(.string n0), (.bool n1), (.slice n2_p n2_n n2_c)])] w R :=
  Ret.of_fsem Tryz.func66 rfl (Eq.mp (impl_MoneySub_eq m0 m1 m2_p m2_n m2_c n0 n1 n2_p n2_n n2_c w R) h)
def spec_l09Both (m0 : ByteArray) (m1 : Bool) (m2_p : Option Addr) (m2_n : Nat) (m2_c : Nat) (n0 : ByteArray) (n1 : Bool) (n2_p : Option Addr) (n2_n : Nat) (n2_c : Nat) (w : World) (R : Value → World → Prop) : Prop :=
  ∀ (r : Nat) (wv : World), New w (.cells ⟨[(.string m0), (.bool m1), (.slice m2_p m2_n m2_c)]⟩ 33 (0, 0)) r wv →
  ∀ (r_1 : Nat) (wv_1 : World), New wv (.cells ⟨[(.string n0), (.bool n1), (.slice n2_p n2_n n2_c)]⟩ 33 (0, 0)) r_1 wv_1 →
  ∃ (t50 : ByteArray) (t51 : Bool) (t52_p : Option Addr) (t52_n : Nat) (t52_c : Nat), Loads P 33 ⟨r, 0, none⟩ (.agg #[(.string t50), (.bool t51), (.slice t52_p t52_n t52_c)]) wv_1 ∧ Calls P 38 ⟨[(.agg #[(.string t50), (.bool t51), (.slice t52_p t52_n t52_c)])]⟩ wv_1 fun e wv_2 =>
  ∃ (t6 : Bool), e = .returned (.bool t6) ∧
  (t6 = true →
    ∃ (t80 : ByteArray) (t81 : Bool) (t82_p : Option Addr) (t82_n : Nat) (t82_c : Nat), Loads P 33 ⟨r_1, 0, none⟩ (.agg #[(.string t80), (.bool t81), (.slice t82_p t82_n t82_c)]) wv_2 ∧ Calls P 38 ⟨[(.agg #[(.string t80), (.bool t81), (.slice t82_p t82_n t82_c)])]⟩ wv_2 fun e_1 wv_3 =>
    ∃ (t9 : Bool), e_1 = .returned (.bool t9) ∧
    (t9 = true →
      ∃ (t13 : ByteArray), Loads P 9 ((⟨r, 0, none⟩ : Addr).add 0) (.string t13) wv_3 ∧ ∃ (t15 : ByteArray), Loads P 9 ((⟨r_1, 0, none⟩ : Addr).add 0) (.string t15) wv_3 ∧ R (.bool (decide (t13 = t15))) wv_3) ∧
    (t9 = false →
      R (.bool false) wv_3)) ∧
  (t6 = false →
    (false = true →
      ∃ (t13_1 : ByteArray), Loads P 9 ((⟨r, 0, none⟩ : Addr).add 0) (.string t13_1) wv_2 ∧ ∃ (t15_1 : ByteArray), Loads P 9 ((⟨r_1, 0, none⟩ : Addr).add 0) (.string t15_1) wv_2 ∧ R (.bool (decide (t13_1 = t15_1))) wv_2) ∧
    (false = false →
      R (.bool false) wv_2))
theorem spec_l09Both_eq (m0 : ByteArray) (m1 : Bool) (m2_p : Option Addr) (m2_n : Nat) (m2_c : Nat) (n0 : ByteArray) (n1 : Bool) (n2_p : Option Addr) (n2_n : Nat) (n2_c : Nat) (w : World) (R : Value → World → Prop) : spec_l09Both m0 m1 m2_p m2_n m2_c n0 n1 n2_p n2_n n2_c w R = fsem P Tryz.f67 (fun k => []) [(.agg #[(.string m0), (.bool m1), (.slice m2_p m2_n m2_c)]), (.agg #[(.string n0), (.bool n1), (.slice n2_p n2_n n2_c)])] R w := by kernel_rfl
theorem spec_l09Both_ret {m0 : ByteArray} {m1 : Bool} {m2_p : Option Addr} {m2_n : Nat} {m2_c : Nat} {n0 : ByteArray} {n1 : Bool} {n2_p : Option Addr} {n2_n : Nat} {n2_c : Nat} {w : World} {R : Value → World → Prop} (h : spec_l09Both m0 m1 m2_p m2_n m2_c n0 n1 n2_p n2_n n2_c w R) : Ret P 67 [(.agg #[(.string m0), (.bool m1), (.slice m2_p m2_n m2_c)]), (.agg #[(.string n0), (.bool n1), (.slice n2_p n2_n n2_c)])] w R :=
  Ret.of_fsem Tryz.func67 rfl (Eq.mp (spec_l09Both_eq m0 m1 m2_p m2_n m2_c n0 n1 n2_p n2_n n2_c w R) h)
end Go.Proofs.YtfemmmbkhhemaaaGreatDoor
