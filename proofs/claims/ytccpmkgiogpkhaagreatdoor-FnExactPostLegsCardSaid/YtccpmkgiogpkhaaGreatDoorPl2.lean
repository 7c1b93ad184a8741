/-
  Parts of the proof of postLegs_holds: G1, G2, G3.
  Conditions: none.
-/
import Derived.Test.YtccpmkgiogpkhaaGreatDoorPl1

namespace Go.Proofs.YtccpmkgiogpkhaaGreatDoor
open Go Go.Proofs.YtccpmkgiogpkhaaGreatDoor.Sx
set_option linter.unusedVariables false
set_option maxRecDepth 100000
def laws_FnExactPostLegs_j2 (r_3 : Nat) (t85 : Int) (W_2 : World) (R : Value → World → Prop) : Prop :=
  ∃ (t1110_p : Option Addr) (t1110_n : Nat) (t1110_c : Nat), Loads P 31 ⟨r_3, 0, none⟩ (.agg #[(.slice t1110_p t1110_n t1110_c)]) W_2 ∧ Calls P 17 ⟨[(.agg #[(.slice t1110_p t1110_n t1110_c)]), (.int .i64 1)]⟩ W_2 fun e_21 wv_32 =>
  ∃ (t113 : Int), e_21 = .returned (.int .i64 t113) ∧
  ((decide ((t113 : Int) < 0)) = true →
    R (.bool false) wv_32) ∧
  ((decide ((t113 : Int) < 0)) = false →
    ((decide ((t113 : Int) ≠ t85)) = true →
      R (.bool false) wv_32) ∧
    ((decide ((t113 : Int) ≠ t85)) = false →
      R (.bool true) wv_32))
def laws_FnExactPostLegs_j1 (aL_p : Option Addr) (aL_n : Nat) (aL_c : Nat) (r : Nat) (t32 : Bool) (r_1 : Nat) (r_3 : Nat) (W_1 : World) (R : Value → World → Prop) : Prop :=
  ∃ (t830_p : Option Addr) (t830_n : Nat) (t830_c : Nat), Loads P 31 ⟨r_3, 0, none⟩ (.agg #[(.slice t830_p t830_n t830_c)]) W_1 ∧ Calls P 15 ⟨[(.agg #[(.slice t830_p t830_n t830_c)]), (.int .i64 1)]⟩ W_1 fun e_15 wv_24 =>
  ∃ (t85 : Int), e_15 = .returned (.int .i64 t85) ∧
  ∃ (t860_p : Option Addr) (t860_n : Nat) (t860_c : Nat), Loads P 31 ⟨r_3, 0, none⟩ (.agg #[(.slice t860_p t860_n t860_c)]) wv_24 ∧ Calls P 17 ⟨[(.agg #[(.slice t860_p t860_n t860_c)]), (.int .i64 1)]⟩ wv_24 fun e_16 wv_25 =>
  ∃ (t88 : Int), e_16 = .returned (.int .i64 t88) ∧
  ((decide ((t88 : Int) < 0)) = true →
    R (.bool false) wv_25) ∧
  ((decide ((t88 : Int) < 0)) = false →
    ((decide ((t88 : Int) ≠ t85)) = true →
      R (.bool false) wv_25) ∧
    ((decide ((t88 : Int) ≠ t85)) = false →
      ∃ (t950_p : Option Addr) (t950_n : Nat) (t950_c : Nat), Loads P 24 ⟨r, 0, none⟩ (.agg #[(.slice t950_p t950_n t950_c)]) wv_25 ∧ Calls P 8 ⟨[(.agg #[(.slice t950_p t950_n t950_c)])]⟩ wv_25 fun e_17 wv_26 =>
      ∃ (t960_p : Option Addr) (t960_n : Nat) (t960_c : Nat), e_17 = .returned (.agg #[(.slice t960_p t960_n t960_c)]) ∧
      Calls P 9 ⟨[(.slice aL_p aL_n aL_c)]⟩ wv_26 fun e_18 wv_27 =>
      ∃ (t98_p : Option Addr) (t98_n : Nat) (t98_c : Nat), e_18 = .returned (.slice t98_p t98_n t98_c) ∧
      Calls P 14 ⟨[(.agg #[(.slice t960_p t960_n t960_c)]), (.slice t98_p t98_n t98_c)]⟩ wv_27 fun e_19 wv_28 =>
      ∃ (t990_p : Option Addr) (t990_n : Nat) (t990_c : Nat) (t99 : Bool), e_19 = .returned (.tuple #[(.agg #[(.slice t990_p t990_n t990_c)]), (.bool t99)]) ∧
      ∀ (r_4 : Nat) (wv_29 : World), New wv_28 (.cells ⟨[(.slice none 0 0)]⟩ 31 (0, 0)) r_4 wv_29 →
      ∃ wv_30, Stores P 31 ⟨r_4, 0, none⟩ (.agg #[(.slice t990_p t990_n t990_c)]) wv_29 wv_30 ∧
      ∃ (t1020_p : Option Addr) (t1020_n : Nat) (t1020_c : Nat), Loads P 31 ⟨r_4, 0, none⟩ (.agg #[(.slice t1020_p t1020_n t1020_c)]) wv_30 ∧ ∃ (t1030_p : Option Addr) (t1030_n : Nat) (t1030_c : Nat), Loads P 31 ⟨r_1, 0, none⟩ (.agg #[(.slice t1030_p t1030_n t1030_c)]) wv_30 ∧ Calls P 11 ⟨[(.agg #[(.slice t1020_p t1020_n t1020_c)]), (.agg #[(.slice t1030_p t1030_n t1030_c)])]⟩ wv_30 fun e_20 wv_31 =>
      ∃ (t104 : Bool), e_20 = .returned (.bool t104) ∧
      ((!t104) = true →
        (true = true →
          R (.bool false) wv_31) ∧
        (true = false →
          laws_FnExactPostLegs_j2 r_3 t85 wv_31 R)) ∧
      ((!t104) = false →
        ((!(t99 == t32)) = true →
          R (.bool false) wv_31) ∧
        ((!(t99 == t32)) = false →
          laws_FnExactPostLegs_j2 r_3 t85 wv_31 R))))
def laws_FnExactPostLegs_j0 (aL_p : Option Addr) (aL_n : Nat) (aL_c : Nat) (r : Nat) (t32 : Bool) (r_1 : Nat) (r_2 : Nat) (t38_p : Option Addr) (t38_n : Nat) (t38_c : Nat) (t42 : Bool) (r_3 : Nat) (W : World) (R : Value → World → Prop) : Prop :=
  ∃ (t540_p : Option Addr) (t540_n : Nat) (t540_c : Nat), (∀ wv_16, Ext W.drew wv_16 → Loads P 31 ⟨r_2, 0, none⟩ (.agg #[(.slice t540_p t540_n t540_c)]) wv_16) ∧ ∃ (t550_p : Option Addr) (t550_n : Nat) (t550_c : Nat), (∀ wv_17, Ext W.drew wv_17 → Loads P 24 ⟨r, 0, none⟩ (.agg #[(.slice t550_p t550_n t550_c)]) wv_17) ∧ Calls P 8 ⟨[(.agg #[(.slice t550_p t550_n t550_c)])]⟩ W.drew fun e_9 wv_18 =>
  ∃ (t560_p : Option Addr) (t560_n : Nat) (t560_c : Nat), e_9 = .returned (.agg #[(.slice t560_p t560_n t560_c)]) ∧
  Ext W.drew wv_18 ∧ Calls P 11 ⟨[(.agg #[(.slice t540_p t540_n t540_c)]), (.agg #[(.slice t560_p t560_n t560_c)])]⟩ wv_18 fun e_10 wv_19 =>
  ∃ (t57 : Bool), e_10 = .returned (.bool t57) ∧
  ((!t57) = true →
    R (.bool false) wv_19) ∧
  ((!t57) = false →
    Calls P 9 ⟨[(.slice aL_p aL_n aL_c)]⟩ wv_19 fun e_11 wv_20 =>
    ∃ (t61_p : Option Addr) (t61_n : Nat) (t61_c : Nat), e_11 = .returned (.slice t61_p t61_n t61_c) ∧
    Calls P 12 ⟨[(.slice t38_p t38_n t38_c), (.slice t61_p t61_n t61_c)]⟩ wv_20 fun e_12 wv_21 =>
    ∃ (t62 : Bool), e_12 = .returned (.bool t62) ∧
    ((!t62) = true →
      R (.bool false) wv_21) ∧
    ((!t62) = false →
      ∃ (t640_p : Option Addr) (t640_n : Nat) (t640_c : Nat), Loads P 31 ⟨r_2, 0, none⟩ (.agg #[(.slice t640_p t640_n t640_c)]) wv_21 ∧ Calls P 15 ⟨[(.agg #[(.slice t640_p t640_n t640_c)]), (.int .i64 1)]⟩ wv_21 fun e_13 wv_22 =>
      ∃ (t66 : Int), e_13 = .returned (.int .i64 t66) ∧
      Calls P 16 ⟨[(.slice t38_p t38_n t38_c), (.int .i64 t66)]⟩ wv_22 fun e_14 wv_23 =>
      ∃ (t69 : Int), e_14 = .returned (.int .i64 t69) ∧
      ((decide ((t69 : Int) < 0)) = true →
        (true = true →
          (true = true →
            R (.bool false) wv_23) ∧
          (true = false →
            laws_FnExactPostLegs_j1 aL_p aL_n aL_c r t32 r_1 r_3 wv_23 R)) ∧
        (true = false →
          ((!(t42 == t32)) = true →
            R (.bool false) wv_23) ∧
          ((!(t42 == t32)) = false →
            laws_FnExactPostLegs_j1 aL_p aL_n aL_c r t32 r_1 r_3 wv_23 R))) ∧
      ((decide ((t69 : Int) < 0)) = false →
        ∃ (t730_p : Option Addr) (t730_n : Nat) (t730_c : Nat), Loads P 31 ⟨r_3, 0, none⟩ (.agg #[(.slice t730_p t730_n t730_c)]) wv_23 ∧ ∃ (t740_p : Option Addr) (t740_n : Nat) (t740_c : Nat), Loads P 31 ⟨r_1, 0, none⟩ (.agg #[(.slice t740_p t740_n t740_c)]) wv_23 ∧ Calls P 11 ⟨[(.agg #[(.slice t730_p t730_n t730_c)]), (.agg #[(.slice t740_p t740_n t740_c)])]⟩ wv_23 fun e_22 wv_33 =>
        ∃ (t75 : Bool), e_22 = .returned (.bool t75) ∧
        ((!t75) = true →
          (true = true →
            R (.bool false) wv_33) ∧
          (true = false →
            laws_FnExactPostLegs_j1 aL_p aL_n aL_c r t32 r_1 r_3 wv_33 R)) ∧
        ((!t75) = false →
          ((!(t42 == t32)) = true →
            R (.bool false) wv_33) ∧
          ((!(t42 == t32)) = false →
            laws_FnExactPostLegs_j1 aL_p aL_n aL_c r t32 r_1 r_3 wv_33 R)))))
def laws_FnExactPostLegs (aB0_p : Option Addr) (aB0_n : Nat) (aB0_c : Nat) (aL_p : Option Addr) (aL_n : Nat) (aL_c : Nat) (w : World) (R : Value → World → Prop) : Prop :=
  ∀ (r : Nat) (wv : World), New w (.cells ⟨[(.slice aB0_p aB0_n aB0_c)]⟩ 24 (0, 0)) r wv →
  ∃ (t170_p : Option Addr) (t170_n : Nat) (t170_c : Nat), Loads P 24 ⟨r, 0, none⟩ (.agg #[(.slice t170_p t170_n t170_c)]) wv ∧ Calls P 5 ⟨[(.agg #[(.slice t170_p t170_n t170_c)]), (.int .i64 1048576)]⟩ wv fun e wv_1 =>
  ∃ (t19 : Int), e = .returned (.int .i64 t19) ∧
  ((decide ((t19 : Int) < 0)) = true →
    R (.bool true) wv_1) ∧
  ((decide ((t19 : Int) < 0)) = false →
    Calls P 6 ⟨[(.slice aL_p aL_n aL_c), (.int .i64 t19)]⟩ wv_1 fun e_1 wv_2 =>
    ∃ (t24 : Int), e_1 = .returned (.int .i64 t24) ∧
    ((decide ((t24 : Int) < 0)) = true →
      R (.bool true) wv_2) ∧
    ((decide ((t24 : Int) < 0)) = false →
      ∃ (t280_p : Option Addr) (t280_n : Nat) (t280_c : Nat), Loads P 24 ⟨r, 0, none⟩ (.agg #[(.slice t280_p t280_n t280_c)]) wv_2 ∧ Calls P 8 ⟨[(.agg #[(.slice t280_p t280_n t280_c)])]⟩ wv_2 fun e_2 wv_3 =>
      ∃ (t290_p : Option Addr) (t290_n : Nat) (t290_c : Nat), e_2 = .returned (.agg #[(.slice t290_p t290_n t290_c)]) ∧
      Calls P 9 ⟨[(.slice aL_p aL_n aL_c)]⟩ wv_3 fun e_3 wv_4 =>
      ∃ (t31_p : Option Addr) (t31_n : Nat) (t31_c : Nat), e_3 = .returned (.slice t31_p t31_n t31_c) ∧
      Calls P 13 ⟨[(.agg #[(.slice t290_p t290_n t290_c)]), (.slice t31_p t31_n t31_c)]⟩ wv_4 fun e_4 wv_5 =>
      ∃ (t320_p : Option Addr) (t320_n : Nat) (t320_c : Nat) (t32 : Bool), e_4 = .returned (.tuple #[(.agg #[(.slice t320_p t320_n t320_c)]), (.bool t32)]) ∧
      ∀ (r_1 : Nat) (wv_6 : World), New wv_5 (.cells ⟨[(.slice none 0 0)]⟩ 31 (0, 0)) r_1 wv_6 →
      ∃ wv_7, Stores P 31 ⟨r_1, 0, none⟩ (.agg #[(.slice t320_p t320_n t320_c)]) wv_6 wv_7 ∧
      ∃ (t350_p : Option Addr) (t350_n : Nat) (t350_c : Nat), Loads P 24 ⟨r, 0, none⟩ (.agg #[(.slice t350_p t350_n t350_c)]) wv_7 ∧ Calls P 8 ⟨[(.agg #[(.slice t350_p t350_n t350_c)])]⟩ wv_7 fun e_5 wv_8 =>
      ∃ (t360_p : Option Addr) (t360_n : Nat) (t360_c : Nat), e_5 = .returned (.agg #[(.slice t360_p t360_n t360_c)]) ∧
      ∀ (r_2 : Nat) (wv_9 : World), New wv_8 (.cells ⟨[(.slice none 0 0)]⟩ 31 (0, 0)) r_2 wv_9 →
      ∃ wv_10, Stores P 31 ⟨r_2, 0, none⟩ (.agg #[(.slice t360_p t360_n t360_c)]) wv_9 wv_10 ∧
      Calls P 9 ⟨[(.slice aL_p aL_n aL_c)]⟩ wv_10 fun e_6 wv_11 =>
      ∃ (t38_p : Option Addr) (t38_n : Nat) (t38_c : Nat), e_6 = .returned (.slice t38_p t38_n t38_c) ∧
      ∃ (t400_p : Option Addr) (t400_n : Nat) (t400_c : Nat), Loads P 31 ⟨r_2, 0, none⟩ (.agg #[(.slice t400_p t400_n t400_c)]) wv_11 ∧ Calls P 14 ⟨[(.agg #[(.slice t400_p t400_n t400_c)]), (.slice t38_p t38_n t38_c)]⟩ wv_11 fun e_7 wv_12 =>
      ∃ (t420_p : Option Addr) (t420_n : Nat) (t420_c : Nat) (t42 : Bool), e_7 = .returned (.tuple #[(.agg #[(.slice t420_p t420_n t420_c)]), (.bool t42)]) ∧
      ∀ (r_3 : Nat) (wv_13 : World), New wv_12 (.cells ⟨[(.slice none 0 0)]⟩ 31 (0, 0)) r_3 wv_13 →
      ∃ wv_14, Stores P 31 ⟨r_3, 0, none⟩ (.agg #[(.slice t420_p t420_n t420_c)]) wv_13 wv_14 ∧
      ∃ (t450_p : Option Addr) (t450_n : Nat) (t450_c : Nat), Loads P 31 ⟨r_3, 0, none⟩ (.agg #[(.slice t450_p t450_n t450_c)]) wv_14 ∧ ∃ (t460_p : Option Addr) (t460_n : Nat) (t460_c : Nat), Loads P 31 ⟨r_1, 0, none⟩ (.agg #[(.slice t460_p t460_n t460_c)]) wv_14 ∧ Calls P 11 ⟨[(.agg #[(.slice t450_p t450_n t450_c)]), (.agg #[(.slice t460_p t460_n t460_c)])]⟩ wv_14 fun e_8 wv_15 =>
      ∃ (t47 : Bool), e_8 = .returned (.bool t47) ∧
      ((!t47) = true →
        (true = true →
          R (.bool false) wv_15) ∧
        (true = false →
          laws_FnExactPostLegs_j0 aL_p aL_n aL_c r t32 r_1 r_2 t38_p t38_n t38_c t42 r_3 wv_15 R)) ∧
      ((!t47) = false →
        ((!(t42 == t32)) = true →
          R (.bool false) wv_15) ∧
        ((!(t42 == t32)) = false →
          laws_FnExactPostLegs_j0 aL_p aL_n aL_c r t32 r_1 r_2 t38_p t38_n t38_c t42 r_3 wv_15 R))))
theorem laws_FnExactPostLegs_eq (aB0_p : Option Addr) (aB0_n : Nat) (aB0_c : Nat) (aL_p : Option Addr) (aL_n : Nat) (aL_c : Nat) (w : World) (R : Value → World → Prop) : laws_FnExactPostLegs aB0_p aB0_n aB0_c aL_p aL_n aL_c w R = fsem P Tryz.f4 (fun k => []) [(.agg #[(.slice aB0_p aB0_n aB0_c)]), (.slice aL_p aL_n aL_c)] R w := by kernel_rfl
theorem laws_FnExactPostLegs_ret {aB0_p : Option Addr} {aB0_n : Nat} {aB0_c : Nat} {aL_p : Option Addr} {aL_n : Nat} {aL_c : Nat} {w : World} {R : Value → World → Prop} (h : laws_FnExactPostLegs aB0_p aB0_n aB0_c aL_p aL_n aL_c w R) : Ret P 4 [(.agg #[(.slice aB0_p aB0_n aB0_c)]), (.slice aL_p aL_n aL_c)] w R :=
  Ret.of_fsem Tryz.func4 rfl (Eq.mp (laws_FnExactPostLegs_eq aB0_p aB0_n aB0_c aL_p aL_n aL_c w R) h)
def spec_EntryCode_j0 (l_p : Option Addr) (l_n : Nat) (l_c : Nat) (r : Nat) (W : World) (R : Value → World → Prop) : Prop :=
  ∃ (Inv : Int → World → Prop) (mu : Int → World → Nat), Inv 0 W ∧
  ∀ (junk : Fr) (wv_2 : World) (t24 : Int), Inv t24 wv_2 →
    ((decide ((t24 : Int) < ((l_n : Nat) : Int))) = true →
      (0 ≤ (t24 : Int) ∧ (t24 : Int) < (l_n : Nat)) ∧ ptrS l_p fun ad => ∃ (t270 : ByteArray) (t271 : ByteArray) (t272 : Bool) (t273_p : Option Addr) (t273_n : Nat) (t273_c : Nat), Loads P 57 (ad.add (t24.toNat * 4)) (.agg #[(.string t270), (.string t271), (.bool t272), (.slice t273_p t273_n t273_c)]) wv_2 ∧ ∀ (r_1 : Nat) (wv_3 : World), New wv_2 (.cells ⟨[(.string ByteArray.empty), (.string ByteArray.empty), (.bool false), (.slice none 0 0)]⟩ 57 (0, 0)) r_1 wv_3 →
      ∃ wv_4, Stores P 57 ⟨r_1, 0, none⟩ (.agg #[(.string t270), (.string t271), (.bool t272), (.slice t273_p t273_n t273_c)]) wv_3 wv_4 ∧
      ∃ (t280_p : Option Addr) (t280_n : Nat) (t280_c : Nat), Loads P 31 ⟨r, 0, none⟩ (.agg #[(.slice t280_p t280_n t280_c)]) wv_4 ∧ ∃ (t30 : ByteArray), Loads P 9 ((⟨r_1, 0, none⟩ : Addr).add 0) (.string t30) wv_4 ∧ Calls P 22 ⟨[(.agg #[(.slice t280_p t280_n t280_c)]), (.string t30)]⟩ wv_4 fun e_1 wv_5 =>
      ∃ (t31 : Int), e_1 = .returned (.int .i64 t31) ∧
      ((decide ((t31 : Int) < 0)) = true →
        R (.int .i64 2) wv_5) ∧
      ((decide ((t31 : Int) < 0)) = false →
        ∃ t33 : Int, t33 = IntKind.wrap .i64 (t24 + 1) ∧ Inv t33 wv_5 ∧ mu t33 wv_5 < mu t24 wv_2)) ∧
    ((decide ((t24 : Int) < ((l_n : Nat) : Int))) = false →
      ∃ (Inv_1 : Int → World → Prop) (mu_1 : Int → World → Nat), Inv_1 0 wv_2 ∧
      ∀ (junk_1 : Fr) (wv_6 : World) (t36 : Int), Inv_1 t36 wv_6 →
        ((decide ((t36 : Int) < ((l_n : Nat) : Int))) = true →
          (0 ≤ (t36 : Int) ∧ (t36 : Int) < (l_n : Nat)) ∧ ptrS l_p fun ad_1 => ∃ (t390 : ByteArray) (t391 : ByteArray) (t392 : Bool) (t393_p : Option Addr) (t393_n : Nat) (t393_c : Nat), Loads P 57 (ad_1.add (t36.toNat * 4)) (.agg #[(.string t390), (.string t391), (.bool t392), (.slice t393_p t393_n t393_c)]) wv_6 ∧ ∀ (r_2 : Nat) (wv_7 : World), New wv_6 (.cells ⟨[(.string ByteArray.empty), (.string ByteArray.empty), (.bool false), (.slice none 0 0)]⟩ 57 (0, 0)) r_2 wv_7 →
          ∃ wv_8, Stores P 57 ⟨r_2, 0, none⟩ (.agg #[(.string t390), (.string t391), (.bool t392), (.slice t393_p t393_n t393_c)]) wv_7 wv_8 ∧
          ∃ (t41_p : Option Addr) (t41_n : Nat) (t41_c : Nat), (∀ wv_9, Ext wv_8.drew wv_9 → Loads P 29 ((⟨r, 0, none⟩ : Addr).add 0) (.slice t41_p t41_n t41_c) wv_9) ∧ ∃ (t420_p : Option Addr) (t420_n : Nat) (t420_c : Nat), (∀ wv_10, Ext wv_8.drew wv_10 → Loads P 31 ⟨r, 0, none⟩ (.agg #[(.slice t420_p t420_n t420_c)]) wv_10) ∧ ∃ (t44 : ByteArray), (∀ wv_11, Ext wv_8.drew wv_11 → Loads P 9 ((⟨r_2, 0, none⟩ : Addr).add 0) (.string t44) wv_11) ∧ Calls P 22 ⟨[(.agg #[(.slice t420_p t420_n t420_c)]), (.string t44)]⟩ wv_8.drew fun e_2 wv_12 =>
          ∃ (t45 : Int), e_2 = .returned (.int .i64 t45) ∧
          Ext wv_8.drew wv_12 ∧ (0 ≤ (t45 : Int) ∧ (t45 : Int) < (t41_n : Nat)) ∧ ptrS t41_p fun ad_2 => ∃ (t49 : ByteArray), (∀ wv_13, Ext wv_12 wv_13 → Loads P 9 (((ad_2.add (t45.toNat * 4)).add 1).add 0) (.string t49) wv_13) ∧ ∃ (t52 : ByteArray), (∀ wv_14, Ext wv_8.drew wv_14 → Loads P 9 (((⟨r_2, 0, none⟩ : Addr).add 1).add 0) (.string t52) wv_14) ∧ ((decide (t49 ≠ t52)) = true →
            R (.int .i64 3) wv_12) ∧
          ((decide (t49 ≠ t52)) = false →
            ∃ t54 : Int, t54 = IntKind.wrap .i64 (t36 + 1) ∧ Inv_1 t54 wv_12 ∧ mu_1 t54 wv_12 < mu_1 t36 wv_6)) ∧
        ((decide ((t36 : Int) < ((l_n : Nat) : Int))) = false →
          Calls P 23 ⟨[(.slice l_p l_n l_c)]⟩ wv_6 fun e_3 wv_15 =>
          ∃ (t56 : Bool), e_3 = .returned (.bool t56) ∧
          ((!t56) = true →
            R (.int .i64 4) wv_15) ∧
          ((!t56) = false →
            ∃ (t580_p : Option Addr) (t580_n : Nat) (t580_c : Nat), Loads P 31 ⟨r, 0, none⟩ (.agg #[(.slice t580_p t580_n t580_c)]) wv_15 ∧ ∀ (r_3 : Nat) (wv_16 : World), New wv_15 (.cells ⟨[(.slice none 0 0)]⟩ 31 (0, 0)) r_3 wv_16 →
            ∃ wv_17, Stores P 31 ⟨r_3, 0, none⟩ (.agg #[(.slice t580_p t580_n t580_c)]) wv_16 wv_17 ∧
            ∃ (Inv_2 : Int → World → Prop) (mu_2 : Int → World → Nat), Inv_2 0 wv_17 ∧
            ∀ (junk_2 : Fr) (wv_18 : World) (t61 : Int), Inv_2 t61 wv_18 →
              ((decide ((t61 : Int) < ((l_n : Nat) : Int))) = true →
                (0 ≤ (t61 : Int) ∧ (t61 : Int) < (l_n : Nat)) ∧ ptrS l_p fun ad_3 => ∃ (t640 : ByteArray) (t641 : ByteArray) (t642 : Bool) (t643_p : Option Addr) (t643_n : Nat) (t643_c : Nat), Loads P 57 (ad_3.add (t61.toNat * 4)) (.agg #[(.string t640), (.string t641), (.bool t642), (.slice t643_p t643_n t643_c)]) wv_18 ∧ ∀ (r_4 : Nat) (wv_19 : World), New wv_18 (.cells ⟨[(.string ByteArray.empty), (.string ByteArray.empty), (.bool false), (.slice none 0 0)]⟩ 57 (0, 0)) r_4 wv_19 →
                ∃ wv_20, Stores P 57 ⟨r_4, 0, none⟩ (.agg #[(.string t640), (.string t641), (.bool t642), (.slice t643_p t643_n t643_c)]) wv_19 wv_20 ∧
                ∃ (t660_p : Option Addr) (t660_n : Nat) (t660_c : Nat), Loads P 31 ⟨r_3, 0, none⟩ (.agg #[(.slice t660_p t660_n t660_c)]) wv_20 ∧ ∃ (t68 : ByteArray), Loads P 9 ((⟨r_4, 0, none⟩ : Addr).add 0) (.string t68) wv_20 ∧ ∃ (t700 : ByteArray) (t701 : Bool) (t702_p : Option Addr) (t702_n : Nat) (t702_c : Nat), Loads P 55 ((⟨r_4, 0, none⟩ : Addr).add 1) (.agg #[(.string t700), (.bool t701), (.slice t702_p t702_n t702_c)]) wv_20 ∧ Calls P 24 ⟨[(.agg #[(.slice t660_p t660_n t660_c)]), (.string t68), (.agg #[(.string t700), (.bool t701), (.slice t702_p t702_n t702_c)])]⟩ wv_20 fun e_4 wv_21 =>
                ∃ (t710_p : Option Addr) (t710_n : Nat) (t710_c : Nat) (t71 : Bool), e_4 = .returned (.tuple #[(.agg #[(.slice t710_p t710_n t710_c)]), (.bool t71)]) ∧
                ∀ (r_5 : Nat) (wv_22 : World), New wv_21 (.cells ⟨[(.slice none 0 0)]⟩ 31 (0, 0)) r_5 wv_22 →
                ∃ wv_23, Stores P 31 ⟨r_5, 0, none⟩ (.agg #[(.slice t710_p t710_n t710_c)]) wv_22 wv_23 ∧
                ((!t71) = true →
                  R (.int .i64 5) wv_23) ∧
                ((!t71) = false →
                  ∃ (t760_p : Option Addr) (t760_n : Nat) (t760_c : Nat), Loads P 31 ⟨r_5, 0, none⟩ (.agg #[(.slice t760_p t760_n t760_c)]) wv_23 ∧ ∃ wv_24, Stores P 31 ⟨r_3, 0, none⟩ (.agg #[(.slice t760_p t760_n t760_c)]) wv_23 wv_24 ∧
                  ∃ t77 : Int, t77 = IntKind.wrap .i64 (t61 + 1) ∧ Inv_2 t77 wv_24 ∧ mu_2 t77 wv_24 < mu_2 t61 wv_18)) ∧
              ((decide ((t61 : Int) < ((l_n : Nat) : Int))) = false →
                R (.int .i64 0) wv_18))))
def spec_EntryCode (b0_p : Option Addr) (b0_n : Nat) (b0_c : Nat) (l_p : Option Addr) (l_n : Nat) (l_c : Nat) (w : World) (R : Value → World → Prop) : Prop :=
  ∀ (r : Nat) (wv : World), New w (.cells ⟨[(.slice b0_p b0_n b0_c)]⟩ 31 (0, 0)) r wv →
  ∃ (t140_p : Option Addr) (t140_n : Nat) (t140_c : Nat), Loads P 31 ⟨r, 0, none⟩ (.agg #[(.slice t140_p t140_n t140_c)]) wv ∧ Calls P 20 ⟨[(.agg #[(.slice t140_p t140_n t140_c)])]⟩ wv fun e wv_1 =>
  ∃ (t15 : Bool), e = .returned (.bool t15) ∧
  ((!t15) = true →
    (true = true →
      R (.int .i64 1) wv_1) ∧
    (true = false →
      spec_EntryCode_j0 l_p l_n l_c r wv_1 R)) ∧
  ((!t15) = false →
    Calls P 21 ⟨[(.slice l_p l_n l_c)]⟩ wv_1 fun e_5 wv_25 =>
    ∃ (t19 : Bool), e_5 = .returned (.bool t19) ∧
    ((!t19) = true →
      R (.int .i64 1) wv_25) ∧
    ((!t19) = false →
      spec_EntryCode_j0 l_p l_n l_c r wv_25 R))
theorem spec_EntryCode_eq (b0_p : Option Addr) (b0_n : Nat) (b0_c : Nat) (l_p : Option Addr) (l_n : Nat) (l_c : Nat) (w : World) (R : Value → World → Prop) : spec_EntryCode b0_p b0_n b0_c l_p l_n l_c w R = fsem P Tryz.f7 (fun k => cond (Nat.beq k 5) [(24, .one (.int .i64))] (cond (Nat.beq k 11) [(36, .one (.int .i64))] (cond (Nat.beq k 20) [(61, .one (.int .i64))] ([])))) [(.agg #[(.slice b0_p b0_n b0_c)]), (.slice l_p l_n l_c)] R w := by kernel_rfl
theorem spec_EntryCode_ret {b0_p : Option Addr} {b0_n : Nat} {b0_c : Nat} {l_p : Option Addr} {l_n : Nat} {l_c : Nat} {w : World} {R : Value → World → Prop} (h : spec_EntryCode b0_p b0_n b0_c l_p l_n l_c w R) : Ret P 7 [(.agg #[(.slice b0_p b0_n b0_c)]), (.slice l_p l_n l_c)] w R :=
  Ret.of_fsem Tryz.func7 rfl (Eq.mp (spec_EntryCode_eq b0_p b0_n b0_c l_p l_n l_c w R) h)
def spec_PostLegs (b0_p : Option Addr) (b0_n : Nat) (b0_c : Nat) (l_p : Option Addr) (l_n : Nat) (l_c : Nat) (w : World) (R : Value → World → Prop) : Prop :=
  ∀ (r : Nat) (wv : World), New w (.cells ⟨[(.slice b0_p b0_n b0_c)]⟩ 31 (0, 0)) r wv →
  ∀ (r_1 : Nat) (wv_1 : World), New wv (.cells ⟨[(.slice none 0 0)]⟩ 31 (0, 0)) r_1 wv_1 →
  ∃ (t90_p : Option Addr) (t90_n : Nat) (t90_c : Nat), Loads P 31 ⟨r, 0, none⟩ (.agg #[(.slice t90_p t90_n t90_c)]) wv_1 ∧ Calls P 7 ⟨[(.agg #[(.slice t90_p t90_n t90_c)]), (.slice l_p l_n l_c)]⟩ wv_1 fun e wv_2 =>
  ∃ (t11 : Int), e = .returned (.int .i64 t11) ∧
  ((decide ((t11 : Int) ≠ 0)) = true →
    ∃ wv_3, Stores P 31 ⟨r_1, 0, none⟩ (.agg #[(.slice none 0 0)]) wv_2 wv_3 ∧
    ∃ (r0_p : Option Addr) (r0_n : Nat) (r0_c : Nat), Loads P 31 ⟨r_1, 0, none⟩ (.agg #[(.slice r0_p r0_n r0_c)]) wv_3 ∧ R (.tuple #[(.agg #[(.slice r0_p r0_n r0_c)]), (.bool false)]) wv_3) ∧
  ((decide ((t11 : Int) ≠ 0)) = false →
    ∃ (t140_p : Option Addr) (t140_n : Nat) (t140_c : Nat), Loads P 31 ⟨r, 0, none⟩ (.agg #[(.slice t140_p t140_n t140_c)]) wv_2 ∧ Calls P 30 ⟨[(.agg #[(.slice t140_p t140_n t140_c)])]⟩ wv_2 fun e_1 wv_4 =>
    ∃ (t150_p : Option Addr) (t150_n : Nat) (t150_c : Nat), e_1 = .returned (.agg #[(.slice t150_p t150_n t150_c)]) ∧
    ∀ (r_2 : Nat) (wv_5 : World), New wv_4 (.cells ⟨[(.slice none 0 0)]⟩ 31 (0, 0)) r_2 wv_5 →
    ∃ wv_6, Stores P 31 ⟨r_2, 0, none⟩ (.agg #[(.slice t150_p t150_n t150_c)]) wv_5 wv_6 ∧
    ∃ (Inv : Int → World → Prop) (mu : Int → World → Nat), Inv 0 wv_6 ∧
    ∀ (junk : Fr) (wv_7 : World) (t18 : Int), Inv t18 wv_7 →
      ((decide ((t18 : Int) < ((l_n : Nat) : Int))) = true →
        (0 ≤ (t18 : Int) ∧ (t18 : Int) < (l_n : Nat)) ∧ ptrS l_p fun ad => ∃ (t210 : ByteArray) (t211 : ByteArray) (t212 : Bool) (t213_p : Option Addr) (t213_n : Nat) (t213_c : Nat), Loads P 57 (ad.add (t18.toNat * 4)) (.agg #[(.string t210), (.string t211), (.bool t212), (.slice t213_p t213_n t213_c)]) wv_7 ∧ ∀ (r_3 : Nat) (wv_8 : World), New wv_7 (.cells ⟨[(.string ByteArray.empty), (.string ByteArray.empty), (.bool false), (.slice none 0 0)]⟩ 57 (0, 0)) r_3 wv_8 →
        ∃ wv_9, Stores P 57 ⟨r_3, 0, none⟩ (.agg #[(.string t210), (.string t211), (.bool t212), (.slice t213_p t213_n t213_c)]) wv_8 wv_9 ∧
        ∃ (t230_p : Option Addr) (t230_n : Nat) (t230_c : Nat), Loads P 31 ⟨r_2, 0, none⟩ (.agg #[(.slice t230_p t230_n t230_c)]) wv_9 ∧ ∃ (t25 : ByteArray), Loads P 9 ((⟨r_3, 0, none⟩ : Addr).add 0) (.string t25) wv_9 ∧ ∃ (t270 : ByteArray) (t271 : Bool) (t272_p : Option Addr) (t272_n : Nat) (t272_c : Nat), Loads P 55 ((⟨r_3, 0, none⟩ : Addr).add 1) (.agg #[(.string t270), (.bool t271), (.slice t272_p t272_n t272_c)]) wv_9 ∧ Calls P 24 ⟨[(.agg #[(.slice t230_p t230_n t230_c)]), (.string t25), (.agg #[(.string t270), (.bool t271), (.slice t272_p t272_n t272_c)])]⟩ wv_9 fun e_2 wv_10 =>
        ∃ (t280_p : Option Addr) (t280_n : Nat) (t280_c : Nat) (t28 : Bool), e_2 = .returned (.tuple #[(.agg #[(.slice t280_p t280_n t280_c)]), (.bool t28)]) ∧
        ∃ wv_11, Stores P 31 ⟨r_2, 0, none⟩ (.agg #[(.slice t280_p t280_n t280_c)]) wv_10 wv_11 ∧
        ∃ t31 : Int, t31 = IntKind.wrap .i64 (t18 + 1) ∧ Inv t31 wv_11 ∧ mu t31 wv_11 < mu t18 wv_7) ∧
      ((decide ((t18 : Int) < ((l_n : Nat) : Int))) = false →
        ∃ (t320_p : Option Addr) (t320_n : Nat) (t320_c : Nat), Loads P 31 ⟨r_2, 0, none⟩ (.agg #[(.slice t320_p t320_n t320_c)]) wv_7 ∧ ∃ wv_12, Stores P 31 ⟨r_1, 0, none⟩ (.agg #[(.slice t320_p t320_n t320_c)]) wv_7 wv_12 ∧
        ∃ (r0_p_1 : Option Addr) (r0_n_1 : Nat) (r0_c_1 : Nat), Loads P 31 ⟨r_1, 0, none⟩ (.agg #[(.slice r0_p_1 r0_n_1 r0_c_1)]) wv_12 ∧ R (.tuple #[(.agg #[(.slice r0_p_1 r0_n_1 r0_c_1)]), (.bool true)]) wv_12))
theorem spec_PostLegs_eq (b0_p : Option Addr) (b0_n : Nat) (b0_c : Nat) (l_p : Option Addr) (l_n : Nat) (l_c : Nat) (w : World) (R : Value → World → Prop) : spec_PostLegs b0_p b0_n b0_c l_p l_n l_c w R = fsem P Tryz.f13 (fun k => cond (Nat.beq k 6) [(18, .one (.int .i64))] ([])) [(.agg #[(.slice b0_p b0_n b0_c)]), (.slice l_p l_n l_c)] R w := by kernel_rfl
theorem spec_PostLegs_ret {b0_p : Option Addr} {b0_n : Nat} {b0_c : Nat} {l_p : Option Addr} {l_n : Nat} {l_c : Nat} {w : World} {R : Value → World → Prop} (h : spec_PostLegs b0_p b0_n b0_c l_p l_n l_c w R) : Ret P 13 [(.agg #[(.slice b0_p b0_n b0_c)]), (.slice l_p l_n l_c)] w R :=
  Ret.of_fsem Tryz.func13 rfl (Eq.mp (spec_PostLegs_eq b0_p b0_n b0_c l_p l_n l_c w R) h)
def impl_PostLegs (b0_p : Option Addr) (b0_n : Nat) (b0_c : Nat) (l_p : Option Addr) (l_n : Nat) (l_c : Nat) (w : World) (R : Value → World → Prop) : Prop :=
  ∀ (r : Nat) (wv : World), New w (.cells ⟨[(.slice b0_p b0_n b0_c)]⟩ 31 (0, 0)) r wv →
  ∀ (r_1 : Nat) (wv_1 : World), New wv (.cells ⟨[(.slice none 0 0)]⟩ 31 (0, 0)) r_1 wv_1 →
  ∃ (t90_p : Option Addr) (t90_n : Nat) (t90_c : Nat), Loads P 31 ⟨r, 0, none⟩ (.agg #[(.slice t90_p t90_n t90_c)]) wv_1 ∧ Calls P 27 ⟨[(.agg #[(.slice t90_p t90_n t90_c)]), (.slice l_p l_n l_c)]⟩ wv_1 fun e wv_2 =>
  ∃ (t110_p : Option Addr) (t110_n : Nat) (t110_c : Nat) (t11 : Int), e = .returned (.tuple #[(.agg #[(.slice t110_p t110_n t110_c)]), (.int .i64 t11)]) ∧
  ∀ (r_2 : Nat) (wv_3 : World), New wv_2 (.cells ⟨[(.slice none 0 0)]⟩ 31 (0, 0)) r_2 wv_3 →
  ∃ wv_4, Stores P 31 ⟨r_2, 0, none⟩ (.agg #[(.slice t110_p t110_n t110_c)]) wv_3 wv_4 ∧
  ∃ (t140_p : Option Addr) (t140_n : Nat) (t140_c : Nat), Loads P 31 ⟨r_2, 0, none⟩ (.agg #[(.slice t140_p t140_n t140_c)]) wv_4 ∧ ∃ wv_5, Stores P 31 ⟨r_1, 0, none⟩ (.agg #[(.slice t140_p t140_n t140_c)]) wv_4 wv_5 ∧
  ∃ (r0_p : Option Addr) (r0_n : Nat) (r0_c : Nat), Loads P 31 ⟨r_1, 0, none⟩ (.agg #[(.slice r0_p r0_n r0_c)]) wv_5 ∧ R (.tuple #[(.agg #[(.slice r0_p r0_n r0_c)]), (.bool (decide ((t11 : Int) = 0)))]) wv_5
theorem impl_PostLegs_eq (b0_p : Option Addr) (b0_n : Nat) (b0_c : Nat) (l_p : Option Addr) (l_n : Nat) (l_c : Nat) (w : World) (R : Value → World → Prop) : impl_PostLegs b0_p b0_n b0_c l_p l_n l_c w R = fsem P Tryz.f14 (fun k => []) [(.agg #[(.slice b0_p b0_n b0_c)]), (.slice l_p l_n l_c)] R w := by kernel_rfl
theorem impl_PostLegs_ret {b0_p : Option Addr} {b0_n : Nat} {b0_c : Nat} {l_p : Option Addr} {l_n : Nat} {l_c : Nat} {w : World} {R : Value → World → Prop} (h : impl_PostLegs b0_p b0_n b0_c l_p l_n l_c w R) : Ret P 14 [(.agg #[(.slice b0_p b0_n b0_c)]), (.slice l_p l_n l_c)] w R :=
  Ret.of_fsem Tryz.func14 rfl (Eq.mp (impl_PostLegs_eq b0_p b0_n b0_c l_p l_n l_c w R) h)
def spec_BookOk (b0_p : Option Addr) (b0_n : Nat) (b0_c : Nat) (w : World) (R : Value → World → Prop) : Prop :=
  ∀ (r : Nat) (wv : World), New w (.cells ⟨[(.slice b0_p b0_n b0_c)]⟩ 31 (0, 0)) r wv →
  ∃ (t6_p : Option Addr) (t6_n : Nat) (t6_c : Nat), Loads P 29 ((⟨r, 0, none⟩ : Addr).add 0) (.slice t6_p t6_n t6_c) wv ∧ ∃ (Inv : Int → World → Prop) (mu : Int → World → Nat), Inv 0 wv ∧
  ∀ (junk : Fr) (wv_1 : World) (t8 : Int), Inv t8 wv_1 →
    ((decide ((t8 : Int) < ((t6_n : Nat) : Int))) = true →
      (0 ≤ (t8 : Int) ∧ (t8 : Int) < (t6_n : Nat)) ∧ ptrS t6_p fun ad => ∃ (t120 : ByteArray) (t121 : ByteArray) (t122 : Bool) (t123_p : Option Addr) (t123_n : Nat) (t123_c : Nat), Loads P 59 (ad.add (t8.toNat * 4)) (.agg #[(.string t120), (.string t121), (.bool t122), (.slice t123_p t123_n t123_c)]) wv_1 ∧ ∀ (r_1 : Nat) (wv_2 : World), New wv_1 (.cells ⟨[(.string ByteArray.empty), (.string ByteArray.empty), (.bool false), (.slice none 0 0)]⟩ 59 (0, 0)) r_1 wv_2 →
      ∃ wv_3, Stores P 59 ⟨r_1, 0, none⟩ (.agg #[(.string t120), (.string t121), (.bool t122), (.slice t123_p t123_n t123_c)]) wv_2 wv_3 ∧
      ∃ (t14 : ByteArray), (∀ wv_4, Ext wv_3.drew wv_4 → Loads P 9 ((⟨r_1, 0, none⟩ : Addr).add 0) (.string t14) wv_4) ∧ Calls P 37 ⟨[(.string t14)]⟩ wv_3.drew fun e wv_5 =>
      ∃ (t15 : Bool), e = .returned (.bool t15) ∧
      ((!t15) = true →
        (true = true →
          (true = true →
            R (.bool false) wv_5) ∧
          (true = false →
            ∃ t39 : Int, t39 = IntKind.wrap .i64 (t8 + 1) ∧ Inv t39 wv_5 ∧ mu t39 wv_5 < mu t8 wv_1)) ∧
        (true = false →
          ((decide ((0 : Int) < t8)) = true →
            ∃ (t28_p : Option Addr) (t28_n : Nat) (t28_c : Nat), (∀ wv_6, Ext wv_5 wv_6 → Loads P 29 ((⟨r, 0, none⟩ : Addr).add 0) (.slice t28_p t28_n t28_c) wv_6) ∧ ∃ t30 : Int, t30 = IntKind.wrap .i64 (t8 - 1) ∧ (0 ≤ (t30 : Int) ∧ (t30 : Int) < (t28_n : Nat)) ∧ ptrS t28_p fun ad_1 => ∃ (t33 : ByteArray), (∀ wv_7, Ext wv_5 wv_7 → Loads P 9 ((ad_1.add (t30.toNat * 4)).add 0) (.string t33) wv_7) ∧ ∃ (t35 : ByteArray), (∀ wv_8, Ext wv_5 wv_8 → Loads P 9 ((⟨r_1, 0, none⟩ : Addr).add 0) (.string t35) wv_8) ∧ ((!(Op.bytesLess t33.toList t35.toList)) = true →
              R (.bool false) wv_5) ∧
            ((!(Op.bytesLess t33.toList t35.toList)) = false →
              ∃ t39_1 : Int, t39_1 = IntKind.wrap .i64 (t8 + 1) ∧ Inv t39_1 wv_5 ∧ mu t39_1 wv_5 < mu t8 wv_1)) ∧
          ((decide ((0 : Int) < t8)) = false →
            (false = true →
              R (.bool false) wv_5) ∧
            (false = false →
              ∃ t39_2 : Int, t39_2 = IntKind.wrap .i64 (t8 + 1) ∧ Inv t39_2 wv_5 ∧ mu t39_2 wv_5 < mu t8 wv_1)))) ∧
      ((!t15) = false →
        ∃ (t190 : ByteArray) (t191 : Bool) (t192_p : Option Addr) (t192_n : Nat) (t192_c : Nat), (∀ wv_9, Ext wv_5 wv_9 → Loads P 55 ((⟨r_1, 0, none⟩ : Addr).add 1) (.agg #[(.string t190), (.bool t191), (.slice t192_p t192_n t192_c)]) wv_9) ∧ Calls P 38 ⟨[(.agg #[(.string t190), (.bool t191), (.slice t192_p t192_n t192_c)])]⟩ wv_5 fun e_1 wv_10 =>
        ∃ (t20 : Bool), e_1 = .returned (.bool t20) ∧
        ((!t20) = true →
          (true = true →
            R (.bool false) wv_10) ∧
          (true = false →
            ∃ t39_3 : Int, t39_3 = IntKind.wrap .i64 (t8 + 1) ∧ Inv t39_3 wv_10 ∧ mu t39_3 wv_10 < mu t8 wv_1)) ∧
        ((!t20) = false →
          ((decide ((0 : Int) < t8)) = true →
            ∃ (t28_p_1 : Option Addr) (t28_n_1 : Nat) (t28_c_1 : Nat), (∀ wv_11, Ext wv_10 wv_11 → Loads P 29 ((⟨r, 0, none⟩ : Addr).add 0) (.slice t28_p_1 t28_n_1 t28_c_1) wv_11) ∧ ∃ t30_1 : Int, t30_1 = IntKind.wrap .i64 (t8 - 1) ∧ (0 ≤ (t30_1 : Int) ∧ (t30_1 : Int) < (t28_n_1 : Nat)) ∧ ptrS t28_p_1 fun ad_2 => ∃ (t33_1 : ByteArray), (∀ wv_12, Ext wv_10 wv_12 → Loads P 9 ((ad_2.add (t30_1.toNat * 4)).add 0) (.string t33_1) wv_12) ∧ ∃ (t35_1 : ByteArray), (∀ wv_13, Ext wv_10 wv_13 → Loads P 9 ((⟨r_1, 0, none⟩ : Addr).add 0) (.string t35_1) wv_13) ∧ ((!(Op.bytesLess t33_1.toList t35_1.toList)) = true →
              R (.bool false) wv_10) ∧
            ((!(Op.bytesLess t33_1.toList t35_1.toList)) = false →
              ∃ t39_4 : Int, t39_4 = IntKind.wrap .i64 (t8 + 1) ∧ Inv t39_4 wv_10 ∧ mu t39_4 wv_10 < mu t8 wv_1)) ∧
          ((decide ((0 : Int) < t8)) = false →
            (false = true →
              R (.bool false) wv_10) ∧
            (false = false →
              ∃ t39_5 : Int, t39_5 = IntKind.wrap .i64 (t8 + 1) ∧ Inv t39_5 wv_10 ∧ mu t39_5 wv_10 < mu t8 wv_1))))) ∧
    ((decide ((t8 : Int) < ((t6_n : Nat) : Int))) = false →
      ∃ (t41_p : Option Addr) (t41_n : Nat) (t41_c : Nat), Loads P 29 ((⟨r, 0, none⟩ : Addr).add 0) (.slice t41_p t41_n t41_c) wv_1 ∧ R (.bool (decide ((((t41_n : Nat) : Int) : Int) ≤ 12))) wv_1)
theorem spec_BookOk_eq (b0_p : Option Addr) (b0_n : Nat) (b0_c : Nat) (w : World) (R : Value → World → Prop) : spec_BookOk b0_p b0_n b0_c w R = fsem P Tryz.f20 (fun k => cond (Nat.beq k 3) [(8, .one (.int .i64))] ([])) [(.agg #[(.slice b0_p b0_n b0_c)])] R w := by kernel_rfl
theorem spec_BookOk_ret {b0_p : Option Addr} {b0_n : Nat} {b0_c : Nat} {w : World} {R : Value → World → Prop} (h : spec_BookOk b0_p b0_n b0_c w R) : Ret P 20 [(.agg #[(.slice b0_p b0_n b0_c)])] w R :=
  Ret.of_fsem Tryz.func20 rfl (Eq.mp (spec_BookOk_eq b0_p b0_n b0_c w R) h)
def spec_LegsOk (l_p : Option Addr) (l_n : Nat) (l_c : Nat) (w : World) (R : Value → World → Prop) : Prop :=
  ∃ (Inv : Int → World → Prop) (mu : Int → World → Nat), Inv 0 w ∧
  ∀ (junk : Fr) (wv : World) (t7 : Int), Inv t7 wv →
    ((decide ((t7 : Int) < ((l_n : Nat) : Int))) = true →
      (0 ≤ (t7 : Int) ∧ (t7 : Int) < (l_n : Nat)) ∧ ptrS l_p fun ad => ∃ (t100 : ByteArray) (t101 : ByteArray) (t102 : Bool) (t103_p : Option Addr) (t103_n : Nat) (t103_c : Nat), Loads P 57 (ad.add (t7.toNat * 4)) (.agg #[(.string t100), (.string t101), (.bool t102), (.slice t103_p t103_n t103_c)]) wv ∧ ∀ (r : Nat) (wv_1 : World), New wv (.cells ⟨[(.string ByteArray.empty), (.string ByteArray.empty), (.bool false), (.slice none 0 0)]⟩ 57 (0, 0)) r wv_1 →
      ∃ wv_2, Stores P 57 ⟨r, 0, none⟩ (.agg #[(.string t100), (.string t101), (.bool t102), (.slice t103_p t103_n t103_c)]) wv_1 wv_2 ∧
      ∃ (t12 : ByteArray), Loads P 9 ((⟨r, 0, none⟩ : Addr).add 0) (.string t12) wv_2 ∧ Calls P 37 ⟨[(.string t12)]⟩ wv_2 fun e wv_3 =>
      ∃ (t13 : Bool), e = .returned (.bool t13) ∧
      ((!t13) = true →
        (true = true →
          R (.bool false) wv_3) ∧
        (true = false →
          ∃ t21 : Int, t21 = IntKind.wrap .i64 (t7 + 1) ∧ Inv t21 wv_3 ∧ mu t21 wv_3 < mu t7 wv)) ∧
      ((!t13) = false →
        ∃ (t170 : ByteArray) (t171 : Bool) (t172_p : Option Addr) (t172_n : Nat) (t172_c : Nat), Loads P 55 ((⟨r, 0, none⟩ : Addr).add 1) (.agg #[(.string t170), (.bool t171), (.slice t172_p t172_n t172_c)]) wv_3 ∧ Calls P 38 ⟨[(.agg #[(.string t170), (.bool t171), (.slice t172_p t172_n t172_c)])]⟩ wv_3 fun e_1 wv_4 =>
        ∃ (t18 : Bool), e_1 = .returned (.bool t18) ∧
        ((!t18) = true →
          R (.bool false) wv_4) ∧
        ((!t18) = false →
          ∃ t21_1 : Int, t21_1 = IntKind.wrap .i64 (t7 + 1) ∧ Inv t21_1 wv_4 ∧ mu t21_1 wv_4 < mu t7 wv))) ∧
    ((decide ((t7 : Int) < ((l_n : Nat) : Int))) = false →
      Calls P 39 ⟨[(.int .i64 ((l_n : Nat) : Int)), (.int .i64 1), (.int .i64 8)]⟩ wv fun e_2 wv_5 =>
      ∃ (t24 : Bool), e_2 = .returned (.bool t24) ∧
      R (.bool t24) wv_5)
theorem spec_LegsOk_eq (l_p : Option Addr) (l_n : Nat) (l_c : Nat) (w : World) (R : Value → World → Prop) : spec_LegsOk l_p l_n l_c w R = fsem P Tryz.f21 (fun k => cond (Nat.beq k 3) [(7, .one (.int .i64))] ([])) [(.slice l_p l_n l_c)] R w := by kernel_rfl
theorem spec_LegsOk_ret {l_p : Option Addr} {l_n : Nat} {l_c : Nat} {w : World} {R : Value → World → Prop} (h : spec_LegsOk l_p l_n l_c w R) : Ret P 21 [(.slice l_p l_n l_c)] w R :=
  Ret.of_fsem Tryz.func21 rfl (Eq.mp (spec_LegsOk_eq l_p l_n l_c w R) h)
def spec_AcctAt (b0_p : Option Addr) (b0_n : Nat) (b0_c : Nat) (name : ByteArray) (w : World) (R : Value → World → Prop) : Prop :=
  ∀ (r : Nat) (wv : World), New w (.cells ⟨[(.slice b0_p b0_n b0_c)]⟩ 31 (0, 0)) r wv →
  ∃ (t8_p : Option Addr) (t8_n : Nat) (t8_c : Nat), Loads P 29 ((⟨r, 0, none⟩ : Addr).add 0) (.slice t8_p t8_n t8_c) wv ∧ ∃ (Inv : Int → World → Prop) (mu : Int → World → Nat), Inv 0 wv ∧
  ∀ (junk : Fr) (wv_1 : World) (t10 : Int), Inv t10 wv_1 →
    ((decide ((t10 : Int) < ((t8_n : Nat) : Int))) = true →
      (0 ≤ (t10 : Int) ∧ (t10 : Int) < (t8_n : Nat)) ∧ ptrS t8_p fun ad => ∃ (t140 : ByteArray) (t141 : ByteArray) (t142 : Bool) (t143_p : Option Addr) (t143_n : Nat) (t143_c : Nat), Loads P 59 (ad.add (t10.toNat * 4)) (.agg #[(.string t140), (.string t141), (.bool t142), (.slice t143_p t143_n t143_c)]) wv_1 ∧ ∀ (r_1 : Nat) (wv_2 : World), New wv_1 (.cells ⟨[(.string ByteArray.empty), (.string ByteArray.empty), (.bool false), (.slice none 0 0)]⟩ 59 (0, 0)) r_1 wv_2 →
      ∃ wv_3, Stores P 59 ⟨r_1, 0, none⟩ (.agg #[(.string t140), (.string t141), (.bool t142), (.slice t143_p t143_n t143_c)]) wv_2 wv_3 ∧
      ∃ (t16 : ByteArray), Loads P 9 ((⟨r_1, 0, none⟩ : Addr).add 0) (.string t16) wv_3 ∧ ((decide (t16 = name)) = true →
        R (.int .i64 t10) wv_3) ∧
      ((decide (t16 = name)) = false →
        ∃ t20 : Int, t20 = IntKind.wrap .i64 (t10 + 1) ∧ Inv t20 wv_3 ∧ mu t20 wv_3 < mu t10 wv_1)) ∧
    ((decide ((t10 : Int) < ((t8_n : Nat) : Int))) = false →
      R (.int .i64 (-1)) wv_1)
theorem spec_AcctAt_eq (b0_p : Option Addr) (b0_n : Nat) (b0_c : Nat) (name : ByteArray) (w : World) (R : Value → World → Prop) : spec_AcctAt b0_p b0_n b0_c name w R = fsem P Tryz.f22 (fun k => cond (Nat.beq k 3) [(10, .one (.int .i64))] ([])) [(.agg #[(.slice b0_p b0_n b0_c)]), (.string name)] R w := by kernel_rfl
theorem spec_AcctAt_ret {b0_p : Option Addr} {b0_n : Nat} {b0_c : Nat} {name : ByteArray} {w : World} {R : Value → World → Prop} (h : spec_AcctAt b0_p b0_n b0_c name w R) : Ret P 22 [(.agg #[(.slice b0_p b0_n b0_c)]), (.string name)] w R :=
  Ret.of_fsem Tryz.func22 rfl (Eq.mp (spec_AcctAt_eq b0_p b0_n b0_c name w R) h)
def spec_Balanced (l_p : Option Addr) (l_n : Nat) (l_c : Nat) (w : World) (R : Value → World → Prop) : Prop :=
  Calls P 40 ⟨[(.slice l_p l_n l_c)]⟩ w fun e wv =>
  ∃ (t6_p : Option Addr) (t6_n : Nat) (t6_c : Nat), e = .returned (.slice t6_p t6_n t6_c) ∧
  ∃ (Inv : Int → World → Prop) (mu : Int → World → Nat), Inv 0 wv ∧
  ∀ (junk : Fr) (wv_1 : World) (t8 : Int), Inv t8 wv_1 →
    ((decide ((t8 : Int) < ((t6_n : Nat) : Int))) = true →
      (0 ≤ (t8 : Int) ∧ (t8 : Int) < (t6_n : Nat)) ∧ ptrS t6_p fun ad => ∃ (t110 : ByteArray) (t111 : Bool) (t112_p : Option Addr) (t112_n : Nat) (t112_c : Nat), Loads P 55 (ad.add (t8.toNat * 3)) (.agg #[(.string t110), (.bool t111), (.slice t112_p t112_n t112_c)]) wv_1 ∧ ∀ (r : Nat) (wv_2 : World), New wv_1 (.cells ⟨[(.string ByteArray.empty), (.bool false), (.slice none 0 0)]⟩ 55 (0, 0)) r wv_2 →
      ∃ wv_3, Stores P 55 ⟨r, 0, none⟩ (.agg #[(.string t110), (.bool t111), (.slice t112_p t112_n t112_c)]) wv_2 wv_3 ∧
      ∃ (t130 : Bool) (t131_p : Option Addr) (t131_n : Nat) (t131_c : Nat), Loads P 53 ((⟨r, 0, none⟩ : Addr).add 1) (.agg #[(.bool t130), (.slice t131_p t131_n t131_c)]) wv_3 ∧ Calls P 41 ⟨[(.agg #[(.bool t130), (.slice t131_p t131_n t131_c)])]⟩ wv_3 fun e_1 wv_4 =>
      ∃ (t14 : Int), e_1 = .returned (.int .i64 t14) ∧
      ((decide ((t14 : Int) ≠ 0)) = true →
        R (.bool false) wv_4) ∧
      ((decide ((t14 : Int) ≠ 0)) = false →
        ∃ t16 : Int, t16 = IntKind.wrap .i64 (t8 + 1) ∧ Inv t16 wv_4 ∧ mu t16 wv_4 < mu t8 wv_1)) ∧
    ((decide ((t8 : Int) < ((t6_n : Nat) : Int))) = false →
      Calls P 21 ⟨[(.slice l_p l_n l_c)]⟩ wv_1 fun e_2 wv_5 =>
      ∃ (t18 : Bool), e_2 = .returned (.bool t18) ∧
      R (.bool t18) wv_5)
theorem spec_Balanced_eq (l_p : Option Addr) (l_n : Nat) (l_c : Nat) (w : World) (R : Value → World → Prop) : spec_Balanced l_p l_n l_c w R = fsem P Tryz.f23 (fun k => cond (Nat.beq k 3) [(8, .one (.int .i64))] ([])) [(.slice l_p l_n l_c)] R w := by kernel_rfl
theorem spec_Balanced_ret {l_p : Option Addr} {l_n : Nat} {l_c : Nat} {w : World} {R : Value → World → Prop} (h : spec_Balanced l_p l_n l_c w R) : Ret P 23 [(.slice l_p l_n l_c)] w R :=
  Ret.of_fsem Tryz.func23 rfl (Eq.mp (spec_Balanced_eq l_p l_n l_c w R) h)
def spec_BookPost_j0 (r : Nat) (r_1 : Nat) (r_2 : Nat) (t14 : Int) (W : World) (R : Value → World → Prop) : Prop :=
  ∃ (t25_p : Option Addr) (t25_n : Nat) (t25_c : Nat), (∀ wv_6, Ext W.drew wv_6 → Loads P 29 ((⟨r, 0, none⟩ : Addr).add 0) (.slice t25_p t25_n t25_c) wv_6) ∧ (0 ≤ (t14 : Int) ∧ (t14 : Int) < (t25_n : Nat)) ∧ ptrS t25_p fun ad => ∃ (t290 : ByteArray) (t291 : Bool) (t292_p : Option Addr) (t292_n : Nat) (t292_c : Nat), (∀ wv_7, Ext W.drew wv_7 → Loads P 55 ((ad.add (t14.toNat * 4)).add 1) (.agg #[(.string t290), (.bool t291), (.slice t292_p t292_n t292_c)]) wv_7) ∧ ∃ (t300 : ByteArray) (t301 : Bool) (t302_p : Option Addr) (t302_n : Nat) (t302_c : Nat), (∀ wv_8, Ext W.drew wv_8 → Loads P 55 ⟨r_1, 0, none⟩ (.agg #[(.string t300), (.bool t301), (.slice t302_p t302_n t302_c)]) wv_8) ∧ ∀ (ss : List (Option Nat)) (wv_9 : World), Fl [.cells ⟨[(.string ByteArray.empty), (.bool false), (.slice none 0 0)]⟩ 55 (0, 0)] [none] W.drew ss wv_9 →
  Calls P 42 ⟨[(.agg #[(.string t290), (.bool t291), (.slice t292_p t292_n t292_c)]), (.agg #[(.string t300), (.bool t301), (.slice t302_p t302_n t302_c)])]⟩ wv_9 fun e_2 wv_10 =>
  ∃ (t310 : ByteArray) (t311 : Bool) (t312_p : Option Addr) (t312_n : Nat) (t312_c : Nat) (t31 : Bool), e_2 = .returned (.tuple #[(.agg #[(.string t310), (.bool t311), (.slice t312_p t312_n t312_c)]), (.bool t31)]) ∧
  ∀ (ss_1 : List (Option Nat)) (wv_11 : World) (r_3 : Nat), Fl [.cells ⟨[(.string ByteArray.empty), (.bool false), (.slice none 0 0)]⟩ 55 (0, 0)] ss wv_10 ss_1 wv_11 → ss_1[0]? = some (some r_3) →
  ∃ wv_12, Stores P 55 ⟨r_3, 0, none⟩ (.agg #[(.string t310), (.bool t311), (.slice t312_p t312_n t312_c)]) wv_11 wv_12 ∧
  ((!t31) = true →
    ∃ wv_13, Stores P 31 ⟨r_2, 0, none⟩ (.agg #[(.slice none 0 0)]) wv_12 wv_13 ∧
    ∃ (r0_p_1 : Option Addr) (r0_n_1 : Nat) (r0_c_1 : Nat), Loads P 31 ⟨r_2, 0, none⟩ (.agg #[(.slice r0_p_1 r0_n_1 r0_c_1)]) wv_13 ∧ R (.tuple #[(.agg #[(.slice r0_p_1 r0_n_1 r0_c_1)]), (.bool false)]) wv_13) ∧
  ((!t31) = false →
    ∃ (t370_p : Option Addr) (t370_n : Nat) (t370_c : Nat), Loads P 31 ⟨r, 0, none⟩ (.agg #[(.slice t370_p t370_n t370_c)]) wv_12 ∧ Calls P 30 ⟨[(.agg #[(.slice t370_p t370_n t370_c)])]⟩ wv_12 fun e_3 wv_14 =>
    ∃ (t380_p : Option Addr) (t380_n : Nat) (t380_c : Nat), e_3 = .returned (.agg #[(.slice t380_p t380_n t380_c)]) ∧
    ∀ (r_4 : Nat) (wv_15 : World), New wv_14 (.cells ⟨[(.slice none 0 0)]⟩ 31 (0, 0)) r_4 wv_15 →
    ∃ wv_16, Stores P 31 ⟨r_4, 0, none⟩ (.agg #[(.slice t380_p t380_n t380_c)]) wv_15 wv_16 ∧
    ∃ (t40_p : Option Addr) (t40_n : Nat) (t40_c : Nat), Loads P 29 ((⟨r_4, 0, none⟩ : Addr).add 0) (.slice t40_p t40_n t40_c) wv_16 ∧ ∃ (t420 : ByteArray) (t421 : Bool) (t422_p : Option Addr) (t422_n : Nat) (t422_c : Nat), Loads P 55 ⟨r_3, 0, none⟩ (.agg #[(.string t420), (.bool t421), (.slice t422_p t422_n t422_c)]) wv_16 ∧ (0 ≤ (t14 : Int) ∧ (t14 : Int) < (t40_n : Nat)) ∧ ptrS t40_p fun ad_1 => ∃ wv_17, Stores P 55 ((ad_1.add (t14.toNat * 4)).add 1) (.agg #[(.string t420), (.bool t421), (.slice t422_p t422_n t422_c)]) wv_16 wv_17 ∧
    ∃ (t450_p : Option Addr) (t450_n : Nat) (t450_c : Nat), Loads P 31 ⟨r_4, 0, none⟩ (.agg #[(.slice t450_p t450_n t450_c)]) wv_17 ∧ ∃ wv_18, Stores P 31 ⟨r_2, 0, none⟩ (.agg #[(.slice t450_p t450_n t450_c)]) wv_17 wv_18 ∧
    ∃ (r0_p_2 : Option Addr) (r0_n_2 : Nat) (r0_c_2 : Nat), Loads P 31 ⟨r_2, 0, none⟩ (.agg #[(.slice r0_p_2 r0_n_2 r0_c_2)]) wv_18 ∧ R (.tuple #[(.agg #[(.slice r0_p_2 r0_n_2 r0_c_2)]), (.bool true)]) wv_18)
def spec_BookPost (b0_p : Option Addr) (b0_n : Nat) (b0_c : Nat) (name : ByteArray) (m0 : ByteArray) (m1 : Bool) (m2_p : Option Addr) (m2_n : Nat) (m2_c : Nat) (w : World) (R : Value → World → Prop) : Prop :=
  ∀ (r : Nat) (wv : World), New w (.cells ⟨[(.slice b0_p b0_n b0_c)]⟩ 31 (0, 0)) r wv →
  ∀ (r_1 : Nat) (wv_1 : World), New wv (.cells ⟨[(.string m0), (.bool m1), (.slice m2_p m2_n m2_c)]⟩ 55 (0, 0)) r_1 wv_1 →
  ∀ (r_2 : Nat) (wv_2 : World), New wv_1 (.cells ⟨[(.slice none 0 0)]⟩ 31 (0, 0)) r_2 wv_2 →
  ∃ (t120_p : Option Addr) (t120_n : Nat) (t120_c : Nat), Loads P 31 ⟨r, 0, none⟩ (.agg #[(.slice t120_p t120_n t120_c)]) wv_2 ∧ Calls P 22 ⟨[(.agg #[(.slice t120_p t120_n t120_c)]), (.string name)]⟩ wv_2 fun e wv_3 =>
  ∃ (t14 : Int), e = .returned (.int .i64 t14) ∧
  ∃ (t150_p : Option Addr) (t150_n : Nat) (t150_c : Nat), Loads P 31 ⟨r, 0, none⟩ (.agg #[(.slice t150_p t150_n t150_c)]) wv_3 ∧ Calls P 20 ⟨[(.agg #[(.slice t150_p t150_n t150_c)])]⟩ wv_3 fun e_1 wv_4 =>
  ∃ (t16 : Bool), e_1 = .returned (.bool t16) ∧
  ((!t16) = true →
    (true = true →
      ∃ wv_5, Stores P 31 ⟨r_2, 0, none⟩ (.agg #[(.slice none 0 0)]) wv_4 wv_5 ∧
      ∃ (r0_p : Option Addr) (r0_n : Nat) (r0_c : Nat), Loads P 31 ⟨r_2, 0, none⟩ (.agg #[(.slice r0_p r0_n r0_c)]) wv_5 ∧ R (.tuple #[(.agg #[(.slice r0_p r0_n r0_c)]), (.bool false)]) wv_5) ∧
    (true = false →
      spec_BookPost_j0 r r_1 r_2 t14 wv_4 R)) ∧
  ((!t16) = false →
    ((decide ((t14 : Int) < 0)) = true →
      ∃ wv_19, Stores P 31 ⟨r_2, 0, none⟩ (.agg #[(.slice none 0 0)]) wv_4 wv_19 ∧
      ∃ (r0_p_3 : Option Addr) (r0_n_3 : Nat) (r0_c_3 : Nat), Loads P 31 ⟨r_2, 0, none⟩ (.agg #[(.slice r0_p_3 r0_n_3 r0_c_3)]) wv_19 ∧ R (.tuple #[(.agg #[(.slice r0_p_3 r0_n_3 r0_c_3)]), (.bool false)]) wv_19) ∧
    ((decide ((t14 : Int) < 0)) = false →
      spec_BookPost_j0 r r_1 r_2 t14 wv_4 R))
theorem spec_BookPost_eq (b0_p : Option Addr) (b0_n : Nat) (b0_c : Nat) (name : ByteArray) (m0 : ByteArray) (m1 : Bool) (m2_p : Option Addr) (m2_n : Nat) (m2_c : Nat) (w : World) (R : Value → World → Prop) : spec_BookPost b0_p b0_n b0_c name m0 m1 m2_p m2_n m2_c w R = fsem P Tryz.f24 (fun k => []) [(.agg #[(.slice b0_p b0_n b0_c)]), (.string name), (.agg #[(.string m0), (.bool m1), (.slice m2_p m2_n m2_c)])] R w := by kernel_rfl
theorem spec_BookPost_ret {b0_p : Option Addr} {b0_n : Nat} {b0_c : Nat} {name : ByteArray} {m0 : ByteArray} {m1 : Bool} {m2_p : Option Addr} {m2_n : Nat} {m2_c : Nat} {w : World} {R : Value → World → Prop} (h : spec_BookPost b0_p b0_n b0_c name m0 m1 m2_p m2_n m2_c w R) : Ret P 24 [(.agg #[(.slice b0_p b0_n b0_c)]), (.string name), (.agg #[(.string m0), (.bool m1), (.slice m2_p m2_n m2_c)])] w R :=
  Ret.of_fsem Tryz.func24 rfl (Eq.mp (spec_BookPost_eq b0_p b0_n b0_c name m0 m1 m2_p m2_n m2_c w R) h)
def impl_checkEntry_j1 (wv_4 : World) (Inv : Int → Int → World → Prop) (mu : Int → Int → World → Nat) (code : Int) (t24 : Int) (code_1 : Int) (W_1 : World) (R : Value → World → Prop) : Prop :=
  ∃ t46 : Int, t46 = IntKind.wrap .i64 (t24 + 1) ∧ Inv code_1 t46 W_1 ∧ mu code_1 t46 W_1 < mu code t24 wv_4
def impl_checkEntry_j2 (l_p : Option Addr) (l_n : Nat) (l_c : Nat) (r : Nat) (r_1 : Nat) (code_2 : Int) (W_2 : World) (R : Value → World → Prop) : Prop :=
  ((decide ((code_2 : Int) ≠ 0)) = true →
    ∃ wv_12, Stores P 31 ⟨r_1, 0, none⟩ (.agg #[(.slice none 0 0)]) W_2 wv_12 ∧
    ∃ (r0_p_2 : Option Addr) (r0_n_2 : Nat) (r0_c_2 : Nat), Loads P 31 ⟨r_1, 0, none⟩ (.agg #[(.slice r0_p_2 r0_n_2 r0_c_2)]) wv_12 ∧ R (.tuple #[(.agg #[(.slice r0_p_2 r0_n_2 r0_c_2)]), (.int .i64 code_2)]) wv_12) ∧
  ((decide ((code_2 : Int) ≠ 0)) = false →
    ∃ (t590_p : Option Addr) (t590_n : Nat) (t590_c : Nat), Loads P 31 ⟨r, 0, none⟩ (.agg #[(.slice t590_p t590_n t590_c)]) W_2 ∧ Calls P 49 ⟨[(.agg #[(.slice t590_p t590_n t590_c)]), (.slice l_p l_n l_c)]⟩ W_2 fun e_3 wv_13 =>
    ∃ (t610_p : Option Addr) (t610_n : Nat) (t610_c : Nat) (t61 : Bool), e_3 = .returned (.tuple #[(.agg #[(.slice t610_p t610_n t610_c)]), (.bool t61)]) ∧
    ∀ (r_4 : Nat) (wv_14 : World), New wv_13 (.cells ⟨[(.slice none 0 0)]⟩ 31 (0, 0)) r_4 wv_14 →
    ∃ wv_15, Stores P 31 ⟨r_4, 0, none⟩ (.agg #[(.slice t610_p t610_n t610_c)]) wv_14 wv_15 ∧
    ((!t61) = true →
      ∃ wv_16, Stores P 31 ⟨r_1, 0, none⟩ (.agg #[(.slice none 0 0)]) wv_15 wv_16 ∧
      ∃ (r0_p_3 : Option Addr) (r0_n_3 : Nat) (r0_c_3 : Nat), Loads P 31 ⟨r_1, 0, none⟩ (.agg #[(.slice r0_p_3 r0_n_3 r0_c_3)]) wv_16 ∧ R (.tuple #[(.agg #[(.slice r0_p_3 r0_n_3 r0_c_3)]), (.int .i64 5)]) wv_16) ∧
    ((!t61) = false →
      ∃ (t670_p : Option Addr) (t670_n : Nat) (t670_c : Nat), Loads P 31 ⟨r_4, 0, none⟩ (.agg #[(.slice t670_p t670_n t670_c)]) wv_15 ∧ ∃ wv_17, Stores P 31 ⟨r_1, 0, none⟩ (.agg #[(.slice t670_p t670_n t670_c)]) wv_15 wv_17 ∧
      ∃ (r0_p_4 : Option Addr) (r0_n_4 : Nat) (r0_c_4 : Nat), Loads P 31 ⟨r_1, 0, none⟩ (.agg #[(.slice r0_p_4 r0_n_4 r0_c_4)]) wv_17 ∧ R (.tuple #[(.agg #[(.slice r0_p_4 r0_n_4 r0_c_4)]), (.int .i64 0)]) wv_17))
def impl_checkEntry_j0 (l_p : Option Addr) (l_n : Nat) (l_c : Nat) (r : Nat) (r_1 : Nat) (W : World) (R : Value → World → Prop) : Prop :=
  ∃ (Inv : Int → Int → World → Prop) (mu : Int → Int → World → Nat), Inv 0 0 W ∧
  ∀ (junk : Fr) (wv_4 : World) (code : Int) (t24 : Int), Inv code t24 wv_4 →
    ((decide ((t24 : Int) < ((l_n : Nat) : Int))) = true →
      (0 ≤ (t24 : Int) ∧ (t24 : Int) < (l_n : Nat)) ∧ ptrS l_p fun ad => ∃ (t270 : ByteArray) (t271 : ByteArray) (t272 : Bool) (t273_p : Option Addr) (t273_n : Nat) (t273_c : Nat), Loads P 57 (ad.add (t24.toNat * 4)) (.agg #[(.string t270), (.string t271), (.bool t272), (.slice t273_p t273_n t273_c)]) wv_4 ∧ ∀ (r_2 : Nat) (wv_5 : World), New wv_4 (.cells ⟨[(.string ByteArray.empty), (.string ByteArray.empty), (.bool false), (.slice none 0 0)]⟩ 57 (0, 0)) r_2 wv_5 →
      ∃ wv_6, Stores P 57 ⟨r_2, 0, none⟩ (.agg #[(.string t270), (.string t271), (.bool t272), (.slice t273_p t273_n t273_c)]) wv_5 wv_6 ∧
      ∃ (t290_p : Option Addr) (t290_n : Nat) (t290_c : Nat), Loads P 31 ⟨r, 0, none⟩ (.agg #[(.slice t290_p t290_n t290_c)]) wv_6 ∧ ∃ (t31 : ByteArray), Loads P 9 ((⟨r_2, 0, none⟩ : Addr).add 0) (.string t31) wv_6 ∧ Calls P 47 ⟨[(.agg #[(.slice t290_p t290_n t290_c)]), (.string t31)]⟩ wv_6 fun e_1 wv_7 =>
      ∃ (t320 : ByteArray) (t321 : Bool) (t322_p : Option Addr) (t322_n : Nat) (t322_c : Nat) (t32 : Bool), e_1 = .returned (.tuple #[(.agg #[(.string t320), (.bool t321), (.slice t322_p t322_n t322_c)]), (.bool t32)]) ∧
      ∀ (r_3 : Nat) (wv_8 : World), New wv_7 (.cells ⟨[(.string ByteArray.empty), (.bool false), (.slice none 0 0)]⟩ 55 (0, 0)) r_3 wv_8 →
      ∃ wv_9, Stores P 55 ⟨r_3, 0, none⟩ (.agg #[(.string t320), (.bool t321), (.slice t322_p t322_n t322_c)]) wv_8 wv_9 ∧
      ((!t32) = true →
        ∃ wv_10, Stores P 31 ⟨r_1, 0, none⟩ (.agg #[(.slice none 0 0)]) wv_9 wv_10 ∧
        ∃ (r0_p_1 : Option Addr) (r0_n_1 : Nat) (r0_c_1 : Nat), Loads P 31 ⟨r_1, 0, none⟩ (.agg #[(.slice r0_p_1 r0_n_1 r0_c_1)]) wv_10 ∧ R (.tuple #[(.agg #[(.slice r0_p_1 r0_n_1 r0_c_1)]), (.int .i64 2)]) wv_10) ∧
      ((!t32) = false →
        ∃ (t41 : ByteArray), Loads P 9 ((⟨r_3, 0, none⟩ : Addr).add 0) (.string t41) wv_9 ∧ ∃ (t44 : ByteArray), Loads P 9 (((⟨r_2, 0, none⟩ : Addr).add 1).add 0) (.string t44) wv_9 ∧ ((decide (t41 ≠ t44)) = true →
          impl_checkEntry_j1 wv_4 Inv mu code t24 3 wv_9 R) ∧
        ((decide (t41 ≠ t44)) = false →
          impl_checkEntry_j1 wv_4 Inv mu code t24 code wv_9 R))) ∧
    ((decide ((t24 : Int) < ((l_n : Nat) : Int))) = false →
      ((decide ((code : Int) = 0)) = true →
        Calls P 48 ⟨[(.slice l_p l_n l_c)]⟩ wv_4 fun e_2 wv_11 =>
        ∃ (t51 : Bool), e_2 = .returned (.bool t51) ∧
        ((!t51) = true →
          impl_checkEntry_j2 l_p l_n l_c r r_1 4 wv_11 R) ∧
        ((!t51) = false →
          impl_checkEntry_j2 l_p l_n l_c r r_1 code wv_11 R)) ∧
      ((decide ((code : Int) = 0)) = false →
        (false = true →
          impl_checkEntry_j2 l_p l_n l_c r r_1 4 wv_4 R) ∧
        (false = false →
          impl_checkEntry_j2 l_p l_n l_c r r_1 code wv_4 R)))
def impl_checkEntry (b0_p : Option Addr) (b0_n : Nat) (b0_c : Nat) (l_p : Option Addr) (l_n : Nat) (l_c : Nat) (w : World) (R : Value → World → Prop) : Prop :=
  ∀ (r : Nat) (wv : World), New w (.cells ⟨[(.slice b0_p b0_n b0_c)]⟩ 31 (0, 0)) r wv →
  ∀ (r_1 : Nat) (wv_1 : World), New wv (.cells ⟨[(.slice none 0 0)]⟩ 31 (0, 0)) r_1 wv_1 →
  ∃ (t130_p : Option Addr) (t130_n : Nat) (t130_c : Nat), Loads P 31 ⟨r, 0, none⟩ (.agg #[(.slice t130_p t130_n t130_c)]) wv_1 ∧ Calls P 45 ⟨[(.agg #[(.slice t130_p t130_n t130_c)])]⟩ wv_1 fun e wv_2 =>
  ∃ (t14 : Bool), e = .returned (.bool t14) ∧
  ((!t14) = true →
    (true = true →
      ∃ wv_3, Stores P 31 ⟨r_1, 0, none⟩ (.agg #[(.slice none 0 0)]) wv_2 wv_3 ∧
      ∃ (r0_p : Option Addr) (r0_n : Nat) (r0_c : Nat), Loads P 31 ⟨r_1, 0, none⟩ (.agg #[(.slice r0_p r0_n r0_c)]) wv_3 ∧ R (.tuple #[(.agg #[(.slice r0_p r0_n r0_c)]), (.int .i64 1)]) wv_3) ∧
    (true = false →
      impl_checkEntry_j0 l_p l_n l_c r r_1 wv_2 R)) ∧
  ((!t14) = false →
    Calls P 46 ⟨[(.slice l_p l_n l_c)]⟩ wv_2 fun e_4 wv_18 =>
    ∃ (t18 : Bool), e_4 = .returned (.bool t18) ∧
    ((!t18) = true →
      ∃ wv_19, Stores P 31 ⟨r_1, 0, none⟩ (.agg #[(.slice none 0 0)]) wv_18 wv_19 ∧
      ∃ (r0_p_5 : Option Addr) (r0_n_5 : Nat) (r0_c_5 : Nat), Loads P 31 ⟨r_1, 0, none⟩ (.agg #[(.slice r0_p_5 r0_n_5 r0_c_5)]) wv_19 ∧ R (.tuple #[(.agg #[(.slice r0_p_5 r0_n_5 r0_c_5)]), (.int .i64 1)]) wv_19) ∧
    ((!t18) = false →
      impl_checkEntry_j0 l_p l_n l_c r r_1 wv_18 R))
theorem impl_checkEntry_eq (b0_p : Option Addr) (b0_n : Nat) (b0_c : Nat) (l_p : Option Addr) (l_n : Nat) (l_c : Nat) (w : World) (R : Value → World → Prop) : impl_checkEntry b0_p b0_n b0_c l_p l_n l_c w R = fsem P Tryz.f27 (fun k => cond (Nat.beq k 6) [(6, .one (.int .i64)), (24, .one (.int .i64))] ([])) [(.agg #[(.slice b0_p b0_n b0_c)]), (.slice l_p l_n l_c)] R w := by kernel_rfl
theorem impl_checkEntry_ret {b0_p : Option Addr} {b0_n : Nat} {b0_c : Nat} {l_p : Option Addr} {l_n : Nat} {l_c : Nat} {w : World} {R : Value → World → Prop} (h : impl_checkEntry b0_p b0_n b0_c l_p l_n l_c w R) : Ret P 27 [(.agg #[(.slice b0_p b0_n b0_c)]), (.slice l_p l_n l_c)] w R :=
  Ret.of_fsem Tryz.func27 rfl (Eq.mp (impl_checkEntry_eq b0_p b0_n b0_c l_p l_n l_c w R) h)
def spec_l17Copy (b0_p : Option Addr) (b0_n : Nat) (b0_c : Nat) (w : World) (R : Value → World → Prop) : Prop :=
  ∀ (r : Nat) (wv : World), New w (.cells ⟨[(.slice b0_p b0_n b0_c)]⟩ 31 (0, 0)) r wv →
  ∀ (r_1 : Nat) (wv_1 : World), New wv (.cells ⟨[(.slice none 0 0)]⟩ 31 (0, 0)) r_1 wv_1 →
  ∀ (r_2 : Nat) (wv_2 : World), New wv_1 (.cells ⟨[(.slice none 0 0)]⟩ 31 (0, 0)) r_2 wv_2 →
  ∃ wv_3, Stores P 31 ⟨r_2, 0, none⟩ (.agg #[(.slice none 0 0)]) wv_2 wv_3 ∧
  ∃ (t8_p : Option Addr) (t8_n : Nat) (t8_c : Nat), Loads P 29 ((⟨r, 0, none⟩ : Addr).add 0) (.slice t8_p t8_n t8_c) wv_3 ∧ ∃ (Inv : Int → World → Prop) (mu : Int → World → Nat), Inv 0 wv_3 ∧
  ∀ (junk : Fr) (wv_4 : World) (t10 : Int), Inv t10 wv_4 →
    ((decide ((t10 : Int) < ((t8_n : Nat) : Int))) = true →
      (0 ≤ (t10 : Int) ∧ (t10 : Int) < (t8_n : Nat)) ∧ ptrS t8_p fun ad => ∃ (t130 : ByteArray) (t131 : ByteArray) (t132 : Bool) (t133_p : Option Addr) (t133_n : Nat) (t133_c : Nat), Loads P 59 (ad.add (t10.toNat * 4)) (.agg #[(.string t130), (.string t131), (.bool t132), (.slice t133_p t133_n t133_c)]) wv_4 ∧ ∀ (r_3 : Nat) (wv_5 : World), New wv_4 (.cells ⟨[(.string ByteArray.empty), (.string ByteArray.empty), (.bool false), (.slice none 0 0)]⟩ 59 (0, 0)) r_3 wv_5 →
      ∃ wv_6, Stores P 59 ⟨r_3, 0, none⟩ (.agg #[(.string t130), (.string t131), (.bool t132), (.slice t133_p t133_n t133_c)]) wv_5 wv_6 ∧
      ∃ (t15_p : Option Addr) (t15_n : Nat) (t15_c : Nat), (∀ wv_7, Ext wv_6.drew wv_7 → Loads P 29 ((⟨r_2, 0, none⟩ : Addr).add 0) (.slice t15_p t15_n t15_c) wv_7) ∧ ∃ (t17 : ByteArray), (∀ wv_8, Ext wv_6.drew wv_8 → Loads P 9 ((⟨r_3, 0, none⟩ : Addr).add 0) (.string t17) wv_8) ∧ ∃ (t190 : ByteArray) (t191 : Bool) (t192_p : Option Addr) (t192_n : Nat) (t192_c : Nat), (∀ wv_9, Ext wv_6.drew wv_9 → Loads P 55 ((⟨r_3, 0, none⟩ : Addr).add 1) (.agg #[(.string t190), (.bool t191), (.slice t192_p t192_n t192_c)]) wv_9) ∧ Calls P 52 ⟨[(.agg #[(.string t190), (.bool t191), (.slice t192_p t192_n t192_c)])]⟩ wv_6.drew fun e wv_10 =>
      ∃ (t200 : ByteArray) (t201 : Bool) (t202_p : Option Addr) (t202_n : Nat) (t202_c : Nat), e = .returned (.agg #[(.string t200), (.bool t201), (.slice t202_p t202_n t202_c)]) ∧
      Ext wv_6.drew wv_10 ∧ ∀ (r_4 : Nat) (wv_11 : World), New wv_10 (.cells ⟨[(.string t17), (.string t200), (.bool t201), (.slice t202_p t202_n t202_c)]⟩ 59 (0, 0)) r_4 wv_11 →
      Ext wv_10 wv_11 ∧ ∃ (t23_p : Option Addr) (t23_n : Nat) (t23_c : Nat) (wv_12 : World), Appends P [29, 29] [(.slice t15_p t15_n t15_c), (.slice (some ⟨r_4, 0, none⟩) 1 1)] (.slice t23_p t23_n t23_c) wv_11 wv_12 ∧
      ∃ wv_13, Stores P 29 ((⟨r_2, 0, none⟩ : Addr).add 0) (.slice t23_p t23_n t23_c) wv_12 wv_13 ∧
      ∃ t25 : Int, t25 = IntKind.wrap .i64 (t10 + 1) ∧ Inv t25 wv_13 ∧ mu t25 wv_13 < mu t10 wv_4) ∧
    ((decide ((t10 : Int) < ((t8_n : Nat) : Int))) = false →
      ∃ (t260_p : Option Addr) (t260_n : Nat) (t260_c : Nat), Loads P 31 ⟨r_2, 0, none⟩ (.agg #[(.slice t260_p t260_n t260_c)]) wv_4 ∧ ∃ wv_14, Stores P 31 ⟨r_1, 0, none⟩ (.agg #[(.slice t260_p t260_n t260_c)]) wv_4 wv_14 ∧
      ∃ (r0_p : Option Addr) (r0_n : Nat) (r0_c : Nat), Loads P 31 ⟨r_1, 0, none⟩ (.agg #[(.slice r0_p r0_n r0_c)]) wv_14 ∧ R (.agg #[(.slice r0_p r0_n r0_c)]) wv_14)
theorem spec_l17Copy_eq (b0_p : Option Addr) (b0_n : Nat) (b0_c : Nat) (w : World) (R : Value → World → Prop) : spec_l17Copy b0_p b0_n b0_c w R = fsem P Tryz.f30 (fun k => cond (Nat.beq k 4) [(10, .one (.int .i64))] ([])) [(.agg #[(.slice b0_p b0_n b0_c)])] R w := by kernel_rfl
theorem spec_l17Copy_ret {b0_p : Option Addr} {b0_n : Nat} {b0_c : Nat} {w : World} {R : Value → World → Prop} (h : spec_l17Copy b0_p b0_n b0_c w R) : Ret P 30 [(.agg #[(.slice b0_p b0_n b0_c)])] w R :=
  Ret.of_fsem Tryz.func30 rfl (Eq.mp (spec_l17Copy_eq b0_p b0_n b0_c w R) h)
def spec_IsWord (s : ByteArray) (w : World) (R : Value → World → Prop) : Prop :=
  Calls P 55 ⟨[(.string s), (.int .u8 97), (.int .u8 122), (.int .u8 48), (.int .u8 57)]⟩ w fun e wv =>
  ∃ (t4 : Bool), e = .returned (.bool t4) ∧
  (t4 = true →
    ((decide ((((s.size : Nat) : Int) : Int) ≤ 12)) = true →
      0 ≤ (0 : Int) ∧ ∃ b : UInt8, s[0]? = some b ∧ R (.bool (decide ((97 : Int) ≤ ((b.toNat : Nat) : Int)))) wv) ∧
    ((decide ((((s.size : Nat) : Int) : Int) ≤ 12)) = false →
      R (.bool false) wv)) ∧
  (t4 = false →
    (false = true →
      0 ≤ (0 : Int) ∧ ∃ b_1 : UInt8, s[0]? = some b_1 ∧ R (.bool (decide ((97 : Int) ≤ ((b_1.toNat : Nat) : Int)))) wv) ∧
    (false = false →
      R (.bool false) wv))
theorem spec_IsWord_eq (s : ByteArray) (w : World) (R : Value → World → Prop) : spec_IsWord s w R = fsem P Tryz.f37 (fun k => []) [(.string s)] R w := by kernel_rfl
theorem spec_IsWord_ret {s : ByteArray} {w : World} {R : Value → World → Prop} (h : spec_IsWord s w R) : Ret P 37 [(.string s)] w R :=
  Ret.of_fsem Tryz.func37 rfl (Eq.mp (spec_IsWord_eq s w R) h)
def spec_MoneyOk (m0 : ByteArray) (m1 : Bool) (m2_p : Option Addr) (m2_n : Nat) (m2_c : Nat) (w : World) (R : Value → World → Prop) : Prop :=
  ∀ (r : Nat) (wv : World), New w (.cells ⟨[(.string m0), (.bool m1), (.slice m2_p m2_n m2_c)]⟩ 55 (0, 0)) r wv →
  ∃ (t4 : ByteArray), Loads P 9 ((⟨r, 0, none⟩ : Addr).add 0) (.string t4) wv ∧ Calls P 56 ⟨[(.string t4)]⟩ wv fun e wv_1 =>
  ∃ (t5 : Bool), e = .returned (.bool t5) ∧
  (t5 = true →
    ∃ (t80 : Bool) (t81_p : Option Addr) (t81_n : Nat) (t81_c : Nat), Loads P 53 ((⟨r, 0, none⟩ : Addr).add 1) (.agg #[(.bool t80), (.slice t81_p t81_n t81_c)]) wv_1 ∧ Calls P 57 ⟨[(.agg #[(.bool t80), (.slice t81_p t81_n t81_c)])]⟩ wv_1 fun e_1 wv_2 =>
    ∃ (t9 : Bool), e_1 = .returned (.bool t9) ∧
    (t9 = true →
      ∃ (t14_p : Option Addr) (t14_n : Nat) (t14_c : Nat), Loads P 44 (((⟨r, 0, none⟩ : Addr).add 1).add 1) (.slice t14_p t14_n t14_c) wv_2 ∧ R (.bool (decide ((((t14_n : Nat) : Int) : Int) ≤ 4))) wv_2) ∧
    (t9 = false →
      R (.bool false) wv_2)) ∧
  (t5 = false →
    (false = true →
      ∃ (t14_p_1 : Option Addr) (t14_n_1 : Nat) (t14_c_1 : Nat), Loads P 44 (((⟨r, 0, none⟩ : Addr).add 1).add 1) (.slice t14_p_1 t14_n_1 t14_c_1) wv_1 ∧ R (.bool (decide ((((t14_n_1 : Nat) : Int) : Int) ≤ 4))) wv_1) ∧
    (false = false →
      R (.bool false) wv_1))
theorem spec_MoneyOk_eq (m0 : ByteArray) (m1 : Bool) (m2_p : Option Addr) (m2_n : Nat) (m2_c : Nat) (w : World) (R : Value → World → Prop) : spec_MoneyOk m0 m1 m2_p m2_n m2_c w R = fsem P Tryz.f38 (fun k => []) [(.agg #[(.string m0), (.bool m1), (.slice m2_p m2_n m2_c)])] R w := by kernel_rfl
theorem spec_MoneyOk_ret {m0 : ByteArray} {m1 : Bool} {m2_p : Option Addr} {m2_n : Nat} {m2_c : Nat} {w : World} {R : Value → World → Prop} (h : spec_MoneyOk m0 m1 m2_p m2_n m2_c w R) : Ret P 38 [(.agg #[(.string m0), (.bool m1), (.slice m2_p m2_n m2_c)])] w R :=
  Ret.of_fsem Tryz.func38 rfl (Eq.mp (spec_MoneyOk_eq m0 m1 m2_p m2_n m2_c w R) h)
def spec_l01In (n : Int) (lo : Int) (hi : Int) (w : World) (R : Value → World → Prop) : Prop :=
  ((decide ((lo : Int) ≤ n)) = true →
    R (.bool (decide ((n : Int) ≤ hi))) w) ∧
  ((decide ((lo : Int) ≤ n)) = false →
    R (.bool false) w)
theorem spec_l01In_eq (n : Int) (lo : Int) (hi : Int) (w : World) (R : Value → World → Prop) : spec_l01In n lo hi w R = fsem P Tryz.f39 (fun k => []) [(.int .i64 n), (.int .i64 lo), (.int .i64 hi)] R w := by kernel_rfl
theorem spec_l01In_ret {n : Int} {lo : Int} {hi : Int} {w : World} {R : Value → World → Prop} (h : spec_l01In n lo hi w R) : Ret P 39 [(.int .i64 n), (.int .i64 lo), (.int .i64 hi)] w R :=
  Ret.of_fsem Tryz.func39 rfl (Eq.mp (spec_l01In_eq n lo hi w R) h)
def spec_l18Sums_j1 (wv_1 : World) (Inv : Option Addr → Nat → Nat → Int → World → Prop) (mu : Option Addr → Nat → Nat → Int → World → Nat) (out_p : Option Addr) (out_n : Nat) (out_c : Nat) (t11 : Int) (out_p_1 : Option Addr) (out_n_1 : Nat) (out_c_1 : Nat) (W_1 : World) (R : Value → World → Prop) : Prop :=
  ∃ t76 : Int, t76 = IntKind.wrap .i64 (t11 + 1) ∧ Inv out_p_1 out_n_1 out_c_1 t76 W_1 ∧ mu out_p_1 out_n_1 out_c_1 t76 W_1 < mu out_p out_n out_c t11 wv_1
def spec_l18Sums_j2 (wv_1 : World) (Inv : Option Addr → Nat → Nat → Int → World → Prop) (mu : Option Addr → Nat → Nat → Int → World → Nat) (out_p : Option Addr) (out_n : Nat) (out_c : Nat) (t11 : Int) (r_1 : Nat) (k : Int) (W_2 : World) (R : Value → World → Prop) : Prop :=
  ∀ (r_2 : Nat) (wv_13 : World), New W_2 (.cells ⟨[]⟩ 55 (0, 0)) r_2 wv_13 →
  (0 ≤ (k : Int) ∧ (k : Int) ≤ (out_c : Nat)) ∧ ∃ (t64_p : Option Addr) (t64_n : Nat) (t64_c : Nat) (wv_14 : World), Appends P [77, 77] [(.slice (some ⟨r_2, 0, none⟩) 0 0), (.slice (sub out_p 0 out_c 3) (k.toNat - 0) (out_c - 0))] (.slice t64_p t64_n t64_c) wv_13 wv_14 ∧
  ∃ (t670 : ByteArray) (t671 : Bool) (t672_p : Option Addr) (t672_n : Nat) (t672_c : Nat), Loads P 55 ((⟨r_1, 0, none⟩ : Addr).add 1) (.agg #[(.string t670), (.bool t671), (.slice t672_p t672_n t672_c)]) wv_14 ∧ Calls P 52 ⟨[(.agg #[(.string t670), (.bool t671), (.slice t672_p t672_n t672_c)])]⟩ wv_14 fun e_1 wv_15 =>
  ∃ (t680 : ByteArray) (t681 : Bool) (t682_p : Option Addr) (t682_n : Nat) (t682_c : Nat), e_1 = .returned (.agg #[(.string t680), (.bool t681), (.slice t682_p t682_n t682_c)]) ∧
  ∀ (r_3 : Nat) (wv_16 : World), New wv_15 (.cells ⟨[(.string t680), (.bool t681), (.slice t682_p t682_n t682_c)]⟩ 55 (0, 0)) r_3 wv_16 →
  ∃ (t70_p : Option Addr) (t70_n : Nat) (t70_c : Nat) (wv_17 : World), Appends P [77, 77] [(.slice t64_p t64_n t64_c), (.slice (some ⟨r_3, 0, none⟩) 1 1)] (.slice t70_p t70_n t70_c) wv_16 wv_17 ∧
  (0 ≤ (k : Int) ∧ (k : Int) ≤ (out_n : Nat)) ∧ ∃ (t75_p : Option Addr) (t75_n : Nat) (t75_c : Nat) (wv_18 : World), Appends P [77, 77] [(.slice t70_p t70_n t70_c), (.slice (sub out_p k.toNat out_c 3) (out_n - k.toNat) (out_c - k.toNat))] (.slice t75_p t75_n t75_c) wv_17 wv_18 ∧
  spec_l18Sums_j1 wv_1 Inv mu out_p out_n out_c t11 t75_p t75_n t75_c wv_18 R
def spec_l18Sums_j0 (wv_1 : World) (Inv : Option Addr → Nat → Nat → Int → World → Prop) (mu : Option Addr → Nat → Nat → Int → World → Nat) (out_p : Option Addr) (out_n : Nat) (out_c : Nat) (t11 : Int) (r_1 : Nat) (k : Int) (t46 : Bool) (W : World) (R : Value → World → Prop) : Prop :=
  (t46 = true →
    (0 ≤ (k : Int) ∧ (k : Int) < (out_n : Nat)) ∧ ptrS out_p fun ad_3 => ∃ (t530 : Bool) (t531_p : Option Addr) (t531_n : Nat) (t531_c : Nat), (∀ wv_9, Ext W.drew wv_9 → Loads P 53 ((ad_3.add (k.toNat * 3)).add 1) (.agg #[(.bool t530), (.slice t531_p t531_n t531_c)]) wv_9) ∧ ∃ (t560 : Bool) (t561_p : Option Addr) (t561_n : Nat) (t561_c : Nat), (∀ wv_10, Ext W.drew wv_10 → Loads P 53 (((⟨r_1, 0, none⟩ : Addr).add 1).add 1) (.agg #[(.bool t560), (.slice t561_p t561_n t561_c)]) wv_10) ∧ Calls P 58 ⟨[(.agg #[(.bool t530), (.slice t531_p t531_n t531_c)]), (.agg #[(.bool t560), (.slice t561_p t561_n t561_c)])]⟩ W.drew fun e wv_11 =>
    ∃ (t570 : Bool) (t571_p : Option Addr) (t571_n : Nat) (t571_c : Nat), e = .returned (.agg #[(.bool t570), (.slice t571_p t571_n t571_c)]) ∧
    (0 ≤ (k : Int) ∧ (k : Int) < (out_n : Nat)) ∧ ptrS out_p fun ad_4 => ∃ wv_12, Stores P 53 ((ad_4.add (k.toNat * 3)).add 1) (.agg #[(.bool t570), (.slice t571_p t571_n t571_c)]) wv_11 wv_12 ∧
    spec_l18Sums_j1 wv_1 Inv mu out_p out_n out_c t11 out_p out_n out_c wv_12 R) ∧
  (t46 = false →
    spec_l18Sums_j2 wv_1 Inv mu out_p out_n out_c t11 r_1 k W R)
def spec_l18Sums_j4 (wv_1 : World) (Inv : Option Addr → Nat → Nat → Int → World → Prop) (mu : Option Addr → Nat → Nat → Int → World → Nat) (out_p : Option Addr) (out_n : Nat) (out_c : Nat) (t11 : Int) (r_1 : Nat) (k : Int) (W_4 : World) (R : Value → World → Prop) : Prop :=
  ∀ (r_4 : Nat) (wv_25 : World), New W_4 (.cells ⟨[]⟩ 55 (0, 0)) r_4 wv_25 →
  (0 ≤ (k : Int) ∧ (k : Int) ≤ (out_c : Nat)) ∧ ∃ (t64_p_1 : Option Addr) (t64_n_1 : Nat) (t64_c_1 : Nat) (wv_26 : World), Appends P [77, 77] [(.slice (some ⟨r_4, 0, none⟩) 0 0), (.slice (sub out_p 0 out_c 3) (k.toNat - 0) (out_c - 0))] (.slice t64_p_1 t64_n_1 t64_c_1) wv_25 wv_26 ∧
  ∃ (t670_1 : ByteArray) (t671_1 : Bool) (t672_p_1 : Option Addr) (t672_n_1 : Nat) (t672_c_1 : Nat), Loads P 55 ((⟨r_1, 0, none⟩ : Addr).add 1) (.agg #[(.string t670_1), (.bool t671_1), (.slice t672_p_1 t672_n_1 t672_c_1)]) wv_26 ∧ Calls P 52 ⟨[(.agg #[(.string t670_1), (.bool t671_1), (.slice t672_p_1 t672_n_1 t672_c_1)])]⟩ wv_26 fun e_3 wv_27 =>
  ∃ (t680_1 : ByteArray) (t681_1 : Bool) (t682_p_1 : Option Addr) (t682_n_1 : Nat) (t682_c_1 : Nat), e_3 = .returned (.agg #[(.string t680_1), (.bool t681_1), (.slice t682_p_1 t682_n_1 t682_c_1)]) ∧
  ∀ (r_5 : Nat) (wv_28 : World), New wv_27 (.cells ⟨[(.string t680_1), (.bool t681_1), (.slice t682_p_1 t682_n_1 t682_c_1)]⟩ 55 (0, 0)) r_5 wv_28 →
  ∃ (t70_p_1 : Option Addr) (t70_n_1 : Nat) (t70_c_1 : Nat) (wv_29 : World), Appends P [77, 77] [(.slice t64_p_1 t64_n_1 t64_c_1), (.slice (some ⟨r_5, 0, none⟩) 1 1)] (.slice t70_p_1 t70_n_1 t70_c_1) wv_28 wv_29 ∧
  (0 ≤ (k : Int) ∧ (k : Int) ≤ (out_n : Nat)) ∧ ∃ (t75_p_1 : Option Addr) (t75_n_1 : Nat) (t75_c_1 : Nat) (wv_30 : World), Appends P [77, 77] [(.slice t70_p_1 t70_n_1 t70_c_1), (.slice (sub out_p k.toNat out_c 3) (out_n - k.toNat) (out_c - k.toNat))] (.slice t75_p_1 t75_n_1 t75_c_1) wv_29 wv_30 ∧
  spec_l18Sums_j1 wv_1 Inv mu out_p out_n out_c t11 t75_p_1 t75_n_1 t75_c_1 wv_30 R
def spec_l18Sums_j3 (wv_1 : World) (Inv : Option Addr → Nat → Nat → Int → World → Prop) (mu : Option Addr → Nat → Nat → Int → World → Nat) (out_p : Option Addr) (out_n : Nat) (out_c : Nat) (t11 : Int) (r_1 : Nat) (k : Int) (t46_1 : Bool) (W_3 : World) (R : Value → World → Prop) : Prop :=
  (t46_1 = true →
    (0 ≤ (k : Int) ∧ (k : Int) < (out_n : Nat)) ∧ ptrS out_p fun ad_6 => ∃ (t530_1 : Bool) (t531_p_1 : Option Addr) (t531_n_1 : Nat) (t531_c_1 : Nat), (∀ wv_21, Ext W_3.drew wv_21 → Loads P 53 ((ad_6.add (k.toNat * 3)).add 1) (.agg #[(.bool t530_1), (.slice t531_p_1 t531_n_1 t531_c_1)]) wv_21) ∧ ∃ (t560_1 : Bool) (t561_p_1 : Option Addr) (t561_n_1 : Nat) (t561_c_1 : Nat), (∀ wv_22, Ext W_3.drew wv_22 → Loads P 53 (((⟨r_1, 0, none⟩ : Addr).add 1).add 1) (.agg #[(.bool t560_1), (.slice t561_p_1 t561_n_1 t561_c_1)]) wv_22) ∧ Calls P 58 ⟨[(.agg #[(.bool t530_1), (.slice t531_p_1 t531_n_1 t531_c_1)]), (.agg #[(.bool t560_1), (.slice t561_p_1 t561_n_1 t561_c_1)])]⟩ W_3.drew fun e_2 wv_23 =>
    ∃ (t570_1 : Bool) (t571_p_1 : Option Addr) (t571_n_1 : Nat) (t571_c_1 : Nat), e_2 = .returned (.agg #[(.bool t570_1), (.slice t571_p_1 t571_n_1 t571_c_1)]) ∧
    (0 ≤ (k : Int) ∧ (k : Int) < (out_n : Nat)) ∧ ptrS out_p fun ad_7 => ∃ wv_24, Stores P 53 ((ad_7.add (k.toNat * 3)).add 1) (.agg #[(.bool t570_1), (.slice t571_p_1 t571_n_1 t571_c_1)]) wv_23 wv_24 ∧
    spec_l18Sums_j1 wv_1 Inv mu out_p out_n out_c t11 out_p out_n out_c wv_24 R) ∧
  (t46_1 = false →
    spec_l18Sums_j4 wv_1 Inv mu out_p out_n out_c t11 r_1 k W_3 R)
def spec_l18Sums (l_p : Option Addr) (l_n : Nat) (l_c : Nat) (w : World) (R : Value → World → Prop) : Prop :=
  ∀ (r : Nat) (wv : World), New w (.cells ⟨[]⟩ 55 (0, 0)) r wv →
  ∃ (Inv : Option Addr → Nat → Nat → Int → World → Prop) (mu : Option Addr → Nat → Nat → Int → World → Nat), Inv (some ⟨r, 0, none⟩) 0 0 0 wv ∧
  ∀ (junk : Fr) (wv_1 : World) (out_p : Option Addr) (out_n : Nat) (out_c : Nat) (t11 : Int), Inv out_p out_n out_c t11 wv_1 →
    ((decide ((t11 : Int) < ((l_n : Nat) : Int))) = true →
      (0 ≤ (t11 : Int) ∧ (t11 : Int) < (l_n : Nat)) ∧ ptrS l_p fun ad => ∃ (t140 : ByteArray) (t141 : ByteArray) (t142 : Bool) (t143_p : Option Addr) (t143_n : Nat) (t143_c : Nat), Loads P 57 (ad.add (t11.toNat * 4)) (.agg #[(.string t140), (.string t141), (.bool t142), (.slice t143_p t143_n t143_c)]) wv_1 ∧ ∀ (r_1 : Nat) (wv_2 : World), New wv_1 (.cells ⟨[(.string ByteArray.empty), (.string ByteArray.empty), (.bool false), (.slice none 0 0)]⟩ 57 (0, 0)) r_1 wv_2 →
      ∃ wv_3, Stores P 57 ⟨r_1, 0, none⟩ (.agg #[(.string t140), (.string t141), (.bool t142), (.slice t143_p t143_n t143_c)]) wv_2 wv_3 ∧
      ∃ (Inv_1 : Int → World → Prop) (mu_1 : Int → World → Nat), Inv_1 0 wv_3 ∧
      ∀ (junk_1 : Fr) (wv_4 : World) (k : Int), Inv_1 k wv_4 →
        ((decide ((k : Int) < ((out_n : Nat) : Int))) = true →
          (0 ≤ (k : Int) ∧ (k : Int) < (out_n : Nat)) ∧ ptrS out_p fun ad_1 => ∃ (t24 : ByteArray), (∀ wv_5, Ext wv_4.drew wv_5 → Loads P 9 ((ad_1.add (k.toNat * 3)).add 0) (.string t24) wv_5) ∧ ∃ (t27 : ByteArray), (∀ wv_6, Ext wv_4.drew wv_6 → Loads P 9 (((⟨r_1, 0, none⟩ : Addr).add 1).add 0) (.string t27) wv_6) ∧ ((Op.bytesLess t24.toList t27.toList) = true →
            ∃ t31 : Int, t31 = IntKind.wrap .i64 (k + 1) ∧ Inv_1 t31 wv_4.drew ∧ mu_1 t31 wv_4.drew < mu_1 k wv_4) ∧
          ((Op.bytesLess t24.toList t27.toList) = false →
            ((decide ((k : Int) < ((out_n : Nat) : Int))) = true →
              (0 ≤ (k : Int) ∧ (k : Int) < (out_n : Nat)) ∧ ptrS out_p fun ad_2 => ∃ (t41 : ByteArray), (∀ wv_7, Ext wv_4.drew.drew wv_7 → Loads P 9 ((ad_2.add (k.toNat * 3)).add 0) (.string t41) wv_7) ∧ ∃ (t44 : ByteArray), (∀ wv_8, Ext wv_4.drew.drew wv_8 → Loads P 9 (((⟨r_1, 0, none⟩ : Addr).add 1).add 0) (.string t44) wv_8) ∧ spec_l18Sums_j0 wv_1 Inv mu out_p out_n out_c t11 r_1 k (decide (t41 = t44)) wv_4.drew.drew R) ∧
            ((decide ((k : Int) < ((out_n : Nat) : Int))) = false →
              spec_l18Sums_j0 wv_1 Inv mu out_p out_n out_c t11 r_1 k false wv_4.drew.drew R))) ∧
        ((decide ((k : Int) < ((out_n : Nat) : Int))) = false →
          (false = true →
            ∃ t31_1 : Int, t31_1 = IntKind.wrap .i64 (k + 1) ∧ Inv_1 t31_1 wv_4.drew ∧ mu_1 t31_1 wv_4.drew < mu_1 k wv_4) ∧
          (false = false →
            ((decide ((k : Int) < ((out_n : Nat) : Int))) = true →
              (0 ≤ (k : Int) ∧ (k : Int) < (out_n : Nat)) ∧ ptrS out_p fun ad_5 => ∃ (t41_1 : ByteArray), (∀ wv_19, Ext wv_4.drew.drew wv_19 → Loads P 9 ((ad_5.add (k.toNat * 3)).add 0) (.string t41_1) wv_19) ∧ ∃ (t44_1 : ByteArray), (∀ wv_20, Ext wv_4.drew.drew wv_20 → Loads P 9 (((⟨r_1, 0, none⟩ : Addr).add 1).add 0) (.string t44_1) wv_20) ∧ spec_l18Sums_j3 wv_1 Inv mu out_p out_n out_c t11 r_1 k (decide (t41_1 = t44_1)) wv_4.drew.drew R) ∧
            ((decide ((k : Int) < ((out_n : Nat) : Int))) = false →
              spec_l18Sums_j3 wv_1 Inv mu out_p out_n out_c t11 r_1 k false wv_4.drew.drew R)))) ∧
    ((decide ((t11 : Int) < ((l_n : Nat) : Int))) = false →
      R (.slice out_p out_n out_c) wv_1)
theorem spec_l18Sums_eq (l_p : Option Addr) (l_n : Nat) (l_c : Nat) (w : World) (R : Value → World → Prop) : spec_l18Sums l_p l_n l_c w R = fsem P Tryz.f40 (fun k => cond (Nat.beq k 4) [(3, .one .slice), (11, .one (.int .i64))] (cond (Nat.beq k 7) [(6, .one (.int .i64))] ([]))) [(.slice l_p l_n l_c)] R w := by kernel_rfl
theorem spec_l18Sums_ret {l_p : Option Addr} {l_n : Nat} {l_c : Nat} {w : World} {R : Value → World → Prop} (h : spec_l18Sums l_p l_n l_c w R) : Ret P 40 [(.slice l_p l_n l_c)] w R :=
  Ret.of_fsem Tryz.func40 rfl (Eq.mp (spec_l18Sums_eq l_p l_n l_c w R) h)
def spec_IntSign (x0 : Bool) (x1_p : Option Addr) (x1_n : Nat) (x1_c : Nat) (w : World) (R : Value → World → Prop) : Prop :=
  ∀ (r : Nat) (wv : World), New w (.cells ⟨[(.bool x0), (.slice x1_p x1_n x1_c)]⟩ 53 (0, 0)) r wv →
  ∃ (t30 : Bool) (t31_p : Option Addr) (t31_n : Nat) (t31_c : Nat), Loads P 53 ⟨r, 0, none⟩ (.agg #[(.bool t30), (.slice t31_p t31_n t31_c)]) wv ∧ Calls P 59 ⟨[(.agg #[(.bool t30), (.slice t31_p t31_n t31_c)]), (.agg #[(.bool false), (.slice none 0 0)])]⟩ wv fun e wv_1 =>
  ∃ (t5 : Int), e = .returned (.int .i64 t5) ∧
  R (.int .i64 t5) wv_1
theorem spec_IntSign_eq (x0 : Bool) (x1_p : Option Addr) (x1_n : Nat) (x1_c : Nat) (w : World) (R : Value → World → Prop) : spec_IntSign x0 x1_p x1_n x1_c w R = fsem P Tryz.f41 (fun k => []) [(.agg #[(.bool x0), (.slice x1_p x1_n x1_c)])] R w := by kernel_rfl
theorem spec_IntSign_ret {x0 : Bool} {x1_p : Option Addr} {x1_n : Nat} {x1_c : Nat} {w : World} {R : Value → World → Prop} (h : spec_IntSign x0 x1_p x1_n x1_c w R) : Ret P 41 [(.agg #[(.bool x0), (.slice x1_p x1_n x1_c)])] w R :=
  Ret.of_fsem Tryz.func41 rfl (Eq.mp (spec_IntSign_eq x0 x1_p x1_n x1_c w R) h)
def spec_MoneyAdd (m0 : ByteArray) (m1 : Bool) (m2_p : Option Addr) (m2_n : Nat) (m2_c : Nat) (n0 : ByteArray) (n1 : Bool) (n2_p : Option Addr) (n2_n : Nat) (n2_c : Nat) (w : World) (R : Value → World → Prop) : Prop :=
  ∀ (r : Nat) (wv : World), New w (.cells ⟨[(.string m0), (.bool m1), (.slice m2_p m2_n m2_c)]⟩ 55 (0, 0)) r wv →
  ∀ (r_1 : Nat) (wv_1 : World), New wv (.cells ⟨[(.string n0), (.bool n1), (.slice n2_p n2_n n2_c)]⟩ 55 (0, 0)) r_1 wv_1 →
  ∀ (r_2 : Nat) (wv_2 : World), New wv_1 (.cells ⟨[(.string ByteArray.empty), (.bool false), (.slice none 0 0)]⟩ 55 (0, 0)) r_2 wv_2 →
  ∃ (t60 : ByteArray) (t61 : Bool) (t62_p : Option Addr) (t62_n : Nat) (t62_c : Nat), Loads P 55 ⟨r, 0, none⟩ (.agg #[(.string t60), (.bool t61), (.slice t62_p t62_n t62_c)]) wv_2 ∧ ∃ (t70 : ByteArray) (t71 : Bool) (t72_p : Option Addr) (t72_n : Nat) (t72_c : Nat), Loads P 55 ⟨r_1, 0, none⟩ (.agg #[(.string t70), (.bool t71), (.slice t72_p t72_n t72_c)]) wv_2 ∧ Calls P 60 ⟨[(.agg #[(.string t60), (.bool t61), (.slice t62_p t62_n t62_c)]), (.agg #[(.string t70), (.bool t71), (.slice t72_p t72_n t72_c)])]⟩ wv_2 fun e wv_3 =>
  ∃ (t8 : Bool), e = .returned (.bool t8) ∧
  ((!t8) = true →
    ∃ wv_4, Stores P 55 ⟨r_2, 0, none⟩ (.agg #[(.string ByteArray.empty), (.bool false), (.slice none 0 0)]) wv_3 wv_4 ∧
    ∃ (r0 : ByteArray) (r1 : Bool) (r2_p : Option Addr) (r2_n : Nat) (r2_c : Nat), Loads P 55 ⟨r_2, 0, none⟩ (.agg #[(.string r0), (.bool r1), (.slice r2_p r2_n r2_c)]) wv_4 ∧ R (.tuple #[(.agg #[(.string r0), (.bool r1), (.slice r2_p r2_n r2_c)]), (.bool false)]) wv_4) ∧
  ((!t8) = false →
    ∃ (t12 : ByteArray), (∀ wv_5, Ext wv_3.drew wv_5 → Loads P 9 ((⟨r, 0, none⟩ : Addr).add 0) (.string t12) wv_5) ∧ ∃ (t140 : Bool) (t141_p : Option Addr) (t141_n : Nat) (t141_c : Nat), (∀ wv_6, Ext wv_3.drew wv_6 → Loads P 53 ((⟨r, 0, none⟩ : Addr).add 1) (.agg #[(.bool t140), (.slice t141_p t141_n t141_c)]) wv_6) ∧ ∃ (t160 : Bool) (t161_p : Option Addr) (t161_n : Nat) (t161_c : Nat), (∀ wv_7, Ext wv_3.drew wv_7 → Loads P 53 ((⟨r_1, 0, none⟩ : Addr).add 1) (.agg #[(.bool t160), (.slice t161_p t161_n t161_c)]) wv_7) ∧ Calls P 58 ⟨[(.agg #[(.bool t140), (.slice t141_p t141_n t141_c)]), (.agg #[(.bool t160), (.slice t161_p t161_n t161_c)])]⟩ wv_3.drew fun e_1 wv_8 =>
    ∃ (t170 : Bool) (t171_p : Option Addr) (t171_n : Nat) (t171_c : Nat), e_1 = .returned (.agg #[(.bool t170), (.slice t171_p t171_n t171_c)]) ∧
    Ext wv_3.drew wv_8 ∧ Calls P 61 ⟨[(.string t12), (.agg #[(.bool t170), (.slice t171_p t171_n t171_c)])]⟩ wv_8 fun e_2 wv_9 =>
    ∃ (t180 : ByteArray) (t181 : Bool) (t182_p : Option Addr) (t182_n : Nat) (t182_c : Nat) (t18 : Bool), e_2 = .returned (.tuple #[(.agg #[(.string t180), (.bool t181), (.slice t182_p t182_n t182_c)]), (.bool t18)]) ∧
    ∃ wv_10, Stores P 55 ⟨r_2, 0, none⟩ (.agg #[(.string t180), (.bool t181), (.slice t182_p t182_n t182_c)]) wv_9 wv_10 ∧
    ∃ (r0_1 : ByteArray) (r1_1 : Bool) (r2_p_1 : Option Addr) (r2_n_1 : Nat) (r2_c_1 : Nat), Loads P 55 ⟨r_2, 0, none⟩ (.agg #[(.string r0_1), (.bool r1_1), (.slice r2_p_1 r2_n_1 r2_c_1)]) wv_10 ∧ R (.tuple #[(.agg #[(.string r0_1), (.bool r1_1), (.slice r2_p_1 r2_n_1 r2_c_1)]), (.bool t18)]) wv_10)
theorem spec_MoneyAdd_eq (m0 : ByteArray) (m1 : Bool) (m2_p : Option Addr) (m2_n : Nat) (m2_c : Nat) (n0 : ByteArray) (n1 : Bool) (n2_p : Option Addr) (n2_n : Nat) (n2_c : Nat) (w : World) (R : Value → World → Prop) : spec_MoneyAdd m0 m1 m2_p m2_n m2_c n0 n1 n2_p n2_n n2_c w R = fsem P Tryz.f42 (fun k => []) [(.agg #[(.string m0), (.bool m1), (.slice m2_p m2_n m2_c)]), (.agg #[(.string n0), (.bool n1), (.slice n2_p n2_n n2_c)])] R w := by kernel_rfl
theorem spec_MoneyAdd_ret {m0 : ByteArray} {m1 : Bool} {m2_p : Option Addr} {m2_n : Nat} {m2_c : Nat} {n0 : ByteArray} {n1 : Bool} {n2_p : Option Addr} {n2_n : Nat} {n2_c : Nat} {w : World} {R : Value → World → Prop} (h : spec_MoneyAdd m0 m1 m2_p m2_n m2_c n0 n1 n2_p n2_n n2_c w R) : Ret P 42 [(.agg #[(.string m0), (.bool m1), (.slice m2_p m2_n m2_c)]), (.agg #[(.string n0), (.bool n1), (.slice n2_p n2_n n2_c)])] w R :=
  Ret.of_fsem Tryz.func42 rfl (Eq.mp (spec_MoneyAdd_eq m0 m1 m2_p m2_n m2_c n0 n1 n2_p n2_n n2_c w R) h)
def impl_BookOk (b0_p : Option Addr) (b0_n : Nat) (b0_c : Nat) (w : World) (R : Value → World → Prop) : Prop :=
  ∀ (r : Nat) (wv : World), New w (.cells ⟨[(.slice b0_p b0_n b0_c)]⟩ 31 (0, 0)) r wv →
  ∃ (t6_p : Option Addr) (t6_n : Nat) (t6_c : Nat), Loads P 29 ((⟨r, 0, none⟩ : Addr).add 0) (.slice t6_p t6_n t6_c) wv ∧ ((decide ((12 : Int) < ((t6_n : Nat) : Int))) = true →
    R (.bool false) wv) ∧
  ((decide ((12 : Int) < ((t6_n : Nat) : Int))) = false →
    ∃ (t10_p : Option Addr) (t10_n : Nat) (t10_c : Nat), Loads P 29 ((⟨r, 0, none⟩ : Addr).add 0) (.slice t10_p t10_n t10_c) wv ∧ ∃ (Inv : Int → World → Prop) (mu : Int → World → Nat), Inv 0 wv ∧
    ∀ (junk : Fr) (wv_1 : World) (t12 : Int), Inv t12 wv_1 →
      ((decide ((t12 : Int) < ((t10_n : Nat) : Int))) = true →
        (0 ≤ (t12 : Int) ∧ (t12 : Int) < (t10_n : Nat)) ∧ ptrS t10_p fun ad => ∃ (t160 : ByteArray) (t161 : ByteArray) (t162 : Bool) (t163_p : Option Addr) (t163_n : Nat) (t163_c : Nat), Loads P 59 (ad.add (t12.toNat * 4)) (.agg #[(.string t160), (.string t161), (.bool t162), (.slice t163_p t163_n t163_c)]) wv_1 ∧ ∀ (r_1 : Nat) (wv_2 : World), New wv_1 (.cells ⟨[(.string ByteArray.empty), (.string ByteArray.empty), (.bool false), (.slice none 0 0)]⟩ 59 (0, 0)) r_1 wv_2 →
        ∃ wv_3, Stores P 59 ⟨r_1, 0, none⟩ (.agg #[(.string t160), (.string t161), (.bool t162), (.slice t163_p t163_n t163_c)]) wv_2 wv_3 ∧
        ∃ (t18 : ByteArray), (∀ wv_4, Ext wv_3.drew wv_4 → Loads P 9 ((⟨r_1, 0, none⟩ : Addr).add 0) (.string t18) wv_4) ∧ Calls P 63 ⟨[(.string t18)]⟩ wv_3.drew fun e wv_5 =>
        ∃ (t19 : Bool), e = .returned (.bool t19) ∧
        ((!t19) = true →
          (true = true →
            (true = true →
              R (.bool false) wv_5) ∧
            (true = false →
              ∃ t43 : Int, t43 = IntKind.wrap .i64 (t12 + 1) ∧ Inv t43 wv_5 ∧ mu t43 wv_5 < mu t12 wv_1)) ∧
          (true = false →
            ((decide ((0 : Int) < t12)) = true →
              ∃ (t32_p : Option Addr) (t32_n : Nat) (t32_c : Nat), (∀ wv_6, Ext wv_5 wv_6 → Loads P 29 ((⟨r, 0, none⟩ : Addr).add 0) (.slice t32_p t32_n t32_c) wv_6) ∧ ∃ t34 : Int, t34 = IntKind.wrap .i64 (t12 - 1) ∧ (0 ≤ (t34 : Int) ∧ (t34 : Int) < (t32_n : Nat)) ∧ ptrS t32_p fun ad_1 => ∃ (t37 : ByteArray), (∀ wv_7, Ext wv_5 wv_7 → Loads P 9 ((ad_1.add (t34.toNat * 4)).add 0) (.string t37) wv_7) ∧ ∃ (t39 : ByteArray), (∀ wv_8, Ext wv_5 wv_8 → Loads P 9 ((⟨r_1, 0, none⟩ : Addr).add 0) (.string t39) wv_8) ∧ ((!(Op.bytesLess t37.toList t39.toList)) = true →
                R (.bool false) wv_5) ∧
              ((!(Op.bytesLess t37.toList t39.toList)) = false →
                ∃ t43_1 : Int, t43_1 = IntKind.wrap .i64 (t12 + 1) ∧ Inv t43_1 wv_5 ∧ mu t43_1 wv_5 < mu t12 wv_1)) ∧
            ((decide ((0 : Int) < t12)) = false →
              (false = true →
                R (.bool false) wv_5) ∧
              (false = false →
                ∃ t43_2 : Int, t43_2 = IntKind.wrap .i64 (t12 + 1) ∧ Inv t43_2 wv_5 ∧ mu t43_2 wv_5 < mu t12 wv_1)))) ∧
        ((!t19) = false →
          ∃ (t230 : ByteArray) (t231 : Bool) (t232_p : Option Addr) (t232_n : Nat) (t232_c : Nat), (∀ wv_9, Ext wv_5 wv_9 → Loads P 55 ((⟨r_1, 0, none⟩ : Addr).add 1) (.agg #[(.string t230), (.bool t231), (.slice t232_p t232_n t232_c)]) wv_9) ∧ Calls P 64 ⟨[(.agg #[(.string t230), (.bool t231), (.slice t232_p t232_n t232_c)])]⟩ wv_5 fun e_1 wv_10 =>
          ∃ (t24 : Bool), e_1 = .returned (.bool t24) ∧
          ((!t24) = true →
            (true = true →
              R (.bool false) wv_10) ∧
            (true = false →
              ∃ t43_3 : Int, t43_3 = IntKind.wrap .i64 (t12 + 1) ∧ Inv t43_3 wv_10 ∧ mu t43_3 wv_10 < mu t12 wv_1)) ∧
          ((!t24) = false →
            ((decide ((0 : Int) < t12)) = true →
              ∃ (t32_p_1 : Option Addr) (t32_n_1 : Nat) (t32_c_1 : Nat), (∀ wv_11, Ext wv_10 wv_11 → Loads P 29 ((⟨r, 0, none⟩ : Addr).add 0) (.slice t32_p_1 t32_n_1 t32_c_1) wv_11) ∧ ∃ t34_1 : Int, t34_1 = IntKind.wrap .i64 (t12 - 1) ∧ (0 ≤ (t34_1 : Int) ∧ (t34_1 : Int) < (t32_n_1 : Nat)) ∧ ptrS t32_p_1 fun ad_2 => ∃ (t37_1 : ByteArray), (∀ wv_12, Ext wv_10 wv_12 → Loads P 9 ((ad_2.add (t34_1.toNat * 4)).add 0) (.string t37_1) wv_12) ∧ ∃ (t39_1 : ByteArray), (∀ wv_13, Ext wv_10 wv_13 → Loads P 9 ((⟨r_1, 0, none⟩ : Addr).add 0) (.string t39_1) wv_13) ∧ ((!(Op.bytesLess t37_1.toList t39_1.toList)) = true →
                R (.bool false) wv_10) ∧
              ((!(Op.bytesLess t37_1.toList t39_1.toList)) = false →
                ∃ t43_4 : Int, t43_4 = IntKind.wrap .i64 (t12 + 1) ∧ Inv t43_4 wv_10 ∧ mu t43_4 wv_10 < mu t12 wv_1)) ∧
            ((decide ((0 : Int) < t12)) = false →
              (false = true →
                R (.bool false) wv_10) ∧
              (false = false →
                ∃ t43_5 : Int, t43_5 = IntKind.wrap .i64 (t12 + 1) ∧ Inv t43_5 wv_10 ∧ mu t43_5 wv_10 < mu t12 wv_1))))) ∧
      ((decide ((t12 : Int) < ((t10_n : Nat) : Int))) = false →
        R (.bool true) wv_1))
theorem impl_BookOk_eq (b0_p : Option Addr) (b0_n : Nat) (b0_c : Nat) (w : World) (R : Value → World → Prop) : impl_BookOk b0_p b0_n b0_c w R = fsem P Tryz.f45 (fun k => cond (Nat.beq k 5) [(12, .one (.int .i64))] ([])) [(.agg #[(.slice b0_p b0_n b0_c)])] R w := by kernel_rfl
theorem impl_BookOk_ret {b0_p : Option Addr} {b0_n : Nat} {b0_c : Nat} {w : World} {R : Value → World → Prop} (h : impl_BookOk b0_p b0_n b0_c w R) : Ret P 45 [(.agg #[(.slice b0_p b0_n b0_c)])] w R :=
  Ret.of_fsem Tryz.func45 rfl (Eq.mp (impl_BookOk_eq b0_p b0_n b0_c w R) h)
def impl_LegsOk_j0 (l_p : Option Addr) (l_n : Nat) (W : World) (R : Value → World → Prop) : Prop :=
  ∃ (Inv : Int → World → Prop) (mu : Int → World → Nat), Inv 0 W ∧
  ∀ (junk : Fr) (wv : World) (t15 : Int), Inv t15 wv →
    ((decide ((t15 : Int) < ((l_n : Nat) : Int))) = true →
      (0 ≤ (t15 : Int) ∧ (t15 : Int) < (l_n : Nat)) ∧ ptrS l_p fun ad => ∃ (t180 : ByteArray) (t181 : ByteArray) (t182 : Bool) (t183_p : Option Addr) (t183_n : Nat) (t183_c : Nat), Loads P 57 (ad.add (t15.toNat * 4)) (.agg #[(.string t180), (.string t181), (.bool t182), (.slice t183_p t183_n t183_c)]) wv ∧ ∀ (r : Nat) (wv_1 : World), New wv (.cells ⟨[(.string ByteArray.empty), (.string ByteArray.empty), (.bool false), (.slice none 0 0)]⟩ 57 (0, 0)) r wv_1 →
      ∃ wv_2, Stores P 57 ⟨r, 0, none⟩ (.agg #[(.string t180), (.string t181), (.bool t182), (.slice t183_p t183_n t183_c)]) wv_1 wv_2 ∧
      ∃ (t20 : ByteArray), Loads P 9 ((⟨r, 0, none⟩ : Addr).add 0) (.string t20) wv_2 ∧ Calls P 63 ⟨[(.string t20)]⟩ wv_2 fun e wv_3 =>
      ∃ (t21 : Bool), e = .returned (.bool t21) ∧
      ((!t21) = true →
        (true = true →
          R (.bool false) wv_3) ∧
        (true = false →
          ∃ t29 : Int, t29 = IntKind.wrap .i64 (t15 + 1) ∧ Inv t29 wv_3 ∧ mu t29 wv_3 < mu t15 wv)) ∧
      ((!t21) = false →
        ∃ (t250 : ByteArray) (t251 : Bool) (t252_p : Option Addr) (t252_n : Nat) (t252_c : Nat), Loads P 55 ((⟨r, 0, none⟩ : Addr).add 1) (.agg #[(.string t250), (.bool t251), (.slice t252_p t252_n t252_c)]) wv_3 ∧ Calls P 64 ⟨[(.agg #[(.string t250), (.bool t251), (.slice t252_p t252_n t252_c)])]⟩ wv_3 fun e_1 wv_4 =>
        ∃ (t26 : Bool), e_1 = .returned (.bool t26) ∧
        ((!t26) = true →
          R (.bool false) wv_4) ∧
        ((!t26) = false →
          ∃ t29_1 : Int, t29_1 = IntKind.wrap .i64 (t15 + 1) ∧ Inv t29_1 wv_4 ∧ mu t29_1 wv_4 < mu t15 wv))) ∧
    ((decide ((t15 : Int) < ((l_n : Nat) : Int))) = false →
      R (.bool true) wv)
def impl_LegsOk (l_p : Option Addr) (l_n : Nat) (l_c : Nat) (w : World) (R : Value → World → Prop) : Prop :=
  ((decide ((((l_n : Nat) : Int) : Int) < 1)) = true →
    (true = true →
      R (.bool false) w) ∧
    (true = false →
      impl_LegsOk_j0 l_p l_n w R)) ∧
  ((decide ((((l_n : Nat) : Int) : Int) < 1)) = false →
    ((decide ((8 : Int) < ((l_n : Nat) : Int))) = true →
      R (.bool false) w) ∧
    ((decide ((8 : Int) < ((l_n : Nat) : Int))) = false →
      impl_LegsOk_j0 l_p l_n w R))
theorem impl_LegsOk_eq (l_p : Option Addr) (l_n : Nat) (l_c : Nat) (w : World) (R : Value → World → Prop) : impl_LegsOk l_p l_n l_c w R = fsem P Tryz.f46 (fun k => cond (Nat.beq k 5) [(15, .one (.int .i64))] ([])) [(.slice l_p l_n l_c)] R w := by kernel_rfl
theorem impl_LegsOk_ret {l_p : Option Addr} {l_n : Nat} {l_c : Nat} {w : World} {R : Value → World → Prop} (h : impl_LegsOk l_p l_n l_c w R) : Ret P 46 [(.slice l_p l_n l_c)] w R :=
  Ret.of_fsem Tryz.func46 rfl (Eq.mp (impl_LegsOk_eq l_p l_n l_c w R) h)
def impl_BalanceOf (b0_p : Option Addr) (b0_n : Nat) (b0_c : Nat) (name : ByteArray) (w : World) (R : Value → World → Prop) : Prop :=
  ∀ (r : Nat) (wv : World), New w (.cells ⟨[(.slice b0_p b0_n b0_c)]⟩ 31 (0, 0)) r wv →
  ∀ (r_1 : Nat) (wv_1 : World), New wv (.cells ⟨[(.string ByteArray.empty), (.bool false), (.slice none 0 0)]⟩ 55 (0, 0)) r_1 wv_1 →
  ∃ (t70_p : Option Addr) (t70_n : Nat) (t70_c : Nat), Loads P 31 ⟨r, 0, none⟩ (.agg #[(.slice t70_p t70_n t70_c)]) wv_1 ∧ Calls P 65 ⟨[(.agg #[(.slice t70_p t70_n t70_c)]), (.string name)]⟩ wv_1 fun e wv_2 =>
  ∃ (t9 : Int), e = .returned (.int .i64 t9) ∧
  ((decide ((t9 : Int) < 0)) = true →
    ∃ wv_3, Stores P 55 ⟨r_1, 0, none⟩ (.agg #[(.string ByteArray.empty), (.bool false), (.slice none 0 0)]) wv_2 wv_3 ∧
    ∃ (r0 : ByteArray) (r1 : Bool) (r2_p : Option Addr) (r2_n : Nat) (r2_c : Nat), Loads P 55 ⟨r_1, 0, none⟩ (.agg #[(.string r0), (.bool r1), (.slice r2_p r2_n r2_c)]) wv_3 ∧ R (.tuple #[(.agg #[(.string r0), (.bool r1), (.slice r2_p r2_n r2_c)]), (.bool false)]) wv_3) ∧
  ((decide ((t9 : Int) < 0)) = false →
    ∃ (t14_p : Option Addr) (t14_n : Nat) (t14_c : Nat), Loads P 29 ((⟨r, 0, none⟩ : Addr).add 0) (.slice t14_p t14_n t14_c) wv_2 ∧ (0 ≤ (t9 : Int) ∧ (t9 : Int) < (t14_n : Nat)) ∧ ptrS t14_p fun ad => ∃ (t180 : ByteArray) (t181 : Bool) (t182_p : Option Addr) (t182_n : Nat) (t182_c : Nat), Loads P 55 ((ad.add (t9.toNat * 4)).add 1) (.agg #[(.string t180), (.bool t181), (.slice t182_p t182_n t182_c)]) wv_2 ∧ Calls P 66 ⟨[(.agg #[(.string t180), (.bool t181), (.slice t182_p t182_n t182_c)])]⟩ wv_2 fun e_1 wv_4 =>
    ∃ (t190 : ByteArray) (t191 : Bool) (t192_p : Option Addr) (t192_n : Nat) (t192_c : Nat), e_1 = .returned (.agg #[(.string t190), (.bool t191), (.slice t192_p t192_n t192_c)]) ∧
    ∃ wv_5, Stores P 55 ⟨r_1, 0, none⟩ (.agg #[(.string t190), (.bool t191), (.slice t192_p t192_n t192_c)]) wv_4 wv_5 ∧
    ∃ (r0_1 : ByteArray) (r1_1 : Bool) (r2_p_1 : Option Addr) (r2_n_1 : Nat) (r2_c_1 : Nat), Loads P 55 ⟨r_1, 0, none⟩ (.agg #[(.string r0_1), (.bool r1_1), (.slice r2_p_1 r2_n_1 r2_c_1)]) wv_5 ∧ R (.tuple #[(.agg #[(.string r0_1), (.bool r1_1), (.slice r2_p_1 r2_n_1 r2_c_1)]), (.bool true)]) wv_5)
theorem impl_BalanceOf_eq (b0_p : Option Addr) (b0_n : Nat) (b0_c : Nat) (name : ByteArray) (w : World) (R : Value → World → Prop) : impl_BalanceOf b0_p b0_n b0_c name w R = fsem P Tryz.f47 (fun k => []) [(.agg #[(.slice b0_p b0_n b0_c)]), (.string name)] R w := by kernel_rfl
theorem impl_BalanceOf_ret {b0_p : Option Addr} {b0_n : Nat} {b0_c : Nat} {name : ByteArray} {w : World} {R : Value → World → Prop} (h : impl_BalanceOf b0_p b0_n b0_c name w R) : Ret P 47 [(.agg #[(.slice b0_p b0_n b0_c)]), (.string name)] w R :=
  Ret.of_fsem Tryz.func47 rfl (Eq.mp (impl_BalanceOf_eq b0_p b0_n b0_c name w R) h)
def impl_Balanced (l_p : Option Addr) (l_n : Nat) (l_c : Nat) (w : World) (R : Value → World → Prop) : Prop :=
  Calls P 46 ⟨[(.slice l_p l_n l_c)]⟩ w fun e wv =>
  ∃ (t6 : Bool), e = .returned (.bool t6) ∧
  ((!t6) = true →
    R (.bool false) wv) ∧
  ((!t6) = false →
    Calls P 67 ⟨[(.slice l_p l_n l_c)]⟩ wv fun e_1 wv_1 =>
    ∃ (t9_p : Option Addr) (t9_n : Nat) (t9_c : Nat), e_1 = .returned (.slice t9_p t9_n t9_c) ∧
    ∃ (Inv : Int → World → Prop) (mu : Int → World → Nat), Inv 0 wv_1 ∧
    ∀ (junk : Fr) (wv_2 : World) (t11 : Int), Inv t11 wv_2 →
      ((decide ((t11 : Int) < ((t9_n : Nat) : Int))) = true →
        (0 ≤ (t11 : Int) ∧ (t11 : Int) < (t9_n : Nat)) ∧ ptrS t9_p fun ad => ∃ (t140 : ByteArray) (t141 : Bool) (t142_p : Option Addr) (t142_n : Nat) (t142_c : Nat), Loads P 55 (ad.add (t11.toNat * 3)) (.agg #[(.string t140), (.bool t141), (.slice t142_p t142_n t142_c)]) wv_2 ∧ ∀ (r : Nat) (wv_3 : World), New wv_2 (.cells ⟨[(.string ByteArray.empty), (.bool false), (.slice none 0 0)]⟩ 55 (0, 0)) r wv_3 →
        ∃ wv_4, Stores P 55 ⟨r, 0, none⟩ (.agg #[(.string t140), (.bool t141), (.slice t142_p t142_n t142_c)]) wv_3 wv_4 ∧
        ∃ (t150 : ByteArray) (t151 : Bool) (t152_p : Option Addr) (t152_n : Nat) (t152_c : Nat), Loads P 55 ⟨r, 0, none⟩ (.agg #[(.string t150), (.bool t151), (.slice t152_p t152_n t152_c)]) wv_4 ∧ Calls P 68 ⟨[(.agg #[(.string t150), (.bool t151), (.slice t152_p t152_n t152_c)])]⟩ wv_4 fun e_2 wv_5 =>
        ∃ (t16 : Bool), e_2 = .returned (.bool t16) ∧
        ((!t16) = true →
          R (.bool false) wv_5) ∧
        ((!t16) = false →
          ∃ t18 : Int, t18 = IntKind.wrap .i64 (t11 + 1) ∧ Inv t18 wv_5 ∧ mu t18 wv_5 < mu t11 wv_2)) ∧
      ((decide ((t11 : Int) < ((t9_n : Nat) : Int))) = false →
        R (.bool true) wv_2))
theorem impl_Balanced_eq (l_p : Option Addr) (l_n : Nat) (l_c : Nat) (w : World) (R : Value → World → Prop) : impl_Balanced l_p l_n l_c w R = fsem P Tryz.f48 (fun k => cond (Nat.beq k 5) [(11, .one (.int .i64))] ([])) [(.slice l_p l_n l_c)] R w := by kernel_rfl
theorem impl_Balanced_ret {l_p : Option Addr} {l_n : Nat} {l_c : Nat} {w : World} {R : Value → World → Prop} (h : impl_Balanced l_p l_n l_c w R) : Ret P 48 [(.slice l_p l_n l_c)] w R :=
  Ret.of_fsem Tryz.func48 rfl (Eq.mp (impl_Balanced_eq l_p l_n l_c w R) h)
def spec_l17Money (m0 : ByteArray) (m1 : Bool) (m2_p : Option Addr) (m2_n : Nat) (m2_c : Nat) (w : World) (R : Value → World → Prop) : Prop :=
  ∀ (r : Nat) (wv : World), New w (.cells ⟨[(.string m0), (.bool m1), (.slice m2_p m2_n m2_c)]⟩ 55 (0, 0)) r wv →
  ∀ (r_1 : Nat) (wv_1 : World), New wv (.cells ⟨[(.string ByteArray.empty), (.bool false), (.slice none 0 0)]⟩ 55 (0, 0)) r_1 wv_1 →
  ∃ (t4 : ByteArray), (∀ wv_2, Ext wv_1.drew wv_2 → Loads P 9 ((⟨r, 0, none⟩ : Addr).add 0) (.string t4) wv_2) ∧ ∃ (t7 : Bool), (∀ wv_3, Ext wv_1.drew wv_3 → Loads P 4 (((⟨r, 0, none⟩ : Addr).add 1).add 0) (.bool t7) wv_3) ∧ ∀ (r_2 : Nat) (wv_4 : World), New wv_1.drew (.cells ⟨[]⟩ 3 (0, 0)) r_2 wv_4 →
  Ext wv_1.drew wv_4 ∧ ∃ (t11_p : Option Addr) (t11_n : Nat) (t11_c : Nat), (∀ wv_5, Ext wv_1.drew wv_5 → Loads P 44 (((⟨r, 0, none⟩ : Addr).add 1).add 1) (.slice t11_p t11_n t11_c) wv_5) ∧ ∃ (t12_p : Option Addr) (t12_n : Nat) (t12_c : Nat) (wv_6 : World), Appends P [44, 44] [(.slice (some ⟨r_2, 0, none⟩) 0 0), (.slice t11_p t11_n t11_c)] (.slice t12_p t12_n t12_c) wv_4 wv_6 ∧
  Ext wv_4 wv_6 ∧ ∃ wv_7, Stores P 55 ⟨r_1, 0, none⟩ (.agg #[(.string t4), (.bool t7), (.slice t12_p t12_n t12_c)]) wv_6 wv_7 ∧
  ∃ (r0 : ByteArray) (r1 : Bool) (r2_p : Option Addr) (r2_n : Nat) (r2_c : Nat), Loads P 55 ⟨r_1, 0, none⟩ (.agg #[(.string r0), (.bool r1), (.slice r2_p r2_n r2_c)]) wv_7 ∧ R (.agg #[(.string r0), (.bool r1), (.slice r2_p r2_n r2_c)]) wv_7
theorem spec_l17Money_eq (m0 : ByteArray) (m1 : Bool) (m2_p : Option Addr) (m2_n : Nat) (m2_c : Nat) (w : World) (R : Value → World → Prop) : spec_l17Money m0 m1 m2_p m2_n m2_c w R = fsem P Tryz.f52 (fun k => []) [(.agg #[(.string m0), (.bool m1), (.slice m2_p m2_n m2_c)])] R w := by kernel_rfl
theorem spec_l17Money_ret {m0 : ByteArray} {m1 : Bool} {m2_p : Option Addr} {m2_n : Nat} {m2_c : Nat} {w : World} {R : Value → World → Prop} (h : spec_l17Money m0 m1 m2_p m2_n m2_c w R) : Ret P 52 [(.agg #[(.string m0), (.bool m1), (.slice m2_p m2_n m2_c)])] w R :=
  Ret.of_fsem Tryz.func52 rfl (Eq.mp (spec_l17Money_eq m0 m1 m2_p m2_n m2_c w R) h)
def spec_l01All (s : ByteArray) (lo : Int) (hi : Int) (low : Int) (high : Int) (w : World) (R : Value → World → Prop) : Prop :=
  ∃ (Inv : Int → World → Prop) (mu : Int → World → Nat), Inv 0 w ∧
  ∀ (junk : Fr) (wv : World) (i : Int), Inv i wv →
    ((decide ((i : Int) < ((s.size : Nat) : Int))) = true →
      0 ≤ (i : Int) ∧ ∃ b : UInt8, s[i.toNat]? = some b ∧ ((decide ((((b.toNat : Nat) : Int) : Int) < lo)) = true →
        (true = true →
          0 ≤ (i : Int) ∧ ∃ b_1 : UInt8, s[i.toNat]? = some b_1 ∧ ((decide ((((b_1.toNat : Nat) : Int) : Int) < low)) = true →
            (true = true →
              R (.bool false) wv) ∧
            (true = false →
              ∃ t17 : Int, t17 = IntKind.wrap .i64 (i + 1) ∧ Inv t17 wv ∧ mu t17 wv < mu i wv)) ∧
          ((decide ((((b_1.toNat : Nat) : Int) : Int) < low)) = false →
            0 ≤ (i : Int) ∧ ∃ b_2 : UInt8, s[i.toNat]? = some b_2 ∧ ((decide ((high : Int) < ((b_2.toNat : Nat) : Int))) = true →
              R (.bool false) wv) ∧
            ((decide ((high : Int) < ((b_2.toNat : Nat) : Int))) = false →
              ∃ t17_1 : Int, t17_1 = IntKind.wrap .i64 (i + 1) ∧ Inv t17_1 wv ∧ mu t17_1 wv < mu i wv))) ∧
        (true = false →
          (false = true →
            R (.bool false) wv) ∧
          (false = false →
            ∃ t17_2 : Int, t17_2 = IntKind.wrap .i64 (i + 1) ∧ Inv t17_2 wv ∧ mu t17_2 wv < mu i wv))) ∧
      ((decide ((((b.toNat : Nat) : Int) : Int) < lo)) = false →
        0 ≤ (i : Int) ∧ ∃ b_3 : UInt8, s[i.toNat]? = some b_3 ∧ ((decide ((hi : Int) < ((b_3.toNat : Nat) : Int))) = true →
          0 ≤ (i : Int) ∧ ∃ b_4 : UInt8, s[i.toNat]? = some b_4 ∧ ((decide ((((b_4.toNat : Nat) : Int) : Int) < low)) = true →
            (true = true →
              R (.bool false) wv) ∧
            (true = false →
              ∃ t17_3 : Int, t17_3 = IntKind.wrap .i64 (i + 1) ∧ Inv t17_3 wv ∧ mu t17_3 wv < mu i wv)) ∧
          ((decide ((((b_4.toNat : Nat) : Int) : Int) < low)) = false →
            0 ≤ (i : Int) ∧ ∃ b_5 : UInt8, s[i.toNat]? = some b_5 ∧ ((decide ((high : Int) < ((b_5.toNat : Nat) : Int))) = true →
              R (.bool false) wv) ∧
            ((decide ((high : Int) < ((b_5.toNat : Nat) : Int))) = false →
              ∃ t17_4 : Int, t17_4 = IntKind.wrap .i64 (i + 1) ∧ Inv t17_4 wv ∧ mu t17_4 wv < mu i wv))) ∧
        ((decide ((hi : Int) < ((b_3.toNat : Nat) : Int))) = false →
          (false = true →
            R (.bool false) wv) ∧
          (false = false →
            ∃ t17_5 : Int, t17_5 = IntKind.wrap .i64 (i + 1) ∧ Inv t17_5 wv ∧ mu t17_5 wv < mu i wv)))) ∧
    ((decide ((i : Int) < ((s.size : Nat) : Int))) = false →
      R (.bool (decide ((0 : Int) < ((s.size : Nat) : Int)))) wv)
theorem spec_l01All_eq (s : ByteArray) (lo : Int) (hi : Int) (low : Int) (high : Int) (w : World) (R : Value → World → Prop) : spec_l01All s lo hi low high w R = fsem P Tryz.f55 (fun k => cond (Nat.beq k 3) [(11, .one (.int .i64))] ([])) [(.string s), (.int .u8 lo), (.int .u8 hi), (.int .u8 low), (.int .u8 high)] R w := by kernel_rfl
theorem spec_l01All_ret {s : ByteArray} {lo : Int} {hi : Int} {low : Int} {high : Int} {w : World} {R : Value → World → Prop} (h : spec_l01All s lo hi low high w R) : Ret P 55 [(.string s), (.int .u8 lo), (.int .u8 hi), (.int .u8 low), (.int .u8 high)] w R :=
  Ret.of_fsem Tryz.func55 rfl (Eq.mp (spec_l01All_eq s lo hi low high w R) h)
def spec_CurKnown (code : ByteArray) (w : World) (R : Value → World → Prop) : Prop :=
  Calls P 73 ⟨[(.string code)]⟩ w fun e wv =>
  ∃ (t40 : ByteArray) (t41 : ByteArray) (t42 : Int) (t43 : Int), e = .returned (.agg #[(.string t40), (.string t41), (.int .i64 t42), (.int .i64 t43)]) ∧
  R (.bool (decide (t40 ≠ (S [])))) wv
theorem spec_CurKnown_eq (code : ByteArray) (w : World) (R : Value → World → Prop) : spec_CurKnown code w R = fsem P Tryz.f56 (fun k => []) [(.string code)] R w := by kernel_rfl
theorem spec_CurKnown_ret {code : ByteArray} {w : World} {R : Value → World → Prop} (h : spec_CurKnown code w R) : Ret P 56 [(.string code)] w R :=
  Ret.of_fsem Tryz.func56 rfl (Eq.mp (spec_CurKnown_eq code w R) h)
def spec_IntOk (x0 : Bool) (x1_p : Option Addr) (x1_n : Nat) (x1_c : Nat) (w : World) (R : Value → World → Prop) : Prop :=
  ∀ (r : Nat) (wv : World), New w (.cells ⟨[(.bool x0), (.slice x1_p x1_n x1_c)]⟩ 53 (0, 0)) r wv →
  ∃ (t4_p : Option Addr) (t4_n : Nat) (t4_c : Nat), Loads P 44 ((⟨r, 0, none⟩ : Addr).add 1) (.slice t4_p t4_n t4_c) wv ∧ Calls P 74 ⟨[(.slice t4_p t4_n t4_c)]⟩ wv fun e wv_1 =>
  ∃ (t5 : Bool), e = .returned (.bool t5) ∧
  (t5 = true →
    ∃ (t8 : Bool), Loads P 4 ((⟨r, 0, none⟩ : Addr).add 0) (.bool t8) wv_1 ∧ ((!t8) = true →
      R (.bool true) wv_1) ∧
    ((!t8) = false →
      ∃ (t12_p : Option Addr) (t12_n : Nat) (t12_c : Nat), Loads P 44 ((⟨r, 0, none⟩ : Addr).add 1) (.slice t12_p t12_n t12_c) wv_1 ∧ R (.bool (decide ((0 : Int) < ((t12_n : Nat) : Int)))) wv_1)) ∧
  (t5 = false →
    R (.bool false) wv_1)
theorem spec_IntOk_eq (x0 : Bool) (x1_p : Option Addr) (x1_n : Nat) (x1_c : Nat) (w : World) (R : Value → World → Prop) : spec_IntOk x0 x1_p x1_n x1_c w R = fsem P Tryz.f57 (fun k => []) [(.agg #[(.bool x0), (.slice x1_p x1_n x1_c)])] R w := by kernel_rfl
theorem spec_IntOk_ret {x0 : Bool} {x1_p : Option Addr} {x1_n : Nat} {x1_c : Nat} {w : World} {R : Value → World → Prop} (h : spec_IntOk x0 x1_p x1_n x1_c w R) : Ret P 57 [(.agg #[(.bool x0), (.slice x1_p x1_n x1_c)])] w R :=
  Ret.of_fsem Tryz.func57 rfl (Eq.mp (spec_IntOk_eq x0 x1_p x1_n x1_c w R) h)
end Go.Proofs.YtccpmkgiogpkhaaGreatDoor

namespace Go.Proofs.YtccpmkgiogpkhaaGreatDoor
open Go Go.Proofs.YtccpmkgiogpkhaaGreatDoor.Sx
set_option linter.unusedVariables false
set_option maxRecDepth 100000
def spec_IntAdd (x0 : Bool) (x1_p : Option Addr) (x1_n : Nat) (x1_c : Nat) (y0 : Bool) (y1_p : Option Addr) (y1_n : Nat) (y1_c : Nat) (w : World) (R : Value → World → Prop) : Prop :=
  ∀ (r : Nat) (wv : World), New w (.cells ⟨[(.bool x0), (.slice x1_p x1_n x1_c)]⟩ 53 (0, 0)) r wv →
  ∀ (r_1 : Nat) (wv_1 : World), New wv (.cells ⟨[(.bool y0), (.slice y1_p y1_n y1_c)]⟩ 53 (0, 0)) r_1 wv_1 →
  ∀ (r_2 : Nat) (wv_2 : World), New wv_1 (.cells ⟨[(.bool false), (.slice none 0 0)]⟩ 53 (0, 0)) r_2 wv_2 →
  ∃ (t50 : Bool) (t51_p : Option Addr) (t51_n : Nat) (t51_c : Nat), Loads P 53 ⟨r, 0, none⟩ (.agg #[(.bool t50), (.slice t51_p t51_n t51_c)]) wv_2 ∧ Calls P 57 ⟨[(.agg #[(.bool t50), (.slice t51_p t51_n t51_c)])]⟩ wv_2 fun e wv_3 =>
  ∃ (t6 : Bool), e = .returned (.bool t6) ∧
  ((!t6) = true →
    (true = true →
      ∃ wv_4, Stores P 53 ⟨r_2, 0, none⟩ (.agg #[(.bool false), (.slice none 0 0)]) wv_3 wv_4 ∧
      ∃ (r0 : Bool) (r1_p : Option Addr) (r1_n : Nat) (r1_c : Nat), Loads P 53 ⟨r_2, 0, none⟩ (.agg #[(.bool r0), (.slice r1_p r1_n r1_c)]) wv_4 ∧ R (.agg #[(.bool r0), (.slice r1_p r1_n r1_c)]) wv_4) ∧
    (true = false →
      ∃ (t140 : Bool) (t141_p : Option Addr) (t141_n : Nat) (t141_c : Nat), Loads P 53 ⟨r, 0, none⟩ (.agg #[(.bool t140), (.slice t141_p t141_n t141_c)]) wv_3 ∧ ∃ (t150 : Bool) (t151_p : Option Addr) (t151_n : Nat) (t151_c : Nat), Loads P 53 ⟨r_1, 0, none⟩ (.agg #[(.bool t150), (.slice t151_p t151_n t151_c)]) wv_3 ∧ Calls P 75 ⟨[(.agg #[(.bool t140), (.slice t141_p t141_n t141_c)]), (.agg #[(.bool t150), (.slice t151_p t151_n t151_c)])]⟩ wv_3 fun e_1 wv_5 =>
      ∃ (t160 : Bool) (t161_p : Option Addr) (t161_n : Nat) (t161_c : Nat), e_1 = .returned (.agg #[(.bool t160), (.slice t161_p t161_n t161_c)]) ∧
      ∃ wv_6, Stores P 53 ⟨r_2, 0, none⟩ (.agg #[(.bool t160), (.slice t161_p t161_n t161_c)]) wv_5 wv_6 ∧
      ∃ (r0_1 : Bool) (r1_p_1 : Option Addr) (r1_n_1 : Nat) (r1_c_1 : Nat), Loads P 53 ⟨r_2, 0, none⟩ (.agg #[(.bool r0_1), (.slice r1_p_1 r1_n_1 r1_c_1)]) wv_6 ∧ R (.agg #[(.bool r0_1), (.slice r1_p_1 r1_n_1 r1_c_1)]) wv_6)) ∧
  ((!t6) = false →
    ∃ (t90 : Bool) (t91_p : Option Addr) (t91_n : Nat) (t91_c : Nat), Loads P 53 ⟨r_1, 0, none⟩ (.agg #[(.bool t90), (.slice t91_p t91_n t91_c)]) wv_3 ∧ Calls P 57 ⟨[(.agg #[(.bool t90), (.slice t91_p t91_n t91_c)])]⟩ wv_3 fun e_2 wv_7 =>
    ∃ (t10 : Bool), e_2 = .returned (.bool t10) ∧
    ((!t10) = true →
      ∃ wv_8, Stores P 53 ⟨r_2, 0, none⟩ (.agg #[(.bool false), (.slice none 0 0)]) wv_7 wv_8 ∧
      ∃ (r0_2 : Bool) (r1_p_2 : Option Addr) (r1_n_2 : Nat) (r1_c_2 : Nat), Loads P 53 ⟨r_2, 0, none⟩ (.agg #[(.bool r0_2), (.slice r1_p_2 r1_n_2 r1_c_2)]) wv_8 ∧ R (.agg #[(.bool r0_2), (.slice r1_p_2 r1_n_2 r1_c_2)]) wv_8) ∧
    ((!t10) = false →
      ∃ (t140_1 : Bool) (t141_p_1 : Option Addr) (t141_n_1 : Nat) (t141_c_1 : Nat), Loads P 53 ⟨r, 0, none⟩ (.agg #[(.bool t140_1), (.slice t141_p_1 t141_n_1 t141_c_1)]) wv_7 ∧ ∃ (t150_1 : Bool) (t151_p_1 : Option Addr) (t151_n_1 : Nat) (t151_c_1 : Nat), Loads P 53 ⟨r_1, 0, none⟩ (.agg #[(.bool t150_1), (.slice t151_p_1 t151_n_1 t151_c_1)]) wv_7 ∧ Calls P 75 ⟨[(.agg #[(.bool t140_1), (.slice t141_p_1 t141_n_1 t141_c_1)]), (.agg #[(.bool t150_1), (.slice t151_p_1 t151_n_1 t151_c_1)])]⟩ wv_7 fun e_3 wv_9 =>
      ∃ (t160_1 : Bool) (t161_p_1 : Option Addr) (t161_n_1 : Nat) (t161_c_1 : Nat), e_3 = .returned (.agg #[(.bool t160_1), (.slice t161_p_1 t161_n_1 t161_c_1)]) ∧
      ∃ wv_10, Stores P 53 ⟨r_2, 0, none⟩ (.agg #[(.bool t160_1), (.slice t161_p_1 t161_n_1 t161_c_1)]) wv_9 wv_10 ∧
      ∃ (r0_3 : Bool) (r1_p_3 : Option Addr) (r1_n_3 : Nat) (r1_c_3 : Nat), Loads P 53 ⟨r_2, 0, none⟩ (.agg #[(.bool r0_3), (.slice r1_p_3 r1_n_3 r1_c_3)]) wv_10 ∧ R (.agg #[(.bool r0_3), (.slice r1_p_3 r1_n_3 r1_c_3)]) wv_10))
theorem spec_IntAdd_eq (x0 : Bool) (x1_p : Option Addr) (x1_n : Nat) (x1_c : Nat) (y0 : Bool) (y1_p : Option Addr) (y1_n : Nat) (y1_c : Nat) (w : World) (R : Value → World → Prop) : spec_IntAdd x0 x1_p x1_n x1_c y0 y1_p y1_n y1_c w R = fsem P Tryz.f58 (fun k => []) [(.agg #[(.bool x0), (.slice x1_p x1_n x1_c)]), (.agg #[(.bool y0), (.slice y1_p y1_n y1_c)])] R w := by kernel_rfl
theorem spec_IntAdd_ret {x0 : Bool} {x1_p : Option Addr} {x1_n : Nat} {x1_c : Nat} {y0 : Bool} {y1_p : Option Addr} {y1_n : Nat} {y1_c : Nat} {w : World} {R : Value → World → Prop} (h : spec_IntAdd x0 x1_p x1_n x1_c y0 y1_p y1_n y1_c w R) : Ret P 58 [(.agg #[(.bool x0), (.slice x1_p x1_n x1_c)]), (.agg #[(.bool y0), (.slice y1_p y1_n y1_c)])] w R :=
  Ret.of_fsem Tryz.func58 rfl (Eq.mp (spec_IntAdd_eq x0 x1_p x1_n x1_c y0 y1_p y1_n y1_c w R) h)
def spec_IntCmp_j1 (r : Nat) (r_1 : Nat) (t14 : Bool) (W_1 : World) (R : Value → World → Prop) : Prop :=
  (t14 = true →
    R (.int .i64 (-1)) W_1) ∧
  (t14 = false →
    ∃ (t24 : Bool), Loads P 4 ((⟨r, 0, none⟩ : Addr).add 0) (.bool t24) W_1 ∧ ((!t24) = true →
      ∃ (t28 : Bool), Loads P 4 ((⟨r_1, 0, none⟩ : Addr).add 0) (.bool t28) W_1 ∧ (t28 = true →
        R (.int .i64 1) W_1) ∧
      (t28 = false →
        ∃ (t32 : Bool), Loads P 4 ((⟨r, 0, none⟩ : Addr).add 0) (.bool t32) W_1 ∧ (t32 = true →
          ∃ (t34_p : Option Addr) (t34_n : Nat) (t34_c : Nat), Loads P 44 ((⟨r_1, 0, none⟩ : Addr).add 1) (.slice t34_p t34_n t34_c) W_1 ∧ ∃ (t36_p : Option Addr) (t36_n : Nat) (t36_c : Nat), Loads P 44 ((⟨r, 0, none⟩ : Addr).add 1) (.slice t36_p t36_n t36_c) W_1 ∧ Calls P 76 ⟨[(.slice t34_p t34_n t34_c), (.slice t36_p t36_n t36_c)]⟩ W_1 fun e_1 wv_3 =>
          ∃ (t37 : Int), e_1 = .returned (.int .i64 t37) ∧
          R (.int .i64 t37) wv_3) ∧
        (t32 = false →
          ∃ (t39_p : Option Addr) (t39_n : Nat) (t39_c : Nat), Loads P 44 ((⟨r, 0, none⟩ : Addr).add 1) (.slice t39_p t39_n t39_c) W_1 ∧ ∃ (t41_p : Option Addr) (t41_n : Nat) (t41_c : Nat), Loads P 44 ((⟨r_1, 0, none⟩ : Addr).add 1) (.slice t41_p t41_n t41_c) W_1 ∧ Calls P 76 ⟨[(.slice t39_p t39_n t39_c), (.slice t41_p t41_n t41_c)]⟩ W_1 fun e_2 wv_4 =>
          ∃ (t42 : Int), e_2 = .returned (.int .i64 t42) ∧
          R (.int .i64 t42) wv_4))) ∧
    ((!t24) = false →
      (false = true →
        R (.int .i64 1) W_1) ∧
      (false = false →
        ∃ (t32_1 : Bool), Loads P 4 ((⟨r, 0, none⟩ : Addr).add 0) (.bool t32_1) W_1 ∧ (t32_1 = true →
          ∃ (t34_p_1 : Option Addr) (t34_n_1 : Nat) (t34_c_1 : Nat), Loads P 44 ((⟨r_1, 0, none⟩ : Addr).add 1) (.slice t34_p_1 t34_n_1 t34_c_1) W_1 ∧ ∃ (t36_p_1 : Option Addr) (t36_n_1 : Nat) (t36_c_1 : Nat), Loads P 44 ((⟨r, 0, none⟩ : Addr).add 1) (.slice t36_p_1 t36_n_1 t36_c_1) W_1 ∧ Calls P 76 ⟨[(.slice t34_p_1 t34_n_1 t34_c_1), (.slice t36_p_1 t36_n_1 t36_c_1)]⟩ W_1 fun e_3 wv_5 =>
          ∃ (t37_1 : Int), e_3 = .returned (.int .i64 t37_1) ∧
          R (.int .i64 t37_1) wv_5) ∧
        (t32_1 = false →
          ∃ (t39_p_1 : Option Addr) (t39_n_1 : Nat) (t39_c_1 : Nat), Loads P 44 ((⟨r, 0, none⟩ : Addr).add 1) (.slice t39_p_1 t39_n_1 t39_c_1) W_1 ∧ ∃ (t41_p_1 : Option Addr) (t41_n_1 : Nat) (t41_c_1 : Nat), Loads P 44 ((⟨r_1, 0, none⟩ : Addr).add 1) (.slice t41_p_1 t41_n_1 t41_c_1) W_1 ∧ Calls P 76 ⟨[(.slice t39_p_1 t39_n_1 t39_c_1), (.slice t41_p_1 t41_n_1 t41_c_1)]⟩ W_1 fun e_4 wv_6 =>
          ∃ (t42_1 : Int), e_4 = .returned (.int .i64 t42_1) ∧
          R (.int .i64 t42_1) wv_6))))
def spec_IntCmp_j0 (r : Nat) (r_1 : Nat) (t5 : Bool) (W : World) (R : Value → World → Prop) : Prop :=
  (t5 = true →
    R (.int .i64 0) W) ∧
  (t5 = false →
    ∃ (t16 : Bool), Loads P 4 ((⟨r, 0, none⟩ : Addr).add 0) (.bool t16) W ∧ (t16 = true →
      ∃ (t19 : Bool), Loads P 4 ((⟨r_1, 0, none⟩ : Addr).add 0) (.bool t19) W ∧ spec_IntCmp_j1 r r_1 (!t19) W R) ∧
    (t16 = false →
      spec_IntCmp_j1 r r_1 false W R))
def spec_IntCmp (x0 : Bool) (x1_p : Option Addr) (x1_n : Nat) (x1_c : Nat) (y0 : Bool) (y1_p : Option Addr) (y1_n : Nat) (y1_c : Nat) (w : World) (R : Value → World → Prop) : Prop :=
  ∀ (r : Nat) (wv : World), New w (.cells ⟨[(.bool x0), (.slice x1_p x1_n x1_c)]⟩ 53 (0, 0)) r wv →
  ∀ (r_1 : Nat) (wv_1 : World), New wv (.cells ⟨[(.bool y0), (.slice y1_p y1_n y1_c)]⟩ 53 (0, 0)) r_1 wv_1 →
  ∃ (t60 : Bool) (t61_p : Option Addr) (t61_n : Nat) (t61_c : Nat), Loads P 53 ⟨r, 0, none⟩ (.agg #[(.bool t60), (.slice t61_p t61_n t61_c)]) wv_1 ∧ Calls P 57 ⟨[(.agg #[(.bool t60), (.slice t61_p t61_n t61_c)])]⟩ wv_1 fun e wv_2 =>
  ∃ (t7 : Bool), e = .returned (.bool t7) ∧
  ((!t7) = true →
    spec_IntCmp_j0 r r_1 true wv_2 R) ∧
  ((!t7) = false →
    ∃ (t100 : Bool) (t101_p : Option Addr) (t101_n : Nat) (t101_c : Nat), Loads P 53 ⟨r_1, 0, none⟩ (.agg #[(.bool t100), (.slice t101_p t101_n t101_c)]) wv_2 ∧ Calls P 57 ⟨[(.agg #[(.bool t100), (.slice t101_p t101_n t101_c)])]⟩ wv_2 fun e_5 wv_7 =>
    ∃ (t11 : Bool), e_5 = .returned (.bool t11) ∧
    spec_IntCmp_j0 r r_1 (!t11) wv_7 R)
theorem spec_IntCmp_eq (x0 : Bool) (x1_p : Option Addr) (x1_n : Nat) (x1_c : Nat) (y0 : Bool) (y1_p : Option Addr) (y1_n : Nat) (y1_c : Nat) (w : World) (R : Value → World → Prop) : spec_IntCmp x0 x1_p x1_n x1_c y0 y1_p y1_n y1_c w R = fsem P Tryz.f59 (fun k => []) [(.agg #[(.bool x0), (.slice x1_p x1_n x1_c)]), (.agg #[(.bool y0), (.slice y1_p y1_n y1_c)])] R w := by kernel_rfl
theorem spec_IntCmp_ret {x0 : Bool} {x1_p : Option Addr} {x1_n : Nat} {x1_c : Nat} {y0 : Bool} {y1_p : Option Addr} {y1_n : Nat} {y1_c : Nat} {w : World} {R : Value → World → Prop} (h : spec_IntCmp x0 x1_p x1_n x1_c y0 y1_p y1_n y1_c w R) : Ret P 59 [(.agg #[(.bool x0), (.slice x1_p x1_n x1_c)]), (.agg #[(.bool y0), (.slice y1_p y1_n y1_c)])] w R :=
  Ret.of_fsem Tryz.func59 rfl (Eq.mp (spec_IntCmp_eq x0 x1_p x1_n x1_c y0 y1_p y1_n y1_c w R) h)
def spec_l09Both (m0 : ByteArray) (m1 : Bool) (m2_p : Option Addr) (m2_n : Nat) (m2_c : Nat) (n0 : ByteArray) (n1 : Bool) (n2_p : Option Addr) (n2_n : Nat) (n2_c : Nat) (w : World) (R : Value → World → Prop) : Prop :=
  ∀ (r : Nat) (wv : World), New w (.cells ⟨[(.string m0), (.bool m1), (.slice m2_p m2_n m2_c)]⟩ 55 (0, 0)) r wv →
  ∀ (r_1 : Nat) (wv_1 : World), New wv (.cells ⟨[(.string n0), (.bool n1), (.slice n2_p n2_n n2_c)]⟩ 55 (0, 0)) r_1 wv_1 →
  ∃ (t50 : ByteArray) (t51 : Bool) (t52_p : Option Addr) (t52_n : Nat) (t52_c : Nat), Loads P 55 ⟨r, 0, none⟩ (.agg #[(.string t50), (.bool t51), (.slice t52_p t52_n t52_c)]) wv_1 ∧ Calls P 38 ⟨[(.agg #[(.string t50), (.bool t51), (.slice t52_p t52_n t52_c)])]⟩ wv_1 fun e wv_2 =>
  ∃ (t6 : Bool), e = .returned (.bool t6) ∧
  (t6 = true →
    ∃ (t80 : ByteArray) (t81 : Bool) (t82_p : Option Addr) (t82_n : Nat) (t82_c : Nat), Loads P 55 ⟨r_1, 0, none⟩ (.agg #[(.string t80), (.bool t81), (.slice t82_p t82_n t82_c)]) wv_2 ∧ Calls P 38 ⟨[(.agg #[(.string t80), (.bool t81), (.slice t82_p t82_n t82_c)])]⟩ wv_2 fun e_1 wv_3 =>
    ∃ (t9 : Bool), e_1 = .returned (.bool t9) ∧
    (t9 = true →
      ∃ (t13 : ByteArray), Loads P 9 ((⟨r, 0, none⟩ : Addr).add 0) (.string t13) wv_3 ∧ ∃ (t15 : ByteArray), Loads P 9 ((⟨r_1, 0, none⟩ : Addr).add 0) (.string t15) wv_3 ∧ R (.bool (decide (t13 = t15))) wv_3) ∧
    (t9 = false →
      R (.bool false) wv_3)) ∧
  (t6 = false →
    (false = true →
      ∃ (t13_1 : ByteArray), Loads P 9 ((⟨r, 0, none⟩ : Addr).add 0) (.string t13_1) wv_2 ∧ ∃ (t15_1 : ByteArray), Loads P 9 ((⟨r_1, 0, none⟩ : Addr).add 0) (.string t15_1) wv_2 ∧ R (.bool (decide (t13_1 = t15_1))) wv_2) ∧
    (false = false →
      R (.bool false) wv_2))
theorem spec_l09Both_eq (m0 : ByteArray) (m1 : Bool) (m2_p : Option Addr) (m2_n : Nat) (m2_c : Nat) (n0 : ByteArray) (n1 : Bool) (n2_p : Option Addr) (n2_n : Nat) (n2_c : Nat) (w : World) (R : Value → World → Prop) : spec_l09Both m0 m1 m2_p m2_n m2_c n0 n1 n2_p n2_n n2_c w R = fsem P Tryz.f60 (fun k => []) [(.agg #[(.string m0), (.bool m1), (.slice m2_p m2_n m2_c)]), (.agg #[(.string n0), (.bool n1), (.slice n2_p n2_n n2_c)])] R w := by kernel_rfl
theorem spec_l09Both_ret {m0 : ByteArray} {m1 : Bool} {m2_p : Option Addr} {m2_n : Nat} {m2_c : Nat} {n0 : ByteArray} {n1 : Bool} {n2_p : Option Addr} {n2_n : Nat} {n2_c : Nat} {w : World} {R : Value → World → Prop} (h : spec_l09Both m0 m1 m2_p m2_n m2_c n0 n1 n2_p n2_n n2_c w R) : Ret P 60 [(.agg #[(.string m0), (.bool m1), (.slice m2_p m2_n m2_c)]), (.agg #[(.string n0), (.bool n1), (.slice n2_p n2_n n2_c)])] w R :=
  Ret.of_fsem Tryz.func60 rfl (Eq.mp (spec_l09Both_eq m0 m1 m2_p m2_n m2_c n0 n1 n2_p n2_n n2_c w R) h)
def spec_l09Make (cur : ByteArray) (x0 : Bool) (x1_p : Option Addr) (x1_n : Nat) (x1_c : Nat) (w : World) (R : Value → World → Prop) : Prop :=
  ∀ (r : Nat) (wv : World), New w (.cells ⟨[(.bool x0), (.slice x1_p x1_n x1_c)]⟩ 53 (0, 0)) r wv →
  ∀ (r_1 : Nat) (wv_1 : World), New wv (.cells ⟨[(.string ByteArray.empty), (.bool false), (.slice none 0 0)]⟩ 55 (0, 0)) r_1 wv_1 →
  ∃ (t80 : Bool) (t81_p : Option Addr) (t81_n : Nat) (t81_c : Nat), Loads P 53 ⟨r, 0, none⟩ (.agg #[(.bool t80), (.slice t81_p t81_n t81_c)]) wv_1 ∧ ∀ (r_2 : Nat) (wv_2 : World), New wv_1 (.cells ⟨[(.string ByteArray.empty), (.bool false), (.slice none 0 0)]⟩ 55 (0, 0)) r_2 wv_2 →
  ∃ wv_3, Stores P 55 ⟨r_2, 0, none⟩ (.agg #[(.string cur), (.bool t80), (.slice t81_p t81_n t81_c)]) wv_2 wv_3 ∧
  ∃ (t100 : ByteArray) (t101 : Bool) (t102_p : Option Addr) (t102_n : Nat) (t102_c : Nat), Loads P 55 ⟨r_2, 0, none⟩ (.agg #[(.string t100), (.bool t101), (.slice t102_p t102_n t102_c)]) wv_3 ∧ Calls P 38 ⟨[(.agg #[(.string t100), (.bool t101), (.slice t102_p t102_n t102_c)])]⟩ wv_3 fun e wv_4 =>
  ∃ (t11 : Bool), e = .returned (.bool t11) ∧
  ((!t11) = true →
    ∃ wv_5, Stores P 55 ⟨r_1, 0, none⟩ (.agg #[(.string ByteArray.empty), (.bool false), (.slice none 0 0)]) wv_4 wv_5 ∧
    ∃ (r0 : ByteArray) (r1 : Bool) (r2_p : Option Addr) (r2_n : Nat) (r2_c : Nat), Loads P 55 ⟨r_1, 0, none⟩ (.agg #[(.string r0), (.bool r1), (.slice r2_p r2_n r2_c)]) wv_5 ∧ R (.tuple #[(.agg #[(.string r0), (.bool r1), (.slice r2_p r2_n r2_c)]), (.bool false)]) wv_5) ∧
  ((!t11) = false →
    ∃ (t140 : ByteArray) (t141 : Bool) (t142_p : Option Addr) (t142_n : Nat) (t142_c : Nat), Loads P 55 ⟨r_2, 0, none⟩ (.agg #[(.string t140), (.bool t141), (.slice t142_p t142_n t142_c)]) wv_4 ∧ ∃ wv_6, Stores P 55 ⟨r_1, 0, none⟩ (.agg #[(.string t140), (.bool t141), (.slice t142_p t142_n t142_c)]) wv_4 wv_6 ∧
    ∃ (r0_1 : ByteArray) (r1_1 : Bool) (r2_p_1 : Option Addr) (r2_n_1 : Nat) (r2_c_1 : Nat), Loads P 55 ⟨r_1, 0, none⟩ (.agg #[(.string r0_1), (.bool r1_1), (.slice r2_p_1 r2_n_1 r2_c_1)]) wv_6 ∧ R (.tuple #[(.agg #[(.string r0_1), (.bool r1_1), (.slice r2_p_1 r2_n_1 r2_c_1)]), (.bool true)]) wv_6)
theorem spec_l09Make_eq (cur : ByteArray) (x0 : Bool) (x1_p : Option Addr) (x1_n : Nat) (x1_c : Nat) (w : World) (R : Value → World → Prop) : spec_l09Make cur x0 x1_p x1_n x1_c w R = fsem P Tryz.f61 (fun k => []) [(.string cur), (.agg #[(.bool x0), (.slice x1_p x1_n x1_c)])] R w := by kernel_rfl
theorem spec_l09Make_ret {cur : ByteArray} {x0 : Bool} {x1_p : Option Addr} {x1_n : Nat} {x1_c : Nat} {w : World} {R : Value → World → Prop} (h : spec_l09Make cur x0 x1_p x1_n x1_c w R) : Ret P 61 [(.string cur), (.agg #[(.bool x0), (.slice x1_p x1_n x1_c)])] w R :=
  Ret.of_fsem Tryz.func61 rfl (Eq.mp (spec_l09Make_eq cur x0 x1_p x1_n x1_c w R) h)
def impl_IsWord_j0 (s : ByteArray) (W : World) (R : Value → World → Prop) : Prop :=
  ∃ (Inv : Int → World → Prop) (mu : Int → World → Nat), Inv 1 W ∧
  ∀ (junk : Fr) (wv : World) (i : Int), Inv i wv →
    ((decide ((i : Int) < ((s.size : Nat) : Int))) = true →
      0 ≤ (i : Int) ∧ ∃ b : UInt8, s[i.toNat]? = some b ∧ Calls P 78 ⟨[(.int .u8 ((b.toNat : Nat) : Int))]⟩ wv fun e wv_1 =>
      ∃ (t27 : Bool), e = .returned (.bool t27) ∧
      ((!t27) = true →
        0 ≤ (i : Int) ∧ ∃ b_1 : UInt8, s[i.toNat]? = some b_1 ∧ Calls P 79 ⟨[(.int .u8 ((b_1.toNat : Nat) : Int))]⟩ wv_1 fun e_1 wv_2 =>
        ∃ (t33 : Bool), e_1 = .returned (.bool t33) ∧
        ((!t33) = true →
          R (.bool false) wv_2) ∧
        ((!t33) = false →
          ∃ t23 : Int, t23 = IntKind.wrap .i64 (i + 1) ∧ Inv t23 wv_2 ∧ mu t23 wv_2 < mu i wv)) ∧
      ((!t27) = false →
        (false = true →
          R (.bool false) wv_1) ∧
        (false = false →
          ∃ t23_1 : Int, t23_1 = IntKind.wrap .i64 (i + 1) ∧ Inv t23_1 wv_1 ∧ mu t23_1 wv_1 < mu i wv))) ∧
    ((decide ((i : Int) < ((s.size : Nat) : Int))) = false →
      R (.bool true) wv)
def impl_IsWord (s : ByteArray) (w : World) (R : Value → World → Prop) : Prop :=
  ((decide ((((s.size : Nat) : Int) : Int) < 1)) = true →
    (true = true →
      (true = true →
        R (.bool false) w) ∧
      (true = false →
        impl_IsWord_j0 s w R)) ∧
    (true = false →
      0 ≤ (0 : Int) ∧ ∃ b_2 : UInt8, s[0]? = some b_2 ∧ Calls P 78 ⟨[(.int .u8 ((b_2.toNat : Nat) : Int))]⟩ w fun e_2 wv_3 =>
      ∃ (t15 : Bool), e_2 = .returned (.bool t15) ∧
      ((!t15) = true →
        R (.bool false) wv_3) ∧
      ((!t15) = false →
        impl_IsWord_j0 s wv_3 R))) ∧
  ((decide ((((s.size : Nat) : Int) : Int) < 1)) = false →
    ((decide ((12 : Int) < ((s.size : Nat) : Int))) = true →
      (true = true →
        R (.bool false) w) ∧
      (true = false →
        impl_IsWord_j0 s w R)) ∧
    ((decide ((12 : Int) < ((s.size : Nat) : Int))) = false →
      0 ≤ (0 : Int) ∧ ∃ b_3 : UInt8, s[0]? = some b_3 ∧ Calls P 78 ⟨[(.int .u8 ((b_3.toNat : Nat) : Int))]⟩ w fun e_3 wv_4 =>
      ∃ (t15_1 : Bool), e_3 = .returned (.bool t15_1) ∧
      ((!t15_1) = true →
        R (.bool false) wv_4) ∧
      ((!t15_1) = false →
        impl_IsWord_j0 s wv_4 R)))
theorem impl_IsWord_eq (s : ByteArray) (w : World) (R : Value → World → Prop) : impl_IsWord s w R = fsem P Tryz.f63 (fun k => cond (Nat.beq k 5) [(3, .one (.int .i64))] ([])) [(.string s)] R w := by kernel_rfl
theorem impl_IsWord_ret {s : ByteArray} {w : World} {R : Value → World → Prop} (h : impl_IsWord s w R) : Ret P 63 [(.string s)] w R :=
  Ret.of_fsem Tryz.func63 rfl (Eq.mp (impl_IsWord_eq s w R) h)
def impl_MoneyOk (m0 : ByteArray) (m1 : Bool) (m2_p : Option Addr) (m2_n : Nat) (m2_c : Nat) (w : World) (R : Value → World → Prop) : Prop :=
  ∀ (r : Nat) (wv : World), New w (.cells ⟨[(.string m0), (.bool m1), (.slice m2_p m2_n m2_c)]⟩ 55 (0, 0)) r wv →
  ∃ (t4 : ByteArray), Loads P 9 ((⟨r, 0, none⟩ : Addr).add 0) (.string t4) wv ∧ Calls P 80 ⟨[(.string t4)]⟩ wv fun e wv_1 =>
  ∃ (t5 : Bool), e = .returned (.bool t5) ∧
  (t5 = true →
    ∃ (t80 : Bool) (t81_p : Option Addr) (t81_n : Nat) (t81_c : Nat), Loads P 53 ((⟨r, 0, none⟩ : Addr).add 1) (.agg #[(.bool t80), (.slice t81_p t81_n t81_c)]) wv_1 ∧ Calls P 81 ⟨[(.agg #[(.bool t80), (.slice t81_p t81_n t81_c)])]⟩ wv_1 fun e_1 wv_2 =>
    ∃ (t9 : Bool), e_1 = .returned (.bool t9) ∧
    (t9 = true →
      ∃ (t14_p : Option Addr) (t14_n : Nat) (t14_c : Nat), Loads P 44 (((⟨r, 0, none⟩ : Addr).add 1).add 1) (.slice t14_p t14_n t14_c) wv_2 ∧ R (.bool (decide ((((t14_n : Nat) : Int) : Int) ≤ 4))) wv_2) ∧
    (t9 = false →
      R (.bool false) wv_2)) ∧
  (t5 = false →
    (false = true →
      ∃ (t14_p_1 : Option Addr) (t14_n_1 : Nat) (t14_c_1 : Nat), Loads P 44 (((⟨r, 0, none⟩ : Addr).add 1).add 1) (.slice t14_p_1 t14_n_1 t14_c_1) wv_1 ∧ R (.bool (decide ((((t14_n_1 : Nat) : Int) : Int) ≤ 4))) wv_1) ∧
    (false = false →
      R (.bool false) wv_1))
theorem impl_MoneyOk_eq (m0 : ByteArray) (m1 : Bool) (m2_p : Option Addr) (m2_n : Nat) (m2_c : Nat) (w : World) (R : Value → World → Prop) : impl_MoneyOk m0 m1 m2_p m2_n m2_c w R = fsem P Tryz.f64 (fun k => []) [(.agg #[(.string m0), (.bool m1), (.slice m2_p m2_n m2_c)])] R w := by kernel_rfl
theorem impl_MoneyOk_ret {m0 : ByteArray} {m1 : Bool} {m2_p : Option Addr} {m2_n : Nat} {m2_c : Nat} {w : World} {R : Value → World → Prop} (h : impl_MoneyOk m0 m1 m2_p m2_n m2_c w R) : Ret P 64 [(.agg #[(.string m0), (.bool m1), (.slice m2_p m2_n m2_c)])] w R :=
  Ret.of_fsem Tryz.func64 rfl (Eq.mp (impl_MoneyOk_eq m0 m1 m2_p m2_n m2_c w R) h)
def impl_AcctAt (b0_p : Option Addr) (b0_n : Nat) (b0_c : Nat) (name : ByteArray) (w : World) (R : Value → World → Prop) : Prop :=
  ∀ (r : Nat) (wv : World), New w (.cells ⟨[(.slice b0_p b0_n b0_c)]⟩ 31 (0, 0)) r wv →
  ∀ (r_1 : Nat) (wv_1 : World), New wv (.cells ⟨[(.string name)]⟩ 9 (0, 0)) r_1 wv_1 →
  ∃ (t6_p : Option Addr) (t6_n : Nat) (t6_c : Nat), Loads P 29 ((⟨r, 0, none⟩ : Addr).add 0) (.slice t6_p t6_n t6_c) wv_1 ∧ Calls P 82 ⟨[(.slice t6_p t6_n t6_c), (.func (.func 83) #[] #[(.pointer (some ⟨r_1, 0, none⟩))])]⟩ wv_1 fun e wv_2 =>
  ∃ (t8 : Int), e = .returned (.int .i64 t8) ∧
  R (.int .i64 t8) wv_2
theorem impl_AcctAt_eq (b0_p : Option Addr) (b0_n : Nat) (b0_c : Nat) (name : ByteArray) (w : World) (R : Value → World → Prop) : impl_AcctAt b0_p b0_n b0_c name w R = fsem P Tryz.f65 (fun k => []) [(.agg #[(.slice b0_p b0_n b0_c)]), (.string name)] R w := by kernel_rfl
theorem impl_AcctAt_ret {b0_p : Option Addr} {b0_n : Nat} {b0_c : Nat} {name : ByteArray} {w : World} {R : Value → World → Prop} (h : impl_AcctAt b0_p b0_n b0_c name w R) : Ret P 65 [(.agg #[(.slice b0_p b0_n b0_c)]), (.string name)] w R :=
  Ret.of_fsem Tryz.func65 rfl (Eq.mp (impl_AcctAt_eq b0_p b0_n b0_c name w R) h)
def impl_moneyCopy (m0 : ByteArray) (m1 : Bool) (m2_p : Option Addr) (m2_n : Nat) (m2_c : Nat) (w : World) (R : Value → World → Prop) : Prop :=
  ∀ (r : Nat) (wv : World), New w (.cells ⟨[(.string m0), (.bool m1), (.slice m2_p m2_n m2_c)]⟩ 55 (0, 0)) r wv →
  ∀ (r_1 : Nat) (wv_1 : World), New wv (.cells ⟨[(.string ByteArray.empty), (.bool false), (.slice none 0 0)]⟩ 55 (0, 0)) r_1 wv_1 →
  ∃ (t6_p : Option Addr) (t6_n : Nat) (t6_c : Nat), Loads P 44 (((⟨r, 0, none⟩ : Addr).add 1).add 1) (.slice t6_p t6_n t6_c) wv_1 ∧ (0 ≤ (((t6_n : Nat) : Int) : Int) ∧ (((t6_n : Nat) : Int) : Int) ≤ ((t6_n : Nat) : Int) ∧ ((8 : Nat) : Int) * ((t6_n : Nat) : Int) ≤ 281474976710656) ∧
  ∀ (r_2 : Nat) (wv_2 : World), New wv_1 (.cells ⟨zeroRow (.int .i64 0) (t6_n * 1)⟩ 3 (0, 0)) r_2 wv_2 →
  ∃ (t12_p : Option Addr) (t12_n : Nat) (t12_c : Nat), Loads P 44 (((⟨r, 0, none⟩ : Addr).add 1).add 1) (.slice t12_p t12_n t12_c) wv_2 ∧ ∃ (t13 : Int) (wv_3 : World), Copies P [44, 44] [(.slice (some ⟨r_2, 0, none⟩) t6_n t6_n), (.slice t12_p t12_n t12_c)] (.int .i64 t13) wv_2 wv_3 ∧
  ∃ (t15 : ByteArray), (∀ wv_4, Ext wv_3.drew wv_4 → Loads P 9 ((⟨r, 0, none⟩ : Addr).add 0) (.string t15) wv_4) ∧ ∃ (t18 : Bool), (∀ wv_5, Ext wv_3.drew wv_5 → Loads P 4 (((⟨r, 0, none⟩ : Addr).add 1).add 0) (.bool t18) wv_5) ∧ (0 ≤ (((t6_n : Nat) : Int) : Int) ∧ (((t6_n : Nat) : Int) : Int) ≤ (t6_n : Nat)) ∧ (0 ≤ (((t6_n : Nat) : Int) : Int) ∧ (((t6_n : Nat) : Int) : Int) ≤ (t6_n : Nat)) ∧ ∃ wv_6, Stores P 55 ⟨r_1, 0, none⟩ (.agg #[(.string t15), (.bool t18), (.slice (sub (some ⟨r_2, 0, none⟩) 0 t6_n 1) (t6_n - 0) (t6_n - 0))]) wv_3.drew wv_6 ∧
  ∃ (r0 : ByteArray) (r1 : Bool) (r2_p : Option Addr) (r2_n : Nat) (r2_c : Nat), Loads P 55 ⟨r_1, 0, none⟩ (.agg #[(.string r0), (.bool r1), (.slice r2_p r2_n r2_c)]) wv_6 ∧ R (.agg #[(.string r0), (.bool r1), (.slice r2_p r2_n r2_c)]) wv_6
theorem impl_moneyCopy_eq (m0 : ByteArray) (m1 : Bool) (m2_p : Option Addr) (m2_n : Nat) (m2_c : Nat) (w : World) (R : Value → World → Prop) : impl_moneyCopy m0 m1 m2_p m2_n m2_c w R = fsem P Tryz.f66 (fun k => []) [(.agg #[(.string m0), (.bool m1), (.slice m2_p m2_n m2_c)])] R w := by kernel_rfl
theorem impl_moneyCopy_ret {m0 : ByteArray} {m1 : Bool} {m2_p : Option Addr} {m2_n : Nat} {m2_c : Nat} {w : World} {R : Value → World → Prop} (h : impl_moneyCopy m0 m1 m2_p m2_n m2_c w R) : Ret P 66 [(.agg #[(.string m0), (.bool m1), (.slice m2_p m2_n m2_c)])] w R :=
  Ret.of_fsem Tryz.func66 rfl (Eq.mp (impl_moneyCopy_eq m0 m1 m2_p m2_n m2_c w R) h)
def impl_legSums (l_p : Option Addr) (l_n : Nat) (l_c : Nat) (w : World) (R : Value → World → Prop) : Prop :=
  ∀ (r : Nat) (wv : World), New w (.cells ⟨[(.slice none 0 0), .nilFunc]⟩ 110 (0, 0)) r wv →
  ∃ wv_1, Stores P 110 ⟨r, 0, none⟩ (.agg #[(.slice none 0 0), (.func (.func 84) #[] #[])]) wv wv_1 ∧
  ∃ (Inv : Int → World → Prop) (mu : Int → World → Nat), Inv 0 wv_1 ∧
  ∀ (junk : Fr) (wv_2 : World) (t10 : Int), Inv t10 wv_2 →
    ((decide ((t10 : Int) < ((l_n : Nat) : Int))) = true →
      (0 ≤ (t10 : Int) ∧ (t10 : Int) < (l_n : Nat)) ∧ ptrS l_p fun ad => ∃ (t130 : ByteArray) (t131 : ByteArray) (t132 : Bool) (t133_p : Option Addr) (t133_n : Nat) (t133_c : Nat), Loads P 57 (ad.add (t10.toNat * 4)) (.agg #[(.string t130), (.string t131), (.bool t132), (.slice t133_p t133_n t133_c)]) wv_2 ∧ ∀ (r_1 : Nat) (wv_3 : World), New wv_2 (.cells ⟨[(.string ByteArray.empty), (.string ByteArray.empty), (.bool false), (.slice none 0 0)]⟩ 57 (0, 0)) r_1 wv_3 →
      ∃ wv_4, Stores P 57 ⟨r_1, 0, none⟩ (.agg #[(.string t130), (.string t131), (.bool t132), (.slice t133_p t133_n t133_c)]) wv_3 wv_4 ∧
      ∃ (t16 : ByteArray), Loads P 9 (((⟨r_1, 0, none⟩ : Addr).add 1).add 0) (.string t16) wv_4 ∧ Calls P 86 ⟨[(.pointer (some ⟨r, 0, none⟩)), (.agg #[(.string t16), (.bool false), (.slice none 0 0)])]⟩ wv_4 fun e wv_5 =>
      ∃ (t18 : Option Addr), e = .returned (.pointer t18) ∧
      ptrS t18 fun ad_1 => ∃ (t230 : Bool) (t231_p : Option Addr) (t231_n : Nat) (t231_c : Nat), (∀ wv_6, Ext wv_5.drew wv_6 → Loads P 53 (ad_1.add 1) (.agg #[(.bool t230), (.slice t231_p t231_n t231_c)]) wv_6) ∧ ∃ (t260 : Bool) (t261_p : Option Addr) (t261_n : Nat) (t261_c : Nat), (∀ wv_7, Ext wv_5.drew wv_7 → Loads P 53 (((⟨r_1, 0, none⟩ : Addr).add 1).add 1) (.agg #[(.bool t260), (.slice t261_p t261_n t261_c)]) wv_7) ∧ Calls P 87 ⟨[(.agg #[(.bool t230), (.slice t231_p t231_n t231_c)]), (.agg #[(.bool t260), (.slice t261_p t261_n t261_c)])]⟩ wv_5.drew fun e_1 wv_8 =>
      ∃ (t270 : Bool) (t271_p : Option Addr) (t271_n : Nat) (t271_c : Nat), e_1 = .returned (.agg #[(.bool t270), (.slice t271_p t271_n t271_c)]) ∧
      ptrS t18 fun ad_2 => ∃ wv_9, Stores P 53 (ad_2.add 1) (.agg #[(.bool t270), (.slice t271_p t271_n t271_c)]) wv_8 wv_9 ∧
      ∃ t30 : Int, t30 = IntKind.wrap .i64 (t10 + 1) ∧ Inv t30 wv_9 ∧ mu t30 wv_9 < mu t10 wv_2) ∧
    ((decide ((t10 : Int) < ((l_n : Nat) : Int))) = false →
      ∃ (t32_p : Option Addr) (t32_n : Nat) (t32_c : Nat), Loads P 77 ((⟨r, 0, none⟩ : Addr).add 0) (.slice t32_p t32_n t32_c) wv_2 ∧ R (.slice t32_p t32_n t32_c) wv_2)
theorem impl_legSums_eq (l_p : Option Addr) (l_n : Nat) (l_c : Nat) (w : World) (R : Value → World → Prop) : impl_legSums l_p l_n l_c w R = fsem P Tryz.f67 (fun k => cond (Nat.beq k 4) [(10, .one (.int .i64))] ([])) [(.slice l_p l_n l_c)] R w := by kernel_rfl
theorem impl_legSums_ret {l_p : Option Addr} {l_n : Nat} {l_c : Nat} {w : World} {R : Value → World → Prop} (h : impl_legSums l_p l_n l_c w R) : Ret P 67 [(.slice l_p l_n l_c)] w R :=
  Ret.of_fsem Tryz.func67 rfl (Eq.mp (impl_legSums_eq l_p l_n l_c w R) h)
def impl_isZero (m0 : ByteArray) (m1 : Bool) (m2_p : Option Addr) (m2_n : Nat) (m2_c : Nat) (w : World) (R : Value → World → Prop) : Prop :=
  ∀ (r : Nat) (wv : World), New w (.cells ⟨[(.string m0), (.bool m1), (.slice m2_p m2_n m2_c)]⟩ 55 (0, 0)) r wv →
  ∃ (t40 : Bool) (t41_p : Option Addr) (t41_n : Nat) (t41_c : Nat), Loads P 53 ((⟨r, 0, none⟩ : Addr).add 1) (.agg #[(.bool t40), (.slice t41_p t41_n t41_c)]) wv ∧ Calls P 81 ⟨[(.agg #[(.bool t40), (.slice t41_p t41_n t41_c)])]⟩ wv fun e wv_1 =>
  ∃ (t5 : Bool), e = .returned (.bool t5) ∧
  (t5 = true →
    ∃ (t9_p : Option Addr) (t9_n : Nat) (t9_c : Nat), Loads P 44 (((⟨r, 0, none⟩ : Addr).add 1).add 1) (.slice t9_p t9_n t9_c) wv_1 ∧ R (.bool (decide ((((t9_n : Nat) : Int) : Int) = 0))) wv_1) ∧
  (t5 = false →
    R (.bool false) wv_1)
theorem impl_isZero_eq (m0 : ByteArray) (m1 : Bool) (m2_p : Option Addr) (m2_n : Nat) (m2_c : Nat) (w : World) (R : Value → World → Prop) : impl_isZero m0 m1 m2_p m2_n m2_c w R = fsem P Tryz.f68 (fun k => []) [(.agg #[(.string m0), (.bool m1), (.slice m2_p m2_n m2_c)])] R w := by kernel_rfl
theorem impl_isZero_ret {m0 : ByteArray} {m1 : Bool} {m2_p : Option Addr} {m2_n : Nat} {m2_c : Nat} {w : World} {R : Value → World → Prop} (h : impl_isZero m0 m1 m2_p m2_n m2_c w R) : Ret P 68 [(.agg #[(.string m0), (.bool m1), (.slice m2_p m2_n m2_c)])] w R :=
  Ret.of_fsem Tryz.func68 rfl (Eq.mp (impl_isZero_eq m0 m1 m2_p m2_n m2_c w R) h)
def impl_mustPost (b0_p : Option Addr) (b0_n : Nat) (b0_c : Nat) (l_p : Option Addr) (l_n : Nat) (l_c : Nat) (w : World) (R Z : Value → World → Prop) : Prop :=
  ∀ (r : Nat) (wv : World), New w (.cells ⟨[(.slice b0_p b0_n b0_c)]⟩ 31 (0, 0)) r wv →
  ∀ (r_1 : Nat) (wv_1 : World), New wv (.cells ⟨[(.slice none 0 0)]⟩ 31 (0, 0)) r_1 wv_1 →
  ∃ (Inv : Int → World → Prop) (mu : Int → World → Nat), Inv 0 wv_1 ∧
  ∀ (junk : Fr) (wv_2 : World) (t11 : Int), Inv t11 wv_2 →
    ((decide ((t11 : Int) < ((l_n : Nat) : Int))) = true →
      (0 ≤ (t11 : Int) ∧ (t11 : Int) < (l_n : Nat)) ∧ ptrS l_p fun ad => ∃ (t140 : ByteArray) (t141 : ByteArray) (t142 : Bool) (t143_p : Option Addr) (t143_n : Nat) (t143_c : Nat), Loads P 57 (ad.add (t11.toNat * 4)) (.agg #[(.string t140), (.string t141), (.bool t142), (.slice t143_p t143_n t143_c)]) wv_2 ∧ ∀ (r_2 : Nat) (wv_3 : World), New wv_2 (.cells ⟨[(.string ByteArray.empty), (.string ByteArray.empty), (.bool false), (.slice none 0 0)]⟩ 57 (0, 0)) r_2 wv_3 →
      ∃ wv_4, Stores P 57 ⟨r_2, 0, none⟩ (.agg #[(.string t140), (.string t141), (.bool t142), (.slice t143_p t143_n t143_c)]) wv_3 wv_4 ∧
      ∃ (t160_p : Option Addr) (t160_n : Nat) (t160_c : Nat), Loads P 31 ⟨r, 0, none⟩ (.agg #[(.slice t160_p t160_n t160_c)]) wv_4 ∧ ∃ (t18 : ByteArray), Loads P 9 ((⟨r_2, 0, none⟩ : Addr).add 0) (.string t18) wv_4 ∧ ∃ (t200 : ByteArray) (t201 : Bool) (t202_p : Option Addr) (t202_n : Nat) (t202_c : Nat), Loads P 55 ((⟨r_2, 0, none⟩ : Addr).add 1) (.agg #[(.string t200), (.bool t201), (.slice t202_p t202_n t202_c)]) wv_4 ∧ Calls P 88 ⟨[(.agg #[(.slice t160_p t160_n t160_c)]), (.string t18), (.agg #[(.string t200), (.bool t201), (.slice t202_p t202_n t202_c)])]⟩ wv_4 fun e wv_5 =>
      ∃ (t210_p : Option Addr) (t210_n : Nat) (t210_c : Nat) (t21 : Bool), e = .returned (.tuple #[(.agg #[(.slice t210_p t210_n t210_c)]), (.bool t21)]) ∧
      ∀ (r_3 : Nat) (wv_6 : World), New wv_5 (.cells ⟨[(.slice none 0 0)]⟩ 31 (0, 0)) r_3 wv_6 →
      ∃ wv_7, Stores P 31 ⟨r_3, 0, none⟩ (.agg #[(.slice t210_p t210_n t210_c)]) wv_6 wv_7 ∧
      ((!t21) = true →
        Z (.iface 3 (.int .i64 5)) wv_7) ∧
      ((!t21) = false →
        ∃ (t270_p : Option Addr) (t270_n : Nat) (t270_c : Nat), Loads P 31 ⟨r_3, 0, none⟩ (.agg #[(.slice t270_p t270_n t270_c)]) wv_7 ∧ ∃ wv_8, Stores P 31 ⟨r, 0, none⟩ (.agg #[(.slice t270_p t270_n t270_c)]) wv_7 wv_8 ∧
        ∃ t28 : Int, t28 = IntKind.wrap .i64 (t11 + 1) ∧ Inv t28 wv_8 ∧ mu t28 wv_8 < mu t11 wv_2)) ∧
    ((decide ((t11 : Int) < ((l_n : Nat) : Int))) = false →
      ∃ (t290_p : Option Addr) (t290_n : Nat) (t290_c : Nat), Loads P 31 ⟨r, 0, none⟩ (.agg #[(.slice t290_p t290_n t290_c)]) wv_2 ∧ ∃ wv_9, Stores P 31 ⟨r_1, 0, none⟩ (.agg #[(.slice t290_p t290_n t290_c)]) wv_2 wv_9 ∧
      ∃ (r0_p : Option Addr) (r0_n : Nat) (r0_c : Nat), Loads P 31 ⟨r_1, 0, none⟩ (.agg #[(.slice r0_p r0_n r0_c)]) wv_9 ∧ R (.agg #[(.slice r0_p r0_n r0_c)]) wv_9)
theorem impl_mustPost_eq (b0_p : Option Addr) (b0_n : Nat) (b0_c : Nat) (l_p : Option Addr) (l_n : Nat) (l_c : Nat) (w : World) (R Z : Value → World → Prop) : impl_mustPost b0_p b0_n b0_c l_p l_n l_c w R Z = fsemZ P Tryz.f70 (fun k => cond (Nat.beq k 3) [(11, .one (.int .i64))] ([])) [(.agg #[(.slice b0_p b0_n b0_c)]), (.slice l_p l_n l_c)] R Z w := by kernel_rfl
theorem impl_mustPost_ret {b0_p : Option Addr} {b0_n : Nat} {b0_c : Nat} {l_p : Option Addr} {l_n : Nat} {l_c : Nat} {w : World} {R Z : Value → World → Prop} (h : impl_mustPost b0_p b0_n b0_c l_p l_n l_c w R Z) : RetZ P 70 [(.agg #[(.slice b0_p b0_n b0_c)]), (.slice l_p l_n l_c)] w R Z :=
  RetZ.of_fsem Tryz.func70 rfl (Eq.mp (impl_mustPost_eq b0_p b0_n b0_c l_p l_n l_c w R Z) h)
def spec_l08Find (code : ByteArray) (w : World) (R : Value → World → Prop) : Prop :=
  ∀ (r : Nat) (wv : World), New w (.cells ⟨[(.string ByteArray.empty), (.string ByteArray.empty), (.int .i64 0), (.int .i64 0)]⟩ 99 (0, 0)) r wv →
  Calls P 90 ⟨[]⟩ wv fun e wv_1 =>
  ∃ (t5_p : Option Addr) (t5_n : Nat) (t5_c : Nat), e = .returned (.slice t5_p t5_n t5_c) ∧
  ∃ (Inv : Int → World → Prop) (mu : Int → World → Nat), Inv 0 wv_1 ∧
  ∀ (junk : Fr) (wv_2 : World) (t7 : Int), Inv t7 wv_2 →
    ((decide ((t7 : Int) < ((t5_n : Nat) : Int))) = true →
      (0 ≤ (t7 : Int) ∧ (t7 : Int) < (t5_n : Nat)) ∧ ptrS t5_p fun ad => ∃ (t100 : ByteArray) (t101 : ByteArray) (t102 : Int) (t103 : Int), Loads P 99 (ad.add (t7.toNat * 4)) (.agg #[(.string t100), (.string t101), (.int .i64 t102), (.int .i64 t103)]) wv_2 ∧ ∀ (r_1 : Nat) (wv_3 : World), New wv_2 (.cells ⟨[(.string ByteArray.empty), (.string ByteArray.empty), (.int .i64 0), (.int .i64 0)]⟩ 99 (0, 0)) r_1 wv_3 →
      ∃ wv_4, Stores P 99 ⟨r_1, 0, none⟩ (.agg #[(.string t100), (.string t101), (.int .i64 t102), (.int .i64 t103)]) wv_3 wv_4 ∧
      ∃ (t12 : ByteArray), Loads P 9 ((⟨r_1, 0, none⟩ : Addr).add 0) (.string t12) wv_4 ∧ ((decide (t12 = code)) = true →
        ∃ (t150 : ByteArray) (t151 : ByteArray) (t152 : Int) (t153 : Int), Loads P 99 ⟨r_1, 0, none⟩ (.agg #[(.string t150), (.string t151), (.int .i64 t152), (.int .i64 t153)]) wv_4 ∧ ∃ wv_5, Stores P 99 ⟨r, 0, none⟩ (.agg #[(.string t150), (.string t151), (.int .i64 t152), (.int .i64 t153)]) wv_4 wv_5 ∧
        ∃ (r0 : ByteArray) (r1 : ByteArray) (r2 : Int) (r3 : Int), Loads P 99 ⟨r, 0, none⟩ (.agg #[(.string r0), (.string r1), (.int .i64 r2), (.int .i64 r3)]) wv_5 ∧ R (.agg #[(.string r0), (.string r1), (.int .i64 r2), (.int .i64 r3)]) wv_5) ∧
      ((decide (t12 = code)) = false →
        ∃ t16 : Int, t16 = IntKind.wrap .i64 (t7 + 1) ∧ Inv t16 wv_4 ∧ mu t16 wv_4 < mu t7 wv_2)) ∧
    ((decide ((t7 : Int) < ((t5_n : Nat) : Int))) = false →
      ∃ wv_6, Stores P 99 ⟨r, 0, none⟩ (.agg #[(.string ByteArray.empty), (.string ByteArray.empty), (.int .i64 0), (.int .i64 0)]) wv_2 wv_6 ∧
      ∃ (r0_1 : ByteArray) (r1_1 : ByteArray) (r2_1 : Int) (r3_1 : Int), Loads P 99 ⟨r, 0, none⟩ (.agg #[(.string r0_1), (.string r1_1), (.int .i64 r2_1), (.int .i64 r3_1)]) wv_6 ∧ R (.agg #[(.string r0_1), (.string r1_1), (.int .i64 r2_1), (.int .i64 r3_1)]) wv_6)
theorem spec_l08Find_eq (code : ByteArray) (w : World) (R : Value → World → Prop) : spec_l08Find code w R = fsem P Tryz.f73 (fun k => cond (Nat.beq k 3) [(7, .one (.int .i64))] ([])) [(.string code)] R w := by kernel_rfl
theorem spec_l08Find_ret {code : ByteArray} {w : World} {R : Value → World → Prop} (h : spec_l08Find code w R) : Ret P 73 [(.string code)] w R :=
  Ret.of_fsem Tryz.func73 rfl (Eq.mp (spec_l08Find_eq code w R) h)
def spec_NatOk (a_p : Option Addr) (a_n : Nat) (a_c : Nat) (w : World) (R : Value → World → Prop) : Prop :=
  ∃ (Inv : Int → World → Prop) (mu : Int → World → Nat), Inv 0 w ∧
  ∀ (junk : Fr) (wv : World) (t7 : Int), Inv t7 wv →
    ((decide ((t7 : Int) < ((a_n : Nat) : Int))) = true →
      (0 ≤ (t7 : Int) ∧ (t7 : Int) < (a_n : Nat)) ∧ ptrS a_p fun ad => ∃ (t10 : Int), Loads P 3 (ad.add (t7.toNat * 1)) (.int .i64 t10) wv ∧ Calls P 39 ⟨[(.int .i64 t10), (.int .i64 0), (.int .i64 999999999)]⟩ wv fun e wv_1 =>
      ∃ (t12 : Bool), e = .returned (.bool t12) ∧
      ((!t12) = true →
        R (.bool false) wv_1) ∧
      ((!t12) = false →
        ∃ t14 : Int, t14 = IntKind.wrap .i64 (t7 + 1) ∧ Inv t14 wv_1 ∧ mu t14 wv_1 < mu t7 wv)) ∧
    ((decide ((t7 : Int) < ((a_n : Nat) : Int))) = false →
      ((decide ((((a_n : Nat) : Int) : Int) ≤ 50)) = true →
        ((decide ((((a_n : Nat) : Int) : Int) = 0)) = true →
          R (.bool true) wv) ∧
        ((decide ((((a_n : Nat) : Int) : Int) = 0)) = false →
          ∃ t26 : Int, t26 = IntKind.wrap .i64 (((a_n : Nat) : Int) - 1) ∧ (0 ≤ (t26 : Int) ∧ (t26 : Int) < (a_n : Nat)) ∧ ptrS a_p fun ad_1 => ∃ (t28 : Int), Loads P 3 (ad_1.add (t26.toNat * 1)) (.int .i64 t28) wv ∧ R (.bool (decide ((t28 : Int) ≠ 0))) wv)) ∧
      ((decide ((((a_n : Nat) : Int) : Int) ≤ 50)) = false →
        R (.bool false) wv))
theorem spec_NatOk_eq (a_p : Option Addr) (a_n : Nat) (a_c : Nat) (w : World) (R : Value → World → Prop) : spec_NatOk a_p a_n a_c w R = fsem P Tryz.f74 (fun k => cond (Nat.beq k 3) [(7, .one (.int .i64))] ([])) [(.slice a_p a_n a_c)] R w := by kernel_rfl
theorem spec_NatOk_ret {a_p : Option Addr} {a_n : Nat} {a_c : Nat} {w : World} {R : Value → World → Prop} (h : spec_NatOk a_p a_n a_c w R) : Ret P 74 [(.slice a_p a_n a_c)] w R :=
  Ret.of_fsem Tryz.func74 rfl (Eq.mp (spec_NatOk_eq a_p a_n a_c w R) h)
def spec_l04Add (x0 : Bool) (x1_p : Option Addr) (x1_n : Nat) (x1_c : Nat) (y0 : Bool) (y1_p : Option Addr) (y1_n : Nat) (y1_c : Nat) (w : World) (R : Value → World → Prop) : Prop :=
  ∀ (r : Nat) (wv : World), New w (.cells ⟨[(.bool x0), (.slice x1_p x1_n x1_c)]⟩ 53 (0, 0)) r wv →
  ∀ (r_1 : Nat) (wv_1 : World), New wv (.cells ⟨[(.bool y0), (.slice y1_p y1_n y1_c)]⟩ 53 (0, 0)) r_1 wv_1 →
  ∀ (r_2 : Nat) (wv_2 : World), New wv_1 (.cells ⟨[(.bool false), (.slice none 0 0)]⟩ 53 (0, 0)) r_2 wv_2 →
  ∃ (t6 : Bool), Loads P 4 ((⟨r, 0, none⟩ : Addr).add 0) (.bool t6) wv_2 ∧ ∃ (t8 : Bool), Loads P 4 ((⟨r_1, 0, none⟩ : Addr).add 0) (.bool t8) wv_2 ∧ ((t6 == t8) = true →
    ∃ (t11 : Bool), (∀ wv_3, Ext wv_2.drew wv_3 → Loads P 4 ((⟨r, 0, none⟩ : Addr).add 0) (.bool t11) wv_3) ∧ ∃ (t13_p : Option Addr) (t13_n : Nat) (t13_c : Nat), (∀ wv_4, Ext wv_2.drew wv_4 → Loads P 44 ((⟨r, 0, none⟩ : Addr).add 1) (.slice t13_p t13_n t13_c) wv_4) ∧ ∃ (t15_p : Option Addr) (t15_n : Nat) (t15_c : Nat), (∀ wv_5, Ext wv_2.drew wv_5 → Loads P 44 ((⟨r_1, 0, none⟩ : Addr).add 1) (.slice t15_p t15_n t15_c) wv_5) ∧ Calls P 92 ⟨[(.slice t13_p t13_n t13_c), (.slice t15_p t15_n t15_c)]⟩ wv_2.drew fun e wv_6 =>
    ∃ (t16_p : Option Addr) (t16_n : Nat) (t16_c : Nat), e = .returned (.slice t16_p t16_n t16_c) ∧
    Ext wv_2.drew wv_6 ∧ Calls P 91 ⟨[(.bool t11), (.slice t16_p t16_n t16_c)]⟩ wv_6 fun e_1 wv_7 =>
    ∃ (t170 : Bool) (t171_p : Option Addr) (t171_n : Nat) (t171_c : Nat), e_1 = .returned (.agg #[(.bool t170), (.slice t171_p t171_n t171_c)]) ∧
    ∃ wv_8, Stores P 53 ⟨r_2, 0, none⟩ (.agg #[(.bool t170), (.slice t171_p t171_n t171_c)]) wv_7 wv_8 ∧
    ∃ (r0 : Bool) (r1_p : Option Addr) (r1_n : Nat) (r1_c : Nat), Loads P 53 ⟨r_2, 0, none⟩ (.agg #[(.bool r0), (.slice r1_p r1_n r1_c)]) wv_8 ∧ R (.agg #[(.bool r0), (.slice r1_p r1_n r1_c)]) wv_8) ∧
  ((t6 == t8) = false →
    ∃ (t19_p : Option Addr) (t19_n : Nat) (t19_c : Nat), Loads P 44 ((⟨r, 0, none⟩ : Addr).add 1) (.slice t19_p t19_n t19_c) wv_2 ∧ ∃ (t21_p : Option Addr) (t21_n : Nat) (t21_c : Nat), Loads P 44 ((⟨r_1, 0, none⟩ : Addr).add 1) (.slice t21_p t21_n t21_c) wv_2 ∧ Calls P 76 ⟨[(.slice t19_p t19_n t19_c), (.slice t21_p t21_n t21_c)]⟩ wv_2 fun e_2 wv_9 =>
    ∃ (t22 : Int), e_2 = .returned (.int .i64 t22) ∧
    ((decide ((0 : Int) ≤ t22)) = true →
      ∃ (t25 : Bool), (∀ wv_10, Ext wv_9.drew wv_10 → Loads P 4 ((⟨r, 0, none⟩ : Addr).add 0) (.bool t25) wv_10) ∧ ∃ (t27_p : Option Addr) (t27_n : Nat) (t27_c : Nat), (∀ wv_11, Ext wv_9.drew wv_11 → Loads P 44 ((⟨r, 0, none⟩ : Addr).add 1) (.slice t27_p t27_n t27_c) wv_11) ∧ ∃ (t29_p : Option Addr) (t29_n : Nat) (t29_c : Nat), (∀ wv_12, Ext wv_9.drew wv_12 → Loads P 44 ((⟨r_1, 0, none⟩ : Addr).add 1) (.slice t29_p t29_n t29_c) wv_12) ∧ Calls P 93 ⟨[(.slice t27_p t27_n t27_c), (.slice t29_p t29_n t29_c)]⟩ wv_9.drew fun e_3 wv_13 =>
      ∃ (t30_p : Option Addr) (t30_n : Nat) (t30_c : Nat), e_3 = .returned (.slice t30_p t30_n t30_c) ∧
      Ext wv_9.drew wv_13 ∧ Calls P 91 ⟨[(.bool t25), (.slice t30_p t30_n t30_c)]⟩ wv_13 fun e_4 wv_14 =>
      ∃ (t310 : Bool) (t311_p : Option Addr) (t311_n : Nat) (t311_c : Nat), e_4 = .returned (.agg #[(.bool t310), (.slice t311_p t311_n t311_c)]) ∧
      ∃ wv_15, Stores P 53 ⟨r_2, 0, none⟩ (.agg #[(.bool t310), (.slice t311_p t311_n t311_c)]) wv_14 wv_15 ∧
      ∃ (r0_1 : Bool) (r1_p_1 : Option Addr) (r1_n_1 : Nat) (r1_c_1 : Nat), Loads P 53 ⟨r_2, 0, none⟩ (.agg #[(.bool r0_1), (.slice r1_p_1 r1_n_1 r1_c_1)]) wv_15 ∧ R (.agg #[(.bool r0_1), (.slice r1_p_1 r1_n_1 r1_c_1)]) wv_15) ∧
    ((decide ((0 : Int) ≤ t22)) = false →
      ∃ (t33 : Bool), (∀ wv_16, Ext wv_9.drew wv_16 → Loads P 4 ((⟨r_1, 0, none⟩ : Addr).add 0) (.bool t33) wv_16) ∧ ∃ (t35_p : Option Addr) (t35_n : Nat) (t35_c : Nat), (∀ wv_17, Ext wv_9.drew wv_17 → Loads P 44 ((⟨r_1, 0, none⟩ : Addr).add 1) (.slice t35_p t35_n t35_c) wv_17) ∧ ∃ (t37_p : Option Addr) (t37_n : Nat) (t37_c : Nat), (∀ wv_18, Ext wv_9.drew wv_18 → Loads P 44 ((⟨r, 0, none⟩ : Addr).add 1) (.slice t37_p t37_n t37_c) wv_18) ∧ Calls P 93 ⟨[(.slice t35_p t35_n t35_c), (.slice t37_p t37_n t37_c)]⟩ wv_9.drew fun e_5 wv_19 =>
      ∃ (t38_p : Option Addr) (t38_n : Nat) (t38_c : Nat), e_5 = .returned (.slice t38_p t38_n t38_c) ∧
      Ext wv_9.drew wv_19 ∧ Calls P 91 ⟨[(.bool t33), (.slice t38_p t38_n t38_c)]⟩ wv_19 fun e_6 wv_20 =>
      ∃ (t390 : Bool) (t391_p : Option Addr) (t391_n : Nat) (t391_c : Nat), e_6 = .returned (.agg #[(.bool t390), (.slice t391_p t391_n t391_c)]) ∧
      ∃ wv_21, Stores P 53 ⟨r_2, 0, none⟩ (.agg #[(.bool t390), (.slice t391_p t391_n t391_c)]) wv_20 wv_21 ∧
      ∃ (r0_2 : Bool) (r1_p_2 : Option Addr) (r1_n_2 : Nat) (r1_c_2 : Nat), Loads P 53 ⟨r_2, 0, none⟩ (.agg #[(.bool r0_2), (.slice r1_p_2 r1_n_2 r1_c_2)]) wv_21 ∧ R (.agg #[(.bool r0_2), (.slice r1_p_2 r1_n_2 r1_c_2)]) wv_21))
theorem spec_l04Add_eq (x0 : Bool) (x1_p : Option Addr) (x1_n : Nat) (x1_c : Nat) (y0 : Bool) (y1_p : Option Addr) (y1_n : Nat) (y1_c : Nat) (w : World) (R : Value → World → Prop) : spec_l04Add x0 x1_p x1_n x1_c y0 y1_p y1_n y1_c w R = fsem P Tryz.f75 (fun k => []) [(.agg #[(.bool x0), (.slice x1_p x1_n x1_c)]), (.agg #[(.bool y0), (.slice y1_p y1_n y1_c)])] R w := by kernel_rfl
theorem spec_l04Add_ret {x0 : Bool} {x1_p : Option Addr} {x1_n : Nat} {x1_c : Nat} {y0 : Bool} {y1_p : Option Addr} {y1_n : Nat} {y1_c : Nat} {w : World} {R : Value → World → Prop} (h : spec_l04Add x0 x1_p x1_n x1_c y0 y1_p y1_n y1_c w R) : Ret P 75 [(.agg #[(.bool x0), (.slice x1_p x1_n x1_c)]), (.agg #[(.bool y0), (.slice y1_p y1_n y1_c)])] w R :=
  Ret.of_fsem Tryz.func75 rfl (Eq.mp (spec_l04Add_eq x0 x1_p x1_n x1_c y0 y1_p y1_n y1_c w R) h)
def spec_l02Cmp (a_p : Option Addr) (a_n : Nat) (a_c : Nat) (b_p : Option Addr) (b_n : Nat) (b_c : Nat) (w : World) (R : Value → World → Prop) : Prop :=
  ((decide ((((a_n : Nat) : Int) : Int) ≠ ((b_n : Nat) : Int))) = true →
    ((decide ((((a_n : Nat) : Int) : Int) < ((b_n : Nat) : Int))) = true →
      R (.int .i64 (-1)) w) ∧
    ((decide ((((a_n : Nat) : Int) : Int) < ((b_n : Nat) : Int))) = false →
      R (.int .i64 1) w)) ∧
  ((decide ((((a_n : Nat) : Int) : Int) ≠ ((b_n : Nat) : Int))) = false →
    ∃ t18 : Int, t18 = IntKind.wrap .i64 (((a_n : Nat) : Int) - 1) ∧ ∃ (Inv : Int → World → Prop) (mu : Int → World → Nat), Inv t18 w ∧
    ∀ (junk : Fr) (wv : World) (i : Int), Inv i wv →
      ((decide ((0 : Int) ≤ i)) = true →
        (0 ≤ (i : Int) ∧ (i : Int) < (a_n : Nat)) ∧ ptrS a_p fun ad => ∃ (t26 : Int), (∀ wv_1, Ext wv.drew wv_1 → Loads P 3 (ad.add (i.toNat * 1)) (.int .i64 t26) wv_1) ∧ (0 ≤ (i : Int) ∧ (i : Int) < (b_n : Nat)) ∧ ptrS b_p fun ad_1 => ∃ (t30 : Int), (∀ wv_2, Ext wv.drew wv_2 → Loads P 3 (ad_1.add (i.toNat * 1)) (.int .i64 t30) wv_2) ∧ ((decide ((t26 : Int) < t30)) = true →
          R (.int .i64 (-1)) wv.drew) ∧
        ((decide ((t26 : Int) < t30)) = false →
          (0 ≤ (i : Int) ∧ (i : Int) < (a_n : Nat)) ∧ ptrS a_p fun ad_2 => ∃ (t35 : Int), (∀ wv_3, Ext wv.drew.drew wv_3 → Loads P 3 (ad_2.add (i.toNat * 1)) (.int .i64 t35) wv_3) ∧ (0 ≤ (i : Int) ∧ (i : Int) < (b_n : Nat)) ∧ ptrS b_p fun ad_3 => ∃ (t39 : Int), (∀ wv_4, Ext wv.drew.drew wv_4 → Loads P 3 (ad_3.add (i.toNat * 1)) (.int .i64 t39) wv_4) ∧ ((decide ((t39 : Int) < t35)) = true →
            R (.int .i64 1) wv.drew.drew) ∧
          ((decide ((t39 : Int) < t35)) = false →
            ∃ t22 : Int, t22 = IntKind.wrap .i64 (i - 1) ∧ Inv t22 wv.drew.drew ∧ mu t22 wv.drew.drew < mu i wv))) ∧
      ((decide ((0 : Int) ≤ i)) = false →
        R (.int .i64 0) wv))
theorem spec_l02Cmp_eq (a_p : Option Addr) (a_n : Nat) (a_c : Nat) (b_p : Option Addr) (b_n : Nat) (b_c : Nat) (w : World) (R : Value → World → Prop) : spec_l02Cmp a_p a_n a_c b_p b_n b_c w R = fsem P Tryz.f76 (fun k => cond (Nat.beq k 7) [(5, .one (.int .i64))] ([])) [(.slice a_p a_n a_c), (.slice b_p b_n b_c)] R w := by kernel_rfl
theorem spec_l02Cmp_ret {a_p : Option Addr} {a_n : Nat} {a_c : Nat} {b_p : Option Addr} {b_n : Nat} {b_c : Nat} {w : World} {R : Value → World → Prop} (h : spec_l02Cmp a_p a_n a_c b_p b_n b_c w R) : Ret P 76 [(.slice a_p a_n a_c), (.slice b_p b_n b_c)] w R :=
  Ret.of_fsem Tryz.func76 rfl (Eq.mp (spec_l02Cmp_eq a_p a_n a_c b_p b_n b_c w R) h)
def impl_isLower (c : Int) (w : World) (R : Value → World → Prop) : Prop :=
  ((decide ((97 : Int) ≤ c)) = true →
    R (.bool (decide ((c : Int) ≤ 122))) w) ∧
  ((decide ((97 : Int) ≤ c)) = false →
    R (.bool false) w)
theorem impl_isLower_eq (c : Int) (w : World) (R : Value → World → Prop) : impl_isLower c w R = fsem P Tryz.f78 (fun k => []) [(.int .u8 c)] R w := by kernel_rfl
theorem impl_isLower_ret {c : Int} {w : World} {R : Value → World → Prop} (h : impl_isLower c w R) : Ret P 78 [(.int .u8 c)] w R :=
  Ret.of_fsem Tryz.func78 rfl (Eq.mp (impl_isLower_eq c w R) h)
def impl_isDigit (c : Int) (w : World) (R : Value → World → Prop) : Prop :=
  ((decide ((48 : Int) ≤ c)) = true →
    R (.bool (decide ((c : Int) ≤ 57))) w) ∧
  ((decide ((48 : Int) ≤ c)) = false →
    R (.bool false) w)
theorem impl_isDigit_eq (c : Int) (w : World) (R : Value → World → Prop) : impl_isDigit c w R = fsem P Tryz.f79 (fun k => []) [(.int .u8 c)] R w := by kernel_rfl
theorem impl_isDigit_ret {c : Int} {w : World} {R : Value → World → Prop} (h : impl_isDigit c w R) : Ret P 79 [(.int .u8 c)] w R :=
  Ret.of_fsem Tryz.func79 rfl (Eq.mp (impl_isDigit_eq c w R) h)
def impl_CurKnown (code : ByteArray) (w : World) (R : Value → World → Prop) : Prop :=
  Calls P 94 ⟨[(.string code)]⟩ w fun e wv =>
  ∃ (t70 : ByteArray) (t71 : ByteArray) (t72 : Int) (t73 : Int) (t7 : Bool), e = .returned (.tuple #[(.agg #[(.string t70), (.string t71), (.int .i64 t72), (.int .i64 t73)]), (.bool t7)]) ∧
  ∀ (r : Nat) (wv_1 : World), New wv (.cells ⟨[(.string ByteArray.empty), (.string ByteArray.empty), (.int .i64 0), (.int .i64 0)]⟩ 119 (0, 0)) r wv_1 →
  ∃ wv_2, Stores P 119 ⟨r, 0, none⟩ (.agg #[(.string t70), (.string t71), (.int .i64 t72), (.int .i64 t73)]) wv_1 wv_2 ∧
  R (.bool t7) wv_2
theorem impl_CurKnown_eq (code : ByteArray) (w : World) (R : Value → World → Prop) : impl_CurKnown code w R = fsem P Tryz.f80 (fun k => []) [(.string code)] R w := by kernel_rfl
theorem impl_CurKnown_ret {code : ByteArray} {w : World} {R : Value → World → Prop} (h : impl_CurKnown code w R) : Ret P 80 [(.string code)] w R :=
  Ret.of_fsem Tryz.func80 rfl (Eq.mp (impl_CurKnown_eq code w R) h)
def impl_IntOk (x0 : Bool) (x1_p : Option Addr) (x1_n : Nat) (x1_c : Nat) (w : World) (R : Value → World → Prop) : Prop :=
  ∀ (r : Nat) (wv : World), New w (.cells ⟨[(.bool x0), (.slice x1_p x1_n x1_c)]⟩ 53 (0, 0)) r wv →
  ∃ (t4_p : Option Addr) (t4_n : Nat) (t4_c : Nat), Loads P 44 ((⟨r, 0, none⟩ : Addr).add 1) (.slice t4_p t4_n t4_c) wv ∧ Calls P 95 ⟨[(.slice t4_p t4_n t4_c)]⟩ wv fun e wv_1 =>
  ∃ (t5 : Bool), e = .returned (.bool t5) ∧
  (t5 = true →
    ∃ (t8 : Bool), Loads P 4 ((⟨r, 0, none⟩ : Addr).add 0) (.bool t8) wv_1 ∧ ((!t8) = true →
      R (.bool true) wv_1) ∧
    ((!t8) = false →
      ∃ (t12_p : Option Addr) (t12_n : Nat) (t12_c : Nat), Loads P 44 ((⟨r, 0, none⟩ : Addr).add 1) (.slice t12_p t12_n t12_c) wv_1 ∧ R (.bool (decide ((0 : Int) < ((t12_n : Nat) : Int)))) wv_1)) ∧
  (t5 = false →
    R (.bool false) wv_1)
theorem impl_IntOk_eq (x0 : Bool) (x1_p : Option Addr) (x1_n : Nat) (x1_c : Nat) (w : World) (R : Value → World → Prop) : impl_IntOk x0 x1_p x1_n x1_c w R = fsem P Tryz.f81 (fun k => []) [(.agg #[(.bool x0), (.slice x1_p x1_n x1_c)])] R w := by kernel_rfl
theorem impl_IntOk_ret {x0 : Bool} {x1_p : Option Addr} {x1_n : Nat} {x1_c : Nat} {w : World} {R : Value → World → Prop} (h : impl_IntOk x0 x1_p x1_n x1_c w R) : Ret P 81 [(.agg #[(.bool x0), (.slice x1_p x1_n x1_c)])] w R :=
  Ret.of_fsem Tryz.func81 rfl (Eq.mp (impl_IntOk_eq x0 x1_p x1_n x1_c w R) h)
def slices_IndexFunc_impl_Acct_impl_Acct (s_p : Option Addr) (s_n : Nat) (s_c : Nat) (f : Value) (w : World) (R : Value → World → Prop) : Prop :=
  ∃ (Inv : Int → World → Prop) (mu : Int → World → Nat), Inv 0 w ∧
  ∀ (junk : Fr) (wv : World) (t8 : Int), Inv t8 wv →
    ((decide ((t8 : Int) < ((s_n : Nat) : Int))) = true →
      (0 ≤ (t8 : Int) ∧ (t8 : Int) < (s_n : Nat)) ∧ ptrS s_p fun ad => ∃ (t150 : ByteArray) (t151 : ByteArray) (t152 : Bool) (t153_p : Option Addr) (t153_n : Nat) (t153_c : Nat), Loads P 59 (ad.add (t8.toNat * 4)) (.agg #[(.string t150), (.string t151), (.bool t152), (.slice t153_p t153_n t153_c)]) wv ∧ CallW P f [(.agg #[(.string t150), (.string t151), (.bool t152), (.slice t153_p t153_n t153_c)])] wv fun e wv_1 =>
      ∃ (t16 : Bool), e = .returned (.bool t16) ∧
      (t16 = true →
        R (.int .i64 t8) wv_1) ∧
      (t16 = false →
        ∃ t18 : Int, t18 = IntKind.wrap .i64 (t8 + 1) ∧ Inv t18 wv_1 ∧ mu t18 wv_1 < mu t8 wv)) ∧
    ((decide ((t8 : Int) < ((s_n : Nat) : Int))) = false →
      R (.int .i64 (-1)) wv)
theorem slices_IndexFunc_impl_Acct_impl_Acct_eq (s_p : Option Addr) (s_n : Nat) (s_c : Nat) (f : Value) (w : World) (R : Value → World → Prop) : slices_IndexFunc_impl_Acct_impl_Acct s_p s_n s_c f w R = fsem P Tryz.f82 (fun k => cond (Nat.beq k 3) [(8, .one (.int .i64))] ([])) [(.slice s_p s_n s_c), f] R w := by kernel_rfl
theorem slices_IndexFunc_impl_Acct_impl_Acct_ret {s_p : Option Addr} {s_n : Nat} {s_c : Nat} {f : Value} {w : World} {R : Value → World → Prop} (h : slices_IndexFunc_impl_Acct_impl_Acct s_p s_n s_c f w R) : Ret P 82 [(.slice s_p s_n s_c), f] w R :=
  Ret.of_fsem Tryz.func82 rfl (Eq.mp (slices_IndexFunc_impl_Acct_impl_Acct_eq s_p s_n s_c f w R) h)
def impl_AcctAt_1 (a0 : ByteArray) (a1 : ByteArray) (a2 : Bool) (a3_p : Option Addr) (a3_n : Nat) (a3_c : Nat) (cap0 : Option Addr) (w : World) (R : Value → World → Prop) : Prop :=
  ∀ (r : Nat) (wv : World), New w (.cells ⟨[(.string a0), (.string a1), (.bool a2), (.slice a3_p a3_n a3_c)]⟩ 59 (0, 0)) r wv →
  ∃ (t5 : ByteArray), Loads P 9 ((⟨r, 0, none⟩ : Addr).add 0) (.string t5) wv ∧ ptrS cap0 fun ad => ∃ (t6 : ByteArray), Loads P 9 ad (.string t6) wv ∧ R (.bool (decide (t5 = t6))) wv
theorem impl_AcctAt_1_eq (a0 : ByteArray) (a1 : ByteArray) (a2 : Bool) (a3_p : Option Addr) (a3_n : Nat) (a3_c : Nat) (cap0 : Option Addr) (w : World) (R : Value → World → Prop) : impl_AcctAt_1 a0 a1 a2 a3_p a3_n a3_c cap0 w R = fsem P Tryz.f83 (fun k => []) [(.agg #[(.string a0), (.string a1), (.bool a2), (.slice a3_p a3_n a3_c)]), (.pointer cap0)] R w := by kernel_rfl
theorem impl_AcctAt_1_ret {a0 : ByteArray} {a1 : ByteArray} {a2 : Bool} {a3_p : Option Addr} {a3_n : Nat} {a3_c : Nat} {cap0 : Option Addr} {w : World} {R : Value → World → Prop} (h : impl_AcctAt_1 a0 a1 a2 a3_p a3_n a3_c cap0 w R) : Ret P 83 [(.agg #[(.string a0), (.string a1), (.bool a2), (.slice a3_p a3_n a3_c)]), (.pointer cap0)] w R :=
  Ret.of_fsem Tryz.func83 rfl (Eq.mp (impl_AcctAt_1_eq a0 a1 a2 a3_p a3_n a3_c cap0 w R) h)
def impl_legSums_1 (a0 : ByteArray) (a1 : Bool) (a2_p : Option Addr) (a2_n : Nat) (a2_c : Nat) (b0 : ByteArray) (b1 : Bool) (b2_p : Option Addr) (b2_n : Nat) (b2_c : Nat) (w : World) (R : Value → World → Prop) : Prop :=
  ∀ (r : Nat) (wv : World), New w (.cells ⟨[(.string a0), (.bool a1), (.slice a2_p a2_n a2_c)]⟩ 55 (0, 0)) r wv →
  ∀ (r_1 : Nat) (wv_1 : World), New wv (.cells ⟨[(.string b0), (.bool b1), (.slice b2_p b2_n b2_c)]⟩ 55 (0, 0)) r_1 wv_1 →
  ∃ (t6 : ByteArray), Loads P 9 ((⟨r, 0, none⟩ : Addr).add 0) (.string t6) wv_1 ∧ ∃ (t8 : ByteArray), Loads P 9 ((⟨r_1, 0, none⟩ : Addr).add 0) (.string t8) wv_1 ∧ Calls P 85 ⟨[(.string t6), (.string t8)]⟩ wv_1 fun e wv_2 =>
  ∃ (t9 : Int), e = .returned (.int .i64 t9) ∧
  R (.int .i64 t9) wv_2
theorem impl_legSums_1_eq (a0 : ByteArray) (a1 : Bool) (a2_p : Option Addr) (a2_n : Nat) (a2_c : Nat) (b0 : ByteArray) (b1 : Bool) (b2_p : Option Addr) (b2_n : Nat) (b2_c : Nat) (w : World) (R : Value → World → Prop) : impl_legSums_1 a0 a1 a2_p a2_n a2_c b0 b1 b2_p b2_n b2_c w R = fsem P Tryz.f84 (fun k => []) [(.agg #[(.string a0), (.bool a1), (.slice a2_p a2_n a2_c)]), (.agg #[(.string b0), (.bool b1), (.slice b2_p b2_n b2_c)])] R w := by kernel_rfl
theorem impl_legSums_1_ret {a0 : ByteArray} {a1 : Bool} {a2_p : Option Addr} {a2_n : Nat} {a2_c : Nat} {b0 : ByteArray} {b1 : Bool} {b2_p : Option Addr} {b2_n : Nat} {b2_c : Nat} {w : World} {R : Value → World → Prop} (h : impl_legSums_1 a0 a1 a2_p a2_n a2_c b0 b1 b2_p b2_n b2_c w R) : Ret P 84 [(.agg #[(.string a0), (.bool a1), (.slice a2_p a2_n a2_c)]), (.agg #[(.string b0), (.bool b1), (.slice b2_p b2_n b2_c)])] w R :=
  Ret.of_fsem Tryz.func84 rfl (Eq.mp (impl_legSums_1_eq a0 a1 a2_p a2_n a2_c b0 b1 b2_p b2_n b2_c w R) h)
def cmp_Compare_string (x : ByteArray) (y : ByteArray) (w : World) (R : Value → World → Prop) : Prop :=
  Calls P 96 ⟨[(.string x)]⟩ w fun e wv =>
  ∃ (t8 : Bool), e = .returned (.bool t8) ∧
  Calls P 96 ⟨[(.string y)]⟩ wv fun e_1 wv_1 =>
  ∃ (t10 : Bool), e_1 = .returned (.bool t10) ∧
  (t8 = true →
    (t10 = true →
      R (.int .i64 0) wv_1) ∧
    (t10 = false →
      R (.int .i64 (-1)) wv_1)) ∧
  (t8 = false →
    (t10 = true →
      R (.int .i64 1) wv_1) ∧
    (t10 = false →
      ((Op.bytesLess x.toList y.toList) = true →
        R (.int .i64 (-1)) wv_1) ∧
      ((Op.bytesLess x.toList y.toList) = false →
        ((!(Op.bytesLess x.toList y.toList || decide (x = y))) = true →
          R (.int .i64 1) wv_1) ∧
        ((!(Op.bytesLess x.toList y.toList || decide (x = y))) = false →
          R (.int .i64 0) wv_1))))
theorem cmp_Compare_string_eq (x : ByteArray) (y : ByteArray) (w : World) (R : Value → World → Prop) : cmp_Compare_string x y w R = fsem P Tryz.f85 (fun k => []) [(.string x), (.string y)] R w := by kernel_rfl
theorem cmp_Compare_string_ret {x : ByteArray} {y : ByteArray} {w : World} {R : Value → World → Prop} (h : cmp_Compare_string x y w R) : Ret P 85 [(.string x), (.string y)] w R :=
  Ret.of_fsem Tryz.func85 rfl (Eq.mp (cmp_Compare_string_eq x y w R) h)
def impl_ordered_impl_Money_at_j0 (o : Option Addr) (t17 : Int) (W : World) (R : Value → World → Prop) : Prop :=
  ptrS o fun ad_4 => ∃ (t36_p : Option Addr) (t36_n : Nat) (t36_c : Nat), Loads P 77 (ad_4.add 0) (.slice t36_p t36_n t36_c) W ∧ (0 ≤ (t17 : Int) ∧ (t17 : Int) < (t36_n : Nat)) ∧ ptrS t36_p fun ad_5 => R (.pointer (some (ad_5.add (t17.toNat * 3)))) W
def impl_ordered_impl_Money_at (o : Option Addr) (x0 : ByteArray) (x1 : Bool) (x2_p : Option Addr) (x2_n : Nat) (x2_c : Nat) (w : World) (R : Value → World → Prop) : Prop :=
  ∀ (r : Nat) (wv : World), New w (.cells ⟨[(.string x0), (.bool x1), (.slice x2_p x2_n x2_c)]⟩ 55 (0, 0)) r wv →
  ptrS o fun ad => ∃ (t11_p : Option Addr) (t11_n : Nat) (t11_c : Nat), (∀ wv_1, Ext wv.drew wv_1 → Loads P 77 (ad.add 0) (.slice t11_p t11_n t11_c) wv_1) ∧ ∃ (t120 : ByteArray) (t121 : Bool) (t122_p : Option Addr) (t122_n : Nat) (t122_c : Nat), (∀ wv_2, Ext wv.drew wv_2 → Loads P 55 ⟨r, 0, none⟩ (.agg #[(.string t120), (.bool t121), (.slice t122_p t122_n t122_c)]) wv_2) ∧ ptrS o fun ad_1 => ∃ (t16 : Value), (∀ wv_3, Ext wv.drew wv_3 → Loads P 108 (ad_1.add 1) t16 wv_3) ∧ Calls P 97 ⟨[(.slice t11_p t11_n t11_c), (.agg #[(.string t120), (.bool t121), (.slice t122_p t122_n t122_c)]), t16]⟩ wv.drew fun e wv_4 =>
  ∃ (t17 : Int) (t17_1 : Bool), e = .returned (.tuple #[(.int .i64 t17), (.bool t17_1)]) ∧
  ((!t17_1) = true →
    ptrS o fun ad_2 => ∃ (t26_p : Option Addr) (t26_n : Nat) (t26_c : Nat), (∀ wv_5, Ext wv_4.drew wv_5 → Loads P 77 (ad_2.add 0) (.slice t26_p t26_n t26_c) wv_5) ∧ ∃ (t280 : ByteArray) (t281 : Bool) (t282_p : Option Addr) (t282_n : Nat) (t282_c : Nat), (∀ wv_6, Ext wv_4.drew wv_6 → Loads P 55 ⟨r, 0, none⟩ (.agg #[(.string t280), (.bool t281), (.slice t282_p t282_n t282_c)]) wv_6) ∧ ∀ (r_1 : Nat) (wv_7 : World), New wv_4.drew (.cells ⟨[(.string t280), (.bool t281), (.slice t282_p t282_n t282_c)]⟩ 55 (0, 0)) r_1 wv_7 →
    Ext wv_4.drew wv_7 ∧ Calls P 98 ⟨[(.slice t26_p t26_n t26_c), (.int .i64 t17), (.slice (some ⟨r_1, 0, none⟩) 1 1)]⟩ wv_7 fun e_1 wv_8 =>
    ∃ (t30_p : Option Addr) (t30_n : Nat) (t30_c : Nat), e_1 = .returned (.slice t30_p t30_n t30_c) ∧
    ptrS o fun ad_3 => ∃ wv_9, Stores P 77 (ad_3.add 0) (.slice t30_p t30_n t30_c) wv_8 wv_9 ∧
    impl_ordered_impl_Money_at_j0 o t17 wv_9 R) ∧
  ((!t17_1) = false →
    impl_ordered_impl_Money_at_j0 o t17 wv_4 R)
theorem impl_ordered_impl_Money_at_eq (o : Option Addr) (x0 : ByteArray) (x1 : Bool) (x2_p : Option Addr) (x2_n : Nat) (x2_c : Nat) (w : World) (R : Value → World → Prop) : impl_ordered_impl_Money_at o x0 x1 x2_p x2_n x2_c w R = fsem P Tryz.f86 (fun k => []) [(.pointer o), (.agg #[(.string x0), (.bool x1), (.slice x2_p x2_n x2_c)])] R w := by kernel_rfl
theorem impl_ordered_impl_Money_at_ret {o : Option Addr} {x0 : ByteArray} {x1 : Bool} {x2_p : Option Addr} {x2_n : Nat} {x2_c : Nat} {w : World} {R : Value → World → Prop} (h : impl_ordered_impl_Money_at o x0 x1 x2_p x2_n x2_c w R) : Ret P 86 [(.pointer o), (.agg #[(.string x0), (.bool x1), (.slice x2_p x2_n x2_c)])] w R :=
  Ret.of_fsem Tryz.func86 rfl (Eq.mp (impl_ordered_impl_Money_at_eq o x0 x1 x2_p x2_n x2_c w R) h)
def impl_intAdd_j0 (r : Nat) (r_1 : Nat) (r_2 : Nat) (W : World) (R : Value → World → Prop) : Prop :=
  ∃ (t27 : Bool), (∀ wv_12, Ext W.drew wv_12 → Loads P 4 ((⟨r, 0, none⟩ : Addr).add 0) (.bool t27) wv_12) ∧ ∃ (t29_p : Option Addr) (t29_n : Nat) (t29_c : Nat), (∀ wv_13, Ext W.drew wv_13 → Loads P 44 ((⟨r, 0, none⟩ : Addr).add 1) (.slice t29_p t29_n t29_c) wv_13) ∧ ∃ (t31_p : Option Addr) (t31_n : Nat) (t31_c : Nat), (∀ wv_14, Ext W.drew wv_14 → Loads P 44 ((⟨r_1, 0, none⟩ : Addr).add 1) (.slice t31_p t31_n t31_c) wv_14) ∧ Calls P 102 ⟨[(.slice t29_p t29_n t29_c), (.slice t31_p t31_n t31_c)]⟩ W.drew fun e_3 wv_15 =>
  ∃ (t32_p : Option Addr) (t32_n : Nat) (t32_c : Nat), e_3 = .returned (.slice t32_p t32_n t32_c) ∧
  Ext W.drew wv_15 ∧ Calls P 99 ⟨[(.bool t27), (.slice t32_p t32_n t32_c)]⟩ wv_15 fun e_4 wv_16 =>
  ∃ (t330 : Bool) (t331_p : Option Addr) (t331_n : Nat) (t331_c : Nat), e_4 = .returned (.agg #[(.bool t330), (.slice t331_p t331_n t331_c)]) ∧
  ∃ wv_17, Stores P 53 ⟨r_2, 0, none⟩ (.agg #[(.bool t330), (.slice t331_p t331_n t331_c)]) wv_16 wv_17 ∧
  ∃ (r0_1 : Bool) (r1_p_1 : Option Addr) (r1_n_1 : Nat) (r1_c_1 : Nat), Loads P 53 ⟨r_2, 0, none⟩ (.agg #[(.bool r0_1), (.slice r1_p_1 r1_n_1 r1_c_1)]) wv_17 ∧ R (.agg #[(.bool r0_1), (.slice r1_p_1 r1_n_1 r1_c_1)]) wv_17
def impl_intAdd (x0 : Bool) (x1_p : Option Addr) (x1_n : Nat) (x1_c : Nat) (y0 : Bool) (y1_p : Option Addr) (y1_n : Nat) (y1_c : Nat) (w : World) (R : Value → World → Prop) : Prop :=
  ∀ (r : Nat) (wv : World), New w (.cells ⟨[(.bool x0), (.slice x1_p x1_n x1_c)]⟩ 53 (0, 0)) r wv →
  ∀ (r_1 : Nat) (wv_1 : World), New wv (.cells ⟨[(.bool y0), (.slice y1_p y1_n y1_c)]⟩ 53 (0, 0)) r_1 wv_1 →
  ∀ (r_2 : Nat) (wv_2 : World), New wv_1 (.cells ⟨[(.bool false), (.slice none 0 0)]⟩ 53 (0, 0)) r_2 wv_2 →
  ∃ (t6 : Bool), Loads P 4 ((⟨r, 0, none⟩ : Addr).add 0) (.bool t6) wv_2 ∧ ∃ (t8 : Bool), Loads P 4 ((⟨r_1, 0, none⟩ : Addr).add 0) (.bool t8) wv_2 ∧ ((t6 == t8) = true →
    ∃ (t11 : Bool), (∀ wv_3, Ext wv_2.drew wv_3 → Loads P 4 ((⟨r, 0, none⟩ : Addr).add 0) (.bool t11) wv_3) ∧ ∃ (t13_p : Option Addr) (t13_n : Nat) (t13_c : Nat), (∀ wv_4, Ext wv_2.drew wv_4 → Loads P 44 ((⟨r, 0, none⟩ : Addr).add 1) (.slice t13_p t13_n t13_c) wv_4) ∧ ∃ (t15_p : Option Addr) (t15_n : Nat) (t15_c : Nat), (∀ wv_5, Ext wv_2.drew wv_5 → Loads P 44 ((⟨r_1, 0, none⟩ : Addr).add 1) (.slice t15_p t15_n t15_c) wv_5) ∧ Calls P 100 ⟨[(.slice t13_p t13_n t13_c), (.slice t15_p t15_n t15_c)]⟩ wv_2.drew fun e wv_6 =>
    ∃ (t16_p : Option Addr) (t16_n : Nat) (t16_c : Nat), e = .returned (.slice t16_p t16_n t16_c) ∧
    Ext wv_2.drew wv_6 ∧ Calls P 99 ⟨[(.bool t11), (.slice t16_p t16_n t16_c)]⟩ wv_6 fun e_1 wv_7 =>
    ∃ (t170 : Bool) (t171_p : Option Addr) (t171_n : Nat) (t171_c : Nat), e_1 = .returned (.agg #[(.bool t170), (.slice t171_p t171_n t171_c)]) ∧
    ∃ wv_8, Stores P 53 ⟨r_2, 0, none⟩ (.agg #[(.bool t170), (.slice t171_p t171_n t171_c)]) wv_7 wv_8 ∧
    ∃ (r0 : Bool) (r1_p : Option Addr) (r1_n : Nat) (r1_c : Nat), Loads P 53 ⟨r_2, 0, none⟩ (.agg #[(.bool r0), (.slice r1_p r1_n r1_c)]) wv_8 ∧ R (.agg #[(.bool r0), (.slice r1_p r1_n r1_c)]) wv_8) ∧
  ((t6 == t8) = false →
    ∃ (t19_p : Option Addr) (t19_n : Nat) (t19_c : Nat), Loads P 44 ((⟨r, 0, none⟩ : Addr).add 1) (.slice t19_p t19_n t19_c) wv_2 ∧ ∃ (t21_p : Option Addr) (t21_n : Nat) (t21_c : Nat), Loads P 44 ((⟨r_1, 0, none⟩ : Addr).add 1) (.slice t21_p t21_n t21_c) wv_2 ∧ Calls P 101 ⟨[(.slice t19_p t19_n t19_c), (.slice t21_p t21_n t21_c)]⟩ wv_2 fun e_2 wv_9 =>
    ∃ (t22 : Int), e_2 = .returned (.int .i64 t22) ∧
    ((decide ((t22 : Int) < 0)) = true →
      ∃ (t240 : Bool) (t241_p : Option Addr) (t241_n : Nat) (t241_c : Nat), Loads P 53 ⟨r_1, 0, none⟩ (.agg #[(.bool t240), (.slice t241_p t241_n t241_c)]) wv_9 ∧ ∃ (t250 : Bool) (t251_p : Option Addr) (t251_n : Nat) (t251_c : Nat), Loads P 53 ⟨r, 0, none⟩ (.agg #[(.bool t250), (.slice t251_p t251_n t251_c)]) wv_9 ∧ ∃ wv_10, Stores P 53 ⟨r, 0, none⟩ (.agg #[(.bool t240), (.slice t241_p t241_n t241_c)]) wv_9 wv_10 ∧
      ∃ wv_11, Stores P 53 ⟨r_1, 0, none⟩ (.agg #[(.bool t250), (.slice t251_p t251_n t251_c)]) wv_10 wv_11 ∧
      impl_intAdd_j0 r r_1 r_2 wv_11 R) ∧
    ((decide ((t22 : Int) < 0)) = false →
      impl_intAdd_j0 r r_1 r_2 wv_9 R))
theorem impl_intAdd_eq (x0 : Bool) (x1_p : Option Addr) (x1_n : Nat) (x1_c : Nat) (y0 : Bool) (y1_p : Option Addr) (y1_n : Nat) (y1_c : Nat) (w : World) (R : Value → World → Prop) : impl_intAdd x0 x1_p x1_n x1_c y0 y1_p y1_n y1_c w R = fsem P Tryz.f87 (fun k => []) [(.agg #[(.bool x0), (.slice x1_p x1_n x1_c)]), (.agg #[(.bool y0), (.slice y1_p y1_n y1_c)])] R w := by kernel_rfl
theorem impl_intAdd_ret {x0 : Bool} {x1_p : Option Addr} {x1_n : Nat} {x1_c : Nat} {y0 : Bool} {y1_p : Option Addr} {y1_n : Nat} {y1_c : Nat} {w : World} {R : Value → World → Prop} (h : impl_intAdd x0 x1_p x1_n x1_c y0 y1_p y1_n y1_c w R) : Ret P 87 [(.agg #[(.bool x0), (.slice x1_p x1_n x1_c)]), (.agg #[(.bool y0), (.slice y1_p y1_n y1_c)])] w R :=
  Ret.of_fsem Tryz.func87 rfl (Eq.mp (impl_intAdd_eq x0 x1_p x1_n x1_c y0 y1_p y1_n y1_c w R) h)
def impl_BookPost (b0_p : Option Addr) (b0_n : Nat) (b0_c : Nat) (name : ByteArray) (m0 : ByteArray) (m1 : Bool) (m2_p : Option Addr) (m2_n : Nat) (m2_c : Nat) (w : World) (R : Value → World → Prop) : Prop :=
  ∀ (r : Nat) (wv : World), New w (.cells ⟨[(.slice b0_p b0_n b0_c)]⟩ 31 (0, 0)) r wv →
  ∀ (r_1 : Nat) (wv_1 : World), New wv (.cells ⟨[(.string m0), (.bool m1), (.slice m2_p m2_n m2_c)]⟩ 55 (0, 0)) r_1 wv_1 →
  ∀ (r_2 : Nat) (wv_2 : World), New wv_1 (.cells ⟨[(.slice none 0 0)]⟩ 31 (0, 0)) r_2 wv_2 →
  ∃ (t90_p : Option Addr) (t90_n : Nat) (t90_c : Nat), Loads P 31 ⟨r, 0, none⟩ (.agg #[(.slice t90_p t90_n t90_c)]) wv_2 ∧ Calls P 65 ⟨[(.agg #[(.slice t90_p t90_n t90_c)]), (.string name)]⟩ wv_2 fun e wv_3 =>
  ∃ (t11 : Int), e = .returned (.int .i64 t11) ∧
  ∀ (r_3 : Nat) (wv_4 : World), New wv_3 (.cells ⟨[(.int .i64 0)]⟩ 3 (0, 0)) r_3 wv_4 →
  ∃ wv_5, Stores P 3 ⟨r_3, 0, none⟩ (.int .i64 t11) wv_4 wv_5 ∧
  ∃ (t120_p : Option Addr) (t120_n : Nat) (t120_c : Nat), Loads P 31 ⟨r, 0, none⟩ (.agg #[(.slice t120_p t120_n t120_c)]) wv_5 ∧ Calls P 45 ⟨[(.agg #[(.slice t120_p t120_n t120_c)])]⟩ wv_5 fun e_1 wv_6 =>
  ∃ (t13 : Bool), e_1 = .returned (.bool t13) ∧
  ((!t13) = true →
    (true = true →
      ∃ wv_7, Stores P 31 ⟨r_2, 0, none⟩ (.agg #[(.slice none 0 0)]) wv_6 wv_7 ∧
      ∃ (r0_p : Option Addr) (r0_n : Nat) (r0_c : Nat), Loads P 31 ⟨r_2, 0, none⟩ (.agg #[(.slice r0_p r0_n r0_c)]) wv_7 ∧ R (.tuple #[(.agg #[(.slice r0_p r0_n r0_c)]), (.bool false)]) wv_7) ∧
    (true = false →
      ∃ (t200_p : Option Addr) (t200_n : Nat) (t200_c : Nat), Loads P 31 ⟨r, 0, none⟩ (.agg #[(.slice t200_p t200_n t200_c)]) wv_6 ∧ Calls P 103 ⟨[(.agg #[(.slice t200_p t200_n t200_c)]), (.func (.func 104) #[] #[(.pointer (some ⟨r_3, 0, none⟩)), (.pointer (some ⟨r_1, 0, none⟩))])]⟩ wv_6 fun e_2 wv_8 =>
      ∃ (t220_p : Option Addr) (t220_n : Nat) (t220_c : Nat) (t22 : Bool), e_2 = .returned (.tuple #[(.agg #[(.slice t220_p t220_n t220_c)]), (.bool t22)]) ∧
      ∃ wv_9, Stores P 31 ⟨r_2, 0, none⟩ (.agg #[(.slice t220_p t220_n t220_c)]) wv_8 wv_9 ∧
      ∃ (r0_p_1 : Option Addr) (r0_n_1 : Nat) (r0_c_1 : Nat), Loads P 31 ⟨r_2, 0, none⟩ (.agg #[(.slice r0_p_1 r0_n_1 r0_c_1)]) wv_9 ∧ R (.tuple #[(.agg #[(.slice r0_p_1 r0_n_1 r0_c_1)]), (.bool t22)]) wv_9)) ∧
  ((!t13) = false →
    ∃ (t16 : Int), Loads P 3 ⟨r_3, 0, none⟩ (.int .i64 t16) wv_6 ∧ ((decide ((t16 : Int) < 0)) = true →
      ∃ wv_10, Stores P 31 ⟨r_2, 0, none⟩ (.agg #[(.slice none 0 0)]) wv_6 wv_10 ∧
      ∃ (r0_p_2 : Option Addr) (r0_n_2 : Nat) (r0_c_2 : Nat), Loads P 31 ⟨r_2, 0, none⟩ (.agg #[(.slice r0_p_2 r0_n_2 r0_c_2)]) wv_10 ∧ R (.tuple #[(.agg #[(.slice r0_p_2 r0_n_2 r0_c_2)]), (.bool false)]) wv_10) ∧
    ((decide ((t16 : Int) < 0)) = false →
      ∃ (t200_p_1 : Option Addr) (t200_n_1 : Nat) (t200_c_1 : Nat), Loads P 31 ⟨r, 0, none⟩ (.agg #[(.slice t200_p_1 t200_n_1 t200_c_1)]) wv_6 ∧ Calls P 103 ⟨[(.agg #[(.slice t200_p_1 t200_n_1 t200_c_1)]), (.func (.func 104) #[] #[(.pointer (some ⟨r_3, 0, none⟩)), (.pointer (some ⟨r_1, 0, none⟩))])]⟩ wv_6 fun e_3 wv_11 =>
      ∃ (t220_p_1 : Option Addr) (t220_n_1 : Nat) (t220_c_1 : Nat) (t22_1 : Bool), e_3 = .returned (.tuple #[(.agg #[(.slice t220_p_1 t220_n_1 t220_c_1)]), (.bool t22_1)]) ∧
      ∃ wv_12, Stores P 31 ⟨r_2, 0, none⟩ (.agg #[(.slice t220_p_1 t220_n_1 t220_c_1)]) wv_11 wv_12 ∧
      ∃ (r0_p_3 : Option Addr) (r0_n_3 : Nat) (r0_c_3 : Nat), Loads P 31 ⟨r_2, 0, none⟩ (.agg #[(.slice r0_p_3 r0_n_3 r0_c_3)]) wv_12 ∧ R (.tuple #[(.agg #[(.slice r0_p_3 r0_n_3 r0_c_3)]), (.bool t22_1)]) wv_12))
theorem impl_BookPost_eq (b0_p : Option Addr) (b0_n : Nat) (b0_c : Nat) (name : ByteArray) (m0 : ByteArray) (m1 : Bool) (m2_p : Option Addr) (m2_n : Nat) (m2_c : Nat) (w : World) (R : Value → World → Prop) : impl_BookPost b0_p b0_n b0_c name m0 m1 m2_p m2_n m2_c w R = fsem P Tryz.f88 (fun k => []) [(.agg #[(.slice b0_p b0_n b0_c)]), (.string name), (.agg #[(.string m0), (.bool m1), (.slice m2_p m2_n m2_c)])] R w := by kernel_rfl
theorem impl_BookPost_ret {b0_p : Option Addr} {b0_n : Nat} {b0_c : Nat} {name : ByteArray} {m0 : ByteArray} {m1 : Bool} {m2_p : Option Addr} {m2_n : Nat} {m2_c : Nat} {w : World} {R : Value → World → Prop} (h : impl_BookPost b0_p b0_n b0_c name m0 m1 m2_p m2_n m2_c w R) : Ret P 88 [(.agg #[(.slice b0_p b0_n b0_c)]), (.string name), (.agg #[(.string m0), (.bool m1), (.slice m2_p m2_n m2_c)])] w R :=
  Ret.of_fsem Tryz.func88 rfl (Eq.mp (impl_BookPost_eq b0_p b0_n b0_c name m0 m1 m2_p m2_n m2_c w R) h)
def spec_l08Table (w : World) (R : Value → World → Prop) : Prop :=
  ∀ (r : Nat) (wv : World), New w (.cells ⟨[(.string (S [65, 85, 68])), (.string (S [48, 51, 54])), (.int .i64 2), (.int .i64 5), (.string (S [66, 72, 68])), (.string (S [48, 52, 56])), (.int .i64 3), (.int .i64 5), (.string (S [67, 65, 68])), (.string (S [49, 50, 52])), (.int .i64 2), (.int .i64 5), (.string (S [67, 72, 70])), (.string (S [55, 53, 54])), (.int .i64 2), (.int .i64 5), (.string (S [67, 76, 70])), (.string (S [57, 57, 48])), (.int .i64 4), (.int .i64 1), (.string (S [67, 90, 75])), (.string (S [50, 48, 51])), (.int .i64 2), (.int .i64 100), (.string (S [68, 75, 75])), (.string (S [50, 48, 56])), (.int .i64 2), (.int .i64 50), (.string (S [69, 85, 82])), (.string (S [57, 55, 56])), (.int .i64 2), (.int .i64 1), (.string (S [71, 66, 80])), (.string (S [56, 50, 54])), (.int .i64 2), (.int .i64 1), (.string (S [72, 85, 70])), (.string (S [51, 52, 56])), (.int .i64 2), (.int .i64 500), (.string (S [73, 83, 75])), (.string (S [51, 53, 50])), (.int .i64 0), (.int .i64 1), (.string (S [74, 80, 89])), (.string (S [51, 57, 50])), (.int .i64 0), (.int .i64 1), (.string (S [75, 82, 87])), (.string (S [52, 49, 48])), (.int .i64 0), (.int .i64 10), (.string (S [75, 87, 68])), (.string (S [52, 49, 52])), (.int .i64 3), (.int .i64 5), (.string (S [78, 79, 75])), (.string (S [53, 55, 56])), (.int .i64 2), (.int .i64 100), (.string (S [78, 90, 68])), (.string (S [53, 53, 52])), (.int .i64 2), (.int .i64 10), (.string (S [80, 76, 78])), (.string (S [57, 56, 53])), (.int .i64 2), (.int .i64 1), (.string (S [83, 69, 75])), (.string (S [55, 53, 50])), (.int .i64 2), (.int .i64 100), (.string (S [84, 78, 68])), (.string (S [55, 56, 56])), (.int .i64 3), (.int .i64 10), (.string (S [85, 83, 68])), (.string (S [56, 52, 48])), (.int .i64 2), (.int .i64 1)]⟩ 99 (0, 0)) r wv →
  R (.slice (some ⟨r, 0, none⟩) 20 20) wv
theorem spec_l08Table_eq (w : World) (R : Value → World → Prop) : spec_l08Table w R = fsem P Tryz.f90 (fun k => []) [] R w := by kernel_rfl
theorem spec_l08Table_ret {w : World} {R : Value → World → Prop} (h : spec_l08Table w R) : Ret P 90 [] w R :=
  Ret.of_fsem Tryz.func90 rfl (Eq.mp (spec_l08Table_eq w R) h)
def spec_l04Make (neg : Bool) (a_p : Option Addr) (a_n : Nat) (a_c : Nat) (w : World) (R : Value → World → Prop) : Prop :=
  ∀ (r : Nat) (wv : World), New w (.cells ⟨[(.bool false), (.slice none 0 0)]⟩ 53 (0, 0)) r wv →
  Calls P 106 ⟨[(.slice a_p a_n a_c)]⟩ wv fun e wv_1 =>
  ∃ (t7_p : Option Addr) (t7_n : Nat) (t7_c : Nat), e = .returned (.slice t7_p t7_n t7_c) ∧
  (neg = true →
    ∀ (r_1 : Nat) (wv_2 : World), New wv_1 (.cells ⟨[]⟩ 3 (0, 0)) r_1 wv_2 →
    ∃ (t16_p : Option Addr) (t16_n : Nat) (t16_c : Nat) (wv_3 : World), Appends P [44, 44] [(.slice (some ⟨r_1, 0, none⟩) 0 0), (.slice t7_p t7_n t7_c)] (.slice t16_p t16_n t16_c) wv_2 wv_3 ∧
    ∃ wv_4, Stores P 53 ⟨r, 0, none⟩ (.agg #[(.bool (decide ((0 : Int) < ((t7_n : Nat) : Int)))), (.slice t16_p t16_n t16_c)]) wv_3 wv_4 ∧
    ∃ (r0 : Bool) (r1_p : Option Addr) (r1_n : Nat) (r1_c : Nat), Loads P 53 ⟨r, 0, none⟩ (.agg #[(.bool r0), (.slice r1_p r1_n r1_c)]) wv_4 ∧ R (.agg #[(.bool r0), (.slice r1_p r1_n r1_c)]) wv_4) ∧
  (neg = false →
    ∀ (r_2 : Nat) (wv_5 : World), New wv_1 (.cells ⟨[]⟩ 3 (0, 0)) r_2 wv_5 →
    ∃ (t16_p_1 : Option Addr) (t16_n_1 : Nat) (t16_c_1 : Nat) (wv_6 : World), Appends P [44, 44] [(.slice (some ⟨r_2, 0, none⟩) 0 0), (.slice t7_p t7_n t7_c)] (.slice t16_p_1 t16_n_1 t16_c_1) wv_5 wv_6 ∧
    ∃ wv_7, Stores P 53 ⟨r, 0, none⟩ (.agg #[(.bool false), (.slice t16_p_1 t16_n_1 t16_c_1)]) wv_6 wv_7 ∧
    ∃ (r0_1 : Bool) (r1_p_1 : Option Addr) (r1_n_1 : Nat) (r1_c_1 : Nat), Loads P 53 ⟨r, 0, none⟩ (.agg #[(.bool r0_1), (.slice r1_p_1 r1_n_1 r1_c_1)]) wv_7 ∧ R (.agg #[(.bool r0_1), (.slice r1_p_1 r1_n_1 r1_c_1)]) wv_7)
theorem spec_l04Make_eq (neg : Bool) (a_p : Option Addr) (a_n : Nat) (a_c : Nat) (w : World) (R : Value → World → Prop) : spec_l04Make neg a_p a_n a_c w R = fsem P Tryz.f91 (fun k => []) [(.bool neg), (.slice a_p a_n a_c)] R w := by kernel_rfl
theorem spec_l04Make_ret {neg : Bool} {a_p : Option Addr} {a_n : Nat} {a_c : Nat} {w : World} {R : Value → World → Prop} (h : spec_l04Make neg a_p a_n a_c w R) : Ret P 91 [(.bool neg), (.slice a_p a_n a_c)] w R :=
  Ret.of_fsem Tryz.func91 rfl (Eq.mp (spec_l04Make_eq neg a_p a_n a_c w R) h)
def spec_l02Add_j2 (wv_1 : World) (Inv : Option Addr → Nat → Nat → Int → Int → World → Prop) (mu : Option Addr → Nat → Nat → Int → Int → World → Nat) (out_p : Option Addr) (out_n : Nat) (out_c : Nat) (carry : Int) (i : Int) (n_1 : Int) (W_2 : World) (R : Value → World → Prop) : Prop :=
  (1000000000 : Int) ≠ 0 ∧ ∃ t49 : Int, t49 = Int.tmod n_1 1000000000 ∧ ∀ (r_1 : Nat) (wv_2 : World), New W_2 (.cells ⟨[(.int .i64 t49)]⟩ 3 (0, 0)) r_1 wv_2 →
  ∃ (t51_p : Option Addr) (t51_n : Nat) (t51_c : Nat) (wv_3 : World), Appends P [44, 44] [(.slice out_p out_n out_c), (.slice (some ⟨r_1, 0, none⟩) 1 1)] (.slice t51_p t51_n t51_c) wv_2 wv_3 ∧
  (1000000000 : Int) ≠ 0 ∧ ∃ t53 : Int, t53 = IntKind.wrap .i64 (Int.tdiv n_1 1000000000) ∧ ∃ t25 : Int, t25 = IntKind.wrap .i64 (i + 1) ∧ Inv t51_p t51_n t51_c t53 t25 wv_3 ∧ mu t51_p t51_n t51_c t53 t25 wv_3 < mu out_p out_n out_c carry i wv_1
def spec_l02Add_j1 (b_p : Option Addr) (b_n : Nat) (wv_1 : World) (Inv : Option Addr → Nat → Nat → Int → Int → World → Prop) (mu : Option Addr → Nat → Nat → Int → Int → World → Nat) (out_p : Option Addr) (out_n : Nat) (out_c : Nat) (carry : Int) (i : Int) (n : Int) (W_1 : World) (R : Value → World → Prop) : Prop :=
  ((decide ((i : Int) < ((b_n : Nat) : Int))) = true →
    (0 ≤ (i : Int) ∧ (i : Int) < (b_n : Nat)) ∧ ptrS b_p fun ad_1 => ∃ (t45 : Int), Loads P 3 (ad_1.add (i.toNat * 1)) (.int .i64 t45) W_1 ∧ ∃ t46 : Int, t46 = IntKind.wrap .i64 (n + t45) ∧ spec_l02Add_j2 wv_1 Inv mu out_p out_n out_c carry i t46 W_1 R) ∧
  ((decide ((i : Int) < ((b_n : Nat) : Int))) = false →
    spec_l02Add_j2 wv_1 Inv mu out_p out_n out_c carry i n W_1 R)
def spec_l02Add_j0 (a_p : Option Addr) (a_n : Nat) (b_p : Option Addr) (b_n : Nat) (wv_1 : World) (Inv : Option Addr → Nat → Nat → Int → Int → World → Prop) (mu : Option Addr → Nat → Nat → Int → Int → World → Nat) (out_p : Option Addr) (out_n : Nat) (out_c : Nat) (carry : Int) (i : Int) (W : World) (R : Value → World → Prop) : Prop :=
  ((decide ((i : Int) < ((a_n : Nat) : Int))) = true →
    (0 ≤ (i : Int) ∧ (i : Int) < (a_n : Nat)) ∧ ptrS a_p fun ad => ∃ (t35 : Int), Loads P 3 (ad.add (i.toNat * 1)) (.int .i64 t35) W ∧ ∃ t36 : Int, t36 = IntKind.wrap .i64 (carry + t35) ∧ spec_l02Add_j1 b_p b_n wv_1 Inv mu out_p out_n out_c carry i t36 W R) ∧
  ((decide ((i : Int) < ((a_n : Nat) : Int))) = false →
    spec_l02Add_j1 b_p b_n wv_1 Inv mu out_p out_n out_c carry i carry W R)
def spec_l02Add (a_p : Option Addr) (a_n : Nat) (a_c : Nat) (b_p : Option Addr) (b_n : Nat) (b_c : Nat) (w : World) (R : Value → World → Prop) : Prop :=
  ∀ (r : Nat) (wv : World), New w (.cells ⟨[]⟩ 3 (0, 0)) r wv →
  ∃ (Inv : Option Addr → Nat → Nat → Int → Int → World → Prop) (mu : Option Addr → Nat → Nat → Int → Int → World → Nat), Inv (some ⟨r, 0, none⟩) 0 0 0 0 wv ∧
  ∀ (junk : Fr) (wv_1 : World) (out_p : Option Addr) (out_n : Nat) (out_c : Nat) (carry : Int) (i : Int), Inv out_p out_n out_c carry i wv_1 →
    ((decide ((i : Int) < ((a_n : Nat) : Int))) = true →
      (true = true →
        (true = true →
          spec_l02Add_j0 a_p a_n b_p b_n wv_1 Inv mu out_p out_n out_c carry i wv_1 R) ∧
        (true = false →
          R (.slice out_p out_n out_c) wv_1)) ∧
      (true = false →
        ((decide ((0 : Int) < carry)) = true →
          spec_l02Add_j0 a_p a_n b_p b_n wv_1 Inv mu out_p out_n out_c carry i wv_1 R) ∧
        ((decide ((0 : Int) < carry)) = false →
          R (.slice out_p out_n out_c) wv_1))) ∧
    ((decide ((i : Int) < ((a_n : Nat) : Int))) = false →
      ((decide ((i : Int) < ((b_n : Nat) : Int))) = true →
        (true = true →
          spec_l02Add_j0 a_p a_n b_p b_n wv_1 Inv mu out_p out_n out_c carry i wv_1 R) ∧
        (true = false →
          R (.slice out_p out_n out_c) wv_1)) ∧
      ((decide ((i : Int) < ((b_n : Nat) : Int))) = false →
        ((decide ((0 : Int) < carry)) = true →
          spec_l02Add_j0 a_p a_n b_p b_n wv_1 Inv mu out_p out_n out_c carry i wv_1 R) ∧
        ((decide ((0 : Int) < carry)) = false →
          R (.slice out_p out_n out_c) wv_1)))
theorem spec_l02Add_eq (a_p : Option Addr) (a_n : Nat) (a_c : Nat) (b_p : Option Addr) (b_n : Nat) (b_c : Nat) (w : World) (R : Value → World → Prop) : spec_l02Add a_p a_n a_c b_p b_n b_c w R = fsem P Tryz.f92 (fun k => cond (Nat.beq k 5) [(5, .one .slice), (6, .one (.int .i64)), (7, .one (.int .i64))] ([])) [(.slice a_p a_n a_c), (.slice b_p b_n b_c)] R w := by kernel_rfl
theorem spec_l02Add_ret {a_p : Option Addr} {a_n : Nat} {a_c : Nat} {b_p : Option Addr} {b_n : Nat} {b_c : Nat} {w : World} {R : Value → World → Prop} (h : spec_l02Add a_p a_n a_c b_p b_n b_c w R) : Ret P 92 [(.slice a_p a_n a_c), (.slice b_p b_n b_c)] w R :=
  Ret.of_fsem Tryz.func92 rfl (Eq.mp (spec_l02Add_eq a_p a_n a_c b_p b_n b_c w R) h)
def spec_l02Sub_j1 (wv_1 : World) (Inv : Option Addr → Nat → Nat → Int → Int → World → Prop) (mu : Option Addr → Nat → Nat → Int → Int → World → Nat) (out_p : Option Addr) (out_n : Nat) (out_c : Nat) (less : Int) (t12 : Int) (less_1 : Int) (n_1 : Int) (W_1 : World) (R : Value → World → Prop) : Prop :=
  ∀ (r_1 : Nat) (wv_2 : World), New W_1 (.cells ⟨[(.int .i64 n_1)]⟩ 3 (0, 0)) r_1 wv_2 →
  ∃ (t38_p : Option Addr) (t38_n : Nat) (t38_c : Nat) (wv_3 : World), Appends P [44, 44] [(.slice out_p out_n out_c), (.slice (some ⟨r_1, 0, none⟩) 1 1)] (.slice t38_p t38_n t38_c) wv_2 wv_3 ∧
  ∃ t39 : Int, t39 = IntKind.wrap .i64 (t12 + 1) ∧ Inv t38_p t38_n t38_c less_1 t39 wv_3 ∧ mu t38_p t38_n t38_c less_1 t39 wv_3 < mu out_p out_n out_c less t12 wv_1
def spec_l02Sub_j0 (wv_1 : World) (Inv : Option Addr → Nat → Nat → Int → Int → World → Prop) (mu : Option Addr → Nat → Nat → Int → Int → World → Nat) (out_p : Option Addr) (out_n : Nat) (out_c : Nat) (less : Int) (t12 : Int) (n : Int) (W : World) (R : Value → World → Prop) : Prop :=
  ((decide ((n : Int) < 0)) = true →
    ∃ t34 : Int, t34 = IntKind.wrap .i64 (n + 1000000000) ∧ spec_l02Sub_j1 wv_1 Inv mu out_p out_n out_c less t12 1 t34 W R) ∧
  ((decide ((n : Int) < 0)) = false →
    spec_l02Sub_j1 wv_1 Inv mu out_p out_n out_c less t12 0 n W R)
def spec_l02Sub (a_p : Option Addr) (a_n : Nat) (a_c : Nat) (b_p : Option Addr) (b_n : Nat) (b_c : Nat) (w : World) (R : Value → World → Prop) : Prop :=
  ∀ (r : Nat) (wv : World), New w (.cells ⟨[]⟩ 3 (0, 0)) r wv →
  ∃ (Inv : Option Addr → Nat → Nat → Int → Int → World → Prop) (mu : Option Addr → Nat → Nat → Int → Int → World → Nat), Inv (some ⟨r, 0, none⟩) 0 0 0 0 wv ∧
  ∀ (junk : Fr) (wv_1 : World) (out_p : Option Addr) (out_n : Nat) (out_c : Nat) (less : Int) (t12 : Int), Inv out_p out_n out_c less t12 wv_1 →
    ((decide ((t12 : Int) < ((a_n : Nat) : Int))) = true →
      (0 ≤ (t12 : Int) ∧ (t12 : Int) < (a_n : Nat)) ∧ ptrS a_p fun ad => ∃ (t18 : Int), Loads P 3 (ad.add (t12.toNat * 1)) (.int .i64 t18) wv_1 ∧ ∃ t20 : Int, t20 = IntKind.wrap .i64 (t18 - less) ∧ ((decide ((t12 : Int) < ((b_n : Nat) : Int))) = true →
        (0 ≤ (t12 : Int) ∧ (t12 : Int) < (b_n : Nat)) ∧ ptrS b_p fun ad_1 => ∃ (t29 : Int), Loads P 3 (ad_1.add (t12.toNat * 1)) (.int .i64 t29) wv_1 ∧ ∃ t30 : Int, t30 = IntKind.wrap .i64 (t20 - t29) ∧ spec_l02Sub_j0 wv_1 Inv mu out_p out_n out_c less t12 t30 wv_1 R) ∧
      ((decide ((t12 : Int) < ((b_n : Nat) : Int))) = false →
        spec_l02Sub_j0 wv_1 Inv mu out_p out_n out_c less t12 t20 wv_1 R)) ∧
    ((decide ((t12 : Int) < ((a_n : Nat) : Int))) = false →
      Calls P 107 ⟨[(.slice out_p out_n out_c)]⟩ wv_1 fun e wv_4 =>
      ∃ (t41_p : Option Addr) (t41_n : Nat) (t41_c : Nat), e = .returned (.slice t41_p t41_n t41_c) ∧
      R (.slice t41_p t41_n t41_c) wv_4)
theorem spec_l02Sub_eq (a_p : Option Addr) (a_n : Nat) (a_c : Nat) (b_p : Option Addr) (b_n : Nat) (b_c : Nat) (w : World) (R : Value → World → Prop) : spec_l02Sub a_p a_n a_c b_p b_n b_c w R = fsem P Tryz.f93 (fun k => cond (Nat.beq k 5) [(5, .one .slice), (6, .one (.int .i64)), (12, .one (.int .i64))] ([])) [(.slice a_p a_n a_c), (.slice b_p b_n b_c)] R w := by kernel_rfl
theorem spec_l02Sub_ret {a_p : Option Addr} {a_n : Nat} {a_c : Nat} {b_p : Option Addr} {b_n : Nat} {b_c : Nat} {w : World} {R : Value → World → Prop} (h : spec_l02Sub a_p a_n a_c b_p b_n b_c w R) : Ret P 93 [(.slice a_p a_n a_c), (.slice b_p b_n b_c)] w R :=
  Ret.of_fsem Tryz.func93 rfl (Eq.mp (spec_l02Sub_eq a_p a_n a_c b_p b_n b_c w R) h)
def impl_currencyOf (code : ByteArray) (w : World) (R : Value → World → Prop) : Prop :=
  ∀ (r : Nat) (wv : World), New w (.cells ⟨[(.string ByteArray.empty), (.string ByteArray.empty), (.int .i64 0), (.int .i64 0)]⟩ 119 (0, 0)) r wv →
  ∃ (t6 : Value), Loads P 129 ⟨0, 0, none⟩ t6 wv ∧ ∃ (Inv : Int → World → Prop) (mu : Int → World → Nat), Inv 0 wv ∧
  ∀ (junk : Fr) (wv_1 : World) (t7 : Int), Inv t7 wv_1 →
    ((decide ((t7 : Int) < 20)) = true →
      indexS P 129 t6 (.int .i64 t7) fun (el : Value) => ∀ (r_1 : Nat) (wv_2 : World), New wv_1 (.cells ⟨[(.string ByteArray.empty), (.string ByteArray.empty), (.int .i64 0), (.int .i64 0)]⟩ 119 (0, 0)) r_1 wv_2 →
      ∃ wv_3, Stores P 119 ⟨r_1, 0, none⟩ el wv_2 wv_3 ∧
      ∃ (t11 : ByteArray), Loads P 9 ((⟨r_1, 0, none⟩ : Addr).add 0) (.string t11) wv_3 ∧ ((decide (t11 = code)) = true →
        ∃ (t140 : ByteArray) (t141 : ByteArray) (t142 : Int) (t143 : Int), Loads P 119 ⟨r_1, 0, none⟩ (.agg #[(.string t140), (.string t141), (.int .i64 t142), (.int .i64 t143)]) wv_3 ∧ ∃ wv_4, Stores P 119 ⟨r, 0, none⟩ (.agg #[(.string t140), (.string t141), (.int .i64 t142), (.int .i64 t143)]) wv_3 wv_4 ∧
        ∃ (r0 : ByteArray) (r1 : ByteArray) (r2 : Int) (r3 : Int), Loads P 119 ⟨r, 0, none⟩ (.agg #[(.string r0), (.string r1), (.int .i64 r2), (.int .i64 r3)]) wv_4 ∧ R (.tuple #[(.agg #[(.string r0), (.string r1), (.int .i64 r2), (.int .i64 r3)]), (.bool true)]) wv_4) ∧
      ((decide (t11 = code)) = false →
        ∃ t15 : Int, t15 = IntKind.wrap .i64 (t7 + 1) ∧ Inv t15 wv_3 ∧ mu t15 wv_3 < mu t7 wv_1)) ∧
    ((decide ((t7 : Int) < 20)) = false →
      ∃ wv_5, Stores P 119 ⟨r, 0, none⟩ (.agg #[(.string ByteArray.empty), (.string ByteArray.empty), (.int .i64 0), (.int .i64 0)]) wv_1 wv_5 ∧
      ∃ (r0_1 : ByteArray) (r1_1 : ByteArray) (r2_1 : Int) (r3_1 : Int), Loads P 119 ⟨r, 0, none⟩ (.agg #[(.string r0_1), (.string r1_1), (.int .i64 r2_1), (.int .i64 r3_1)]) wv_5 ∧ R (.tuple #[(.agg #[(.string r0_1), (.string r1_1), (.int .i64 r2_1), (.int .i64 r3_1)]), (.bool false)]) wv_5)
theorem impl_currencyOf_eq (code : ByteArray) (w : World) (R : Value → World → Prop) : impl_currencyOf code w R = fsem P Tryz.f94 (fun k => cond (Nat.beq k 3) [(7, .one (.int .i64))] ([])) [(.string code)] R w := by kernel_rfl
theorem impl_currencyOf_ret {code : ByteArray} {w : World} {R : Value → World → Prop} (h : impl_currencyOf code w R) : Ret P 94 [(.string code)] w R :=
  Ret.of_fsem Tryz.func94 rfl (Eq.mp (impl_currencyOf_eq code w R) h)
def impl_NatOk_j0 (a_p : Option Addr) (a_n : Nat) (W : World) (R : Value → World → Prop) : Prop :=
  ∃ (Inv : Int → World → Prop) (mu : Int → World → Nat), Inv 0 W ∧
  ∀ (junk : Fr) (wv : World) (t24 : Int), Inv t24 wv →
    ((decide ((t24 : Int) < ((a_n : Nat) : Int))) = true →
      (0 ≤ (t24 : Int) ∧ (t24 : Int) < (a_n : Nat)) ∧ ptrS a_p fun ad => ∃ (t27 : Int), Loads P 3 (ad.add (t24.toNat * 1)) (.int .i64 t27) wv ∧ ((decide ((t27 : Int) < 0)) = true →
        (true = true →
          R (.bool false) wv) ∧
        (true = false →
          ∃ t34 : Int, t34 = IntKind.wrap .i64 (t24 + 1) ∧ Inv t34 wv ∧ mu t34 wv < mu t24 wv)) ∧
      ((decide ((t27 : Int) < 0)) = false →
        ((decide ((1000000000 : Int) ≤ t27)) = true →
          R (.bool false) wv) ∧
        ((decide ((1000000000 : Int) ≤ t27)) = false →
          ∃ t34_1 : Int, t34_1 = IntKind.wrap .i64 (t24 + 1) ∧ Inv t34_1 wv ∧ mu t34_1 wv < mu t24 wv))) ∧
    ((decide ((t24 : Int) < ((a_n : Nat) : Int))) = false →
      R (.bool true) wv)
def impl_NatOk (a_p : Option Addr) (a_n : Nat) (a_c : Nat) (w : World) (R : Value → World → Prop) : Prop :=
  ((decide ((50 : Int) < ((a_n : Nat) : Int))) = true →
    (true = true →
      R (.bool false) w) ∧
    (true = false →
      impl_NatOk_j0 a_p a_n w R)) ∧
  ((decide ((50 : Int) < ((a_n : Nat) : Int))) = false →
    ((decide ((0 : Int) < ((a_n : Nat) : Int))) = true →
      ∃ t16 : Int, t16 = IntKind.wrap .i64 (((a_n : Nat) : Int) - 1) ∧ (0 ≤ (t16 : Int) ∧ (t16 : Int) < (a_n : Nat)) ∧ ptrS a_p fun ad_1 => ∃ (t18 : Int), Loads P 3 (ad_1.add (t16.toNat * 1)) (.int .i64 t18) w ∧ ((decide ((t18 : Int) = 0)) = true →
        R (.bool false) w) ∧
      ((decide ((t18 : Int) = 0)) = false →
        impl_NatOk_j0 a_p a_n w R)) ∧
    ((decide ((0 : Int) < ((a_n : Nat) : Int))) = false →
      (false = true →
        R (.bool false) w) ∧
      (false = false →
        impl_NatOk_j0 a_p a_n w R)))
theorem impl_NatOk_eq (a_p : Option Addr) (a_n : Nat) (a_c : Nat) (w : World) (R : Value → World → Prop) : impl_NatOk a_p a_n a_c w R = fsem P Tryz.f95 (fun k => cond (Nat.beq k 5) [(24, .one (.int .i64))] ([])) [(.slice a_p a_n a_c)] R w := by kernel_rfl
theorem impl_NatOk_ret {a_p : Option Addr} {a_n : Nat} {a_c : Nat} {w : World} {R : Value → World → Prop} (h : impl_NatOk a_p a_n a_c w R) : Ret P 95 [(.slice a_p a_n a_c)] w R :=
  Ret.of_fsem Tryz.func95 rfl (Eq.mp (impl_NatOk_eq a_p a_n a_c w R) h)
def cmp_isNaN_string (x : ByteArray) (w : World) (R : Value → World → Prop) : Prop :=
  R (.bool (decide (x ≠ x))) w
theorem cmp_isNaN_string_eq (x : ByteArray) (w : World) (R : Value → World → Prop) : cmp_isNaN_string x w R = fsem P Tryz.f96 (fun k => []) [(.string x)] R w := by kernel_rfl
theorem cmp_isNaN_string_ret {x : ByteArray} {w : World} {R : Value → World → Prop} (h : cmp_isNaN_string x w R) : Ret P 96 [(.string x)] w R :=
  Ret.of_fsem Tryz.func96 rfl (Eq.mp (cmp_isNaN_string_eq x w R) h)
def slices_BinarySearchFunc_impl_Money_impl_Money_impl_Money (x_p : Option Addr) (x_n : Nat) (x_c : Nat) (target0 : ByteArray) (target1 : Bool) (target2_p : Option Addr) (target2_n : Nat) (target2_c : Nat) (cmp : Value) (w : World) (R : Value → World → Prop) : Prop :=
  ∀ (r : Nat) (wv : World), New w (.cells ⟨[(.string target0), (.bool target1), (.slice target2_p target2_n target2_c)]⟩ 55 (0, 0)) r wv →
  ∃ (Inv : Int → Int → World → Prop) (mu : Int → Int → World → Nat), Inv 0 ((x_n : Nat) : Int) wv ∧
  ∀ (junk : Fr) (wv_1 : World) (i : Int) (j : Int), Inv i j wv_1 →
    ((decide ((i : Int) < j)) = true →
      ∃ t20 : Int, t20 = IntKind.wrap .i64 (i + j) ∧ ∃ t21 : Int, t21 = IntKind.wrap .u64 t20 ∧ 0 ≤ (1 : Int) ∧ ∃ t22 : Int, t22 = Int.fdiv t21 (2 ^ (min (1 : Int).toNat (IntKind.bits .u64))) ∧ ∃ t23 : Int, t23 = IntKind.wrap .i64 t22 ∧ (0 ≤ (t23 : Int) ∧ (t23 : Int) < (x_n : Nat)) ∧ ptrS x_p fun ad => ∃ (t280 : ByteArray) (t281 : Bool) (t282_p : Option Addr) (t282_n : Nat) (t282_c : Nat), (∀ wv_2, Ext wv_1.drew wv_2 → Loads P 55 (ad.add (t23.toNat * 3)) (.agg #[(.string t280), (.bool t281), (.slice t282_p t282_n t282_c)]) wv_2) ∧ ∃ (t290 : ByteArray) (t291 : Bool) (t292_p : Option Addr) (t292_n : Nat) (t292_c : Nat), (∀ wv_3, Ext wv_1.drew wv_3 → Loads P 55 ⟨r, 0, none⟩ (.agg #[(.string t290), (.bool t291), (.slice t292_p t292_n t292_c)]) wv_3) ∧ CallW P cmp [(.agg #[(.string t280), (.bool t281), (.slice t282_p t282_n t282_c)]), (.agg #[(.string t290), (.bool t291), (.slice t292_p t292_n t292_c)])] wv_1.drew fun e wv_4 =>
      ∃ (t30 : Int), e = .returned (.int .i64 t30) ∧
      ((decide ((t30 : Int) < 0)) = true →
        ∃ t33 : Int, t33 = IntKind.wrap .i64 (t23 + 1) ∧ Inv t33 j wv_4 ∧ mu t33 j wv_4 < mu i j wv_1) ∧
      ((decide ((t30 : Int) < 0)) = false →
        Inv i t23 wv_4 ∧ mu i t23 wv_4 < mu i j wv_1)) ∧
    ((decide ((i : Int) < j)) = false →
      ((decide ((i : Int) < ((x_n : Nat) : Int))) = true →
        (0 ≤ (i : Int) ∧ (i : Int) < (x_n : Nat)) ∧ ptrS x_p fun ad_1 => ∃ (t440 : ByteArray) (t441 : Bool) (t442_p : Option Addr) (t442_n : Nat) (t442_c : Nat), (∀ wv_5, Ext wv_1.drew wv_5 → Loads P 55 (ad_1.add (i.toNat * 3)) (.agg #[(.string t440), (.bool t441), (.slice t442_p t442_n t442_c)]) wv_5) ∧ ∃ (t450 : ByteArray) (t451 : Bool) (t452_p : Option Addr) (t452_n : Nat) (t452_c : Nat), (∀ wv_6, Ext wv_1.drew wv_6 → Loads P 55 ⟨r, 0, none⟩ (.agg #[(.string t450), (.bool t451), (.slice t452_p t452_n t452_c)]) wv_6) ∧ CallW P cmp [(.agg #[(.string t440), (.bool t441), (.slice t442_p t442_n t442_c)]), (.agg #[(.string t450), (.bool t451), (.slice t452_p t452_n t452_c)])] wv_1.drew fun e_1 wv_7 =>
        ∃ (t46 : Int), e_1 = .returned (.int .i64 t46) ∧
        R (.tuple #[(.int .i64 i), (.bool (decide ((t46 : Int) = 0)))]) wv_7) ∧
      ((decide ((i : Int) < ((x_n : Nat) : Int))) = false →
        R (.tuple #[(.int .i64 i), (.bool false)]) wv_1.drew))
theorem slices_BinarySearchFunc_impl_Money_impl_Money_impl_Money_eq (x_p : Option Addr) (x_n : Nat) (x_c : Nat) (target0 : ByteArray) (target1 : Bool) (target2_p : Option Addr) (target2_n : Nat) (target2_c : Nat) (cmp : Value) (w : World) (R : Value → World → Prop) : slices_BinarySearchFunc_impl_Money_impl_Money_impl_Money x_p x_n x_c target0 target1 target2_p target2_n target2_c cmp w R = fsem P Tryz.f97 (fun k => cond (Nat.beq k 4) [(9, .one (.int .i64)), (10, .one (.int .i64))] ([])) [(.slice x_p x_n x_c), (.agg #[(.string target0), (.bool target1), (.slice target2_p target2_n target2_c)]), cmp] R w := by kernel_rfl
theorem slices_BinarySearchFunc_impl_Money_impl_Money_impl_Money_ret {x_p : Option Addr} {x_n : Nat} {x_c : Nat} {target0 : ByteArray} {target1 : Bool} {target2_p : Option Addr} {target2_n : Nat} {target2_c : Nat} {cmp : Value} {w : World} {R : Value → World → Prop} (h : slices_BinarySearchFunc_impl_Money_impl_Money_impl_Money x_p x_n x_c target0 target1 target2_p target2_n target2_c cmp w R) : Ret P 97 [(.slice x_p x_n x_c), (.agg #[(.string target0), (.bool target1), (.slice target2_p target2_n target2_c)]), cmp] w R :=
  Ret.of_fsem Tryz.func97 rfl (Eq.mp (slices_BinarySearchFunc_impl_Money_impl_Money_impl_Money_eq x_p x_n x_c target0 target1 target2_p target2_n target2_c cmp w R) h)
def slices_Insert_impl_Money_impl_Money (s_p : Option Addr) (s_n : Nat) (s_c : Nat) (i : Int) (v_p : Option Addr) (v_n : Nat) (v_c : Nat) (w : World) (R : Value → World → Prop) : Prop :=
  (0 ≤ (i : Int) ∧ (i : Int) ≤ (s_n : Nat)) ∧ ((decide ((((v_n : Nat) : Int) : Int) = 0)) = true →
    R (.slice s_p s_n s_c) w) ∧
  ((decide ((((v_n : Nat) : Int) : Int) = 0)) = false →
    ((decide ((i : Int) = ((s_n : Nat) : Int))) = true →
      ∃ (t25_p : Option Addr) (t25_n : Nat) (t25_c : Nat) (wv : World), Appends P [77, 77] [(.slice s_p s_n s_c), (.slice v_p v_n v_c)] (.slice t25_p t25_n t25_c) w wv ∧
      R (.slice t25_p t25_n t25_c) wv) ∧
    ((decide ((i : Int) = ((s_n : Nat) : Int))) = false →
      ∃ t28 : Int, t28 = IntKind.wrap .i64 (((s_n : Nat) : Int) + ((v_n : Nat) : Int)) ∧ ((decide ((((s_c : Nat) : Int) : Int) < t28)) = true →
        (0 ≤ (i : Int) ∧ (i : Int) ≤ (s_c : Nat)) ∧ ∃ t37 : Int, t37 = IntKind.wrap .i64 (((s_n : Nat) : Int) + ((v_n : Nat) : Int)) ∧ ∃ t39 : Int, t39 = IntKind.wrap .i64 (t37 - i) ∧ ∃ (t40_p : Option Addr) (t40_n : Nat) (t40_c : Nat) (wv_1 : World), Appends P [77, 3] [(.slice (sub s_p 0 s_c 3) (i.toNat - 0) (s_c - 0)), (.int .i64 t39)] (.slice t40_p t40_n t40_c) w wv_1 ∧
        (0 ≤ (i : Int) ∧ (i : Int) ≤ (t40_n : Nat)) ∧ ∃ (t45 : Int) (wv_2 : World), Copies P [77, 77] [(.slice (sub t40_p i.toNat t40_c 3) (t40_n - i.toNat) (t40_c - i.toNat)), (.slice v_p v_n v_c)] (.int .i64 t45) wv_1 wv_2 ∧
        ∃ t49 : Int, t49 = IntKind.wrap .i64 (i + ((v_n : Nat) : Int)) ∧ (0 ≤ (t49 : Int) ∧ (t49 : Int) ≤ (t40_n : Nat)) ∧ (0 ≤ (i : Int) ∧ (i : Int) ≤ (s_n : Nat)) ∧ ∃ (t54 : Int) (wv_3 : World), Copies P [77, 77] [(.slice (sub t40_p t49.toNat t40_c 3) (t40_n - t49.toNat) (t40_c - t49.toNat)), (.slice (sub s_p i.toNat s_c 3) (s_n - i.toNat) (s_c - i.toNat))] (.int .i64 t54) wv_2.drew wv_3 ∧
        R (.slice t40_p t40_n t40_c) wv_3) ∧
      ((decide ((((s_c : Nat) : Int) : Int) < t28)) = false →
        ∃ t59 : Int, t59 = IntKind.wrap .i64 (((s_n : Nat) : Int) + ((v_n : Nat) : Int)) ∧ (0 ≤ (t59 : Int) ∧ (t59 : Int) ≤ (s_c : Nat)) ∧ ∃ t65 : Int, t65 = IntKind.wrap .i64 (i + ((v_n : Nat) : Int)) ∧ (0 ≤ (t65 : Int) ∧ (t65 : Int) ≤ ((t59.toNat - 0) : Nat)) ∧ ∃ (t67 : Bool) (wv_4 : World), Externs P 108 [(.slice v_p v_n v_c), (.slice (sub (sub s_p 0 s_c 3) t65.toNat (s_c - 0) 3) ((t59.toNat - 0) - t65.toNat) ((s_c - 0) - t65.toNat))] (.bool t67) w wv_4 ∧
        ((!t67) = true →
          ∃ t72_1 : Int, t72_1 = IntKind.wrap .i64 (i + ((v_n : Nat) : Int)) ∧ (0 ≤ (t72_1 : Int) ∧ (t72_1 : Int) ≤ ((t59.toNat - 0) : Nat)) ∧ (0 ≤ (i : Int) ∧ (i : Int) ≤ ((t59.toNat - 0) : Nat)) ∧ ∃ (t77_1 : Int) (wv_9 : World), Copies P [77, 77] [(.slice (sub (sub s_p 0 s_c 3) t72_1.toNat (s_c - 0) 3) ((t59.toNat - 0) - t72_1.toNat) ((s_c - 0) - t72_1.toNat)), (.slice (sub (sub s_p 0 s_c 3) i.toNat (s_c - 0) 3) ((t59.toNat - 0) - i.toNat) ((s_c - 0) - i.toNat))] (.int .i64 t77_1) wv_4.drew wv_9 ∧
          (0 ≤ (i : Int) ∧ (i : Int) ≤ ((t59.toNat - 0) : Nat)) ∧ ∃ (t82_1 : Int) (wv_10 : World), Copies P [77, 77] [(.slice (sub (sub s_p 0 s_c 3) i.toNat (s_c - 0) 3) ((t59.toNat - 0) - i.toNat) ((s_c - 0) - i.toNat)), (.slice v_p v_n v_c)] (.int .i64 t82_1) wv_9 wv_10 ∧
          R (.slice (sub s_p 0 s_c 3) (t59.toNat - 0) (s_c - 0)) wv_10) ∧
        ((!t67) = false →
          (0 ≤ (((s_n : Nat) : Int) : Int) ∧ (((s_n : Nat) : Int) : Int) ≤ ((t59.toNat - 0) : Nat)) ∧ ∃ (t88_1 : Int) (wv_11 : World), Copies P [77, 77] [(.slice (sub (sub s_p 0 s_c 3) s_n (s_c - 0) 3) ((t59.toNat - 0) - s_n) ((s_c - 0) - s_n)), (.slice v_p v_n v_c)] (.int .i64 t88_1) wv_4 wv_11 ∧
          (0 ≤ (i : Int) ∧ (i : Int) ≤ ((t59.toNat - 0) : Nat)) ∧ Calls P 109 ⟨[(.slice (sub (sub s_p 0 s_c 3) i.toNat (s_c - 0) 3) ((t59.toNat - 0) - i.toNat) ((s_c - 0) - i.toNat)), (.int .i64 ((v_n : Nat) : Int))]⟩ wv_11 fun e_2 wv_12 =>
          e_2 = .returned (.tuple #[]) ∧
          R (.slice (sub s_p 0 s_c 3) (t59.toNat - 0) (s_c - 0)) wv_12))))
theorem slices_Insert_impl_Money_impl_Money_eq (s_p : Option Addr) (s_n : Nat) (s_c : Nat) (i : Int) (v_p : Option Addr) (v_n : Nat) (v_c : Nat) (w : World) (R : Value → World → Prop) : slices_Insert_impl_Money_impl_Money s_p s_n s_c i v_p v_n v_c w R = fsem P Tryz.f98 (fun k => []) [(.slice s_p s_n s_c), (.int .i64 i), (.slice v_p v_n v_c)] R w := by kernel_rfl
theorem slices_Insert_impl_Money_impl_Money_ret {s_p : Option Addr} {s_n : Nat} {s_c : Nat} {i : Int} {v_p : Option Addr} {v_n : Nat} {v_c : Nat} {w : World} {R : Value → World → Prop} (h : slices_Insert_impl_Money_impl_Money s_p s_n s_c i v_p v_n v_c w R) : Ret P 98 [(.slice s_p s_n s_c), (.int .i64 i), (.slice v_p v_n v_c)] w R :=
  Ret.of_fsem Tryz.func98 rfl (Eq.mp (slices_Insert_impl_Money_impl_Money_eq s_p s_n s_c i v_p v_n v_c w R) h)
def impl_signed (neg : Bool) (mag_p : Option Addr) (mag_n : Nat) (mag_c : Nat) (w : World) (R : Value → World → Prop) : Prop :=
  ∀ (r : Nat) (wv : World), New w (.cells ⟨[(.bool false), (.slice none 0 0)]⟩ 53 (0, 0)) r wv →
  (neg = true →
    ∃ wv_1, Stores P 53 ⟨r, 0, none⟩ (.agg #[(.bool (decide ((0 : Int) < ((mag_n : Nat) : Int)))), (.slice mag_p mag_n mag_c)]) wv wv_1 ∧
    ∃ (r0 : Bool) (r1_p : Option Addr) (r1_n : Nat) (r1_c : Nat), Loads P 53 ⟨r, 0, none⟩ (.agg #[(.bool r0), (.slice r1_p r1_n r1_c)]) wv_1 ∧ R (.agg #[(.bool r0), (.slice r1_p r1_n r1_c)]) wv_1) ∧
  (neg = false →
    ∃ wv_2, Stores P 53 ⟨r, 0, none⟩ (.agg #[(.bool false), (.slice mag_p mag_n mag_c)]) wv wv_2 ∧
    ∃ (r0_1 : Bool) (r1_p_1 : Option Addr) (r1_n_1 : Nat) (r1_c_1 : Nat), Loads P 53 ⟨r, 0, none⟩ (.agg #[(.bool r0_1), (.slice r1_p_1 r1_n_1 r1_c_1)]) wv_2 ∧ R (.agg #[(.bool r0_1), (.slice r1_p_1 r1_n_1 r1_c_1)]) wv_2)
theorem impl_signed_eq (neg : Bool) (mag_p : Option Addr) (mag_n : Nat) (mag_c : Nat) (w : World) (R : Value → World → Prop) : impl_signed neg mag_p mag_n mag_c w R = fsem P Tryz.f99 (fun k => []) [(.bool neg), (.slice mag_p mag_n mag_c)] R w := by kernel_rfl
theorem impl_signed_ret {neg : Bool} {mag_p : Option Addr} {mag_n : Nat} {mag_c : Nat} {w : World} {R : Value → World → Prop} (h : impl_signed neg mag_p mag_n mag_c w R) : Ret P 99 [(.bool neg), (.slice mag_p mag_n mag_c)] w R :=
  Ret.of_fsem Tryz.func99 rfl (Eq.mp (impl_signed_eq neg mag_p mag_n mag_c w R) h)
def impl_natAdd_j1 (wv_1 : World) (Inv : Option Addr → Nat → Nat → Int → Int → World → Prop) (mu : Option Addr → Nat → Nat → Int → Int → World → Nat) (out_p : Option Addr) (out_n : Nat) (out_c : Nat) (carry : Int) (i : Int) (carry_2 : Int) (W_1 : World) (R : Value → World → Prop) : Prop :=
  (1000000000 : Int) ≠ 0 ∧ ∃ t46 : Int, t46 = Int.tmod carry_2 1000000000 ∧ ∀ (r_1 : Nat) (wv_2 : World), New W_1 (.cells ⟨[(.int .i64 t46)]⟩ 3 (0, 0)) r_1 wv_2 →
  ∃ (t48_p : Option Addr) (t48_n : Nat) (t48_c : Nat) (wv_3 : World), Appends P [44, 44] [(.slice out_p out_n out_c), (.slice (some ⟨r_1, 0, none⟩) 1 1)] (.slice t48_p t48_n t48_c) wv_2 wv_3 ∧
  (1000000000 : Int) ≠ 0 ∧ ∃ t50 : Int, t50 = IntKind.wrap .i64 (Int.tdiv carry_2 1000000000) ∧ ∃ t23 : Int, t23 = IntKind.wrap .i64 (i + 1) ∧ Inv t48_p t48_n t48_c t50 t23 wv_3 ∧ mu t48_p t48_n t48_c t50 t23 wv_3 < mu out_p out_n out_c carry i wv_1
def impl_natAdd_j0 (b_p : Option Addr) (b_n : Nat) (wv_1 : World) (Inv : Option Addr → Nat → Nat → Int → Int → World → Prop) (mu : Option Addr → Nat → Nat → Int → Int → World → Nat) (out_p : Option Addr) (out_n : Nat) (out_c : Nat) (carry : Int) (i : Int) (carry_1 : Int) (W : World) (R : Value → World → Prop) : Prop :=
  ((decide ((i : Int) < ((b_n : Nat) : Int))) = true →
    (0 ≤ (i : Int) ∧ (i : Int) < (b_n : Nat)) ∧ ptrS b_p fun ad_1 => ∃ (t42 : Int), Loads P 3 (ad_1.add (i.toNat * 1)) (.int .i64 t42) W ∧ ∃ t43 : Int, t43 = IntKind.wrap .i64 (carry_1 + t42) ∧ impl_natAdd_j1 wv_1 Inv mu out_p out_n out_c carry i t43 W R) ∧
  ((decide ((i : Int) < ((b_n : Nat) : Int))) = false →
    impl_natAdd_j1 wv_1 Inv mu out_p out_n out_c carry i carry_1 W R)
def impl_natAdd (a_p : Option Addr) (a_n : Nat) (a_c : Nat) (b_p : Option Addr) (b_n : Nat) (b_c : Nat) (w : World) (R : Value → World → Prop) : Prop :=
  ∃ t12 : Int, t12 = (if ((b_n : Nat) : Int) > ((a_n : Nat) : Int) then ((b_n : Nat) : Int) else ((a_n : Nat) : Int)) ∧ ∃ t13 : Int, t13 = IntKind.wrap .i64 (t12 + 1) ∧ (0 ≤ (0 : Int) ∧ (0 : Int) ≤ t13 ∧ ((8 : Nat) : Int) * t13 ≤ 281474976710656) ∧
  ∀ (r : Nat) (wv : World), New w (.cells ⟨zeroRow (.int .i64 0) (t13.toNat * 1)⟩ 3 (0, 0)) r wv →
  ∃ (Inv : Option Addr → Nat → Nat → Int → Int → World → Prop) (mu : Option Addr → Nat → Nat → Int → Int → World → Nat), Inv (some ⟨r, 0, none⟩) 0 t13.toNat 0 0 wv ∧
  ∀ (junk : Fr) (wv_1 : World) (out_p : Option Addr) (out_n : Nat) (out_c : Nat) (carry : Int) (i : Int), Inv out_p out_n out_c carry i wv_1 →
    ∃ t20 : Int, t20 = (if ((b_n : Nat) : Int) > ((a_n : Nat) : Int) then ((b_n : Nat) : Int) else ((a_n : Nat) : Int)) ∧ ((decide ((i : Int) < t20)) = true →
      ((decide ((i : Int) < ((a_n : Nat) : Int))) = true →
        (0 ≤ (i : Int) ∧ (i : Int) < (a_n : Nat)) ∧ ptrS a_p fun ad => ∃ (t32 : Int), Loads P 3 (ad.add (i.toNat * 1)) (.int .i64 t32) wv_1 ∧ ∃ t33 : Int, t33 = IntKind.wrap .i64 (carry + t32) ∧ impl_natAdd_j0 b_p b_n wv_1 Inv mu out_p out_n out_c carry i t33 wv_1 R) ∧
      ((decide ((i : Int) < ((a_n : Nat) : Int))) = false →
        impl_natAdd_j0 b_p b_n wv_1 Inv mu out_p out_n out_c carry i carry wv_1 R)) ∧
    ((decide ((i : Int) < t20)) = false →
      ∀ (r_2 : Nat) (wv_4 : World), New wv_1 (.cells ⟨[(.int .i64 carry)]⟩ 3 (0, 0)) r_2 wv_4 →
      ∃ (t54_p : Option Addr) (t54_n : Nat) (t54_c : Nat) (wv_5 : World), Appends P [44, 44] [(.slice out_p out_n out_c), (.slice (some ⟨r_2, 0, none⟩) 1 1)] (.slice t54_p t54_n t54_c) wv_4 wv_5 ∧
      Calls P 110 ⟨[(.slice t54_p t54_n t54_c)]⟩ wv_5 fun e wv_6 =>
      ∃ (t55_p : Option Addr) (t55_n : Nat) (t55_c : Nat), e = .returned (.slice t55_p t55_n t55_c) ∧
      R (.slice t55_p t55_n t55_c) wv_6)
theorem impl_natAdd_eq (a_p : Option Addr) (a_n : Nat) (a_c : Nat) (b_p : Option Addr) (b_n : Nat) (b_c : Nat) (w : World) (R : Value → World → Prop) : impl_natAdd a_p a_n a_c b_p b_n b_c w R = fsem P Tryz.f100 (fun k => cond (Nat.beq k 5) [(5, .one .slice), (6, .one (.int .i64)), (7, .one (.int .i64))] ([])) [(.slice a_p a_n a_c), (.slice b_p b_n b_c)] R w := by kernel_rfl
theorem impl_natAdd_ret {a_p : Option Addr} {a_n : Nat} {a_c : Nat} {b_p : Option Addr} {b_n : Nat} {b_c : Nat} {w : World} {R : Value → World → Prop} (h : impl_natAdd a_p a_n a_c b_p b_n b_c w R) : Ret P 100 [(.slice a_p a_n a_c), (.slice b_p b_n b_c)] w R :=
  Ret.of_fsem Tryz.func100 rfl (Eq.mp (impl_natAdd_eq a_p a_n a_c b_p b_n b_c w R) h)
def impl_natCmp (a_p : Option Addr) (a_n : Nat) (a_c : Nat) (b_p : Option Addr) (b_n : Nat) (b_c : Nat) (w : World) (R : Value → World → Prop) : Prop :=
  ((decide ((((a_n : Nat) : Int) : Int) ≠ ((b_n : Nat) : Int))) = true →
    ((decide ((((a_n : Nat) : Int) : Int) < ((b_n : Nat) : Int))) = true →
      R (.int .i64 (-1)) w) ∧
    ((decide ((((a_n : Nat) : Int) : Int) < ((b_n : Nat) : Int))) = false →
      R (.int .i64 1) w)) ∧
  ((decide ((((a_n : Nat) : Int) : Int) ≠ ((b_n : Nat) : Int))) = false →
    ∃ t18 : Int, t18 = IntKind.wrap .i64 (((a_n : Nat) : Int) - 1) ∧ ∃ (Inv : Int → World → Prop) (mu : Int → World → Nat), Inv t18 w ∧
    ∀ (junk : Fr) (wv : World) (i : Int), Inv i wv →
      ((decide ((0 : Int) ≤ i)) = true →
        (0 ≤ (i : Int) ∧ (i : Int) < (a_n : Nat)) ∧ ptrS a_p fun ad => ∃ (t26 : Int), (∀ wv_1, Ext wv.drew wv_1 → Loads P 3 (ad.add (i.toNat * 1)) (.int .i64 t26) wv_1) ∧ (0 ≤ (i : Int) ∧ (i : Int) < (b_n : Nat)) ∧ ptrS b_p fun ad_1 => ∃ (t30 : Int), (∀ wv_2, Ext wv.drew wv_2 → Loads P 3 (ad_1.add (i.toNat * 1)) (.int .i64 t30) wv_2) ∧ ((decide ((t26 : Int) ≠ t30)) = true →
          (0 ≤ (i : Int) ∧ (i : Int) < (a_n : Nat)) ∧ ptrS a_p fun ad_2 => ∃ (t35 : Int), (∀ wv_3, Ext wv.drew.drew wv_3 → Loads P 3 (ad_2.add (i.toNat * 1)) (.int .i64 t35) wv_3) ∧ (0 ≤ (i : Int) ∧ (i : Int) < (b_n : Nat)) ∧ ptrS b_p fun ad_3 => ∃ (t39 : Int), (∀ wv_4, Ext wv.drew.drew wv_4 → Loads P 3 (ad_3.add (i.toNat * 1)) (.int .i64 t39) wv_4) ∧ ((decide ((t35 : Int) < t39)) = true →
            R (.int .i64 (-1)) wv.drew.drew) ∧
          ((decide ((t35 : Int) < t39)) = false →
            R (.int .i64 1) wv.drew.drew)) ∧
        ((decide ((t26 : Int) ≠ t30)) = false →
          ∃ t22 : Int, t22 = IntKind.wrap .i64 (i - 1) ∧ Inv t22 wv.drew ∧ mu t22 wv.drew < mu i wv)) ∧
      ((decide ((0 : Int) ≤ i)) = false →
        R (.int .i64 0) wv))
theorem impl_natCmp_eq (a_p : Option Addr) (a_n : Nat) (a_c : Nat) (b_p : Option Addr) (b_n : Nat) (b_c : Nat) (w : World) (R : Value → World → Prop) : impl_natCmp a_p a_n a_c b_p b_n b_c w R = fsem P Tryz.f101 (fun k => cond (Nat.beq k 7) [(5, .one (.int .i64))] ([])) [(.slice a_p a_n a_c), (.slice b_p b_n b_c)] R w := by kernel_rfl
theorem impl_natCmp_ret {a_p : Option Addr} {a_n : Nat} {a_c : Nat} {b_p : Option Addr} {b_n : Nat} {b_c : Nat} {w : World} {R : Value → World → Prop} (h : impl_natCmp a_p a_n a_c b_p b_n b_c w R) : Ret P 101 [(.slice a_p a_n a_c), (.slice b_p b_n b_c)] w R :=
  Ret.of_fsem Tryz.func101 rfl (Eq.mp (impl_natCmp_eq a_p a_n a_c b_p b_n b_c w R) h)
end Go.Proofs.YtccpmkgiogpkhaaGreatDoor

namespace Go.Proofs.YtccpmkgiogpkhaaGreatDoor
open Go Go.Proofs.YtccpmkgiogpkhaaGreatDoor.Sx
set_option linter.unusedVariables false
set_option maxRecDepth 100000
def impl_natSub_j1 (a_n : Nat) (r : Nat) (wv_1 : World) (Inv : Int → Int → World → Prop) (mu : Int → Int → World → Nat) (borrow : Int) (t14 : Int) (borrow_1 : Int) (n_1 : Int) (W_1 : World) (R : Value → World → Prop) : Prop :=
  (0 ≤ (t14 : Int) ∧ (t14 : Int) < (a_n : Nat)) ∧ ∃ wv_2, Stores P 3 ((⟨r, 0, none⟩ : Addr).add (t14.toNat * 1)) (.int .i64 n_1) W_1 wv_2 ∧
  ∃ t41 : Int, t41 = IntKind.wrap .i64 (t14 + 1) ∧ Inv borrow_1 t41 wv_2 ∧ mu borrow_1 t41 wv_2 < mu borrow t14 wv_1
def impl_natSub_j0 (a_n : Nat) (r : Nat) (wv_1 : World) (Inv : Int → Int → World → Prop) (mu : Int → Int → World → Nat) (borrow : Int) (t14 : Int) (n : Int) (W : World) (R : Value → World → Prop) : Prop :=
  ((decide ((n : Int) < 0)) = true →
    ∃ t36 : Int, t36 = IntKind.wrap .i64 (n + 1000000000) ∧ impl_natSub_j1 a_n r wv_1 Inv mu borrow t14 1 t36 W R) ∧
  ((decide ((n : Int) < 0)) = false →
    impl_natSub_j1 a_n r wv_1 Inv mu borrow t14 0 n W R)
def impl_natSub (a_p : Option Addr) (a_n : Nat) (a_c : Nat) (b_p : Option Addr) (b_n : Nat) (b_c : Nat) (w : World) (R : Value → World → Prop) : Prop :=
  (0 ≤ (((a_n : Nat) : Int) : Int) ∧ (((a_n : Nat) : Int) : Int) ≤ ((a_n : Nat) : Int) ∧ ((8 : Nat) : Int) * ((a_n : Nat) : Int) ≤ 281474976710656) ∧
  ∀ (r : Nat) (wv : World), New w (.cells ⟨zeroRow (.int .i64 0) (a_n * 1)⟩ 3 (0, 0)) r wv →
  ∃ (Inv : Int → Int → World → Prop) (mu : Int → Int → World → Nat), Inv 0 0 wv ∧
  ∀ (junk : Fr) (wv_1 : World) (borrow : Int) (t14 : Int), Inv borrow t14 wv_1 →
    ((decide ((t14 : Int) < ((a_n : Nat) : Int))) = true →
      (0 ≤ (t14 : Int) ∧ (t14 : Int) < (a_n : Nat)) ∧ ptrS a_p fun ad => ∃ (t20 : Int), Loads P 3 (ad.add (t14.toNat * 1)) (.int .i64 t20) wv_1 ∧ ∃ t22 : Int, t22 = IntKind.wrap .i64 (t20 - borrow) ∧ ((decide ((t14 : Int) < ((b_n : Nat) : Int))) = true →
        (0 ≤ (t14 : Int) ∧ (t14 : Int) < (b_n : Nat)) ∧ ptrS b_p fun ad_1 => ∃ (t31 : Int), Loads P 3 (ad_1.add (t14.toNat * 1)) (.int .i64 t31) wv_1 ∧ ∃ t32 : Int, t32 = IntKind.wrap .i64 (t22 - t31) ∧ impl_natSub_j0 a_n r wv_1 Inv mu borrow t14 t32 wv_1 R) ∧
      ((decide ((t14 : Int) < ((b_n : Nat) : Int))) = false →
        impl_natSub_j0 a_n r wv_1 Inv mu borrow t14 t22 wv_1 R)) ∧
    ((decide ((t14 : Int) < ((a_n : Nat) : Int))) = false →
      Calls P 110 ⟨[(.slice (some ⟨r, 0, none⟩) a_n a_n)]⟩ wv_1 fun e wv_3 =>
      ∃ (t43_p : Option Addr) (t43_n : Nat) (t43_c : Nat), e = .returned (.slice t43_p t43_n t43_c) ∧
      R (.slice t43_p t43_n t43_c) wv_3)
theorem impl_natSub_eq (a_p : Option Addr) (a_n : Nat) (a_c : Nat) (b_p : Option Addr) (b_n : Nat) (b_c : Nat) (w : World) (R : Value → World → Prop) : impl_natSub a_p a_n a_c b_p b_n b_c w R = fsem P Tryz.f102 (fun k => cond (Nat.beq k 5) [(6, .one (.int .i64)), (14, .one (.int .i64))] ([])) [(.slice a_p a_n a_c), (.slice b_p b_n b_c)] R w := by kernel_rfl
theorem impl_natSub_ret {a_p : Option Addr} {a_n : Nat} {a_c : Nat} {b_p : Option Addr} {b_n : Nat} {b_c : Nat} {w : World} {R : Value → World → Prop} (h : impl_natSub a_p a_n a_c b_p b_n b_c w R) : Ret P 102 [(.slice a_p a_n a_c), (.slice b_p b_n b_c)] w R :=
  Ret.of_fsem Tryz.func102 rfl (Eq.mp (impl_natSub_eq a_p a_n a_c b_p b_n b_c w R) h)
def impl_changed (b0_p : Option Addr) (b0_n : Nat) (b0_c : Nat) (dov : Value) (w : World) (R : Value → World → Prop) : Prop :=
  ∀ (r : Nat) (wv : World), New w (.cells ⟨[(.slice b0_p b0_n b0_c)]⟩ 31 (0, 0)) r wv →
  ∀ (r_1 : Nat) (wv_1 : World), New wv (.cells ⟨[(.slice none 0 0)]⟩ 31 (0, 0)) r_1 wv_1 →
  ∃ (t70_p : Option Addr) (t70_n : Nat) (t70_c : Nat), Loads P 31 ⟨r, 0, none⟩ (.agg #[(.slice t70_p t70_n t70_c)]) wv_1 ∧ Calls P 111 ⟨[(.agg #[(.slice t70_p t70_n t70_c)])]⟩ wv_1 fun e wv_2 =>
  ∃ (t80_p : Option Addr) (t80_n : Nat) (t80_c : Nat), e = .returned (.agg #[(.slice t80_p t80_n t80_c)]) ∧
  ∀ (r_2 : Nat) (wv_3 : World), New wv_2 (.cells ⟨[(.int .i32 0), (.int .u32 0), (.slice none 0 0)]⟩ 141 (0, 0)) r_2 wv_3 →
  ∃ wv_4, Stores P 141 ⟨r_2, 0, none⟩ (.agg #[(.int .i32 0), (.int .u32 0), (.slice t80_p t80_n t80_c)]) wv_3 wv_4 ∧
  Calls P 112 ⟨[(.pointer (some ⟨r_2, 0, none⟩)), dov]⟩ wv_4 fun e_1 wv_5 =>
  ∃ (t11 : Bool), e_1 = .returned (.bool t11) ∧
  ((!t11) = true →
    ∃ wv_6, Stores P 31 ⟨r_1, 0, none⟩ (.agg #[(.slice none 0 0)]) wv_5 wv_6 ∧
    ∃ (r0_p : Option Addr) (r0_n : Nat) (r0_c : Nat), Loads P 31 ⟨r_1, 0, none⟩ (.agg #[(.slice r0_p r0_n r0_c)]) wv_6 ∧ R (.tuple #[(.agg #[(.slice r0_p r0_n r0_c)]), (.bool false)]) wv_6) ∧
  ((!t11) = false →
    ∃ (t150_p : Option Addr) (t150_n : Nat) (t150_c : Nat), Loads P 31 ((⟨r_2, 0, none⟩ : Addr).add 2) (.agg #[(.slice t150_p t150_n t150_c)]) wv_5 ∧ ∃ wv_7, Stores P 31 ⟨r_1, 0, none⟩ (.agg #[(.slice t150_p t150_n t150_c)]) wv_5 wv_7 ∧
    ∃ (r0_p_1 : Option Addr) (r0_n_1 : Nat) (r0_c_1 : Nat), Loads P 31 ⟨r_1, 0, none⟩ (.agg #[(.slice r0_p_1 r0_n_1 r0_c_1)]) wv_7 ∧ R (.tuple #[(.agg #[(.slice r0_p_1 r0_n_1 r0_c_1)]), (.bool true)]) wv_7)
theorem impl_changed_eq (b0_p : Option Addr) (b0_n : Nat) (b0_c : Nat) (dov : Value) (w : World) (R : Value → World → Prop) : impl_changed b0_p b0_n b0_c dov w R = fsem P Tryz.f103 (fun k => []) [(.agg #[(.slice b0_p b0_n b0_c)]), dov] R w := by kernel_rfl
theorem impl_changed_ret {b0_p : Option Addr} {b0_n : Nat} {b0_c : Nat} {dov : Value} {w : World} {R : Value → World → Prop} (h : impl_changed b0_p b0_n b0_c dov w R) : Ret P 103 [(.agg #[(.slice b0_p b0_n b0_c)]), dov] w R :=
  Ret.of_fsem Tryz.func103 rfl (Eq.mp (impl_changed_eq b0_p b0_n b0_c dov w R) h)
def impl_BookPost_1 (b : Option Addr) (cap0 : Option Addr) (cap1 : Option Addr) (w : World) (R : Value → World → Prop) : Prop :=
  ptrS b fun ad => ∃ (t11_p : Option Addr) (t11_n : Nat) (t11_c : Nat), (∀ wv, Ext w.drew wv → Loads P 29 (ad.add 0) (.slice t11_p t11_n t11_c) wv) ∧ ptrS cap0 fun ad_1 => ∃ (t12 : Int), (∀ wv_1, Ext w.drew wv_1 → Loads P 3 ad_1 (.int .i64 t12) wv_1) ∧ (0 ≤ (t12 : Int) ∧ (t12 : Int) < (t11_n : Nat)) ∧ ptrS t11_p fun ad_2 => ∃ (t150 : ByteArray) (t151 : Bool) (t152_p : Option Addr) (t152_n : Nat) (t152_c : Nat), (∀ wv_2, Ext w.drew wv_2 → Loads P 55 ((ad_2.add (t12.toNat * 4)).add 1) (.agg #[(.string t150), (.bool t151), (.slice t152_p t152_n t152_c)]) wv_2) ∧ ptrS cap1 fun ad_3 => ∃ (t160 : ByteArray) (t161 : Bool) (t162_p : Option Addr) (t162_n : Nat) (t162_c : Nat), (∀ wv_3, Ext w.drew wv_3 → Loads P 55 ad_3 (.agg #[(.string t160), (.bool t161), (.slice t162_p t162_n t162_c)]) wv_3) ∧ ∀ (ss : List (Option Nat)) (wv_4 : World), Fl [.cells ⟨[(.string ByteArray.empty), (.bool false), (.slice none 0 0)]⟩ 55 (0, 0)] [none] w.drew ss wv_4 →
  Calls P 105 ⟨[(.agg #[(.string t150), (.bool t151), (.slice t152_p t152_n t152_c)]), (.agg #[(.string t160), (.bool t161), (.slice t162_p t162_n t162_c)])]⟩ wv_4 fun e wv_5 =>
  ∃ (t170 : ByteArray) (t171 : Bool) (t172_p : Option Addr) (t172_n : Nat) (t172_c : Nat) (t17 : Bool), e = .returned (.tuple #[(.agg #[(.string t170), (.bool t171), (.slice t172_p t172_n t172_c)]), (.bool t17)]) ∧
  ∀ (ss_1 : List (Option Nat)) (wv_6 : World) (r : Nat), Fl [.cells ⟨[(.string ByteArray.empty), (.bool false), (.slice none 0 0)]⟩ 55 (0, 0)] ss wv_5 ss_1 wv_6 → ss_1[0]? = some (some r) →
  ∃ wv_7, Stores P 55 ⟨r, 0, none⟩ (.agg #[(.string t170), (.bool t171), (.slice t172_p t172_n t172_c)]) wv_6 wv_7 ∧
  ptrS b fun ad_4 => ∃ (t23_p : Option Addr) (t23_n : Nat) (t23_c : Nat), (∀ wv_8, Ext wv_7.drew wv_8 → Loads P 29 (ad_4.add 0) (.slice t23_p t23_n t23_c) wv_8) ∧ ptrS cap0 fun ad_5 => ∃ (t24 : Int), (∀ wv_9, Ext wv_7.drew wv_9 → Loads P 3 ad_5 (.int .i64 t24) wv_9) ∧ ∃ (t250 : ByteArray) (t251 : Bool) (t252_p : Option Addr) (t252_n : Nat) (t252_c : Nat), (∀ wv_10, Ext wv_7.drew wv_10 → Loads P 55 ⟨r, 0, none⟩ (.agg #[(.string t250), (.bool t251), (.slice t252_p t252_n t252_c)]) wv_10) ∧ (0 ≤ (t24 : Int) ∧ (t24 : Int) < (t23_n : Nat)) ∧ ptrS t23_p fun ad_6 => ∃ wv_11, Stores P 55 ((ad_6.add (t24.toNat * 4)).add 1) (.agg #[(.string t250), (.bool t251), (.slice t252_p t252_n t252_c)]) wv_7.drew wv_11 ∧
  R (.bool t17) wv_11
theorem impl_BookPost_1_eq (b : Option Addr) (cap0 : Option Addr) (cap1 : Option Addr) (w : World) (R : Value → World → Prop) : impl_BookPost_1 b cap0 cap1 w R = fsem P Tryz.f104 (fun k => []) [(.pointer b), (.pointer cap0), (.pointer cap1)] R w := by kernel_rfl
theorem impl_BookPost_1_ret {b : Option Addr} {cap0 : Option Addr} {cap1 : Option Addr} {w : World} {R : Value → World → Prop} (h : impl_BookPost_1 b cap0 cap1 w R) : Ret P 104 [(.pointer b), (.pointer cap0), (.pointer cap1)] w R :=
  Ret.of_fsem Tryz.func104 rfl (Eq.mp (impl_BookPost_1_eq b cap0 cap1 w R) h)
def impl_MoneyAdd (m0 : ByteArray) (m1 : Bool) (m2_p : Option Addr) (m2_n : Nat) (m2_c : Nat) (n0 : ByteArray) (n1 : Bool) (n2_p : Option Addr) (n2_n : Nat) (n2_c : Nat) (w : World) (R : Value → World → Prop) : Prop :=
  ∀ (r : Nat) (wv : World), New w (.cells ⟨[(.string m0), (.bool m1), (.slice m2_p m2_n m2_c)]⟩ 55 (0, 0)) r wv →
  ∀ (r_1 : Nat) (wv_1 : World), New wv (.cells ⟨[(.string n0), (.bool n1), (.slice n2_p n2_n n2_c)]⟩ 55 (0, 0)) r_1 wv_1 →
  ∀ (r_2 : Nat) (wv_2 : World), New wv_1 (.cells ⟨[(.string ByteArray.empty), (.bool false), (.slice none 0 0)]⟩ 55 (0, 0)) r_2 wv_2 →
  ∃ (t60 : ByteArray) (t61 : Bool) (t62_p : Option Addr) (t62_n : Nat) (t62_c : Nat), Loads P 55 ⟨r, 0, none⟩ (.agg #[(.string t60), (.bool t61), (.slice t62_p t62_n t62_c)]) wv_2 ∧ ∃ (t70 : ByteArray) (t71 : Bool) (t72_p : Option Addr) (t72_n : Nat) (t72_c : Nat), Loads P 55 ⟨r_1, 0, none⟩ (.agg #[(.string t70), (.bool t71), (.slice t72_p t72_n t72_c)]) wv_2 ∧ Calls P 113 ⟨[(.agg #[(.string t60), (.bool t61), (.slice t62_p t62_n t62_c)]), (.agg #[(.string t70), (.bool t71), (.slice t72_p t72_n t72_c)])]⟩ wv_2 fun e wv_3 =>
  ∃ (t8 : Bool), e = .returned (.bool t8) ∧
  ((!t8) = true →
    ∃ wv_4, Stores P 55 ⟨r_2, 0, none⟩ (.agg #[(.string ByteArray.empty), (.bool false), (.slice none 0 0)]) wv_3 wv_4 ∧
    ∃ (r0 : ByteArray) (r1 : Bool) (r2_p : Option Addr) (r2_n : Nat) (r2_c : Nat), Loads P 55 ⟨r_2, 0, none⟩ (.agg #[(.string r0), (.bool r1), (.slice r2_p r2_n r2_c)]) wv_4 ∧ R (.tuple #[(.agg #[(.string r0), (.bool r1), (.slice r2_p r2_n r2_c)]), (.bool false)]) wv_4) ∧
  ((!t8) = false →
    ∃ (t12 : ByteArray), (∀ wv_5, Ext wv_3.drew wv_5 → Loads P 9 ((⟨r, 0, none⟩ : Addr).add 0) (.string t12) wv_5) ∧ ∃ (t140 : Bool) (t141_p : Option Addr) (t141_n : Nat) (t141_c : Nat), (∀ wv_6, Ext wv_3.drew wv_6 → Loads P 53 ((⟨r, 0, none⟩ : Addr).add 1) (.agg #[(.bool t140), (.slice t141_p t141_n t141_c)]) wv_6) ∧ ∃ (t160 : Bool) (t161_p : Option Addr) (t161_n : Nat) (t161_c : Nat), (∀ wv_7, Ext wv_3.drew wv_7 → Loads P 53 ((⟨r_1, 0, none⟩ : Addr).add 1) (.agg #[(.bool t160), (.slice t161_p t161_n t161_c)]) wv_7) ∧ Calls P 87 ⟨[(.agg #[(.bool t140), (.slice t141_p t141_n t141_c)]), (.agg #[(.bool t160), (.slice t161_p t161_n t161_c)])]⟩ wv_3.drew fun e_1 wv_8 =>
    ∃ (t170 : Bool) (t171_p : Option Addr) (t171_n : Nat) (t171_c : Nat), e_1 = .returned (.agg #[(.bool t170), (.slice t171_p t171_n t171_c)]) ∧
    Ext wv_3.drew wv_8 ∧ Calls P 114 ⟨[(.string t12), (.agg #[(.bool t170), (.slice t171_p t171_n t171_c)])]⟩ wv_8 fun e_2 wv_9 =>
    ∃ (t180 : ByteArray) (t181 : Bool) (t182_p : Option Addr) (t182_n : Nat) (t182_c : Nat) (t18 : Bool), e_2 = .returned (.tuple #[(.agg #[(.string t180), (.bool t181), (.slice t182_p t182_n t182_c)]), (.bool t18)]) ∧
    ∃ wv_10, Stores P 55 ⟨r_2, 0, none⟩ (.agg #[(.string t180), (.bool t181), (.slice t182_p t182_n t182_c)]) wv_9 wv_10 ∧
    ∃ (r0_1 : ByteArray) (r1_1 : Bool) (r2_p_1 : Option Addr) (r2_n_1 : Nat) (r2_c_1 : Nat), Loads P 55 ⟨r_2, 0, none⟩ (.agg #[(.string r0_1), (.bool r1_1), (.slice r2_p_1 r2_n_1 r2_c_1)]) wv_10 ∧ R (.tuple #[(.agg #[(.string r0_1), (.bool r1_1), (.slice r2_p_1 r2_n_1 r2_c_1)]), (.bool t18)]) wv_10)
theorem impl_MoneyAdd_eq (m0 : ByteArray) (m1 : Bool) (m2_p : Option Addr) (m2_n : Nat) (m2_c : Nat) (n0 : ByteArray) (n1 : Bool) (n2_p : Option Addr) (n2_n : Nat) (n2_c : Nat) (w : World) (R : Value → World → Prop) : impl_MoneyAdd m0 m1 m2_p m2_n m2_c n0 n1 n2_p n2_n n2_c w R = fsem P Tryz.f105 (fun k => []) [(.agg #[(.string m0), (.bool m1), (.slice m2_p m2_n m2_c)]), (.agg #[(.string n0), (.bool n1), (.slice n2_p n2_n n2_c)])] R w := by kernel_rfl
theorem impl_MoneyAdd_ret {m0 : ByteArray} {m1 : Bool} {m2_p : Option Addr} {m2_n : Nat} {m2_c : Nat} {n0 : ByteArray} {n1 : Bool} {n2_p : Option Addr} {n2_n : Nat} {n2_c : Nat} {w : World} {R : Value → World → Prop} (h : impl_MoneyAdd m0 m1 m2_p m2_n m2_c n0 n1 n2_p n2_n n2_c w R) : Ret P 105 [(.agg #[(.string m0), (.bool m1), (.slice m2_p m2_n m2_c)]), (.agg #[(.string n0), (.bool n1), (.slice n2_p n2_n n2_c)])] w R :=
  Ret.of_fsem Tryz.func105 rfl (Eq.mp (impl_MoneyAdd_eq m0 m1 m2_p m2_n m2_c n0 n1 n2_p n2_n n2_c w R) h)
def spec_l02Cap (a_p : Option Addr) (a_n : Nat) (a_c : Nat) (w : World) (R : Value → World → Prop) : Prop :=
  Calls P 107 ⟨[(.slice a_p a_n a_c)]⟩ w fun e wv =>
  ∃ (t5_p : Option Addr) (t5_n : Nat) (t5_c : Nat), e = .returned (.slice t5_p t5_n t5_c) ∧
  ((decide ((50 : Int) < ((t5_n : Nat) : Int))) = true →
    R (.slice none 0 0) wv) ∧
  ((decide ((50 : Int) < ((t5_n : Nat) : Int))) = false →
    R (.slice t5_p t5_n t5_c) wv)
theorem spec_l02Cap_eq (a_p : Option Addr) (a_n : Nat) (a_c : Nat) (w : World) (R : Value → World → Prop) : spec_l02Cap a_p a_n a_c w R = fsem P Tryz.f106 (fun k => []) [(.slice a_p a_n a_c)] R w := by kernel_rfl
theorem spec_l02Cap_ret {a_p : Option Addr} {a_n : Nat} {a_c : Nat} {w : World} {R : Value → World → Prop} (h : spec_l02Cap a_p a_n a_c w R) : Ret P 106 [(.slice a_p a_n a_c)] w R :=
  Ret.of_fsem Tryz.func106 rfl (Eq.mp (spec_l02Cap_eq a_p a_n a_c w R) h)
def spec_l02Trim (a_p : Option Addr) (a_n : Nat) (a_c : Nat) (w : World) (R : Value → World → Prop) : Prop :=
  ∃ (Inv : Int → World → Prop) (mu : Int → World → Nat), Inv ((a_n : Nat) : Int) w ∧
  ∀ (junk : Fr) (wv : World) (n : Int), Inv n wv →
    ((decide ((0 : Int) < n)) = true →
      ∃ t11 : Int, t11 = IntKind.wrap .i64 (n - 1) ∧ (0 ≤ (t11 : Int) ∧ (t11 : Int) < (a_n : Nat)) ∧ ptrS a_p fun ad => ∃ (t13 : Int), Loads P 3 (ad.add (t11.toNat * 1)) (.int .i64 t13) wv ∧ ((decide ((t13 : Int) = 0)) = true →
        ∃ t17 : Int, t17 = IntKind.wrap .i64 (n - 1) ∧ Inv t17 wv ∧ mu t17 wv < mu n wv) ∧
      ((decide ((t13 : Int) = 0)) = false →
        (0 ≤ (n : Int) ∧ (n : Int) ≤ (a_c : Nat)) ∧ R (.slice (sub a_p 0 a_c 1) (n.toNat - 0) (a_c - 0)) wv)) ∧
    ((decide ((0 : Int) < n)) = false →
      (false = true →
        ∃ t17_1 : Int, t17_1 = IntKind.wrap .i64 (n - 1) ∧ Inv t17_1 wv ∧ mu t17_1 wv < mu n wv) ∧
      (false = false →
        (0 ≤ (n : Int) ∧ (n : Int) ≤ (a_c : Nat)) ∧ R (.slice (sub a_p 0 a_c 1) (n.toNat - 0) (a_c - 0)) wv))
theorem spec_l02Trim_eq (a_p : Option Addr) (a_n : Nat) (a_c : Nat) (w : World) (R : Value → World → Prop) : spec_l02Trim a_p a_n a_c w R = fsem P Tryz.f107 (fun k => cond (Nat.beq k 3) [(3, .one (.int .i64))] ([])) [(.slice a_p a_n a_c)] R w := by kernel_rfl
theorem spec_l02Trim_ret {a_p : Option Addr} {a_n : Nat} {a_c : Nat} {w : World} {R : Value → World → Prop} (h : spec_l02Trim a_p a_n a_c w R) : Ret P 107 [(.slice a_p a_n a_c)] w R :=
  Ret.of_fsem Tryz.func107 rfl (Eq.mp (spec_l02Trim_eq a_p a_n a_c w R) h)
def impl_trim (a_p : Option Addr) (a_n : Nat) (a_c : Nat) (w : World) (R : Value → World → Prop) : Prop :=
  ∃ (Inv : Option Addr → Nat → Nat → World → Prop) (mu : Option Addr → Nat → Nat → World → Nat), Inv a_p a_n a_c w ∧
  ∀ (junk : Fr) (wv : World) (a_p_1 : Option Addr) (a_n_1 : Nat) (a_c_1 : Nat), Inv a_p_1 a_n_1 a_c_1 wv →
    ((decide ((0 : Int) < ((a_n_1 : Nat) : Int))) = true →
      ∃ t10 : Int, t10 = IntKind.wrap .i64 (((a_n_1 : Nat) : Int) - 1) ∧ (0 ≤ (t10 : Int) ∧ (t10 : Int) < (a_n_1 : Nat)) ∧ ptrS a_p_1 fun ad => ∃ (t12 : Int), Loads P 3 (ad.add (t10.toNat * 1)) (.int .i64 t12) wv ∧ ((decide ((t12 : Int) = 0)) = true →
        ∃ t18 : Int, t18 = IntKind.wrap .i64 (((a_n_1 : Nat) : Int) - 1) ∧ (0 ≤ (t18 : Int) ∧ (t18 : Int) ≤ (a_c_1 : Nat)) ∧ Inv (sub a_p_1 0 a_c_1 1) (t18.toNat - 0) (a_c_1 - 0) wv ∧ mu (sub a_p_1 0 a_c_1 1) (t18.toNat - 0) (a_c_1 - 0) wv < mu a_p_1 a_n_1 a_c_1 wv) ∧
      ((decide ((t12 : Int) = 0)) = false →
        R (.slice a_p_1 a_n_1 a_c_1) wv)) ∧
    ((decide ((0 : Int) < ((a_n_1 : Nat) : Int))) = false →
      (false = true →
        ∃ t18_1 : Int, t18_1 = IntKind.wrap .i64 (((a_n_1 : Nat) : Int) - 1) ∧ (0 ≤ (t18_1 : Int) ∧ (t18_1 : Int) ≤ (a_c_1 : Nat)) ∧ Inv (sub a_p_1 0 a_c_1 1) (t18_1.toNat - 0) (a_c_1 - 0) wv ∧ mu (sub a_p_1 0 a_c_1 1) (t18_1.toNat - 0) (a_c_1 - 0) wv < mu a_p_1 a_n_1 a_c_1 wv) ∧
      (false = false →
        R (.slice a_p_1 a_n_1 a_c_1) wv))
theorem impl_trim_eq (a_p : Option Addr) (a_n : Nat) (a_c : Nat) (w : World) (R : Value → World → Prop) : impl_trim a_p a_n a_c w R = fsem P Tryz.f110 (fun k => cond (Nat.beq k 2) [(0, .one .slice)] ([])) [(.slice a_p a_n a_c)] R w := by kernel_rfl
theorem impl_trim_ret {a_p : Option Addr} {a_n : Nat} {a_c : Nat} {w : World} {R : Value → World → Prop} (h : impl_trim a_p a_n a_c w R) : Ret P 110 [(.slice a_p a_n a_c)] w R :=
  Ret.of_fsem Tryz.func110 rfl (Eq.mp (impl_trim_eq a_p a_n a_c w R) h)
def impl_bookCopy (b0_p : Option Addr) (b0_n : Nat) (b0_c : Nat) (w : World) (R : Value → World → Prop) : Prop :=
  ∀ (r : Nat) (wv : World), New w (.cells ⟨[(.slice b0_p b0_n b0_c)]⟩ 31 (0, 0)) r wv →
  ∀ (r_1 : Nat) (wv_1 : World), New wv (.cells ⟨[(.slice none 0 0)]⟩ 31 (0, 0)) r_1 wv_1 →
  ∃ (t7_p : Option Addr) (t7_n : Nat) (t7_c : Nat), Loads P 29 ((⟨r, 0, none⟩ : Addr).add 0) (.slice t7_p t7_n t7_c) wv_1 ∧ ∃ t9 : Int, t9 = IntKind.wrap .i64 (((t7_n : Nat) : Int) + 1) ∧ (0 ≤ (0 : Int) ∧ (0 : Int) ≤ t9 ∧ ((64 : Nat) : Int) * t9 ≤ 281474976710656) ∧
  ∀ (r_2 : Nat) (wv_2 : World), New wv_1 (.cells ⟨zeroRow (.agg #[(.string ByteArray.empty), (.string ByteArray.empty), (.bool false), (.slice none 0 0)]) (t9.toNat * 4)⟩ 59 (0, 0)) r_2 wv_2 →
  ∀ (r_3 : Nat) (wv_3 : World), New wv_2 (.cells ⟨[(.slice none 0 0)]⟩ 31 (0, 0)) r_3 wv_3 →
  ∃ wv_4, Stores P 31 ⟨r_3, 0, none⟩ (.agg #[(.slice (some ⟨r_2, 0, none⟩) 0 t9.toNat)]) wv_3 wv_4 ∧
  ∃ (t13_p : Option Addr) (t13_n : Nat) (t13_c : Nat), Loads P 29 ((⟨r, 0, none⟩ : Addr).add 0) (.slice t13_p t13_n t13_c) wv_4 ∧ ∃ (Inv : Int → World → Prop) (mu : Int → World → Nat), Inv 0 wv_4 ∧
  ∀ (junk : Fr) (wv_5 : World) (t15 : Int), Inv t15 wv_5 →
    ((decide ((t15 : Int) < ((t13_n : Nat) : Int))) = true →
      (0 ≤ (t15 : Int) ∧ (t15 : Int) < (t13_n : Nat)) ∧ ptrS t13_p fun ad => ∃ (t180 : ByteArray) (t181 : ByteArray) (t182 : Bool) (t183_p : Option Addr) (t183_n : Nat) (t183_c : Nat), Loads P 59 (ad.add (t15.toNat * 4)) (.agg #[(.string t180), (.string t181), (.bool t182), (.slice t183_p t183_n t183_c)]) wv_5 ∧ ∀ (r_4 : Nat) (wv_6 : World), New wv_5 (.cells ⟨[(.string ByteArray.empty), (.string ByteArray.empty), (.bool false), (.slice none 0 0)]⟩ 59 (0, 0)) r_4 wv_6 →
      ∃ wv_7, Stores P 59 ⟨r_4, 0, none⟩ (.agg #[(.string t180), (.string t181), (.bool t182), (.slice t183_p t183_n t183_c)]) wv_6 wv_7 ∧
      ∃ (t20_p : Option Addr) (t20_n : Nat) (t20_c : Nat), (∀ wv_8, Ext wv_7.drew wv_8 → Loads P 29 ((⟨r_3, 0, none⟩ : Addr).add 0) (.slice t20_p t20_n t20_c) wv_8) ∧ ∃ (t22 : ByteArray), (∀ wv_9, Ext wv_7.drew wv_9 → Loads P 9 ((⟨r_4, 0, none⟩ : Addr).add 0) (.string t22) wv_9) ∧ ∃ (t240 : ByteArray) (t241 : Bool) (t242_p : Option Addr) (t242_n : Nat) (t242_c : Nat), (∀ wv_10, Ext wv_7.drew wv_10 → Loads P 55 ((⟨r_4, 0, none⟩ : Addr).add 1) (.agg #[(.string t240), (.bool t241), (.slice t242_p t242_n t242_c)]) wv_10) ∧ Calls P 66 ⟨[(.agg #[(.string t240), (.bool t241), (.slice t242_p t242_n t242_c)])]⟩ wv_7.drew fun e wv_11 =>
      ∃ (t250 : ByteArray) (t251 : Bool) (t252_p : Option Addr) (t252_n : Nat) (t252_c : Nat), e = .returned (.agg #[(.string t250), (.bool t251), (.slice t252_p t252_n t252_c)]) ∧
      Ext wv_7.drew wv_11 ∧ ∀ (r_5 : Nat) (wv_12 : World), New wv_11 (.cells ⟨[(.string t22), (.string t250), (.bool t251), (.slice t252_p t252_n t252_c)]⟩ 59 (0, 0)) r_5 wv_12 →
      Ext wv_11 wv_12 ∧ ∃ (t28_p : Option Addr) (t28_n : Nat) (t28_c : Nat) (wv_13 : World), Appends P [29, 29] [(.slice t20_p t20_n t20_c), (.slice (some ⟨r_5, 0, none⟩) 1 1)] (.slice t28_p t28_n t28_c) wv_12 wv_13 ∧
      ∃ wv_14, Stores P 29 ((⟨r_3, 0, none⟩ : Addr).add 0) (.slice t28_p t28_n t28_c) wv_13 wv_14 ∧
      ∃ t30 : Int, t30 = IntKind.wrap .i64 (t15 + 1) ∧ Inv t30 wv_14 ∧ mu t30 wv_14 < mu t15 wv_5) ∧
    ((decide ((t15 : Int) < ((t13_n : Nat) : Int))) = false →
      ∃ (t310_p : Option Addr) (t310_n : Nat) (t310_c : Nat), Loads P 31 ⟨r_3, 0, none⟩ (.agg #[(.slice t310_p t310_n t310_c)]) wv_5 ∧ ∃ wv_15, Stores P 31 ⟨r_1, 0, none⟩ (.agg #[(.slice t310_p t310_n t310_c)]) wv_5 wv_15 ∧
      ∃ (r0_p : Option Addr) (r0_n : Nat) (r0_c : Nat), Loads P 31 ⟨r_1, 0, none⟩ (.agg #[(.slice r0_p r0_n r0_c)]) wv_15 ∧ R (.agg #[(.slice r0_p r0_n r0_c)]) wv_15)
theorem impl_bookCopy_eq (b0_p : Option Addr) (b0_n : Nat) (b0_c : Nat) (w : World) (R : Value → World → Prop) : impl_bookCopy b0_p b0_n b0_c w R = fsem P Tryz.f111 (fun k => cond (Nat.beq k 4) [(15, .one (.int .i64))] ([])) [(.agg #[(.slice b0_p b0_n b0_c)])] R w := by kernel_rfl
theorem impl_bookCopy_ret {b0_p : Option Addr} {b0_n : Nat} {b0_c : Nat} {w : World} {R : Value → World → Prop} (h : impl_bookCopy b0_p b0_n b0_c w R) : Ret P 111 [(.agg #[(.slice b0_p b0_n b0_c)])] w R :=
  Ret.of_fsem Tryz.func111 rfl (Eq.mp (impl_bookCopy_eq b0_p b0_n b0_c w R) h)
def impl_alike (m0 : ByteArray) (m1 : Bool) (m2_p : Option Addr) (m2_n : Nat) (m2_c : Nat) (n0 : ByteArray) (n1 : Bool) (n2_p : Option Addr) (n2_n : Nat) (n2_c : Nat) (w : World) (R : Value → World → Prop) : Prop :=
  ∀ (r : Nat) (wv : World), New w (.cells ⟨[(.string m0), (.bool m1), (.slice m2_p m2_n m2_c)]⟩ 55 (0, 0)) r wv →
  ∀ (r_1 : Nat) (wv_1 : World), New wv (.cells ⟨[(.string n0), (.bool n1), (.slice n2_p n2_n n2_c)]⟩ 55 (0, 0)) r_1 wv_1 →
  ∃ (t50 : ByteArray) (t51 : Bool) (t52_p : Option Addr) (t52_n : Nat) (t52_c : Nat), Loads P 55 ⟨r, 0, none⟩ (.agg #[(.string t50), (.bool t51), (.slice t52_p t52_n t52_c)]) wv_1 ∧ Calls P 64 ⟨[(.agg #[(.string t50), (.bool t51), (.slice t52_p t52_n t52_c)])]⟩ wv_1 fun e wv_2 =>
  ∃ (t6 : Bool), e = .returned (.bool t6) ∧
  (t6 = true →
    ∃ (t80 : ByteArray) (t81 : Bool) (t82_p : Option Addr) (t82_n : Nat) (t82_c : Nat), Loads P 55 ⟨r_1, 0, none⟩ (.agg #[(.string t80), (.bool t81), (.slice t82_p t82_n t82_c)]) wv_2 ∧ Calls P 64 ⟨[(.agg #[(.string t80), (.bool t81), (.slice t82_p t82_n t82_c)])]⟩ wv_2 fun e_1 wv_3 =>
    ∃ (t9 : Bool), e_1 = .returned (.bool t9) ∧
    (t9 = true →
      ∃ (t13 : ByteArray), Loads P 9 ((⟨r, 0, none⟩ : Addr).add 0) (.string t13) wv_3 ∧ ∃ (t15 : ByteArray), Loads P 9 ((⟨r_1, 0, none⟩ : Addr).add 0) (.string t15) wv_3 ∧ R (.bool (decide (t13 = t15))) wv_3) ∧
    (t9 = false →
      R (.bool false) wv_3)) ∧
  (t6 = false →
    (false = true →
      ∃ (t13_1 : ByteArray), Loads P 9 ((⟨r, 0, none⟩ : Addr).add 0) (.string t13_1) wv_2 ∧ ∃ (t15_1 : ByteArray), Loads P 9 ((⟨r_1, 0, none⟩ : Addr).add 0) (.string t15_1) wv_2 ∧ R (.bool (decide (t13_1 = t15_1))) wv_2) ∧
    (false = false →
      R (.bool false) wv_2))
theorem impl_alike_eq (m0 : ByteArray) (m1 : Bool) (m2_p : Option Addr) (m2_n : Nat) (m2_c : Nat) (n0 : ByteArray) (n1 : Bool) (n2_p : Option Addr) (n2_n : Nat) (n2_c : Nat) (w : World) (R : Value → World → Prop) : impl_alike m0 m1 m2_p m2_n m2_c n0 n1 n2_p n2_n n2_c w R = fsem P Tryz.f113 (fun k => []) [(.agg #[(.string m0), (.bool m1), (.slice m2_p m2_n m2_c)]), (.agg #[(.string n0), (.bool n1), (.slice n2_p n2_n n2_c)])] R w := by kernel_rfl
theorem impl_alike_ret {m0 : ByteArray} {m1 : Bool} {m2_p : Option Addr} {m2_n : Nat} {m2_c : Nat} {n0 : ByteArray} {n1 : Bool} {n2_p : Option Addr} {n2_n : Nat} {n2_c : Nat} {w : World} {R : Value → World → Prop} (h : impl_alike m0 m1 m2_p m2_n m2_c n0 n1 n2_p n2_n n2_c w R) : Ret P 113 [(.agg #[(.string m0), (.bool m1), (.slice m2_p m2_n m2_c)]), (.agg #[(.string n0), (.bool n1), (.slice n2_p n2_n n2_c)])] w R :=
  Ret.of_fsem Tryz.func113 rfl (Eq.mp (impl_alike_eq m0 m1 m2_p m2_n m2_c n0 n1 n2_p n2_n n2_c w R) h)
def impl_moneyOf (cur : ByteArray) (units0 : Bool) (units1_p : Option Addr) (units1_n : Nat) (units1_c : Nat) (w : World) (R : Value → World → Prop) : Prop :=
  ∀ (r : Nat) (wv : World), New w (.cells ⟨[(.bool units0), (.slice units1_p units1_n units1_c)]⟩ 53 (0, 0)) r wv →
  ∀ (r_1 : Nat) (wv_1 : World), New wv (.cells ⟨[(.string ByteArray.empty), (.bool false), (.slice none 0 0)]⟩ 55 (0, 0)) r_1 wv_1 →
  ∃ (t80 : Bool) (t81_p : Option Addr) (t81_n : Nat) (t81_c : Nat), Loads P 53 ⟨r, 0, none⟩ (.agg #[(.bool t80), (.slice t81_p t81_n t81_c)]) wv_1 ∧ ∀ (r_2 : Nat) (wv_2 : World), New wv_1 (.cells ⟨[(.string ByteArray.empty), (.bool false), (.slice none 0 0)]⟩ 55 (0, 0)) r_2 wv_2 →
  ∃ wv_3, Stores P 55 ⟨r_2, 0, none⟩ (.agg #[(.string cur), (.bool t80), (.slice t81_p t81_n t81_c)]) wv_2 wv_3 ∧
  ∃ (t100 : ByteArray) (t101 : Bool) (t102_p : Option Addr) (t102_n : Nat) (t102_c : Nat), Loads P 55 ⟨r_2, 0, none⟩ (.agg #[(.string t100), (.bool t101), (.slice t102_p t102_n t102_c)]) wv_3 ∧ Calls P 64 ⟨[(.agg #[(.string t100), (.bool t101), (.slice t102_p t102_n t102_c)])]⟩ wv_3 fun e wv_4 =>
  ∃ (t11 : Bool), e = .returned (.bool t11) ∧
  (t11 = true →
    ∃ (t120 : ByteArray) (t121 : Bool) (t122_p : Option Addr) (t122_n : Nat) (t122_c : Nat), Loads P 55 ⟨r_2, 0, none⟩ (.agg #[(.string t120), (.bool t121), (.slice t122_p t122_n t122_c)]) wv_4 ∧ ∃ wv_5, Stores P 55 ⟨r_1, 0, none⟩ (.agg #[(.string t120), (.bool t121), (.slice t122_p t122_n t122_c)]) wv_4 wv_5 ∧
    ∃ (r0 : ByteArray) (r1 : Bool) (r2_p : Option Addr) (r2_n : Nat) (r2_c : Nat), Loads P 55 ⟨r_1, 0, none⟩ (.agg #[(.string r0), (.bool r1), (.slice r2_p r2_n r2_c)]) wv_5 ∧ R (.tuple #[(.agg #[(.string r0), (.bool r1), (.slice r2_p r2_n r2_c)]), (.bool true)]) wv_5) ∧
  (t11 = false →
    ∃ wv_6, Stores P 55 ⟨r_1, 0, none⟩ (.agg #[(.string ByteArray.empty), (.bool false), (.slice none 0 0)]) wv_4 wv_6 ∧
    ∃ (r0_1 : ByteArray) (r1_1 : Bool) (r2_p_1 : Option Addr) (r2_n_1 : Nat) (r2_c_1 : Nat), Loads P 55 ⟨r_1, 0, none⟩ (.agg #[(.string r0_1), (.bool r1_1), (.slice r2_p_1 r2_n_1 r2_c_1)]) wv_6 ∧ R (.tuple #[(.agg #[(.string r0_1), (.bool r1_1), (.slice r2_p_1 r2_n_1 r2_c_1)]), (.bool false)]) wv_6)
theorem impl_moneyOf_eq (cur : ByteArray) (units0 : Bool) (units1_p : Option Addr) (units1_n : Nat) (units1_c : Nat) (w : World) (R : Value → World → Prop) : impl_moneyOf cur units0 units1_p units1_n units1_c w R = fsem P Tryz.f114 (fun k => []) [(.string cur), (.agg #[(.bool units0), (.slice units1_p units1_n units1_c)])] R w := by kernel_rfl
theorem impl_moneyOf_ret {cur : ByteArray} {units0 : Bool} {units1_p : Option Addr} {units1_n : Nat} {units1_c : Nat} {w : World} {R : Value → World → Prop} (h : impl_moneyOf cur units0 units1_p units1_n units1_c w R) : Ret P 114 [(.string cur), (.agg #[(.bool units0), (.slice units1_p units1_n units1_c)])] w R :=
  Ret.of_fsem Tryz.func114 rfl (Eq.mp (impl_moneyOf_eq cur units0 units1_p units1_n units1_c w R) h)
end Go.Proofs.YtccpmkgiogpkhaaGreatDoor
