/-
  Parts of the proof of stepsText_holds: G1, G2, G3.
  Conditions: none.
-/
import Derived.Test.YtpaekkcgphljoaaGreatDoorSPt1

namespace Go.Proofs.YtpaekkcgphljoaaGreatDoor
open Go Go.Proofs.YtpaekkcgphljoaaGreatDoor.Sx
set_option linter.unusedVariables false
set_option maxRecDepth 100000
def laws_FnExactStepsText (aL_p : Option Addr) (aL_n : Nat) (aL_c : Nat) (w : World) (R : Value → World → Prop) : Prop :=
  Calls P 10 ⟨[(.slice aL_p aL_n aL_c), (.int .i64 1048576)]⟩ w fun e wv =>
  ∃ (t9 : Int), e = .returned (.int .i64 t9) ∧
  ((decide ((t9 : Int) < 0)) = true →
    R (.bool true) wv) ∧
  ((decide ((t9 : Int) < 0)) = false →
    Calls P 12 ⟨[(.slice aL_p aL_n aL_c)]⟩ wv fun e_1 wv_1 =>
    ∃ (t13_p : Option Addr) (t13_n : Nat) (t13_c : Nat), e_1 = .returned (.slice t13_p t13_n t13_c) ∧
    Calls P 11 ⟨[(.slice t13_p t13_n t13_c)]⟩ wv_1 fun e_2 wv_2 =>
    ∃ (t14 : ByteArray), e_2 = .returned (.string t14) ∧
    Calls P 12 ⟨[(.slice aL_p aL_n aL_c)]⟩ wv_2 fun e_3 wv_3 =>
    ∃ (t16_p : Option Addr) (t16_n : Nat) (t16_c : Nat), e_3 = .returned (.slice t16_p t16_n t16_c) ∧
    Calls P 13 ⟨[(.slice t16_p t16_n t16_c)]⟩ wv_3 fun e_4 wv_4 =>
    ∃ (t18 : ByteArray), e_4 = .returned (.string t18) ∧
    ((decide (t18 ≠ t14)) = true →
      R (.bool false) wv_4) ∧
    ((decide (t18 ≠ t14)) = false →
      Calls P 12 ⟨[(.slice aL_p aL_n aL_c)]⟩ wv_4 fun e_5 wv_5 =>
      ∃ (t24_p : Option Addr) (t24_n : Nat) (t24_c : Nat), e_5 = .returned (.slice t24_p t24_n t24_c) ∧
      Calls P 14 ⟨[(.slice t16_p t16_n t16_c), (.slice t24_p t24_n t24_c)]⟩ wv_5 fun e_6 wv_6 =>
      ∃ (t25 : Bool), e_6 = .returned (.bool t25) ∧
      ((!t25) = true →
        R (.bool false) wv_6) ∧
      ((!t25) = false →
        R (.bool true) wv_6)))
theorem laws_FnExactStepsText_eq (aL_p : Option Addr) (aL_n : Nat) (aL_c : Nat) (w : World) (R : Value → World → Prop) : laws_FnExactStepsText aL_p aL_n aL_c w R = fsem P Tryz.f4 (fun k => []) [(.slice aL_p aL_n aL_c)] R w := by kernel_rfl
theorem laws_FnExactStepsText_ret {aL_p : Option Addr} {aL_n : Nat} {aL_c : Nat} {w : World} {R : Value → World → Prop} (h : laws_FnExactStepsText aL_p aL_n aL_c w R) : Ret P 4 [(.slice aL_p aL_n aL_c)] w R :=
  Ret.of_fsem Tryz.func4 rfl (Eq.mp (laws_FnExactStepsText_eq aL_p aL_n aL_c w R) h)
def spec_Percent (r0 : Bool) (r1_p : Option Addr) (r1_n : Nat) (r1_c : Nat) (r2 : Int) (w : World) (R : Value → World → Prop) : Prop :=
  ∀ (r : Nat) (wv : World), New w (.cells ⟨[(.bool r0), (.slice r1_p r1_n r1_c), (.int .i64 r2)]⟩ 31 (0, 0)) r wv →
  ∃ (t50 : Bool) (t51_p : Option Addr) (t51_n : Nat) (t51_c : Nat) (t52 : Int), Loads P 31 ⟨r, 0, none⟩ (.agg #[(.bool t50), (.slice t51_p t51_n t51_c), (.int .i64 t52)]) wv ∧ Calls P 16 ⟨[(.agg #[(.bool t50), (.slice t51_p t51_n t51_c), (.int .i64 t52)])]⟩ wv fun e wv_1 =>
  ∃ (t6 : Bool), e = .returned (.bool t6) ∧
  ((!t6) = true →
    R (.string (S [])) wv_1) ∧
  ((!t6) = false →
    ∃ (t90 : Bool) (t91_p : Option Addr) (t91_n : Nat) (t91_c : Nat) (t92 : Int), Loads P 31 ⟨r, 0, none⟩ (.agg #[(.bool t90), (.slice t91_p t91_n t91_c), (.int .i64 t92)]) wv_1 ∧ Calls P 18 ⟨[(.agg #[(.bool t90), (.slice t91_p t91_n t91_c), (.int .i64 t92)])]⟩ wv_1 fun e_1 wv_2 =>
    ∃ (t100 : Bool) (t101_p : Option Addr) (t101_n : Nat) (t101_c : Nat) (t102 : Int), e_1 = .returned (.agg #[(.bool t100), (.slice t101_p t101_n t101_c), (.int .i64 t102)]) ∧
    Calls P 19 ⟨[(.int .i64 100)]⟩ wv_2 fun e_2 wv_3 =>
    ∃ (t110 : Bool) (t111_p : Option Addr) (t111_n : Nat) (t111_c : Nat), e_2 = .returned (.agg #[(.bool t110), (.slice t111_p t111_n t111_c)]) ∧
    Calls P 17 ⟨[(.agg #[(.bool t100), (.slice t101_p t101_n t101_c), (.int .i64 t102)]), (.agg #[(.bool t110), (.slice t111_p t111_n t111_c), (.int .i64 0)])]⟩ wv_3 fun e_3 wv_4 =>
    ∃ (t130 : Bool) (t131_p : Option Addr) (t131_n : Nat) (t131_c : Nat) (t132 : Int) (t13 : Bool), e_3 = .returned (.tuple #[(.agg #[(.bool t130), (.slice t131_p t131_n t131_c), (.int .i64 t132)]), (.bool t13)]) ∧
    ∀ (r_1 : Nat) (wv_5 : World), New wv_4 (.cells ⟨[(.bool false), (.slice none 0 0), (.int .i64 0)]⟩ 31 (0, 0)) r_1 wv_5 →
    ∃ wv_6, Stores P 31 ⟨r_1, 0, none⟩ (.agg #[(.bool t130), (.slice t131_p t131_n t131_c), (.int .i64 t132)]) wv_5 wv_6 ∧
    ((!t13) = true →
      R (.string (S [])) wv_6) ∧
    ((!t13) = false →
      ∃ (t180 : Bool) (t181_p : Option Addr) (t181_n : Nat) (t181_c : Nat) (t182 : Int), Loads P 31 ⟨r_1, 0, none⟩ (.agg #[(.bool t180), (.slice t181_p t181_n t181_c), (.int .i64 t182)]) wv_6 ∧ Calls P 18 ⟨[(.agg #[(.bool t180), (.slice t181_p t181_n t181_c), (.int .i64 t182)])]⟩ wv_6 fun e_4 wv_7 =>
      ∃ (t190 : Bool) (t191_p : Option Addr) (t191_n : Nat) (t191_c : Nat) (t192 : Int), e_4 = .returned (.agg #[(.bool t190), (.slice t191_p t191_n t191_c), (.int .i64 t192)]) ∧
      Calls P 20 ⟨[(.agg #[(.bool t190), (.slice t191_p t191_n t191_c), (.int .i64 t192)])]⟩ wv_7 fun e_5 wv_8 =>
      ∃ (t20 : ByteArray), e_5 = .returned (.string t20) ∧
      t20.size + (S [37]).size ≤ 9223372036854775807 ∧ ∃ t21 : ByteArray, t21 = t20 ++ (S [37]) ∧ R (.string t21) wv_8))
theorem spec_Percent_eq (r0 : Bool) (r1_p : Option Addr) (r1_n : Nat) (r1_c : Nat) (r2 : Int) (w : World) (R : Value → World → Prop) : spec_Percent r0 r1_p r1_n r1_c r2 w R = fsem P Tryz.f6 (fun k => []) [(.agg #[(.bool r0), (.slice r1_p r1_n r1_c), (.int .i64 r2)])] R w := by kernel_rfl
theorem spec_Percent_ret {r0 : Bool} {r1_p : Option Addr} {r1_n : Nat} {r1_c : Nat} {r2 : Int} {w : World} {R : Value → World → Prop} (h : spec_Percent r0 r1_p r1_n r1_c r2 w R) : Ret P 6 [(.agg #[(.bool r0), (.slice r1_p r1_n r1_c), (.int .i64 r2)])] w R :=
  Ret.of_fsem Tryz.func6 rfl (Eq.mp (spec_Percent_eq r0 r1_p r1_n r1_c r2 w R) h)
def impl_Percent (r0 : Bool) (r1_p : Option Addr) (r1_n : Nat) (r1_c : Nat) (r2 : Int) (w : World) (R : Value → World → Prop) : Prop :=
  ∀ (r : Nat) (wv : World), New w (.cells ⟨[(.bool r0), (.slice r1_p r1_n r1_c), (.int .i64 r2)]⟩ 31 (0, 0)) r wv →
  ∃ (t50 : Bool) (t51_p : Option Addr) (t51_n : Nat) (t51_c : Nat) (t52 : Int), Loads P 31 ⟨r, 0, none⟩ (.agg #[(.bool t50), (.slice t51_p t51_n t51_c), (.int .i64 t52)]) wv ∧ Calls P 22 ⟨[(.agg #[(.bool t50), (.slice t51_p t51_n t51_c), (.int .i64 t52)])]⟩ wv fun e wv_1 =>
  ∃ (t6 : Bool), e = .returned (.bool t6) ∧
  ((!t6) = true →
    R (.string (S [])) wv_1) ∧
  ((!t6) = false →
    ∃ (t90 : Bool) (t91_p : Option Addr) (t91_n : Nat) (t91_c : Nat) (t92 : Int), (∀ wv_2, Ext wv_1.drew wv_2 → Loads P 31 ⟨r, 0, none⟩ (.agg #[(.bool t90), (.slice t91_p t91_n t91_c), (.int .i64 t92)]) wv_2) ∧ ∀ (ss : List (Option Nat)) (wv_3 : World), Fl [.cells ⟨[(.bool false), (.slice none 0 0), (.int .i64 0)]⟩ 31 (0, 0)] [none] wv_1.drew ss wv_3 →
    Calls P 24 ⟨[(.int .i64 100)]⟩ wv_3 fun e_1 wv_4 =>
    ∃ (t100 : Bool) (t101_p : Option Addr) (t101_n : Nat) (t101_c : Nat), e_1 = .returned (.agg #[(.bool t100), (.slice t101_p t101_n t101_c)]) ∧
    Ext wv_3 wv_4 ∧ ∀ (ss_1 : List (Option Nat)) (wv_5 : World), Fl [.cells ⟨[(.bool false), (.slice none 0 0), (.int .i64 0)]⟩ 31 (0, 0)] ss wv_4 ss_1 wv_5 →
    Calls P 23 ⟨[(.agg #[(.bool t90), (.slice t91_p t91_n t91_c), (.int .i64 t92)]), (.agg #[(.bool t100), (.slice t101_p t101_n t101_c), (.int .i64 0)])]⟩ wv_5 fun e_2 wv_6 =>
    ∃ (t120 : Bool) (t121_p : Option Addr) (t121_n : Nat) (t121_c : Nat) (t122 : Int) (t12 : Bool), e_2 = .returned (.tuple #[(.agg #[(.bool t120), (.slice t121_p t121_n t121_c), (.int .i64 t122)]), (.bool t12)]) ∧
    ∀ (ss_2 : List (Option Nat)) (wv_7 : World) (r_1 : Nat), Fl [.cells ⟨[(.bool false), (.slice none 0 0), (.int .i64 0)]⟩ 31 (0, 0)] ss_1 wv_6 ss_2 wv_7 → ss_2[0]? = some (some r_1) →
    ∃ wv_8, Stores P 31 ⟨r_1, 0, none⟩ (.agg #[(.bool t120), (.slice t121_p t121_n t121_c), (.int .i64 t122)]) wv_7 wv_8 ∧
    ∃ (t150 : Bool) (t151_p : Option Addr) (t151_n : Nat) (t151_c : Nat) (t152 : Int), Loads P 31 ⟨r_1, 0, none⟩ (.agg #[(.bool t150), (.slice t151_p t151_n t151_c), (.int .i64 t152)]) wv_8 ∧ Calls P 26 ⟨[(.agg #[(.bool t150), (.slice t151_p t151_n t151_c), (.int .i64 t152)])]⟩ wv_8 fun e_3 wv_9 =>
    ∃ (t160 : Bool) (t161_p : Option Addr) (t161_n : Nat) (t161_c : Nat) (t162 : Int), e_3 = .returned (.agg #[(.bool t160), (.slice t161_p t161_n t161_c), (.int .i64 t162)]) ∧
    Calls P 25 ⟨[(.agg #[(.bool t160), (.slice t161_p t161_n t161_c), (.int .i64 t162)])]⟩ wv_9 fun e_4 wv_10 =>
    ∃ (t17 : ByteArray), e_4 = .returned (.string t17) ∧
    t17.size + (S [37]).size ≤ 9223372036854775807 ∧ ∃ t18 : ByteArray, t18 = t17 ++ (S [37]) ∧ R (.string t18) wv_10)
theorem impl_Percent_eq (r0 : Bool) (r1_p : Option Addr) (r1_n : Nat) (r1_c : Nat) (r2 : Int) (w : World) (R : Value → World → Prop) : impl_Percent r0 r1_p r1_n r1_c r2 w R = fsem P Tryz.f8 (fun k => []) [(.agg #[(.bool r0), (.slice r1_p r1_n r1_c), (.int .i64 r2)])] R w := by kernel_rfl
theorem impl_Percent_ret {r0 : Bool} {r1_p : Option Addr} {r1_n : Nat} {r1_c : Nat} {r2 : Int} {w : World} {R : Value → World → Prop} (h : impl_Percent r0 r1_p r1_n r1_c r2 w R) : Ret P 8 [(.agg #[(.bool r0), (.slice r1_p r1_n r1_c), (.int .i64 r2)])] w R :=
  Ret.of_fsem Tryz.func8 rfl (Eq.mp (impl_Percent_eq r0 r1_p r1_n r1_c r2 w R) h)
def spec_StepsText (l_p : Option Addr) (l_n : Nat) (l_c : Nat) (w : World) (R : Value → World → Prop) : Prop :=
  Calls P 29 ⟨[(.slice l_p l_n l_c)]⟩ w fun e wv =>
  ∃ (t7 : Bool), e = .returned (.bool t7) ∧
  ((!t7) = true →
    R (.string (S [])) wv) ∧
  ((!t7) = false →
    ∀ (r : Nat) (wv_1 : World), New wv (.cells ⟨[]⟩ 9 (0, 0)) r wv_1 →
    ∃ (Inv : Option Addr → Nat → Nat → Int → World → Prop) (mu : Option Addr → Nat → Nat → Int → World → Nat), Inv (some ⟨r, 0, none⟩) 0 0 0 wv_1 ∧
    ∀ (junk : Fr) (wv_2 : World) (w_p : Option Addr) (w_n : Nat) (w_c : Nat) (t12 : Int), Inv w_p w_n w_c t12 wv_2 →
      ((decide ((t12 : Int) < ((l_n : Nat) : Int))) = true →
        (0 ≤ (t12 : Int) ∧ (t12 : Int) < (l_n : Nat)) ∧ ptrS l_p fun ad => ∃ (t150 : Int) (t151 : Bool) (t152_p : Option Addr) (t152_n : Nat) (t152_c : Nat) (t153 : Int), Loads P 56 (ad.add (t12.toNat * 4)) (.agg #[(.int .i64 t150), (.bool t151), (.slice t152_p t152_n t152_c), (.int .i64 t153)]) wv_2 ∧ ∀ (r_1 : Nat) (wv_3 : World), New wv_2 (.cells ⟨[(.int .i64 0), (.bool false), (.slice none 0 0), (.int .i64 0)]⟩ 56 (0, 0)) r_1 wv_3 →
        ∃ wv_4, Stores P 56 ⟨r_1, 0, none⟩ (.agg #[(.int .i64 t150), (.bool t151), (.slice t152_p t152_n t152_c), (.int .i64 t153)]) wv_3 wv_4 ∧
        ∃ (t18 : Int), (∀ wv_5, Ext wv_4.drew wv_5 → Loads P 3 ((⟨r_1, 0, none⟩ : Addr).add 0) (.int .i64 t18) wv_5) ∧ Calls P 30 ⟨[(.int .i64 t18)]⟩ wv_4.drew fun e_1 wv_6 =>
        ∃ (t19 : ByteArray), e_1 = .returned (.string t19) ∧
        Ext wv_4.drew wv_6 ∧ t19.size + (S [58]).size ≤ 9223372036854775807 ∧ ∃ t20 : ByteArray, t20 = t19 ++ (S [58]) ∧ ∃ (t220 : Bool) (t221_p : Option Addr) (t221_n : Nat) (t221_c : Nat) (t222 : Int), (∀ wv_7, Ext wv_4.drew wv_7 → Loads P 31 ((⟨r_1, 0, none⟩ : Addr).add 1) (.agg #[(.bool t220), (.slice t221_p t221_n t221_c), (.int .i64 t222)]) wv_7) ∧ Calls P 6 ⟨[(.agg #[(.bool t220), (.slice t221_p t221_n t221_c), (.int .i64 t222)])]⟩ wv_6 fun e_2 wv_8 =>
        ∃ (t23 : ByteArray), e_2 = .returned (.string t23) ∧
        t20.size + t23.size ≤ 9223372036854775807 ∧ ∃ t24 : ByteArray, t24 = t20 ++ t23 ∧ ∀ (r_2 : Nat) (wv_9 : World), New wv_8 (.cells ⟨[(.string t24)]⟩ 9 (0, 0)) r_2 wv_9 →
        ∃ (t26_p : Option Addr) (t26_n : Nat) (t26_c : Nat) (wv_10 : World), Appends P [54, 54] [(.slice w_p w_n w_c), (.slice (some ⟨r_2, 0, none⟩) 1 1)] (.slice t26_p t26_n t26_c) wv_9 wv_10 ∧
        ∃ t27 : Int, t27 = IntKind.wrap .i64 (t12 + 1) ∧ Inv t26_p t26_n t26_c t27 wv_10 ∧ mu t26_p t26_n t26_c t27 wv_10 < mu w_p w_n w_c t12 wv_2) ∧
      ((decide ((t12 : Int) < ((l_n : Nat) : Int))) = false →
        Calls P 31 ⟨[(.slice w_p w_n w_c), (.string (S [44]))]⟩ wv_2 fun e_3 wv_11 =>
        ∃ (t29 : ByteArray), e_3 = .returned (.string t29) ∧
        R (.string t29) wv_11))
theorem spec_StepsText_eq (l_p : Option Addr) (l_n : Nat) (l_c : Nat) (w : World) (R : Value → World → Prop) : spec_StepsText l_p l_n l_c w R = fsem P Tryz.f11 (fun k => cond (Nat.beq k 6) [(3, .one .slice), (12, .one (.int .i64))] ([])) [(.slice l_p l_n l_c)] R w := by kernel_rfl
theorem spec_StepsText_ret {l_p : Option Addr} {l_n : Nat} {l_c : Nat} {w : World} {R : Value → World → Prop} (h : spec_StepsText l_p l_n l_c w R) : Ret P 11 [(.slice l_p l_n l_c)] w R :=
  Ret.of_fsem Tryz.func11 rfl (Eq.mp (spec_StepsText_eq l_p l_n l_c w R) h)
def impl_StepsText (l_p : Option Addr) (l_n : Nat) (l_c : Nat) (w : World) (R : Value → World → Prop) : Prop :=
  Calls P 33 ⟨[(.slice l_p l_n l_c)]⟩ w fun e wv =>
  ∃ (t7 : Bool), e = .returned (.bool t7) ∧
  ((!t7) = true →
    R (.string (S [])) wv) ∧
  ((!t7) = false →
    ∀ (r : Nat) (wv_1 : World), New wv (.cells ⟨[]⟩ 9 (0, 0)) r wv_1 →
    ∃ (Inv : Option Addr → Nat → Nat → Int → World → Prop) (mu : Option Addr → Nat → Nat → Int → World → Nat), Inv (some ⟨r, 0, none⟩) 0 0 0 wv_1 ∧
    ∀ (junk : Fr) (wv_2 : World) (parts_p : Option Addr) (parts_n : Nat) (parts_c : Nat) (t12 : Int), Inv parts_p parts_n parts_c t12 wv_2 →
      ((decide ((t12 : Int) < ((l_n : Nat) : Int))) = true →
        (0 ≤ (t12 : Int) ∧ (t12 : Int) < (l_n : Nat)) ∧ ptrS l_p fun ad => ∃ (t150 : Int) (t151 : Bool) (t152_p : Option Addr) (t152_n : Nat) (t152_c : Nat) (t153 : Int), Loads P 56 (ad.add (t12.toNat * 4)) (.agg #[(.int .i64 t150), (.bool t151), (.slice t152_p t152_n t152_c), (.int .i64 t153)]) wv_2 ∧ ∀ (r_1 : Nat) (wv_3 : World), New wv_2 (.cells ⟨[(.int .i64 0), (.bool false), (.slice none 0 0), (.int .i64 0)]⟩ 56 (0, 0)) r_1 wv_3 →
        ∃ wv_4, Stores P 56 ⟨r_1, 0, none⟩ (.agg #[(.int .i64 t150), (.bool t151), (.slice t152_p t152_n t152_c), (.int .i64 t153)]) wv_3 wv_4 ∧
        ∃ (t18 : Int), (∀ wv_5, Ext wv_4.drew wv_5 → Loads P 3 ((⟨r_1, 0, none⟩ : Addr).add 0) (.int .i64 t18) wv_5) ∧ Calls P 34 ⟨[(.int .i64 t18)]⟩ wv_4.drew fun e_1 wv_6 =>
        ∃ (t19 : ByteArray), e_1 = .returned (.string t19) ∧
        Ext wv_4.drew wv_6 ∧ t19.size + (S [58]).size ≤ 9223372036854775807 ∧ ∃ t20 : ByteArray, t20 = t19 ++ (S [58]) ∧ ∃ (t220 : Bool) (t221_p : Option Addr) (t221_n : Nat) (t221_c : Nat) (t222 : Int), (∀ wv_7, Ext wv_4.drew wv_7 → Loads P 31 ((⟨r_1, 0, none⟩ : Addr).add 1) (.agg #[(.bool t220), (.slice t221_p t221_n t221_c), (.int .i64 t222)]) wv_7) ∧ Calls P 8 ⟨[(.agg #[(.bool t220), (.slice t221_p t221_n t221_c), (.int .i64 t222)])]⟩ wv_6 fun e_2 wv_8 =>
        ∃ (t23 : ByteArray), e_2 = .returned (.string t23) ∧
        t20.size + t23.size ≤ 9223372036854775807 ∧ ∃ t24 : ByteArray, t24 = t20 ++ t23 ∧ ∀ (r_2 : Nat) (wv_9 : World), New wv_8 (.cells ⟨[(.string t24)]⟩ 9 (0, 0)) r_2 wv_9 →
        ∃ (t26_p : Option Addr) (t26_n : Nat) (t26_c : Nat) (wv_10 : World), Appends P [54, 54] [(.slice parts_p parts_n parts_c), (.slice (some ⟨r_2, 0, none⟩) 1 1)] (.slice t26_p t26_n t26_c) wv_9 wv_10 ∧
        ∃ t27 : Int, t27 = IntKind.wrap .i64 (t12 + 1) ∧ Inv t26_p t26_n t26_c t27 wv_10 ∧ mu t26_p t26_n t26_c t27 wv_10 < mu parts_p parts_n parts_c t12 wv_2) ∧
      ((decide ((t12 : Int) < ((l_n : Nat) : Int))) = false →
        Calls P 35 ⟨[(.slice parts_p parts_n parts_c), (.string (S [44]))]⟩ wv_2 fun e_3 wv_11 =>
        ∃ (t29 : ByteArray), e_3 = .returned (.string t29) ∧
        R (.string t29) wv_11))
theorem impl_StepsText_eq (l_p : Option Addr) (l_n : Nat) (l_c : Nat) (w : World) (R : Value → World → Prop) : impl_StepsText l_p l_n l_c w R = fsem P Tryz.f13 (fun k => cond (Nat.beq k 6) [(3, .one .slice), (12, .one (.int .i64))] ([])) [(.slice l_p l_n l_c)] R w := by kernel_rfl
theorem impl_StepsText_ret {l_p : Option Addr} {l_n : Nat} {l_c : Nat} {w : World} {R : Value → World → Prop} (h : impl_StepsText l_p l_n l_c w R) : Ret P 13 [(.slice l_p l_n l_c)] w R :=
  Ret.of_fsem Tryz.func13 rfl (Eq.mp (impl_StepsText_eq l_p l_n l_c w R) h)
def spec_TaxRateOk (r0 : Bool) (r1_p : Option Addr) (r1_n : Nat) (r1_c : Nat) (r2 : Int) (w : World) (R : Value → World → Prop) : Prop :=
  ∀ (r : Nat) (wv : World), New w (.cells ⟨[(.bool r0), (.slice r1_p r1_n r1_c), (.int .i64 r2)]⟩ 31 (0, 0)) r wv →
  ∃ (t30 : Bool) (t31_p : Option Addr) (t31_n : Nat) (t31_c : Nat) (t32 : Int), (∀ wv_1, Ext wv.drew wv_1 → Loads P 31 ⟨r, 0, none⟩ (.agg #[(.bool t30), (.slice t31_p t31_n t31_c), (.int .i64 t32)]) wv_1) ∧ Calls P 38 ⟨[(.agg #[(.bool t30), (.slice t31_p t31_n t31_c), (.int .i64 t32)])]⟩ wv.drew fun e wv_2 =>
  ∃ (t4 : Bool), e = .returned (.bool t4) ∧
  (t4 = true →
    ∃ (t8 : Bool), (∀ wv_3, Ext wv_2 wv_3 → Loads P 4 (((⟨r, 0, none⟩ : Addr).add 0).add 0) (.bool t8) wv_3) ∧ ((!t8) = true →
      ∃ (t14_p : Option Addr) (t14_n : Nat) (t14_c : Nat), (∀ wv_4, Ext wv_2 wv_4 → Loads P 22 (((⟨r, 0, none⟩ : Addr).add 0).add 1) (.slice t14_p t14_n t14_c) wv_4) ∧ ((decide ((((t14_n : Nat) : Int) : Int) ≤ 1)) = true →
        ∃ (t190 : Bool) (t191_p : Option Addr) (t191_n : Nat) (t191_c : Nat) (t192 : Int), (∀ wv_5, Ext wv_2 wv_5 → Loads P 31 ⟨r, 0, none⟩ (.agg #[(.bool t190), (.slice t191_p t191_n t191_c), (.int .i64 t192)]) wv_5) ∧ Calls P 19 ⟨[(.int .i64 1)]⟩ wv_2 fun e_1 wv_6 =>
        ∃ (t200 : Bool) (t201_p : Option Addr) (t201_n : Nat) (t201_c : Nat), e_1 = .returned (.agg #[(.bool t200), (.slice t201_p t201_n t201_c)]) ∧
        Ext wv_2 wv_6 ∧ Calls P 39 ⟨[(.agg #[(.bool t190), (.slice t191_p t191_n t191_c), (.int .i64 t192)]), (.agg #[(.bool t200), (.slice t201_p t201_n t201_c), (.int .i64 0)])]⟩ wv_6 fun e_2 wv_7 =>
        ∃ (t22 : Int), e_2 = .returned (.int .i64 t22) ∧
        R (.bool (decide ((t22 : Int) ≤ 0))) wv_7) ∧
      ((decide ((((t14_n : Nat) : Int) : Int) ≤ 1)) = false →
        R (.bool false) wv_2)) ∧
    ((!t8) = false →
      (false = true →
        ∃ (t190_1 : Bool) (t191_p_1 : Option Addr) (t191_n_1 : Nat) (t191_c_1 : Nat) (t192_1 : Int), (∀ wv_8, Ext wv_2 wv_8 → Loads P 31 ⟨r, 0, none⟩ (.agg #[(.bool t190_1), (.slice t191_p_1 t191_n_1 t191_c_1), (.int .i64 t192_1)]) wv_8) ∧ Calls P 19 ⟨[(.int .i64 1)]⟩ wv_2 fun e_3 wv_9 =>
        ∃ (t200_1 : Bool) (t201_p_1 : Option Addr) (t201_n_1 : Nat) (t201_c_1 : Nat), e_3 = .returned (.agg #[(.bool t200_1), (.slice t201_p_1 t201_n_1 t201_c_1)]) ∧
        Ext wv_2 wv_9 ∧ Calls P 39 ⟨[(.agg #[(.bool t190_1), (.slice t191_p_1 t191_n_1 t191_c_1), (.int .i64 t192_1)]), (.agg #[(.bool t200_1), (.slice t201_p_1 t201_n_1 t201_c_1), (.int .i64 0)])]⟩ wv_9 fun e_4 wv_10 =>
        ∃ (t22_1 : Int), e_4 = .returned (.int .i64 t22_1) ∧
        R (.bool (decide ((t22_1 : Int) ≤ 0))) wv_10) ∧
      (false = false →
        R (.bool false) wv_2))) ∧
  (t4 = false →
    (false = true →
      ∃ (t14_p_1 : Option Addr) (t14_n_1 : Nat) (t14_c_1 : Nat), (∀ wv_11, Ext wv_2 wv_11 → Loads P 22 (((⟨r, 0, none⟩ : Addr).add 0).add 1) (.slice t14_p_1 t14_n_1 t14_c_1) wv_11) ∧ ((decide ((((t14_n_1 : Nat) : Int) : Int) ≤ 1)) = true →
        ∃ (t190_2 : Bool) (t191_p_2 : Option Addr) (t191_n_2 : Nat) (t191_c_2 : Nat) (t192_2 : Int), (∀ wv_12, Ext wv_2 wv_12 → Loads P 31 ⟨r, 0, none⟩ (.agg #[(.bool t190_2), (.slice t191_p_2 t191_n_2 t191_c_2), (.int .i64 t192_2)]) wv_12) ∧ Calls P 19 ⟨[(.int .i64 1)]⟩ wv_2 fun e_5 wv_13 =>
        ∃ (t200_2 : Bool) (t201_p_2 : Option Addr) (t201_n_2 : Nat) (t201_c_2 : Nat), e_5 = .returned (.agg #[(.bool t200_2), (.slice t201_p_2 t201_n_2 t201_c_2)]) ∧
        Ext wv_2 wv_13 ∧ Calls P 39 ⟨[(.agg #[(.bool t190_2), (.slice t191_p_2 t191_n_2 t191_c_2), (.int .i64 t192_2)]), (.agg #[(.bool t200_2), (.slice t201_p_2 t201_n_2 t201_c_2), (.int .i64 0)])]⟩ wv_13 fun e_6 wv_14 =>
        ∃ (t22_2 : Int), e_6 = .returned (.int .i64 t22_2) ∧
        R (.bool (decide ((t22_2 : Int) ≤ 0))) wv_14) ∧
      ((decide ((((t14_n_1 : Nat) : Int) : Int) ≤ 1)) = false →
        R (.bool false) wv_2)) ∧
    (false = false →
      (false = true →
        ∃ (t190_3 : Bool) (t191_p_3 : Option Addr) (t191_n_3 : Nat) (t191_c_3 : Nat) (t192_3 : Int), (∀ wv_15, Ext wv_2 wv_15 → Loads P 31 ⟨r, 0, none⟩ (.agg #[(.bool t190_3), (.slice t191_p_3 t191_n_3 t191_c_3), (.int .i64 t192_3)]) wv_15) ∧ Calls P 19 ⟨[(.int .i64 1)]⟩ wv_2 fun e_7 wv_16 =>
        ∃ (t200_3 : Bool) (t201_p_3 : Option Addr) (t201_n_3 : Nat) (t201_c_3 : Nat), e_7 = .returned (.agg #[(.bool t200_3), (.slice t201_p_3 t201_n_3 t201_c_3)]) ∧
        Ext wv_2 wv_16 ∧ Calls P 39 ⟨[(.agg #[(.bool t190_3), (.slice t191_p_3 t191_n_3 t191_c_3), (.int .i64 t192_3)]), (.agg #[(.bool t200_3), (.slice t201_p_3 t201_n_3 t201_c_3), (.int .i64 0)])]⟩ wv_16 fun e_8 wv_17 =>
        ∃ (t22_3 : Int), e_8 = .returned (.int .i64 t22_3) ∧
        R (.bool (decide ((t22_3 : Int) ≤ 0))) wv_17) ∧
      (false = false →
        R (.bool false) wv_2)))
theorem spec_TaxRateOk_eq (r0 : Bool) (r1_p : Option Addr) (r1_n : Nat) (r1_c : Nat) (r2 : Int) (w : World) (R : Value → World → Prop) : spec_TaxRateOk r0 r1_p r1_n r1_c r2 w R = fsem P Tryz.f16 (fun k => []) [(.agg #[(.bool r0), (.slice r1_p r1_n r1_c), (.int .i64 r2)])] R w := by kernel_rfl
theorem spec_TaxRateOk_ret {r0 : Bool} {r1_p : Option Addr} {r1_n : Nat} {r1_c : Nat} {r2 : Int} {w : World} {R : Value → World → Prop} (h : spec_TaxRateOk r0 r1_p r1_n r1_c r2 w R) : Ret P 16 [(.agg #[(.bool r0), (.slice r1_p r1_n r1_c), (.int .i64 r2)])] w R :=
  Ret.of_fsem Tryz.func16 rfl (Eq.mp (spec_TaxRateOk_eq r0 r1_p r1_n r1_c r2 w R) h)
def spec_DecMul_j0 (r : Nat) (r_1 : Nat) (r_2 : Nat) (W : World) (R : Value → World → Prop) : Prop :=
  ∃ (t160 : Bool) (t161_p : Option Addr) (t161_n : Nat) (t161_c : Nat), (∀ wv_5, Ext W.drew wv_5 → Loads P 29 ((⟨r, 0, none⟩ : Addr).add 0) (.agg #[(.bool t160), (.slice t161_p t161_n t161_c)]) wv_5) ∧ ∃ (t180 : Bool) (t181_p : Option Addr) (t181_n : Nat) (t181_c : Nat), (∀ wv_6, Ext W.drew wv_6 → Loads P 29 ((⟨r_1, 0, none⟩ : Addr).add 0) (.agg #[(.bool t180), (.slice t181_p t181_n t181_c)]) wv_6) ∧ Calls P 41 ⟨[(.agg #[(.bool t160), (.slice t161_p t161_n t161_c)]), (.agg #[(.bool t180), (.slice t181_p t181_n t181_c)])]⟩ W.drew fun e_1 wv_7 =>
  ∃ (t190 : Bool) (t191_p : Option Addr) (t191_n : Nat) (t191_c : Nat), e_1 = .returned (.agg #[(.bool t190), (.slice t191_p t191_n t191_c)]) ∧
  Ext W.drew wv_7 ∧ ∃ (t21 : Int), (∀ wv_8, Ext W.drew wv_8 → Loads P 3 ((⟨r, 0, none⟩ : Addr).add 2) (.int .i64 t21) wv_8) ∧ ∃ (t23 : Int), (∀ wv_9, Ext W.drew wv_9 → Loads P 3 ((⟨r_1, 0, none⟩ : Addr).add 2) (.int .i64 t23) wv_9) ∧ ∃ t24 : Int, t24 = IntKind.wrap .i64 (t21 + t23) ∧ Calls P 40 ⟨[(.agg #[(.bool t190), (.slice t191_p t191_n t191_c)]), (.int .i64 t24)]⟩ wv_7 fun e_2 wv_10 =>
  ∃ (t250 : Bool) (t251_p : Option Addr) (t251_n : Nat) (t251_c : Nat) (t252 : Int) (t25 : Bool), e_2 = .returned (.tuple #[(.agg #[(.bool t250), (.slice t251_p t251_n t251_c), (.int .i64 t252)]), (.bool t25)]) ∧
  ∃ wv_11, Stores P 31 ⟨r_2, 0, none⟩ (.agg #[(.bool t250), (.slice t251_p t251_n t251_c), (.int .i64 t252)]) wv_10 wv_11 ∧
  ∃ (r0_1 : Bool) (r1_p_1 : Option Addr) (r1_n_1 : Nat) (r1_c_1 : Nat) (r2_1 : Int), Loads P 31 ⟨r_2, 0, none⟩ (.agg #[(.bool r0_1), (.slice r1_p_1 r1_n_1 r1_c_1), (.int .i64 r2_1)]) wv_11 ∧ R (.tuple #[(.agg #[(.bool r0_1), (.slice r1_p_1 r1_n_1 r1_c_1), (.int .i64 r2_1)]), (.bool t25)]) wv_11
def spec_DecMul (d0 : Bool) (d1_p : Option Addr) (d1_n : Nat) (d1_c : Nat) (d2 : Int) (e0 : Bool) (e1_p : Option Addr) (e1_n : Nat) (e1_c : Nat) (e2 : Int) (w : World) (R : Value → World → Prop) : Prop :=
  ∀ (r : Nat) (wv : World), New w (.cells ⟨[(.bool d0), (.slice d1_p d1_n d1_c), (.int .i64 d2)]⟩ 31 (0, 0)) r wv →
  ∀ (r_1 : Nat) (wv_1 : World), New wv (.cells ⟨[(.bool e0), (.slice e1_p e1_n e1_c), (.int .i64 e2)]⟩ 31 (0, 0)) r_1 wv_1 →
  ∀ (r_2 : Nat) (wv_2 : World), New wv_1 (.cells ⟨[(.bool false), (.slice none 0 0), (.int .i64 0)]⟩ 31 (0, 0)) r_2 wv_2 →
  ∃ (t60 : Bool) (t61_p : Option Addr) (t61_n : Nat) (t61_c : Nat) (t62 : Int), Loads P 31 ⟨r, 0, none⟩ (.agg #[(.bool t60), (.slice t61_p t61_n t61_c), (.int .i64 t62)]) wv_2 ∧ Calls P 38 ⟨[(.agg #[(.bool t60), (.slice t61_p t61_n t61_c), (.int .i64 t62)])]⟩ wv_2 fun e wv_3 =>
  ∃ (t7 : Bool), e = .returned (.bool t7) ∧
  ((!t7) = true →
    (true = true →
      ∃ wv_4, Stores P 31 ⟨r_2, 0, none⟩ (.agg #[(.bool false), (.slice none 0 0), (.int .i64 0)]) wv_3 wv_4 ∧
      ∃ (r0 : Bool) (r1_p : Option Addr) (r1_n : Nat) (r1_c : Nat) (r2 : Int), Loads P 31 ⟨r_2, 0, none⟩ (.agg #[(.bool r0), (.slice r1_p r1_n r1_c), (.int .i64 r2)]) wv_4 ∧ R (.tuple #[(.agg #[(.bool r0), (.slice r1_p r1_n r1_c), (.int .i64 r2)]), (.bool false)]) wv_4) ∧
    (true = false →
      spec_DecMul_j0 r r_1 r_2 wv_3 R)) ∧
  ((!t7) = false →
    ∃ (t100 : Bool) (t101_p : Option Addr) (t101_n : Nat) (t101_c : Nat) (t102 : Int), Loads P 31 ⟨r_1, 0, none⟩ (.agg #[(.bool t100), (.slice t101_p t101_n t101_c), (.int .i64 t102)]) wv_3 ∧ Calls P 38 ⟨[(.agg #[(.bool t100), (.slice t101_p t101_n t101_c), (.int .i64 t102)])]⟩ wv_3 fun e_3 wv_12 =>
    ∃ (t11 : Bool), e_3 = .returned (.bool t11) ∧
    ((!t11) = true →
      ∃ wv_13, Stores P 31 ⟨r_2, 0, none⟩ (.agg #[(.bool false), (.slice none 0 0), (.int .i64 0)]) wv_12 wv_13 ∧
      ∃ (r0_2 : Bool) (r1_p_2 : Option Addr) (r1_n_2 : Nat) (r1_c_2 : Nat) (r2_2 : Int), Loads P 31 ⟨r_2, 0, none⟩ (.agg #[(.bool r0_2), (.slice r1_p_2 r1_n_2 r1_c_2), (.int .i64 r2_2)]) wv_13 ∧ R (.tuple #[(.agg #[(.bool r0_2), (.slice r1_p_2 r1_n_2 r1_c_2), (.int .i64 r2_2)]), (.bool false)]) wv_13) ∧
    ((!t11) = false →
      spec_DecMul_j0 r r_1 r_2 wv_12 R))
theorem spec_DecMul_eq (d0 : Bool) (d1_p : Option Addr) (d1_n : Nat) (d1_c : Nat) (d2 : Int) (e0 : Bool) (e1_p : Option Addr) (e1_n : Nat) (e1_c : Nat) (e2 : Int) (w : World) (R : Value → World → Prop) : spec_DecMul d0 d1_p d1_n d1_c d2 e0 e1_p e1_n e1_c e2 w R = fsem P Tryz.f17 (fun k => []) [(.agg #[(.bool d0), (.slice d1_p d1_n d1_c), (.int .i64 d2)]), (.agg #[(.bool e0), (.slice e1_p e1_n e1_c), (.int .i64 e2)])] R w := by kernel_rfl
theorem spec_DecMul_ret {d0 : Bool} {d1_p : Option Addr} {d1_n : Nat} {d1_c : Nat} {d2 : Int} {e0 : Bool} {e1_p : Option Addr} {e1_n : Nat} {e1_c : Nat} {e2 : Int} {w : World} {R : Value → World → Prop} (h : spec_DecMul d0 d1_p d1_n d1_c d2 e0 e1_p e1_n e1_c e2 w R) : Ret P 17 [(.agg #[(.bool d0), (.slice d1_p d1_n d1_c), (.int .i64 d2)]), (.agg #[(.bool e0), (.slice e1_p e1_n e1_c), (.int .i64 e2)])] w R :=
  Ret.of_fsem Tryz.func17 rfl (Eq.mp (spec_DecMul_eq d0 d1_p d1_n d1_c d2 e0 e1_p e1_n e1_c e2 w R) h)
def spec_DecLow (d0 : Bool) (d1_p : Option Addr) (d1_n : Nat) (d1_c : Nat) (d2 : Int) (w : World) (R : Value → World → Prop) : Prop :=
  ∀ (r : Nat) (wv : World), New w (.cells ⟨[(.bool d0), (.slice d1_p d1_n d1_c), (.int .i64 d2)]⟩ 31 (0, 0)) r wv →
  ∀ (r_1 : Nat) (wv_1 : World), New wv (.cells ⟨[(.bool false), (.slice none 0 0), (.int .i64 0)]⟩ 31 (0, 0)) r_1 wv_1 →
  ∃ (Inv : Int → World → Prop) (mu : Int → World → Nat), Inv 0 wv_1 ∧
  ∀ (junk : Fr) (wv_2 : World) (scale : Int), Inv scale wv_2 →
    ((decide ((scale : Int) ≤ 30)) = true →
      ∃ (t110 : Bool) (t111_p : Option Addr) (t111_n : Nat) (t111_c : Nat) (t112 : Int), Loads P 31 ⟨r, 0, none⟩ (.agg #[(.bool t110), (.slice t111_p t111_n t111_c), (.int .i64 t112)]) wv_2 ∧ Calls P 42 ⟨[(.agg #[(.bool t110), (.slice t111_p t111_n t111_c), (.int .i64 t112)]), (.int .i64 scale)]⟩ wv_2 fun e wv_3 =>
      ∃ (t130 : Bool) (t131_p : Option Addr) (t131_n : Nat) (t131_c : Nat) (t132 : Int) (t13 : Bool), e = .returned (.tuple #[(.agg #[(.bool t130), (.slice t131_p t131_n t131_c), (.int .i64 t132)]), (.bool t13)]) ∧
      ∀ (r_2 : Nat) (wv_4 : World), New wv_3 (.cells ⟨[(.bool false), (.slice none 0 0), (.int .i64 0)]⟩ 31 (0, 0)) r_2 wv_4 →
      ∃ wv_5, Stores P 31 ⟨r_2, 0, none⟩ (.agg #[(.bool t130), (.slice t131_p t131_n t131_c), (.int .i64 t132)]) wv_4 wv_5 ∧
      (t13 = true →
        ∃ (t170 : Bool) (t171_p : Option Addr) (t171_n : Nat) (t171_c : Nat) (t172 : Int), Loads P 31 ⟨r_2, 0, none⟩ (.agg #[(.bool t170), (.slice t171_p t171_n t171_c), (.int .i64 t172)]) wv_5 ∧ ∃ wv_6, Stores P 31 ⟨r_1, 0, none⟩ (.agg #[(.bool t170), (.slice t171_p t171_n t171_c), (.int .i64 t172)]) wv_5 wv_6 ∧
        ∃ (r0 : Bool) (r1_p : Option Addr) (r1_n : Nat) (r1_c : Nat) (r2 : Int), Loads P 31 ⟨r_1, 0, none⟩ (.agg #[(.bool r0), (.slice r1_p r1_n r1_c), (.int .i64 r2)]) wv_6 ∧ R (.agg #[(.bool r0), (.slice r1_p r1_n r1_c), (.int .i64 r2)]) wv_6) ∧
      (t13 = false →
        ∃ t9 : Int, t9 = IntKind.wrap .i64 (scale + 1) ∧ Inv t9 wv_5 ∧ mu t9 wv_5 < mu scale wv_2)) ∧
    ((decide ((scale : Int) ≤ 30)) = false →
      ∃ wv_7, Stores P 31 ⟨r_1, 0, none⟩ (.agg #[(.bool false), (.slice none 0 0), (.int .i64 0)]) wv_2 wv_7 ∧
      ∃ (r0_1 : Bool) (r1_p_1 : Option Addr) (r1_n_1 : Nat) (r1_c_1 : Nat) (r2_1 : Int), Loads P 31 ⟨r_1, 0, none⟩ (.agg #[(.bool r0_1), (.slice r1_p_1 r1_n_1 r1_c_1), (.int .i64 r2_1)]) wv_7 ∧ R (.agg #[(.bool r0_1), (.slice r1_p_1 r1_n_1 r1_c_1), (.int .i64 r2_1)]) wv_7)
theorem spec_DecLow_eq (d0 : Bool) (d1_p : Option Addr) (d1_n : Nat) (d1_c : Nat) (d2 : Int) (w : World) (R : Value → World → Prop) : spec_DecLow d0 d1_p d1_n d1_c d2 w R = fsem P Tryz.f18 (fun k => cond (Nat.beq k 3) [(3, .one (.int .i64))] ([])) [(.agg #[(.bool d0), (.slice d1_p d1_n d1_c), (.int .i64 d2)])] R w := by kernel_rfl
theorem spec_DecLow_ret {d0 : Bool} {d1_p : Option Addr} {d1_n : Nat} {d1_c : Nat} {d2 : Int} {w : World} {R : Value → World → Prop} (h : spec_DecLow d0 d1_p d1_n d1_c d2 w R) : Ret P 18 [(.agg #[(.bool d0), (.slice d1_p d1_n d1_c), (.int .i64 d2)])] w R :=
  Ret.of_fsem Tryz.func18 rfl (Eq.mp (spec_DecLow_eq d0 d1_p d1_n d1_c d2 w R) h)
def spec_IntOf (n : Int) (w : World) (R : Value → World → Prop) : Prop :=
  ∀ (r : Nat) (wv : World), New w (.cells ⟨[(.bool false), (.slice none 0 0)]⟩ 29 (0, 0)) r wv →
  ((decide ((n : Int) = (-9223372036854775808))) = true →
    ∀ (r_1 : Nat) (wv_1 : World), New wv (.cells ⟨[(.int .i64 854775808), (.int .i64 223372036), (.int .i64 9)]⟩ 3 (0, 0)) r_1 wv_1 →
    Calls P 43 ⟨[(.bool true), (.slice (some ⟨r_1, 0, none⟩) 3 3)]⟩ wv_1 fun e wv_2 =>
    ∃ (t60 : Bool) (t61_p : Option Addr) (t61_n : Nat) (t61_c : Nat), e = .returned (.agg #[(.bool t60), (.slice t61_p t61_n t61_c)]) ∧
    ∃ wv_3, Stores P 29 ⟨r, 0, none⟩ (.agg #[(.bool t60), (.slice t61_p t61_n t61_c)]) wv_2 wv_3 ∧
    ∃ (r0 : Bool) (r1_p : Option Addr) (r1_n : Nat) (r1_c : Nat), Loads P 29 ⟨r, 0, none⟩ (.agg #[(.bool r0), (.slice r1_p r1_n r1_c)]) wv_3 ∧ R (.agg #[(.bool r0), (.slice r1_p r1_n r1_c)]) wv_3) ∧
  ((decide ((n : Int) = (-9223372036854775808))) = false →
    ((decide ((n : Int) < 0)) = true →
      ∃ t10 : Int, t10 = IntKind.wrap .i64 (0 - n) ∧ Calls P 44 ⟨[(.int .i64 t10)]⟩ wv fun e_1 wv_4 =>
      ∃ (t11_p : Option Addr) (t11_n : Nat) (t11_c : Nat), e_1 = .returned (.slice t11_p t11_n t11_c) ∧
      Calls P 43 ⟨[(.bool true), (.slice t11_p t11_n t11_c)]⟩ wv_4 fun e_2 wv_5 =>
      ∃ (t120 : Bool) (t121_p : Option Addr) (t121_n : Nat) (t121_c : Nat), e_2 = .returned (.agg #[(.bool t120), (.slice t121_p t121_n t121_c)]) ∧
      ∃ wv_6, Stores P 29 ⟨r, 0, none⟩ (.agg #[(.bool t120), (.slice t121_p t121_n t121_c)]) wv_5 wv_6 ∧
      ∃ (r0_1 : Bool) (r1_p_1 : Option Addr) (r1_n_1 : Nat) (r1_c_1 : Nat), Loads P 29 ⟨r, 0, none⟩ (.agg #[(.bool r0_1), (.slice r1_p_1 r1_n_1 r1_c_1)]) wv_6 ∧ R (.agg #[(.bool r0_1), (.slice r1_p_1 r1_n_1 r1_c_1)]) wv_6) ∧
    ((decide ((n : Int) < 0)) = false →
      Calls P 44 ⟨[(.int .i64 n)]⟩ wv fun e_3 wv_7 =>
      ∃ (t14_p : Option Addr) (t14_n : Nat) (t14_c : Nat), e_3 = .returned (.slice t14_p t14_n t14_c) ∧
      Calls P 43 ⟨[(.bool false), (.slice t14_p t14_n t14_c)]⟩ wv_7 fun e_4 wv_8 =>
      ∃ (t150 : Bool) (t151_p : Option Addr) (t151_n : Nat) (t151_c : Nat), e_4 = .returned (.agg #[(.bool t150), (.slice t151_p t151_n t151_c)]) ∧
      ∃ wv_9, Stores P 29 ⟨r, 0, none⟩ (.agg #[(.bool t150), (.slice t151_p t151_n t151_c)]) wv_8 wv_9 ∧
      ∃ (r0_2 : Bool) (r1_p_2 : Option Addr) (r1_n_2 : Nat) (r1_c_2 : Nat), Loads P 29 ⟨r, 0, none⟩ (.agg #[(.bool r0_2), (.slice r1_p_2 r1_n_2 r1_c_2)]) wv_9 ∧ R (.agg #[(.bool r0_2), (.slice r1_p_2 r1_n_2 r1_c_2)]) wv_9))
theorem spec_IntOf_eq (n : Int) (w : World) (R : Value → World → Prop) : spec_IntOf n w R = fsem P Tryz.f19 (fun k => []) [(.int .i64 n)] R w := by kernel_rfl
theorem spec_IntOf_ret {n : Int} {w : World} {R : Value → World → Prop} (h : spec_IntOf n w R) : Ret P 19 [(.int .i64 n)] w R :=
  Ret.of_fsem Tryz.func19 rfl (Eq.mp (spec_IntOf_eq n w R) h)
def spec_DecText_j0 (r : Nat) (s : ByteArray) (W : World) (R : Value → World → Prop) : Prop :=
  ∃ (t34 : Bool), Loads P 4 (((⟨r, 0, none⟩ : Addr).add 0).add 0) (.bool t34) W ∧ (t34 = true →
    (S [45]).size + s.size ≤ 9223372036854775807 ∧ ∃ t36 : ByteArray, t36 = (S [45]) ++ s ∧ R (.string t36) W) ∧
  (t34 = false →
    R (.string s) W)
def spec_DecText (d0 : Bool) (d1_p : Option Addr) (d1_n : Nat) (d1_c : Nat) (d2 : Int) (w : World) (R : Value → World → Prop) : Prop :=
  ∀ (r : Nat) (wv : World), New w (.cells ⟨[(.bool d0), (.slice d1_p d1_n d1_c), (.int .i64 d2)]⟩ 31 (0, 0)) r wv →
  ∃ (t50 : Bool) (t51_p : Option Addr) (t51_n : Nat) (t51_c : Nat) (t52 : Int), Loads P 31 ⟨r, 0, none⟩ (.agg #[(.bool t50), (.slice t51_p t51_n t51_c), (.int .i64 t52)]) wv ∧ Calls P 38 ⟨[(.agg #[(.bool t50), (.slice t51_p t51_n t51_c), (.int .i64 t52)])]⟩ wv fun e wv_1 =>
  ∃ (t6 : Bool), e = .returned (.bool t6) ∧
  ((!t6) = true →
    R (.string (S [])) wv_1) ∧
  ((!t6) = false →
    ∃ (t10_p : Option Addr) (t10_n : Nat) (t10_c : Nat), (∀ wv_2, Ext wv_1.drew wv_2 → Loads P 22 (((⟨r, 0, none⟩ : Addr).add 0).add 1) (.slice t10_p t10_n t10_c) wv_2) ∧ Calls P 46 ⟨[(.slice t10_p t10_n t10_c)]⟩ wv_1.drew fun e_1 wv_3 =>
    ∃ (t11 : ByteArray), e_1 = .returned (.string t11) ∧
    Ext wv_1.drew wv_3 ∧ ∃ (t13 : Int), (∀ wv_4, Ext wv_1.drew wv_4 → Loads P 3 ((⟨r, 0, none⟩ : Addr).add 2) (.int .i64 t13) wv_4) ∧ ∃ t14 : Int, t14 = IntKind.wrap .i64 (t13 + 1) ∧ Calls P 45 ⟨[(.string t11), (.int .i64 t14)]⟩ wv_3 fun e_2 wv_5 =>
    ∃ (t15 : ByteArray), e_2 = .returned (.string t15) ∧
    ∃ (t17 : Int), Loads P 3 ((⟨r, 0, none⟩ : Addr).add 2) (.int .i64 t17) wv_5 ∧ ((decide ((0 : Int) < t17)) = true →
      ∃ (t22 : Int), Loads P 3 ((⟨r, 0, none⟩ : Addr).add 2) (.int .i64 t22) wv_5 ∧ ∃ t23 : Int, t23 = IntKind.wrap .i64 (((t15.size : Nat) : Int) - t22) ∧ (0 ≤ (t23 : Int) ∧ (t23 : Int) ≤ (t15.size : Nat)) ∧ (t15.extract 0 t23.toNat).size + (S [46]).size ≤ 9223372036854775807 ∧ ∃ t27 : ByteArray, t27 = (t15.extract 0 t23.toNat) ++ (S [46]) ∧ (0 ≤ (t23 : Int) ∧ (t23 : Int) ≤ (t15.size : Nat)) ∧ t27.size + (t15.extract t23.toNat t15.size).size ≤ 9223372036854775807 ∧ ∃ t31 : ByteArray, t31 = t27 ++ (t15.extract t23.toNat t15.size) ∧ spec_DecText_j0 r t31 wv_5.drew R) ∧
    ((decide ((0 : Int) < t17)) = false →
      spec_DecText_j0 r t15 wv_5 R))
theorem spec_DecText_eq (d0 : Bool) (d1_p : Option Addr) (d1_n : Nat) (d1_c : Nat) (d2 : Int) (w : World) (R : Value → World → Prop) : spec_DecText d0 d1_p d1_n d1_c d2 w R = fsem P Tryz.f20 (fun k => []) [(.agg #[(.bool d0), (.slice d1_p d1_n d1_c), (.int .i64 d2)])] R w := by kernel_rfl
theorem spec_DecText_ret {d0 : Bool} {d1_p : Option Addr} {d1_n : Nat} {d1_c : Nat} {d2 : Int} {w : World} {R : Value → World → Prop} (h : spec_DecText d0 d1_p d1_n d1_c d2 w R) : Ret P 20 [(.agg #[(.bool d0), (.slice d1_p d1_n d1_c), (.int .i64 d2)])] w R :=
  Ret.of_fsem Tryz.func20 rfl (Eq.mp (spec_DecText_eq d0 d1_p d1_n d1_c d2 w R) h)
def impl_TaxRateOk (r0 : Bool) (r1_p : Option Addr) (r1_n : Nat) (r1_c : Nat) (r2 : Int) (w : World) (R : Value → World → Prop) : Prop :=
  ∀ (r : Nat) (wv : World), New w (.cells ⟨[(.bool r0), (.slice r1_p r1_n r1_c), (.int .i64 r2)]⟩ 31 (0, 0)) r wv →
  ∃ (t30 : Bool) (t31_p : Option Addr) (t31_n : Nat) (t31_c : Nat) (t32 : Int), (∀ wv_1, Ext wv.drew wv_1 → Loads P 31 ⟨r, 0, none⟩ (.agg #[(.bool t30), (.slice t31_p t31_n t31_c), (.int .i64 t32)]) wv_1) ∧ Calls P 48 ⟨[(.agg #[(.bool t30), (.slice t31_p t31_n t31_c), (.int .i64 t32)])]⟩ wv.drew fun e wv_2 =>
  ∃ (t4 : Bool), e = .returned (.bool t4) ∧
  (t4 = true →
    ∃ (t8_p : Option Addr) (t8_n : Nat) (t8_c : Nat), (∀ wv_3, Ext wv_2 wv_3 → Loads P 22 (((⟨r, 0, none⟩ : Addr).add 0).add 1) (.slice t8_p t8_n t8_c) wv_3) ∧ ((decide ((((t8_n : Nat) : Int) : Int) ≤ 1)) = true →
      ∃ (t15 : Bool), (∀ wv_4, Ext wv_2 wv_4 → Loads P 4 (((⟨r, 0, none⟩ : Addr).add 0).add 0) (.bool t15) wv_4) ∧ ((!t15) = true →
        ∃ (t190 : Bool) (t191_p : Option Addr) (t191_n : Nat) (t191_c : Nat) (t192 : Int), (∀ wv_5, Ext wv_2 wv_5 → Loads P 31 ⟨r, 0, none⟩ (.agg #[(.bool t190), (.slice t191_p t191_n t191_c), (.int .i64 t192)]) wv_5) ∧ Calls P 24 ⟨[(.int .i64 1)]⟩ wv_2 fun e_1 wv_6 =>
        ∃ (t200 : Bool) (t201_p : Option Addr) (t201_n : Nat) (t201_c : Nat), e_1 = .returned (.agg #[(.bool t200), (.slice t201_p t201_n t201_c)]) ∧
        Ext wv_2 wv_6 ∧ Calls P 49 ⟨[(.agg #[(.bool t190), (.slice t191_p t191_n t191_c), (.int .i64 t192)]), (.agg #[(.bool t200), (.slice t201_p t201_n t201_c), (.int .i64 0)])]⟩ wv_6 fun e_2 wv_7 =>
        ∃ (t22 : Int), e_2 = .returned (.int .i64 t22) ∧
        R (.bool (decide ((t22 : Int) ≤ 0))) wv_7) ∧
      ((!t15) = false →
        R (.bool false) wv_2)) ∧
    ((decide ((((t8_n : Nat) : Int) : Int) ≤ 1)) = false →
      (false = true →
        ∃ (t190_1 : Bool) (t191_p_1 : Option Addr) (t191_n_1 : Nat) (t191_c_1 : Nat) (t192_1 : Int), (∀ wv_8, Ext wv_2 wv_8 → Loads P 31 ⟨r, 0, none⟩ (.agg #[(.bool t190_1), (.slice t191_p_1 t191_n_1 t191_c_1), (.int .i64 t192_1)]) wv_8) ∧ Calls P 24 ⟨[(.int .i64 1)]⟩ wv_2 fun e_3 wv_9 =>
        ∃ (t200_1 : Bool) (t201_p_1 : Option Addr) (t201_n_1 : Nat) (t201_c_1 : Nat), e_3 = .returned (.agg #[(.bool t200_1), (.slice t201_p_1 t201_n_1 t201_c_1)]) ∧
        Ext wv_2 wv_9 ∧ Calls P 49 ⟨[(.agg #[(.bool t190_1), (.slice t191_p_1 t191_n_1 t191_c_1), (.int .i64 t192_1)]), (.agg #[(.bool t200_1), (.slice t201_p_1 t201_n_1 t201_c_1), (.int .i64 0)])]⟩ wv_9 fun e_4 wv_10 =>
        ∃ (t22_1 : Int), e_4 = .returned (.int .i64 t22_1) ∧
        R (.bool (decide ((t22_1 : Int) ≤ 0))) wv_10) ∧
      (false = false →
        R (.bool false) wv_2))) ∧
  (t4 = false →
    (false = true →
      ∃ (t15_1 : Bool), (∀ wv_11, Ext wv_2 wv_11 → Loads P 4 (((⟨r, 0, none⟩ : Addr).add 0).add 0) (.bool t15_1) wv_11) ∧ ((!t15_1) = true →
        ∃ (t190_2 : Bool) (t191_p_2 : Option Addr) (t191_n_2 : Nat) (t191_c_2 : Nat) (t192_2 : Int), (∀ wv_12, Ext wv_2 wv_12 → Loads P 31 ⟨r, 0, none⟩ (.agg #[(.bool t190_2), (.slice t191_p_2 t191_n_2 t191_c_2), (.int .i64 t192_2)]) wv_12) ∧ Calls P 24 ⟨[(.int .i64 1)]⟩ wv_2 fun e_5 wv_13 =>
        ∃ (t200_2 : Bool) (t201_p_2 : Option Addr) (t201_n_2 : Nat) (t201_c_2 : Nat), e_5 = .returned (.agg #[(.bool t200_2), (.slice t201_p_2 t201_n_2 t201_c_2)]) ∧
        Ext wv_2 wv_13 ∧ Calls P 49 ⟨[(.agg #[(.bool t190_2), (.slice t191_p_2 t191_n_2 t191_c_2), (.int .i64 t192_2)]), (.agg #[(.bool t200_2), (.slice t201_p_2 t201_n_2 t201_c_2), (.int .i64 0)])]⟩ wv_13 fun e_6 wv_14 =>
        ∃ (t22_2 : Int), e_6 = .returned (.int .i64 t22_2) ∧
        R (.bool (decide ((t22_2 : Int) ≤ 0))) wv_14) ∧
      ((!t15_1) = false →
        R (.bool false) wv_2)) ∧
    (false = false →
      (false = true →
        ∃ (t190_3 : Bool) (t191_p_3 : Option Addr) (t191_n_3 : Nat) (t191_c_3 : Nat) (t192_3 : Int), (∀ wv_15, Ext wv_2 wv_15 → Loads P 31 ⟨r, 0, none⟩ (.agg #[(.bool t190_3), (.slice t191_p_3 t191_n_3 t191_c_3), (.int .i64 t192_3)]) wv_15) ∧ Calls P 24 ⟨[(.int .i64 1)]⟩ wv_2 fun e_7 wv_16 =>
        ∃ (t200_3 : Bool) (t201_p_3 : Option Addr) (t201_n_3 : Nat) (t201_c_3 : Nat), e_7 = .returned (.agg #[(.bool t200_3), (.slice t201_p_3 t201_n_3 t201_c_3)]) ∧
        Ext wv_2 wv_16 ∧ Calls P 49 ⟨[(.agg #[(.bool t190_3), (.slice t191_p_3 t191_n_3 t191_c_3), (.int .i64 t192_3)]), (.agg #[(.bool t200_3), (.slice t201_p_3 t201_n_3 t201_c_3), (.int .i64 0)])]⟩ wv_16 fun e_8 wv_17 =>
        ∃ (t22_3 : Int), e_8 = .returned (.int .i64 t22_3) ∧
        R (.bool (decide ((t22_3 : Int) ≤ 0))) wv_17) ∧
      (false = false →
        R (.bool false) wv_2)))
theorem impl_TaxRateOk_eq (r0 : Bool) (r1_p : Option Addr) (r1_n : Nat) (r1_c : Nat) (r2 : Int) (w : World) (R : Value → World → Prop) : impl_TaxRateOk r0 r1_p r1_n r1_c r2 w R = fsem P Tryz.f22 (fun k => []) [(.agg #[(.bool r0), (.slice r1_p r1_n r1_c), (.int .i64 r2)])] R w := by kernel_rfl
theorem impl_TaxRateOk_ret {r0 : Bool} {r1_p : Option Addr} {r1_n : Nat} {r1_c : Nat} {r2 : Int} {w : World} {R : Value → World → Prop} (h : impl_TaxRateOk r0 r1_p r1_n r1_c r2 w R) : Ret P 22 [(.agg #[(.bool r0), (.slice r1_p r1_n r1_c), (.int .i64 r2)])] w R :=
  Ret.of_fsem Tryz.func22 rfl (Eq.mp (impl_TaxRateOk_eq r0 r1_p r1_n r1_c r2 w R) h)
def impl_DecMul_j0 (r : Nat) (r_1 : Nat) (r_2 : Nat) (W : World) (R : Value → World → Prop) : Prop :=
  ∃ (t160 : Bool) (t161_p : Option Addr) (t161_n : Nat) (t161_c : Nat), (∀ wv_5, Ext W.drew wv_5 → Loads P 29 ((⟨r, 0, none⟩ : Addr).add 0) (.agg #[(.bool t160), (.slice t161_p t161_n t161_c)]) wv_5) ∧ ∃ (t180 : Bool) (t181_p : Option Addr) (t181_n : Nat) (t181_c : Nat), (∀ wv_6, Ext W.drew wv_6 → Loads P 29 ((⟨r_1, 0, none⟩ : Addr).add 0) (.agg #[(.bool t180), (.slice t181_p t181_n t181_c)]) wv_6) ∧ Calls P 51 ⟨[(.agg #[(.bool t160), (.slice t161_p t161_n t161_c)]), (.agg #[(.bool t180), (.slice t181_p t181_n t181_c)])]⟩ W.drew fun e_1 wv_7 =>
  ∃ (t190 : Bool) (t191_p : Option Addr) (t191_n : Nat) (t191_c : Nat), e_1 = .returned (.agg #[(.bool t190), (.slice t191_p t191_n t191_c)]) ∧
  Ext W.drew wv_7 ∧ ∃ (t21 : Int), (∀ wv_8, Ext W.drew wv_8 → Loads P 3 ((⟨r, 0, none⟩ : Addr).add 2) (.int .i64 t21) wv_8) ∧ ∃ (t23 : Int), (∀ wv_9, Ext W.drew wv_9 → Loads P 3 ((⟨r_1, 0, none⟩ : Addr).add 2) (.int .i64 t23) wv_9) ∧ ∃ t24 : Int, t24 = IntKind.wrap .i64 (t21 + t23) ∧ Calls P 50 ⟨[(.agg #[(.bool t190), (.slice t191_p t191_n t191_c)]), (.int .i64 t24)]⟩ wv_7 fun e_2 wv_10 =>
  ∃ (t250 : Bool) (t251_p : Option Addr) (t251_n : Nat) (t251_c : Nat) (t252 : Int) (t25 : Bool), e_2 = .returned (.tuple #[(.agg #[(.bool t250), (.slice t251_p t251_n t251_c), (.int .i64 t252)]), (.bool t25)]) ∧
  ∃ wv_11, Stores P 31 ⟨r_2, 0, none⟩ (.agg #[(.bool t250), (.slice t251_p t251_n t251_c), (.int .i64 t252)]) wv_10 wv_11 ∧
  ∃ (r0_1 : Bool) (r1_p_1 : Option Addr) (r1_n_1 : Nat) (r1_c_1 : Nat) (r2_1 : Int), Loads P 31 ⟨r_2, 0, none⟩ (.agg #[(.bool r0_1), (.slice r1_p_1 r1_n_1 r1_c_1), (.int .i64 r2_1)]) wv_11 ∧ R (.tuple #[(.agg #[(.bool r0_1), (.slice r1_p_1 r1_n_1 r1_c_1), (.int .i64 r2_1)]), (.bool t25)]) wv_11
def impl_DecMul (d0 : Bool) (d1_p : Option Addr) (d1_n : Nat) (d1_c : Nat) (d2 : Int) (e0 : Bool) (e1_p : Option Addr) (e1_n : Nat) (e1_c : Nat) (e2 : Int) (w : World) (R : Value → World → Prop) : Prop :=
  ∀ (r : Nat) (wv : World), New w (.cells ⟨[(.bool d0), (.slice d1_p d1_n d1_c), (.int .i64 d2)]⟩ 31 (0, 0)) r wv →
  ∀ (r_1 : Nat) (wv_1 : World), New wv (.cells ⟨[(.bool e0), (.slice e1_p e1_n e1_c), (.int .i64 e2)]⟩ 31 (0, 0)) r_1 wv_1 →
  ∀ (r_2 : Nat) (wv_2 : World), New wv_1 (.cells ⟨[(.bool false), (.slice none 0 0), (.int .i64 0)]⟩ 31 (0, 0)) r_2 wv_2 →
  ∃ (t60 : Bool) (t61_p : Option Addr) (t61_n : Nat) (t61_c : Nat) (t62 : Int), Loads P 31 ⟨r, 0, none⟩ (.agg #[(.bool t60), (.slice t61_p t61_n t61_c), (.int .i64 t62)]) wv_2 ∧ Calls P 48 ⟨[(.agg #[(.bool t60), (.slice t61_p t61_n t61_c), (.int .i64 t62)])]⟩ wv_2 fun e wv_3 =>
  ∃ (t7 : Bool), e = .returned (.bool t7) ∧
  ((!t7) = true →
    (true = true →
      ∃ wv_4, Stores P 31 ⟨r_2, 0, none⟩ (.agg #[(.bool false), (.slice none 0 0), (.int .i64 0)]) wv_3 wv_4 ∧
      ∃ (r0 : Bool) (r1_p : Option Addr) (r1_n : Nat) (r1_c : Nat) (r2 : Int), Loads P 31 ⟨r_2, 0, none⟩ (.agg #[(.bool r0), (.slice r1_p r1_n r1_c), (.int .i64 r2)]) wv_4 ∧ R (.tuple #[(.agg #[(.bool r0), (.slice r1_p r1_n r1_c), (.int .i64 r2)]), (.bool false)]) wv_4) ∧
    (true = false →
      impl_DecMul_j0 r r_1 r_2 wv_3 R)) ∧
  ((!t7) = false →
    ∃ (t100 : Bool) (t101_p : Option Addr) (t101_n : Nat) (t101_c : Nat) (t102 : Int), Loads P 31 ⟨r_1, 0, none⟩ (.agg #[(.bool t100), (.slice t101_p t101_n t101_c), (.int .i64 t102)]) wv_3 ∧ Calls P 48 ⟨[(.agg #[(.bool t100), (.slice t101_p t101_n t101_c), (.int .i64 t102)])]⟩ wv_3 fun e_3 wv_12 =>
    ∃ (t11 : Bool), e_3 = .returned (.bool t11) ∧
    ((!t11) = true →
      ∃ wv_13, Stores P 31 ⟨r_2, 0, none⟩ (.agg #[(.bool false), (.slice none 0 0), (.int .i64 0)]) wv_12 wv_13 ∧
      ∃ (r0_2 : Bool) (r1_p_2 : Option Addr) (r1_n_2 : Nat) (r1_c_2 : Nat) (r2_2 : Int), Loads P 31 ⟨r_2, 0, none⟩ (.agg #[(.bool r0_2), (.slice r1_p_2 r1_n_2 r1_c_2), (.int .i64 r2_2)]) wv_13 ∧ R (.tuple #[(.agg #[(.bool r0_2), (.slice r1_p_2 r1_n_2 r1_c_2), (.int .i64 r2_2)]), (.bool false)]) wv_13) ∧
    ((!t11) = false →
      impl_DecMul_j0 r r_1 r_2 wv_12 R))
theorem impl_DecMul_eq (d0 : Bool) (d1_p : Option Addr) (d1_n : Nat) (d1_c : Nat) (d2 : Int) (e0 : Bool) (e1_p : Option Addr) (e1_n : Nat) (e1_c : Nat) (e2 : Int) (w : World) (R : Value → World → Prop) : impl_DecMul d0 d1_p d1_n d1_c d2 e0 e1_p e1_n e1_c e2 w R = fsem P Tryz.f23 (fun k => []) [(.agg #[(.bool d0), (.slice d1_p d1_n d1_c), (.int .i64 d2)]), (.agg #[(.bool e0), (.slice e1_p e1_n e1_c), (.int .i64 e2)])] R w := by kernel_rfl
theorem impl_DecMul_ret {d0 : Bool} {d1_p : Option Addr} {d1_n : Nat} {d1_c : Nat} {d2 : Int} {e0 : Bool} {e1_p : Option Addr} {e1_n : Nat} {e1_c : Nat} {e2 : Int} {w : World} {R : Value → World → Prop} (h : impl_DecMul d0 d1_p d1_n d1_c d2 e0 e1_p e1_n e1_c e2 w R) : Ret P 23 [(.agg #[(.bool d0), (.slice d1_p d1_n d1_c), (.int .i64 d2)]), (.agg #[(.bool e0), (.slice e1_p e1_n e1_c), (.int .i64 e2)])] w R :=
  Ret.of_fsem Tryz.func23 rfl (Eq.mp (impl_DecMul_eq d0 d1_p d1_n d1_c d2 e0 e1_p e1_n e1_c e2 w R) h)
def impl_IntOf (n : Int) (w : World) (R : Value → World → Prop) : Prop :=
  ∀ (r : Nat) (wv : World), New w (.cells ⟨[(.bool false), (.slice none 0 0)]⟩ 29 (0, 0)) r wv →
  ((decide ((n : Int) < 0)) = true →
    ∃ t6 : Int, t6 = IntKind.wrap .u64 n ∧ ∃ t7 : Int, t7 = IntKind.wrap .u64 (0 - t6) ∧ Calls P 52 ⟨[(.int .u64 t7)]⟩ wv fun e wv_1 =>
    ∃ (t8_p : Option Addr) (t8_n : Nat) (t8_c : Nat), e = .returned (.slice t8_p t8_n t8_c) ∧
    ∃ wv_2, Stores P 29 ⟨r, 0, none⟩ (.agg #[(.bool true), (.slice t8_p t8_n t8_c)]) wv_1 wv_2 ∧
    ∃ (r0 : Bool) (r1_p : Option Addr) (r1_n : Nat) (r1_c : Nat), Loads P 29 ⟨r, 0, none⟩ (.agg #[(.bool r0), (.slice r1_p r1_n r1_c)]) wv_2 ∧ R (.agg #[(.bool r0), (.slice r1_p r1_n r1_c)]) wv_2) ∧
  ((decide ((n : Int) < 0)) = false →
    ∃ t11 : Int, t11 = IntKind.wrap .u64 n ∧ Calls P 52 ⟨[(.int .u64 t11)]⟩ wv fun e_1 wv_3 =>
    ∃ (t12_p : Option Addr) (t12_n : Nat) (t12_c : Nat), e_1 = .returned (.slice t12_p t12_n t12_c) ∧
    ∃ wv_4, Stores P 29 ⟨r, 0, none⟩ (.agg #[(.bool false), (.slice t12_p t12_n t12_c)]) wv_3 wv_4 ∧
    ∃ (r0_1 : Bool) (r1_p_1 : Option Addr) (r1_n_1 : Nat) (r1_c_1 : Nat), Loads P 29 ⟨r, 0, none⟩ (.agg #[(.bool r0_1), (.slice r1_p_1 r1_n_1 r1_c_1)]) wv_4 ∧ R (.agg #[(.bool r0_1), (.slice r1_p_1 r1_n_1 r1_c_1)]) wv_4)
theorem impl_IntOf_eq (n : Int) (w : World) (R : Value → World → Prop) : impl_IntOf n w R = fsem P Tryz.f24 (fun k => []) [(.int .i64 n)] R w := by kernel_rfl
theorem impl_IntOf_ret {n : Int} {w : World} {R : Value → World → Prop} (h : impl_IntOf n w R) : Ret P 24 [(.int .i64 n)] w R :=
  Ret.of_fsem Tryz.func24 rfl (Eq.mp (impl_IntOf_eq n w R) h)
def impl_DecText_j1 (text_1 : ByteArray) (W_1 : World) (R : Value → World → Prop) : Prop :=
  R (.string text_1) W_1
def impl_DecText_j0 (r : Nat) (text : ByteArray) (W : World) (R : Value → World → Prop) : Prop :=
  ∃ (t34 : Bool), Loads P 4 (((⟨r, 0, none⟩ : Addr).add 0).add 0) (.bool t34) W ∧ (t34 = true →
    (S [45]).size + text.size ≤ 9223372036854775807 ∧ ∃ t36 : ByteArray, t36 = (S [45]) ++ text ∧ impl_DecText_j1 t36 W R) ∧
  (t34 = false →
    impl_DecText_j1 text W R)
def impl_DecText (d0 : Bool) (d1_p : Option Addr) (d1_n : Nat) (d1_c : Nat) (d2 : Int) (w : World) (R : Value → World → Prop) : Prop :=
  ∀ (r : Nat) (wv : World), New w (.cells ⟨[(.bool d0), (.slice d1_p d1_n d1_c), (.int .i64 d2)]⟩ 31 (0, 0)) r wv →
  ∃ (t50 : Bool) (t51_p : Option Addr) (t51_n : Nat) (t51_c : Nat) (t52 : Int), Loads P 31 ⟨r, 0, none⟩ (.agg #[(.bool t50), (.slice t51_p t51_n t51_c), (.int .i64 t52)]) wv ∧ Calls P 48 ⟨[(.agg #[(.bool t50), (.slice t51_p t51_n t51_c), (.int .i64 t52)])]⟩ wv fun e wv_1 =>
  ∃ (t6 : Bool), e = .returned (.bool t6) ∧
  ((!t6) = true →
    R (.string (S [])) wv_1) ∧
  ((!t6) = false →
    ∃ (t10_p : Option Addr) (t10_n : Nat) (t10_c : Nat), (∀ wv_2, Ext wv_1.drew wv_2 → Loads P 22 (((⟨r, 0, none⟩ : Addr).add 0).add 1) (.slice t10_p t10_n t10_c) wv_2) ∧ Calls P 54 ⟨[(.slice t10_p t10_n t10_c)]⟩ wv_1.drew fun e_1 wv_3 =>
    ∃ (t11 : ByteArray), e_1 = .returned (.string t11) ∧
    Ext wv_1.drew wv_3 ∧ ∃ (t13 : Int), (∀ wv_4, Ext wv_1.drew wv_4 → Loads P 3 ((⟨r, 0, none⟩ : Addr).add 2) (.int .i64 t13) wv_4) ∧ ∃ t14 : Int, t14 = IntKind.wrap .i64 (t13 + 1) ∧ Calls P 53 ⟨[(.string t11), (.int .i64 t14)]⟩ wv_3 fun e_2 wv_5 =>
    ∃ (t15 : ByteArray), e_2 = .returned (.string t15) ∧
    ∃ (t17 : Int), Loads P 3 ((⟨r, 0, none⟩ : Addr).add 2) (.int .i64 t17) wv_5 ∧ ((decide ((0 : Int) < t17)) = true →
      ∃ (t22 : Int), Loads P 3 ((⟨r, 0, none⟩ : Addr).add 2) (.int .i64 t22) wv_5 ∧ ∃ t23 : Int, t23 = IntKind.wrap .i64 (((t15.size : Nat) : Int) - t22) ∧ (0 ≤ (t23 : Int) ∧ (t23 : Int) ≤ (t15.size : Nat)) ∧ (t15.extract 0 t23.toNat).size + (S [46]).size ≤ 9223372036854775807 ∧ ∃ t27 : ByteArray, t27 = (t15.extract 0 t23.toNat) ++ (S [46]) ∧ (0 ≤ (t23 : Int) ∧ (t23 : Int) ≤ (t15.size : Nat)) ∧ t27.size + (t15.extract t23.toNat t15.size).size ≤ 9223372036854775807 ∧ ∃ t31 : ByteArray, t31 = t27 ++ (t15.extract t23.toNat t15.size) ∧ impl_DecText_j0 r t31 wv_5.drew R) ∧
    ((decide ((0 : Int) < t17)) = false →
      impl_DecText_j0 r t15 wv_5 R))
theorem impl_DecText_eq (d0 : Bool) (d1_p : Option Addr) (d1_n : Nat) (d1_c : Nat) (d2 : Int) (w : World) (R : Value → World → Prop) : impl_DecText d0 d1_p d1_n d1_c d2 w R = fsem P Tryz.f25 (fun k => []) [(.agg #[(.bool d0), (.slice d1_p d1_n d1_c), (.int .i64 d2)])] R w := by kernel_rfl
theorem impl_DecText_ret {d0 : Bool} {d1_p : Option Addr} {d1_n : Nat} {d1_c : Nat} {d2 : Int} {w : World} {R : Value → World → Prop} (h : impl_DecText d0 d1_p d1_n d1_c d2 w R) : Ret P 25 [(.agg #[(.bool d0), (.slice d1_p d1_n d1_c), (.int .i64 d2)])] w R :=
  Ret.of_fsem Tryz.func25 rfl (Eq.mp (impl_DecText_eq d0 d1_p d1_n d1_c d2 w R) h)
def impl_DecLow_j0 (r : Nat) (r_1 : Nat) (wv_2 : World) (Inv : Int → World → Prop) (mu : Int → World → Nat) (scale : Int) (W : World) (R : Value → World → Prop) : Prop :=
  ∃ (t170 : Bool) (t171_p : Option Addr) (t171_n : Nat) (t171_c : Nat) (t172 : Int), Loads P 31 ⟨r, 0, none⟩ (.agg #[(.bool t170), (.slice t171_p t171_n t171_c), (.int .i64 t172)]) W ∧ Calls P 55 ⟨[(.agg #[(.bool t170), (.slice t171_p t171_n t171_c), (.int .i64 t172)]), (.int .i64 scale)]⟩ W fun e wv_3 =>
  ∃ (t190 : Bool) (t191_p : Option Addr) (t191_n : Nat) (t191_c : Nat) (t192 : Int) (t19 : Bool), e = .returned (.tuple #[(.agg #[(.bool t190), (.slice t191_p t191_n t191_c), (.int .i64 t192)]), (.bool t19)]) ∧
  ∀ (r_2 : Nat) (wv_4 : World), New wv_3 (.cells ⟨[(.bool false), (.slice none 0 0), (.int .i64 0)]⟩ 31 (0, 0)) r_2 wv_4 →
  ∃ wv_5, Stores P 31 ⟨r_2, 0, none⟩ (.agg #[(.bool t190), (.slice t191_p t191_n t191_c), (.int .i64 t192)]) wv_4 wv_5 ∧
  (t19 = true →
    ∃ (t230 : Bool) (t231_p : Option Addr) (t231_n : Nat) (t231_c : Nat) (t232 : Int), Loads P 31 ⟨r_2, 0, none⟩ (.agg #[(.bool t230), (.slice t231_p t231_n t231_c), (.int .i64 t232)]) wv_5 ∧ ∃ wv_6, Stores P 31 ⟨r_1, 0, none⟩ (.agg #[(.bool t230), (.slice t231_p t231_n t231_c), (.int .i64 t232)]) wv_5 wv_6 ∧
    ∃ (r0 : Bool) (r1_p : Option Addr) (r1_n : Nat) (r1_c : Nat) (r2 : Int), Loads P 31 ⟨r_1, 0, none⟩ (.agg #[(.bool r0), (.slice r1_p r1_n r1_c), (.int .i64 r2)]) wv_6 ∧ R (.agg #[(.bool r0), (.slice r1_p r1_n r1_c), (.int .i64 r2)]) wv_6) ∧
  (t19 = false →
    ∃ t15 : Int, t15 = IntKind.wrap .i64 (scale + 1) ∧ Inv t15 wv_5 ∧ mu t15 wv_5 < mu scale wv_2)
def impl_DecLow (d0 : Bool) (d1_p : Option Addr) (d1_n : Nat) (d1_c : Nat) (d2 : Int) (w : World) (R : Value → World → Prop) : Prop :=
  ∀ (r : Nat) (wv : World), New w (.cells ⟨[(.bool d0), (.slice d1_p d1_n d1_c), (.int .i64 d2)]⟩ 31 (0, 0)) r wv →
  ∀ (r_1 : Nat) (wv_1 : World), New wv (.cells ⟨[(.bool false), (.slice none 0 0), (.int .i64 0)]⟩ 31 (0, 0)) r_1 wv_1 →
  ∃ (Inv : Int → World → Prop) (mu : Int → World → Nat), Inv 0 wv_1 ∧
  ∀ (junk : Fr) (wv_2 : World) (scale : Int), Inv scale wv_2 →
    ∃ (t8 : Int), Loads P 3 ((⟨r, 0, none⟩ : Addr).add 2) (.int .i64 t8) wv_2 ∧ ((decide ((scale : Int) ≤ t8)) = true →
      ((decide ((scale : Int) ≤ 30)) = true →
        impl_DecLow_j0 r r_1 wv_2 Inv mu scale wv_2 R) ∧
      ((decide ((scale : Int) ≤ 30)) = false →
        ∃ wv_7, Stores P 31 ⟨r_1, 0, none⟩ (.agg #[(.bool false), (.slice none 0 0), (.int .i64 0)]) wv_2 wv_7 ∧
        ∃ (r0_1 : Bool) (r1_p_1 : Option Addr) (r1_n_1 : Nat) (r1_c_1 : Nat) (r2_1 : Int), Loads P 31 ⟨r_1, 0, none⟩ (.agg #[(.bool r0_1), (.slice r1_p_1 r1_n_1 r1_c_1), (.int .i64 r2_1)]) wv_7 ∧ R (.agg #[(.bool r0_1), (.slice r1_p_1 r1_n_1 r1_c_1), (.int .i64 r2_1)]) wv_7)) ∧
    ((decide ((scale : Int) ≤ t8)) = false →
      (false = true →
        impl_DecLow_j0 r r_1 wv_2 Inv mu scale wv_2 R) ∧
      (false = false →
        ∃ wv_8, Stores P 31 ⟨r_1, 0, none⟩ (.agg #[(.bool false), (.slice none 0 0), (.int .i64 0)]) wv_2 wv_8 ∧
        ∃ (r0_2 : Bool) (r1_p_2 : Option Addr) (r1_n_2 : Nat) (r1_c_2 : Nat) (r2_2 : Int), Loads P 31 ⟨r_1, 0, none⟩ (.agg #[(.bool r0_2), (.slice r1_p_2 r1_n_2 r1_c_2), (.int .i64 r2_2)]) wv_8 ∧ R (.agg #[(.bool r0_2), (.slice r1_p_2 r1_n_2 r1_c_2), (.int .i64 r2_2)]) wv_8))
theorem impl_DecLow_eq (d0 : Bool) (d1_p : Option Addr) (d1_n : Nat) (d1_c : Nat) (d2 : Int) (w : World) (R : Value → World → Prop) : impl_DecLow d0 d1_p d1_n d1_c d2 w R = fsem P Tryz.f26 (fun k => cond (Nat.beq k 3) [(3, .one (.int .i64))] ([])) [(.agg #[(.bool d0), (.slice d1_p d1_n d1_c), (.int .i64 d2)])] R w := by kernel_rfl
theorem impl_DecLow_ret {d0 : Bool} {d1_p : Option Addr} {d1_n : Nat} {d1_c : Nat} {d2 : Int} {w : World} {R : Value → World → Prop} (h : impl_DecLow d0 d1_p d1_n d1_c d2 w R) : Ret P 26 [(.agg #[(.bool d0), (.slice d1_p d1_n d1_c), (.int .i64 d2)])] w R :=
  Ret.of_fsem Tryz.func26 rfl (Eq.mp (impl_DecLow_eq d0 d1_p d1_n d1_c d2 w R) h)
def spec_StepsOk_j0 (l_p : Option Addr) (l_n : Nat) (W : World) (R : Value → World → Prop) : Prop :=
  ∃ (Inv : Int → World → Prop) (mu : Int → World → Nat), Inv 0 W ∧
  ∀ (junk : Fr) (wv_1 : World) (t18 : Int), Inv t18 wv_1 →
    ((decide ((t18 : Int) < ((l_n : Nat) : Int))) = true →
      (0 ≤ (t18 : Int) ∧ (t18 : Int) < (l_n : Nat)) ∧ ptrS l_p fun ad => ∃ (t220 : Int) (t221 : Bool) (t222_p : Option Addr) (t222_n : Nat) (t222_c : Nat) (t223 : Int), Loads P 56 (ad.add (t18.toNat * 4)) (.agg #[(.int .i64 t220), (.bool t221), (.slice t222_p t222_n t222_c), (.int .i64 t223)]) wv_1 ∧ ∀ (r : Nat) (wv_2 : World), New wv_1 (.cells ⟨[(.int .i64 0), (.bool false), (.slice none 0 0), (.int .i64 0)]⟩ 56 (0, 0)) r wv_2 →
      ∃ wv_3, Stores P 56 ⟨r, 0, none⟩ (.agg #[(.int .i64 t220), (.bool t221), (.slice t222_p t222_n t222_c), (.int .i64 t223)]) wv_2 wv_3 ∧
      ∃ (t24 : Int), (∀ wv_4, Ext wv_3.drew wv_4 → Loads P 3 ((⟨r, 0, none⟩ : Addr).add 0) (.int .i64 t24) wv_4) ∧ Calls P 57 ⟨[(.int .i64 t24), (.int .i64 0), (.int .i64 1000000000)]⟩ wv_3.drew fun e_1 wv_5 =>
      ∃ (t25 : Bool), e_1 = .returned (.bool t25) ∧
      ((!t25) = true →
        (true = true →
          (true = true →
            R (.bool false) wv_5) ∧
          (true = false →
            ∃ t48 : Int, t48 = IntKind.wrap .i64 (t18 + 1) ∧ Inv t48 wv_5 ∧ mu t48 wv_5 < mu t18 wv_1)) ∧
        (true = false →
          ((decide ((0 : Int) < t18)) = true →
            ∃ t39 : Int, t39 = IntKind.wrap .i64 (t18 - 1) ∧ (0 ≤ (t39 : Int) ∧ (t39 : Int) < (l_n : Nat)) ∧ ptrS l_p fun ad_1 => ∃ (t42 : Int), (∀ wv_6, Ext wv_5 wv_6 → Loads P 3 ((ad_1.add (t39.toNat * 4)).add 0) (.int .i64 t42) wv_6) ∧ ∃ (t44 : Int), (∀ wv_7, Ext wv_5 wv_7 → Loads P 3 ((⟨r, 0, none⟩ : Addr).add 0) (.int .i64 t44) wv_7) ∧ ((decide ((t44 : Int) ≤ t42)) = true →
              R (.bool false) wv_5) ∧
            ((decide ((t44 : Int) ≤ t42)) = false →
              ∃ t48_1 : Int, t48_1 = IntKind.wrap .i64 (t18 + 1) ∧ Inv t48_1 wv_5 ∧ mu t48_1 wv_5 < mu t18 wv_1)) ∧
          ((decide ((0 : Int) < t18)) = false →
            (false = true →
              R (.bool false) wv_5) ∧
            (false = false →
              ∃ t48_2 : Int, t48_2 = IntKind.wrap .i64 (t18 + 1) ∧ Inv t48_2 wv_5 ∧ mu t48_2 wv_5 < mu t18 wv_1)))) ∧
      ((!t25) = false →
        ∃ (t290 : Bool) (t291_p : Option Addr) (t291_n : Nat) (t291_c : Nat) (t292 : Int), (∀ wv_8, Ext wv_5 wv_8 → Loads P 31 ((⟨r, 0, none⟩ : Addr).add 1) (.agg #[(.bool t290), (.slice t291_p t291_n t291_c), (.int .i64 t292)]) wv_8) ∧ Calls P 16 ⟨[(.agg #[(.bool t290), (.slice t291_p t291_n t291_c), (.int .i64 t292)])]⟩ wv_5 fun e_2 wv_9 =>
        ∃ (t30 : Bool), e_2 = .returned (.bool t30) ∧
        ((!t30) = true →
          (true = true →
            R (.bool false) wv_9) ∧
          (true = false →
            ∃ t48_3 : Int, t48_3 = IntKind.wrap .i64 (t18 + 1) ∧ Inv t48_3 wv_9 ∧ mu t48_3 wv_9 < mu t18 wv_1)) ∧
        ((!t30) = false →
          ((decide ((0 : Int) < t18)) = true →
            ∃ t39_1 : Int, t39_1 = IntKind.wrap .i64 (t18 - 1) ∧ (0 ≤ (t39_1 : Int) ∧ (t39_1 : Int) < (l_n : Nat)) ∧ ptrS l_p fun ad_2 => ∃ (t42_1 : Int), (∀ wv_10, Ext wv_9 wv_10 → Loads P 3 ((ad_2.add (t39_1.toNat * 4)).add 0) (.int .i64 t42_1) wv_10) ∧ ∃ (t44_1 : Int), (∀ wv_11, Ext wv_9 wv_11 → Loads P 3 ((⟨r, 0, none⟩ : Addr).add 0) (.int .i64 t44_1) wv_11) ∧ ((decide ((t44_1 : Int) ≤ t42_1)) = true →
              R (.bool false) wv_9) ∧
            ((decide ((t44_1 : Int) ≤ t42_1)) = false →
              ∃ t48_4 : Int, t48_4 = IntKind.wrap .i64 (t18 + 1) ∧ Inv t48_4 wv_9 ∧ mu t48_4 wv_9 < mu t18 wv_1)) ∧
          ((decide ((0 : Int) < t18)) = false →
            (false = true →
              R (.bool false) wv_9) ∧
            (false = false →
              ∃ t48_5 : Int, t48_5 = IntKind.wrap .i64 (t18 + 1) ∧ Inv t48_5 wv_9 ∧ mu t48_5 wv_9 < mu t18 wv_1))))) ∧
    ((decide ((t18 : Int) < ((l_n : Nat) : Int))) = false →
      R (.bool true) wv_1)
def spec_StepsOk (l_p : Option Addr) (l_n : Nat) (l_c : Nat) (w : World) (R : Value → World → Prop) : Prop :=
  Calls P 57 ⟨[(.int .i64 ((l_n : Nat) : Int)), (.int .i64 1), (.int .i64 8)]⟩ w fun e wv =>
  ∃ (t7 : Bool), e = .returned (.bool t7) ∧
  ((!t7) = true →
    (true = true →
      R (.bool false) wv) ∧
    (true = false →
      spec_StepsOk_j0 l_p l_n wv R)) ∧
  ((!t7) = false →
    (0 ≤ (0 : Int) ∧ (0 : Int) < (l_n : Nat)) ∧ ptrS l_p fun ad_3 => ∃ (t13 : Int), Loads P 3 ((ad_3.add (0 * 4)).add 0) (.int .i64 t13) wv ∧ ((decide ((t13 : Int) ≠ 0)) = true →
      R (.bool false) wv) ∧
    ((decide ((t13 : Int) ≠ 0)) = false →
      spec_StepsOk_j0 l_p l_n wv R))
theorem spec_StepsOk_eq (l_p : Option Addr) (l_n : Nat) (l_c : Nat) (w : World) (R : Value → World → Prop) : spec_StepsOk l_p l_n l_c w R = fsem P Tryz.f29 (fun k => cond (Nat.beq k 5) [(18, .one (.int .i64))] ([])) [(.slice l_p l_n l_c)] R w := by kernel_rfl
theorem spec_StepsOk_ret {l_p : Option Addr} {l_n : Nat} {l_c : Nat} {w : World} {R : Value → World → Prop} (h : spec_StepsOk l_p l_n l_c w R) : Ret P 29 [(.slice l_p l_n l_c)] w R :=
  Ret.of_fsem Tryz.func29 rfl (Eq.mp (spec_StepsOk_eq l_p l_n l_c w R) h)
def spec_IntText (n : Int) (w : World) (R : Value → World → Prop) : Prop :=
  ((decide ((n : Int) < 0)) = true →
    (10 : Int) ≠ 0 ∧ ∃ t7 : Int, t7 = IntKind.wrap .i64 (Int.tdiv n 10) ∧ ((decide ((t7 : Int) = 0)) = true →
      ∃ t10 : Int, t10 = IntKind.wrap .i64 (48 - n) ∧ ∃ t11 : Int, t11 = IntKind.wrap .u8 t10 ∧ ∀ (r : Nat) (wv : World), New w (.cells ⟨[(.int .u8 t11)]⟩ 5 (0, 0)) r wv →
      ∃ (t13 : ByteArray), Convs P 75 9 (.slice (some ⟨r, 0, none⟩) 1 1) (.string t13) wv ∧ (S [45]).size + t13.size ≤ 9223372036854775807 ∧ ∃ t14 : ByteArray, t14 = (S [45]) ++ t13 ∧ R (.string t14) wv) ∧
    ((decide ((t7 : Int) = 0)) = false →
      False)) ∧
  ((decide ((n : Int) < 0)) = false →
    ∃ (Inv : Int → ByteArray → World → Prop) (mu : Int → ByteArray → World → Nat), Inv n (S []) w ∧
    ∀ (junk : Fr) (wv_1 : World) (n_1 : Int) (s : ByteArray), Inv n_1 s wv_1 →
      ((decide ((9 : Int) < n_1)) = true →
        (10 : Int) ≠ 0 ∧ ∃ t28 : Int, t28 = Int.tmod n_1 10 ∧ ∃ t29 : Int, t29 = IntKind.wrap .i64 (48 + t28) ∧ ∃ t30 : Int, t30 = IntKind.wrap .u8 t29 ∧ ∀ (r_1 : Nat) (wv_2 : World), New wv_1 (.cells ⟨[(.int .u8 t30)]⟩ 5 (0, 0)) r_1 wv_2 →
        ∃ (t32 : ByteArray), Convs P 75 9 (.slice (some ⟨r_1, 0, none⟩) 1 1) (.string t32) wv_2 ∧ t32.size + s.size ≤ 9223372036854775807 ∧ ∃ t34 : ByteArray, t34 = t32 ++ s ∧ (10 : Int) ≠ 0 ∧ ∃ t36 : Int, t36 = IntKind.wrap .i64 (Int.tdiv n_1 10) ∧ Inv t36 t34 wv_2 ∧ mu t36 t34 wv_2 < mu n_1 s wv_1) ∧
      ((decide ((9 : Int) < n_1)) = false →
        ∃ t38 : Int, t38 = IntKind.wrap .i64 (48 + n_1) ∧ ∃ t39 : Int, t39 = IntKind.wrap .u8 t38 ∧ ∀ (r_2 : Nat) (wv_3 : World), New wv_1 (.cells ⟨[(.int .u8 t39)]⟩ 5 (0, 0)) r_2 wv_3 →
        ∃ (t41 : ByteArray), Convs P 75 9 (.slice (some ⟨r_2, 0, none⟩) 1 1) (.string t41) wv_3 ∧ t41.size + s.size ≤ 9223372036854775807 ∧ ∃ t43 : ByteArray, t43 = t41 ++ s ∧ R (.string t43) wv_3))
theorem spec_IntText_eq (n : Int) (w : World) (R : Value → World → Prop) : spec_IntText n w R = fsem P Tryz.f30 (fun k => cond (Nat.beq k 7) [(0, .one (.int .i64)), (3, .one .str)] ([])) [(.int .i64 n)] R w := by kernel_rfl
theorem spec_IntText_ret {n : Int} {w : World} {R : Value → World → Prop} (h : spec_IntText n w R) : Ret P 30 [(.int .i64 n)] w R :=
  Ret.of_fsem Tryz.func30 rfl (Eq.mp (spec_IntText_eq n w R) h)
def spec_Join_j0 (wv : World) (Inv : ByteArray → Int → World → Prop) (mu : ByteArray → Int → World → Nat) (s : ByteArray) (t10 : Int) (t14 : ByteArray) (s_1 : ByteArray) (W : World) (R : Value → World → Prop) : Prop :=
  s_1.size + t14.size ≤ 9223372036854775807 ∧ ∃ t22 : ByteArray, t22 = s_1 ++ t14 ∧ ∃ t23 : Int, t23 = IntKind.wrap .i64 (t10 + 1) ∧ Inv t22 t23 W ∧ mu t22 t23 W < mu s t10 wv
def spec_Join (l_p : Option Addr) (l_n : Nat) (l_c : Nat) (byv : ByteArray) (w : World) (R : Value → World → Prop) : Prop :=
  ∃ (Inv : ByteArray → Int → World → Prop) (mu : ByteArray → Int → World → Nat), Inv (S []) 0 w ∧
  ∀ (junk : Fr) (wv : World) (s : ByteArray) (t10 : Int), Inv s t10 wv →
    ((decide ((t10 : Int) < ((l_n : Nat) : Int))) = true →
      (0 ≤ (t10 : Int) ∧ (t10 : Int) < (l_n : Nat)) ∧ ptrS l_p fun ad => ∃ (t14 : ByteArray), Loads P 9 (ad.add (t10.toNat * 1)) (.string t14) wv ∧ ((decide ((0 : Int) < t10)) = true →
        s.size + byv.size ≤ 9223372036854775807 ∧ ∃ t19 : ByteArray, t19 = s ++ byv ∧ spec_Join_j0 wv Inv mu s t10 t14 t19 wv R) ∧
      ((decide ((0 : Int) < t10)) = false →
        spec_Join_j0 wv Inv mu s t10 t14 s wv R)) ∧
    ((decide ((t10 : Int) < ((l_n : Nat) : Int))) = false →
      R (.string s) wv)
theorem spec_Join_eq (l_p : Option Addr) (l_n : Nat) (l_c : Nat) (byv : ByteArray) (w : World) (R : Value → World → Prop) : spec_Join l_p l_n l_c byv w R = fsem P Tryz.f31 (fun k => cond (Nat.beq k 4) [(5, .one .str), (10, .one (.int .i64))] ([])) [(.slice l_p l_n l_c), (.string byv)] R w := by kernel_rfl
theorem spec_Join_ret {l_p : Option Addr} {l_n : Nat} {l_c : Nat} {byv : ByteArray} {w : World} {R : Value → World → Prop} (h : spec_Join l_p l_n l_c byv w R) : Ret P 31 [(.slice l_p l_n l_c), (.string byv)] w R :=
  Ret.of_fsem Tryz.func31 rfl (Eq.mp (spec_Join_eq l_p l_n l_c byv w R) h)
def impl_StepsOk_j0 (l_p : Option Addr) (l_n : Nat) (W : World) (R : Value → World → Prop) : Prop :=
  ∃ (Inv : Int → World → Prop) (mu : Int → World → Nat), Inv 0 W ∧
  ∀ (junk : Fr) (wv : World) (t22 : Int), Inv t22 wv →
    ((decide ((t22 : Int) < ((l_n : Nat) : Int))) = true →
      (0 ≤ (t22 : Int) ∧ (t22 : Int) < (l_n : Nat)) ∧ ptrS l_p fun ad => ∃ (t260 : Int) (t261 : Bool) (t262_p : Option Addr) (t262_n : Nat) (t262_c : Nat) (t263 : Int), Loads P 56 (ad.add (t22.toNat * 4)) (.agg #[(.int .i64 t260), (.bool t261), (.slice t262_p t262_n t262_c), (.int .i64 t263)]) wv ∧ ∀ (r : Nat) (wv_1 : World), New wv (.cells ⟨[(.int .i64 0), (.bool false), (.slice none 0 0), (.int .i64 0)]⟩ 56 (0, 0)) r wv_1 →
      ∃ wv_2, Stores P 56 ⟨r, 0, none⟩ (.agg #[(.int .i64 t260), (.bool t261), (.slice t262_p t262_n t262_c), (.int .i64 t263)]) wv_1 wv_2 ∧
      ∃ (t28 : Int), (∀ wv_3, Ext wv_2.drew wv_3 → Loads P 3 ((⟨r, 0, none⟩ : Addr).add 0) (.int .i64 t28) wv_3) ∧ ((decide ((1000000000 : Int) < t28)) = true →
        (true = true →
          (true = true →
            R (.bool false) wv_2.drew) ∧
          (true = false →
            ∃ t51 : Int, t51 = IntKind.wrap .i64 (t22 + 1) ∧ Inv t51 wv_2.drew ∧ mu t51 wv_2.drew < mu t22 wv)) ∧
        (true = false →
          ∃ (t470 : Bool) (t471_p : Option Addr) (t471_n : Nat) (t471_c : Nat) (t472 : Int), (∀ wv_4, Ext wv_2.drew wv_4 → Loads P 31 ((⟨r, 0, none⟩ : Addr).add 1) (.agg #[(.bool t470), (.slice t471_p t471_n t471_c), (.int .i64 t472)]) wv_4) ∧ Calls P 22 ⟨[(.agg #[(.bool t470), (.slice t471_p t471_n t471_c), (.int .i64 t472)])]⟩ wv_2.drew fun e wv_5 =>
          ∃ (t48 : Bool), e = .returned (.bool t48) ∧
          ((!t48) = true →
            R (.bool false) wv_5) ∧
          ((!t48) = false →
            ∃ t51_1 : Int, t51_1 = IntKind.wrap .i64 (t22 + 1) ∧ Inv t51_1 wv_5 ∧ mu t51_1 wv_5 < mu t22 wv))) ∧
      ((decide ((1000000000 : Int) < t28)) = false →
        ((decide ((0 : Int) < t22)) = true →
          ∃ t36 : Int, t36 = IntKind.wrap .i64 (t22 - 1) ∧ (0 ≤ (t36 : Int) ∧ (t36 : Int) < (l_n : Nat)) ∧ ptrS l_p fun ad_1 => ∃ (t39 : Int), (∀ wv_6, Ext wv_2.drew wv_6 → Loads P 3 ((ad_1.add (t36.toNat * 4)).add 0) (.int .i64 t39) wv_6) ∧ ∃ (t41 : Int), (∀ wv_7, Ext wv_2.drew wv_7 → Loads P 3 ((⟨r, 0, none⟩ : Addr).add 0) (.int .i64 t41) wv_7) ∧ ((decide ((t41 : Int) ≤ t39)) = true →
            (true = true →
              R (.bool false) wv_2.drew) ∧
            (true = false →
              ∃ t51_2 : Int, t51_2 = IntKind.wrap .i64 (t22 + 1) ∧ Inv t51_2 wv_2.drew ∧ mu t51_2 wv_2.drew < mu t22 wv)) ∧
          ((decide ((t41 : Int) ≤ t39)) = false →
            ∃ (t470_1 : Bool) (t471_p_1 : Option Addr) (t471_n_1 : Nat) (t471_c_1 : Nat) (t472_1 : Int), (∀ wv_8, Ext wv_2.drew wv_8 → Loads P 31 ((⟨r, 0, none⟩ : Addr).add 1) (.agg #[(.bool t470_1), (.slice t471_p_1 t471_n_1 t471_c_1), (.int .i64 t472_1)]) wv_8) ∧ Calls P 22 ⟨[(.agg #[(.bool t470_1), (.slice t471_p_1 t471_n_1 t471_c_1), (.int .i64 t472_1)])]⟩ wv_2.drew fun e_1 wv_9 =>
            ∃ (t48_1 : Bool), e_1 = .returned (.bool t48_1) ∧
            ((!t48_1) = true →
              R (.bool false) wv_9) ∧
            ((!t48_1) = false →
              ∃ t51_3 : Int, t51_3 = IntKind.wrap .i64 (t22 + 1) ∧ Inv t51_3 wv_9 ∧ mu t51_3 wv_9 < mu t22 wv))) ∧
        ((decide ((0 : Int) < t22)) = false →
          (false = true →
            (true = true →
              R (.bool false) wv_2.drew) ∧
            (true = false →
              ∃ t51_4 : Int, t51_4 = IntKind.wrap .i64 (t22 + 1) ∧ Inv t51_4 wv_2.drew ∧ mu t51_4 wv_2.drew < mu t22 wv)) ∧
          (false = false →
            ∃ (t470_2 : Bool) (t471_p_2 : Option Addr) (t471_n_2 : Nat) (t471_c_2 : Nat) (t472_2 : Int), (∀ wv_10, Ext wv_2.drew wv_10 → Loads P 31 ((⟨r, 0, none⟩ : Addr).add 1) (.agg #[(.bool t470_2), (.slice t471_p_2 t471_n_2 t471_c_2), (.int .i64 t472_2)]) wv_10) ∧ Calls P 22 ⟨[(.agg #[(.bool t470_2), (.slice t471_p_2 t471_n_2 t471_c_2), (.int .i64 t472_2)])]⟩ wv_2.drew fun e_2 wv_11 =>
            ∃ (t48_2 : Bool), e_2 = .returned (.bool t48_2) ∧
            ((!t48_2) = true →
              R (.bool false) wv_11) ∧
            ((!t48_2) = false →
              ∃ t51_5 : Int, t51_5 = IntKind.wrap .i64 (t22 + 1) ∧ Inv t51_5 wv_11 ∧ mu t51_5 wv_11 < mu t22 wv))))) ∧
    ((decide ((t22 : Int) < ((l_n : Nat) : Int))) = false →
      R (.bool true) wv)
def impl_StepsOk (l_p : Option Addr) (l_n : Nat) (l_c : Nat) (w : World) (R : Value → World → Prop) : Prop :=
  ((decide ((((l_n : Nat) : Int) : Int) < 1)) = true →
    (true = true →
      (true = true →
        R (.bool false) w) ∧
      (true = false →
        impl_StepsOk_j0 l_p l_n w R)) ∧
    (true = false →
      (0 ≤ (0 : Int) ∧ (0 : Int) < (l_n : Nat)) ∧ ptrS l_p fun ad_2 => ∃ (t17 : Int), Loads P 3 ((ad_2.add (0 * 4)).add 0) (.int .i64 t17) w ∧ ((decide ((t17 : Int) ≠ 0)) = true →
        R (.bool false) w) ∧
      ((decide ((t17 : Int) ≠ 0)) = false →
        impl_StepsOk_j0 l_p l_n w R))) ∧
  ((decide ((((l_n : Nat) : Int) : Int) < 1)) = false →
    ((decide ((8 : Int) < ((l_n : Nat) : Int))) = true →
      (true = true →
        R (.bool false) w) ∧
      (true = false →
        impl_StepsOk_j0 l_p l_n w R)) ∧
    ((decide ((8 : Int) < ((l_n : Nat) : Int))) = false →
      (0 ≤ (0 : Int) ∧ (0 : Int) < (l_n : Nat)) ∧ ptrS l_p fun ad_3 => ∃ (t17_1 : Int), Loads P 3 ((ad_3.add (0 * 4)).add 0) (.int .i64 t17_1) w ∧ ((decide ((t17_1 : Int) ≠ 0)) = true →
        R (.bool false) w) ∧
      ((decide ((t17_1 : Int) ≠ 0)) = false →
        impl_StepsOk_j0 l_p l_n w R)))
theorem impl_StepsOk_eq (l_p : Option Addr) (l_n : Nat) (l_c : Nat) (w : World) (R : Value → World → Prop) : impl_StepsOk l_p l_n l_c w R = fsem P Tryz.f33 (fun k => cond (Nat.beq k 5) [(22, .one (.int .i64))] ([])) [(.slice l_p l_n l_c)] R w := by kernel_rfl
theorem impl_StepsOk_ret {l_p : Option Addr} {l_n : Nat} {l_c : Nat} {w : World} {R : Value → World → Prop} (h : impl_StepsOk l_p l_n l_c w R) : Ret P 33 [(.slice l_p l_n l_c)] w R :=
  Ret.of_fsem Tryz.func33 rfl (Eq.mp (impl_StepsOk_eq l_p l_n l_c w R) h)
def impl_IntText (n : Int) (w : World) (R : Value → World → Prop) : Prop :=
  Calls P 58 ⟨[(.int .i64 n)]⟩ w fun e wv =>
  ∃ (t4 : ByteArray), e = .returned (.string t4) ∧
  R (.string t4) wv
theorem impl_IntText_eq (n : Int) (w : World) (R : Value → World → Prop) : impl_IntText n w R = fsem P Tryz.f34 (fun k => []) [(.int .i64 n)] R w := by kernel_rfl
theorem impl_IntText_ret {n : Int} {w : World} {R : Value → World → Prop} (h : impl_IntText n w R) : Ret P 34 [(.int .i64 n)] w R :=
  Ret.of_fsem Tryz.func34 rfl (Eq.mp (impl_IntText_eq n w R) h)
def impl_Join (l_p : Option Addr) (l_n : Nat) (l_c : Nat) (byv : ByteArray) (w : World) (R : Value → World → Prop) : Prop :=
  Calls P 59 ⟨[(.slice l_p l_n l_c), (.string byv)]⟩ w fun e wv =>
  ∃ (t7 : ByteArray), e = .returned (.string t7) ∧
  R (.string t7) wv
theorem impl_Join_eq (l_p : Option Addr) (l_n : Nat) (l_c : Nat) (byv : ByteArray) (w : World) (R : Value → World → Prop) : impl_Join l_p l_n l_c byv w R = fsem P Tryz.f35 (fun k => []) [(.slice l_p l_n l_c), (.string byv)] R w := by kernel_rfl
theorem impl_Join_ret {l_p : Option Addr} {l_n : Nat} {l_c : Nat} {byv : ByteArray} {w : World} {R : Value → World → Prop} (h : impl_Join l_p l_n l_c byv w R) : Ret P 35 [(.slice l_p l_n l_c), (.string byv)] w R :=
  Ret.of_fsem Tryz.func35 rfl (Eq.mp (impl_Join_eq l_p l_n l_c byv w R) h)
def spec_DecOk (d0 : Bool) (d1_p : Option Addr) (d1_n : Nat) (d1_c : Nat) (d2 : Int) (w : World) (R : Value → World → Prop) : Prop :=
  ∀ (r : Nat) (wv : World), New w (.cells ⟨[(.bool d0), (.slice d1_p d1_n d1_c), (.int .i64 d2)]⟩ 31 (0, 0)) r wv →
  ∃ (t40 : Bool) (t41_p : Option Addr) (t41_n : Nat) (t41_c : Nat), Loads P 29 ((⟨r, 0, none⟩ : Addr).add 0) (.agg #[(.bool t40), (.slice t41_p t41_n t41_c)]) wv ∧ Calls P 60 ⟨[(.agg #[(.bool t40), (.slice t41_p t41_n t41_c)])]⟩ wv fun e wv_1 =>
  ∃ (t5 : Bool), e = .returned (.bool t5) ∧
  (t5 = true →
    ∃ (t9_p : Option Addr) (t9_n : Nat) (t9_c : Nat), Loads P 22 (((⟨r, 0, none⟩ : Addr).add 0).add 1) (.slice t9_p t9_n t9_c) wv_1 ∧ ((decide ((((t9_n : Nat) : Int) : Int) ≤ 6)) = true →
      ∃ (t15 : Int), Loads P 3 ((⟨r, 0, none⟩ : Addr).add 2) (.int .i64 t15) wv_1 ∧ Calls P 57 ⟨[(.int .i64 t15), (.int .i64 0), (.int .i64 30)]⟩ wv_1 fun e_1 wv_2 =>
      ∃ (t16 : Bool), e_1 = .returned (.bool t16) ∧
      R (.bool t16) wv_2) ∧
    ((decide ((((t9_n : Nat) : Int) : Int) ≤ 6)) = false →
      R (.bool false) wv_1)) ∧
  (t5 = false →
    (false = true →
      ∃ (t15_1 : Int), Loads P 3 ((⟨r, 0, none⟩ : Addr).add 2) (.int .i64 t15_1) wv_1 ∧ Calls P 57 ⟨[(.int .i64 t15_1), (.int .i64 0), (.int .i64 30)]⟩ wv_1 fun e_2 wv_3 =>
      ∃ (t16_1 : Bool), e_2 = .returned (.bool t16_1) ∧
      R (.bool t16_1) wv_3) ∧
    (false = false →
      R (.bool false) wv_1))
theorem spec_DecOk_eq (d0 : Bool) (d1_p : Option Addr) (d1_n : Nat) (d1_c : Nat) (d2 : Int) (w : World) (R : Value → World → Prop) : spec_DecOk d0 d1_p d1_n d1_c d2 w R = fsem P Tryz.f38 (fun k => []) [(.agg #[(.bool d0), (.slice d1_p d1_n d1_c), (.int .i64 d2)])] R w := by kernel_rfl
theorem spec_DecOk_ret {d0 : Bool} {d1_p : Option Addr} {d1_n : Nat} {d1_c : Nat} {d2 : Int} {w : World} {R : Value → World → Prop} (h : spec_DecOk d0 d1_p d1_n d1_c d2 w R) : Ret P 38 [(.agg #[(.bool d0), (.slice d1_p d1_n d1_c), (.int .i64 d2)])] w R :=
  Ret.of_fsem Tryz.func38 rfl (Eq.mp (spec_DecOk_eq d0 d1_p d1_n d1_c d2 w R) h)
def spec_DecCmp_j0 (r : Nat) (r_1 : Nat) (W : World) (R : Value → World → Prop) : Prop :=
  ∃ (t170 : Bool) (t171_p : Option Addr) (t171_n : Nat) (t171_c : Nat) (t172 : Int), Loads P 31 ⟨r, 0, none⟩ (.agg #[(.bool t170), (.slice t171_p t171_n t171_c), (.int .i64 t172)]) W ∧ ∃ (t180 : Bool) (t181_p : Option Addr) (t181_n : Nat) (t181_c : Nat) (t182 : Int), Loads P 31 ⟨r_1, 0, none⟩ (.agg #[(.bool t180), (.slice t181_p t181_n t181_c), (.int .i64 t182)]) W ∧ Calls P 61 ⟨[(.agg #[(.bool t170), (.slice t171_p t171_n t171_c), (.int .i64 t172)]), (.agg #[(.bool t180), (.slice t181_p t181_n t181_c), (.int .i64 t182)])]⟩ W fun e_1 wv_3 =>
  ∃ (t190 : Bool) (t191_p : Option Addr) (t191_n : Nat) (t191_c : Nat) (t190_1 : Bool) (t191_p_1 : Option Addr) (t191_n_1 : Nat) (t191_c_1 : Nat) (t19 : Int), e_1 = .returned (.tuple #[(.agg #[(.bool t190), (.slice t191_p t191_n t191_c)]), (.agg #[(.bool t190_1), (.slice t191_p_1 t191_n_1 t191_c_1)]), (.int .i64 t19)]) ∧
  ∀ (r_2 : Nat) (wv_4 : World), New wv_3 (.cells ⟨[(.bool false), (.slice none 0 0)]⟩ 29 (0, 0)) r_2 wv_4 →
  ∀ (r_3 : Nat) (wv_5 : World), New wv_4 (.cells ⟨[(.bool false), (.slice none 0 0)]⟩ 29 (0, 0)) r_3 wv_5 →
  ∃ wv_6, Stores P 29 ⟨r_2, 0, none⟩ (.agg #[(.bool t190), (.slice t191_p t191_n t191_c)]) wv_5 wv_6 ∧
  ∃ wv_7, Stores P 29 ⟨r_3, 0, none⟩ (.agg #[(.bool t190_1), (.slice t191_p_1 t191_n_1 t191_c_1)]) wv_6 wv_7 ∧
  ∃ (t230 : Bool) (t231_p : Option Addr) (t231_n : Nat) (t231_c : Nat), Loads P 29 ⟨r_2, 0, none⟩ (.agg #[(.bool t230), (.slice t231_p t231_n t231_c)]) wv_7 ∧ ∃ (t240 : Bool) (t241_p : Option Addr) (t241_n : Nat) (t241_c : Nat), Loads P 29 ⟨r_3, 0, none⟩ (.agg #[(.bool t240), (.slice t241_p t241_n t241_c)]) wv_7 ∧ Calls P 62 ⟨[(.agg #[(.bool t230), (.slice t231_p t231_n t231_c)]), (.agg #[(.bool t240), (.slice t241_p t241_n t241_c)])]⟩ wv_7 fun e_2 wv_8 =>
  ∃ (t25 : Int), e_2 = .returned (.int .i64 t25) ∧
  R (.int .i64 t25) wv_8
def spec_DecCmp (d0 : Bool) (d1_p : Option Addr) (d1_n : Nat) (d1_c : Nat) (d2 : Int) (e0 : Bool) (e1_p : Option Addr) (e1_n : Nat) (e1_c : Nat) (e2 : Int) (w : World) (R : Value → World → Prop) : Prop :=
  ∀ (r : Nat) (wv : World), New w (.cells ⟨[(.bool d0), (.slice d1_p d1_n d1_c), (.int .i64 d2)]⟩ 31 (0, 0)) r wv →
  ∀ (r_1 : Nat) (wv_1 : World), New wv (.cells ⟨[(.bool e0), (.slice e1_p e1_n e1_c), (.int .i64 e2)]⟩ 31 (0, 0)) r_1 wv_1 →
  ∃ (t80 : Bool) (t81_p : Option Addr) (t81_n : Nat) (t81_c : Nat) (t82 : Int), Loads P 31 ⟨r, 0, none⟩ (.agg #[(.bool t80), (.slice t81_p t81_n t81_c), (.int .i64 t82)]) wv_1 ∧ Calls P 38 ⟨[(.agg #[(.bool t80), (.slice t81_p t81_n t81_c), (.int .i64 t82)])]⟩ wv_1 fun e wv_2 =>
  ∃ (t9 : Bool), e = .returned (.bool t9) ∧
  ((!t9) = true →
    (true = true →
      R (.int .i64 0) wv_2) ∧
    (true = false →
      spec_DecCmp_j0 r r_1 wv_2 R)) ∧
  ((!t9) = false →
    ∃ (t120 : Bool) (t121_p : Option Addr) (t121_n : Nat) (t121_c : Nat) (t122 : Int), Loads P 31 ⟨r_1, 0, none⟩ (.agg #[(.bool t120), (.slice t121_p t121_n t121_c), (.int .i64 t122)]) wv_2 ∧ Calls P 38 ⟨[(.agg #[(.bool t120), (.slice t121_p t121_n t121_c), (.int .i64 t122)])]⟩ wv_2 fun e_3 wv_9 =>
    ∃ (t13 : Bool), e_3 = .returned (.bool t13) ∧
    ((!t13) = true →
      R (.int .i64 0) wv_9) ∧
    ((!t13) = false →
      spec_DecCmp_j0 r r_1 wv_9 R))
theorem spec_DecCmp_eq (d0 : Bool) (d1_p : Option Addr) (d1_n : Nat) (d1_c : Nat) (d2 : Int) (e0 : Bool) (e1_p : Option Addr) (e1_n : Nat) (e1_c : Nat) (e2 : Int) (w : World) (R : Value → World → Prop) : spec_DecCmp d0 d1_p d1_n d1_c d2 e0 e1_p e1_n e1_c e2 w R = fsem P Tryz.f39 (fun k => []) [(.agg #[(.bool d0), (.slice d1_p d1_n d1_c), (.int .i64 d2)]), (.agg #[(.bool e0), (.slice e1_p e1_n e1_c), (.int .i64 e2)])] R w := by kernel_rfl
theorem spec_DecCmp_ret {d0 : Bool} {d1_p : Option Addr} {d1_n : Nat} {d1_c : Nat} {d2 : Int} {e0 : Bool} {e1_p : Option Addr} {e1_n : Nat} {e1_c : Nat} {e2 : Int} {w : World} {R : Value → World → Prop} (h : spec_DecCmp d0 d1_p d1_n d1_c d2 e0 e1_p e1_n e1_c e2 w R) : Ret P 39 [(.agg #[(.bool d0), (.slice d1_p d1_n d1_c), (.int .i64 d2)]), (.agg #[(.bool e0), (.slice e1_p e1_n e1_c), (.int .i64 e2)])] w R :=
  Ret.of_fsem Tryz.func39 rfl (Eq.mp (spec_DecCmp_eq d0 d1_p d1_n d1_c d2 e0 e1_p e1_n e1_c e2 w R) h)
def spec_l07Dec (x0 : Bool) (x1_p : Option Addr) (x1_n : Nat) (x1_c : Nat) (scale : Int) (w : World) (R : Value → World → Prop) : Prop :=
  ∀ (r : Nat) (wv : World), New w (.cells ⟨[(.bool x0), (.slice x1_p x1_n x1_c)]⟩ 29 (0, 0)) r wv →
  ∀ (r_1 : Nat) (wv_1 : World), New wv (.cells ⟨[(.bool false), (.slice none 0 0), (.int .i64 0)]⟩ 31 (0, 0)) r_1 wv_1 →
  ∃ (t70 : Bool) (t71_p : Option Addr) (t71_n : Nat) (t71_c : Nat), Loads P 29 ⟨r, 0, none⟩ (.agg #[(.bool t70), (.slice t71_p t71_n t71_c)]) wv_1 ∧ ∀ (r_2 : Nat) (wv_2 : World), New wv_1 (.cells ⟨[(.bool false), (.slice none 0 0), (.int .i64 0)]⟩ 31 (0, 0)) r_2 wv_2 →
  ∃ wv_3, Stores P 31 ⟨r_2, 0, none⟩ (.agg #[(.bool t70), (.slice t71_p t71_n t71_c), (.int .i64 scale)]) wv_2 wv_3 ∧
  ∃ (t100 : Bool) (t101_p : Option Addr) (t101_n : Nat) (t101_c : Nat) (t102 : Int), Loads P 31 ⟨r_2, 0, none⟩ (.agg #[(.bool t100), (.slice t101_p t101_n t101_c), (.int .i64 t102)]) wv_3 ∧ Calls P 38 ⟨[(.agg #[(.bool t100), (.slice t101_p t101_n t101_c), (.int .i64 t102)])]⟩ wv_3 fun e wv_4 =>
  ∃ (t11 : Bool), e = .returned (.bool t11) ∧
  ((!t11) = true →
    ∃ wv_5, Stores P 31 ⟨r_1, 0, none⟩ (.agg #[(.bool false), (.slice none 0 0), (.int .i64 0)]) wv_4 wv_5 ∧
    ∃ (r0 : Bool) (r1_p : Option Addr) (r1_n : Nat) (r1_c : Nat) (r2 : Int), Loads P 31 ⟨r_1, 0, none⟩ (.agg #[(.bool r0), (.slice r1_p r1_n r1_c), (.int .i64 r2)]) wv_5 ∧ R (.tuple #[(.agg #[(.bool r0), (.slice r1_p r1_n r1_c), (.int .i64 r2)]), (.bool false)]) wv_5) ∧
  ((!t11) = false →
    ∃ (t140 : Bool) (t141_p : Option Addr) (t141_n : Nat) (t141_c : Nat) (t142 : Int), Loads P 31 ⟨r_2, 0, none⟩ (.agg #[(.bool t140), (.slice t141_p t141_n t141_c), (.int .i64 t142)]) wv_4 ∧ ∃ wv_6, Stores P 31 ⟨r_1, 0, none⟩ (.agg #[(.bool t140), (.slice t141_p t141_n t141_c), (.int .i64 t142)]) wv_4 wv_6 ∧
    ∃ (r0_1 : Bool) (r1_p_1 : Option Addr) (r1_n_1 : Nat) (r1_c_1 : Nat) (r2_1 : Int), Loads P 31 ⟨r_1, 0, none⟩ (.agg #[(.bool r0_1), (.slice r1_p_1 r1_n_1 r1_c_1), (.int .i64 r2_1)]) wv_6 ∧ R (.tuple #[(.agg #[(.bool r0_1), (.slice r1_p_1 r1_n_1 r1_c_1), (.int .i64 r2_1)]), (.bool true)]) wv_6)
theorem spec_l07Dec_eq (x0 : Bool) (x1_p : Option Addr) (x1_n : Nat) (x1_c : Nat) (scale : Int) (w : World) (R : Value → World → Prop) : spec_l07Dec x0 x1_p x1_n x1_c scale w R = fsem P Tryz.f40 (fun k => []) [(.agg #[(.bool x0), (.slice x1_p x1_n x1_c)]), (.int .i64 scale)] R w := by kernel_rfl
theorem spec_l07Dec_ret {x0 : Bool} {x1_p : Option Addr} {x1_n : Nat} {x1_c : Nat} {scale : Int} {w : World} {R : Value → World → Prop} (h : spec_l07Dec x0 x1_p x1_n x1_c scale w R) : Ret P 40 [(.agg #[(.bool x0), (.slice x1_p x1_n x1_c)]), (.int .i64 scale)] w R :=
  Ret.of_fsem Tryz.func40 rfl (Eq.mp (spec_l07Dec_eq x0 x1_p x1_n x1_c scale w R) h)
def spec_IntMul (x0 : Bool) (x1_p : Option Addr) (x1_n : Nat) (x1_c : Nat) (y0 : Bool) (y1_p : Option Addr) (y1_n : Nat) (y1_c : Nat) (w : World) (R : Value → World → Prop) : Prop :=
  ∀ (r : Nat) (wv : World), New w (.cells ⟨[(.bool x0), (.slice x1_p x1_n x1_c)]⟩ 29 (0, 0)) r wv →
  ∀ (r_1 : Nat) (wv_1 : World), New wv (.cells ⟨[(.bool y0), (.slice y1_p y1_n y1_c)]⟩ 29 (0, 0)) r_1 wv_1 →
  ∀ (r_2 : Nat) (wv_2 : World), New wv_1 (.cells ⟨[(.bool false), (.slice none 0 0)]⟩ 29 (0, 0)) r_2 wv_2 →
  ∃ (t50 : Bool) (t51_p : Option Addr) (t51_n : Nat) (t51_c : Nat), Loads P 29 ⟨r, 0, none⟩ (.agg #[(.bool t50), (.slice t51_p t51_n t51_c)]) wv_2 ∧ Calls P 60 ⟨[(.agg #[(.bool t50), (.slice t51_p t51_n t51_c)])]⟩ wv_2 fun e wv_3 =>
  ∃ (t6 : Bool), e = .returned (.bool t6) ∧
  ((!t6) = true →
    (true = true →
      ∃ wv_4, Stores P 29 ⟨r_2, 0, none⟩ (.agg #[(.bool false), (.slice none 0 0)]) wv_3 wv_4 ∧
      ∃ (r0 : Bool) (r1_p : Option Addr) (r1_n : Nat) (r1_c : Nat), Loads P 29 ⟨r_2, 0, none⟩ (.agg #[(.bool r0), (.slice r1_p r1_n r1_c)]) wv_4 ∧ R (.agg #[(.bool r0), (.slice r1_p r1_n r1_c)]) wv_4) ∧
    (true = false →
      ∃ (t15 : Bool), (∀ wv_5, Ext wv_3.drew wv_5 → Loads P 4 ((⟨r, 0, none⟩ : Addr).add 0) (.bool t15) wv_5) ∧ ∃ (t17 : Bool), (∀ wv_6, Ext wv_3.drew wv_6 → Loads P 4 ((⟨r_1, 0, none⟩ : Addr).add 0) (.bool t17) wv_6) ∧ ∃ (t20_p : Option Addr) (t20_n : Nat) (t20_c : Nat), (∀ wv_7, Ext wv_3.drew wv_7 → Loads P 22 ((⟨r, 0, none⟩ : Addr).add 1) (.slice t20_p t20_n t20_c) wv_7) ∧ ∃ (t22_p : Option Addr) (t22_n : Nat) (t22_c : Nat), (∀ wv_8, Ext wv_3.drew wv_8 → Loads P 22 ((⟨r_1, 0, none⟩ : Addr).add 1) (.slice t22_p t22_n t22_c) wv_8) ∧ Calls P 63 ⟨[(.slice t20_p t20_n t20_c), (.slice t22_p t22_n t22_c)]⟩ wv_3.drew fun e_1 wv_9 =>
      ∃ (t23_p : Option Addr) (t23_n : Nat) (t23_c : Nat), e_1 = .returned (.slice t23_p t23_n t23_c) ∧
      Ext wv_3.drew wv_9 ∧ Calls P 43 ⟨[(.bool (!(t15 == t17))), (.slice t23_p t23_n t23_c)]⟩ wv_9 fun e_2 wv_10 =>
      ∃ (t240 : Bool) (t241_p : Option Addr) (t241_n : Nat) (t241_c : Nat), e_2 = .returned (.agg #[(.bool t240), (.slice t241_p t241_n t241_c)]) ∧
      ∃ wv_11, Stores P 29 ⟨r_2, 0, none⟩ (.agg #[(.bool t240), (.slice t241_p t241_n t241_c)]) wv_10 wv_11 ∧
      ∃ (r0_1 : Bool) (r1_p_1 : Option Addr) (r1_n_1 : Nat) (r1_c_1 : Nat), Loads P 29 ⟨r_2, 0, none⟩ (.agg #[(.bool r0_1), (.slice r1_p_1 r1_n_1 r1_c_1)]) wv_11 ∧ R (.agg #[(.bool r0_1), (.slice r1_p_1 r1_n_1 r1_c_1)]) wv_11)) ∧
  ((!t6) = false →
    ∃ (t90 : Bool) (t91_p : Option Addr) (t91_n : Nat) (t91_c : Nat), Loads P 29 ⟨r_1, 0, none⟩ (.agg #[(.bool t90), (.slice t91_p t91_n t91_c)]) wv_3 ∧ Calls P 60 ⟨[(.agg #[(.bool t90), (.slice t91_p t91_n t91_c)])]⟩ wv_3 fun e_3 wv_12 =>
    ∃ (t10 : Bool), e_3 = .returned (.bool t10) ∧
    ((!t10) = true →
      ∃ wv_13, Stores P 29 ⟨r_2, 0, none⟩ (.agg #[(.bool false), (.slice none 0 0)]) wv_12 wv_13 ∧
      ∃ (r0_2 : Bool) (r1_p_2 : Option Addr) (r1_n_2 : Nat) (r1_c_2 : Nat), Loads P 29 ⟨r_2, 0, none⟩ (.agg #[(.bool r0_2), (.slice r1_p_2 r1_n_2 r1_c_2)]) wv_13 ∧ R (.agg #[(.bool r0_2), (.slice r1_p_2 r1_n_2 r1_c_2)]) wv_13) ∧
    ((!t10) = false →
      ∃ (t15_1 : Bool), (∀ wv_14, Ext wv_12.drew wv_14 → Loads P 4 ((⟨r, 0, none⟩ : Addr).add 0) (.bool t15_1) wv_14) ∧ ∃ (t17_1 : Bool), (∀ wv_15, Ext wv_12.drew wv_15 → Loads P 4 ((⟨r_1, 0, none⟩ : Addr).add 0) (.bool t17_1) wv_15) ∧ ∃ (t20_p_1 : Option Addr) (t20_n_1 : Nat) (t20_c_1 : Nat), (∀ wv_16, Ext wv_12.drew wv_16 → Loads P 22 ((⟨r, 0, none⟩ : Addr).add 1) (.slice t20_p_1 t20_n_1 t20_c_1) wv_16) ∧ ∃ (t22_p_1 : Option Addr) (t22_n_1 : Nat) (t22_c_1 : Nat), (∀ wv_17, Ext wv_12.drew wv_17 → Loads P 22 ((⟨r_1, 0, none⟩ : Addr).add 1) (.slice t22_p_1 t22_n_1 t22_c_1) wv_17) ∧ Calls P 63 ⟨[(.slice t20_p_1 t20_n_1 t20_c_1), (.slice t22_p_1 t22_n_1 t22_c_1)]⟩ wv_12.drew fun e_4 wv_18 =>
      ∃ (t23_p_1 : Option Addr) (t23_n_1 : Nat) (t23_c_1 : Nat), e_4 = .returned (.slice t23_p_1 t23_n_1 t23_c_1) ∧
      Ext wv_12.drew wv_18 ∧ Calls P 43 ⟨[(.bool (!(t15_1 == t17_1))), (.slice t23_p_1 t23_n_1 t23_c_1)]⟩ wv_18 fun e_5 wv_19 =>
      ∃ (t240_1 : Bool) (t241_p_1 : Option Addr) (t241_n_1 : Nat) (t241_c_1 : Nat), e_5 = .returned (.agg #[(.bool t240_1), (.slice t241_p_1 t241_n_1 t241_c_1)]) ∧
      ∃ wv_20, Stores P 29 ⟨r_2, 0, none⟩ (.agg #[(.bool t240_1), (.slice t241_p_1 t241_n_1 t241_c_1)]) wv_19 wv_20 ∧
      ∃ (r0_3 : Bool) (r1_p_3 : Option Addr) (r1_n_3 : Nat) (r1_c_3 : Nat), Loads P 29 ⟨r_2, 0, none⟩ (.agg #[(.bool r0_3), (.slice r1_p_3 r1_n_3 r1_c_3)]) wv_20 ∧ R (.agg #[(.bool r0_3), (.slice r1_p_3 r1_n_3 r1_c_3)]) wv_20))
theorem spec_IntMul_eq (x0 : Bool) (x1_p : Option Addr) (x1_n : Nat) (x1_c : Nat) (y0 : Bool) (y1_p : Option Addr) (y1_n : Nat) (y1_c : Nat) (w : World) (R : Value → World → Prop) : spec_IntMul x0 x1_p x1_n x1_c y0 y1_p y1_n y1_c w R = fsem P Tryz.f41 (fun k => []) [(.agg #[(.bool x0), (.slice x1_p x1_n x1_c)]), (.agg #[(.bool y0), (.slice y1_p y1_n y1_c)])] R w := by kernel_rfl
theorem spec_IntMul_ret {x0 : Bool} {x1_p : Option Addr} {x1_n : Nat} {x1_c : Nat} {y0 : Bool} {y1_p : Option Addr} {y1_n : Nat} {y1_c : Nat} {w : World} {R : Value → World → Prop} (h : spec_IntMul x0 x1_p x1_n x1_c y0 y1_p y1_n y1_c w R) : Ret P 41 [(.agg #[(.bool x0), (.slice x1_p x1_n x1_c)]), (.agg #[(.bool y0), (.slice y1_p y1_n y1_c)])] w R :=
  Ret.of_fsem Tryz.func41 rfl (Eq.mp (spec_IntMul_eq x0 x1_p x1_n x1_c y0 y1_p y1_n y1_c w R) h)
def spec_DecAt_j0 (scale : Int) (r : Nat) (r_1 : Nat) (W : World) (R : Value → World → Prop) : Prop :=
  ∃ (t19 : Int), Loads P 3 ((⟨r, 0, none⟩ : Addr).add 2) (.int .i64 t19) W ∧ ((decide ((t19 : Int) ≤ scale)) = true →
    ∃ (t220 : Bool) (t221_p : Option Addr) (t221_n : Nat) (t221_c : Nat), (∀ wv_4, Ext W.drew wv_4 → Loads P 29 ((⟨r, 0, none⟩ : Addr).add 0) (.agg #[(.bool t220), (.slice t221_p t221_n t221_c)]) wv_4) ∧ ∃ (t25 : Int), (∀ wv_5, Ext W.drew wv_5 → Loads P 3 ((⟨r, 0, none⟩ : Addr).add 2) (.int .i64 t25) wv_5) ∧ ∃ t26 : Int, t26 = IntKind.wrap .i64 (scale - t25) ∧ Calls P 64 ⟨[(.int .i64 t26)]⟩ W.drew fun e_1 wv_6 =>
    ∃ (t270 : Bool) (t271_p : Option Addr) (t271_n : Nat) (t271_c : Nat), e_1 = .returned (.agg #[(.bool t270), (.slice t271_p t271_n t271_c)]) ∧
    Ext W.drew wv_6 ∧ Calls P 41 ⟨[(.agg #[(.bool t220), (.slice t221_p t221_n t221_c)]), (.agg #[(.bool t270), (.slice t271_p t271_n t271_c)])]⟩ wv_6 fun e_2 wv_7 =>
    ∃ (t280 : Bool) (t281_p : Option Addr) (t281_n : Nat) (t281_c : Nat), e_2 = .returned (.agg #[(.bool t280), (.slice t281_p t281_n t281_c)]) ∧
    Calls P 40 ⟨[(.agg #[(.bool t280), (.slice t281_p t281_n t281_c)]), (.int .i64 scale)]⟩ wv_7 fun e_3 wv_8 =>
    ∃ (t300 : Bool) (t301_p : Option Addr) (t301_n : Nat) (t301_c : Nat) (t302 : Int) (t30 : Bool), e_3 = .returned (.tuple #[(.agg #[(.bool t300), (.slice t301_p t301_n t301_c), (.int .i64 t302)]), (.bool t30)]) ∧
    ∃ wv_9, Stores P 31 ⟨r_1, 0, none⟩ (.agg #[(.bool t300), (.slice t301_p t301_n t301_c), (.int .i64 t302)]) wv_8 wv_9 ∧
    ∃ (r0_1 : Bool) (r1_p_1 : Option Addr) (r1_n_1 : Nat) (r1_c_1 : Nat) (r2_1 : Int), Loads P 31 ⟨r_1, 0, none⟩ (.agg #[(.bool r0_1), (.slice r1_p_1 r1_n_1 r1_c_1), (.int .i64 r2_1)]) wv_9 ∧ R (.tuple #[(.agg #[(.bool r0_1), (.slice r1_p_1 r1_n_1 r1_c_1), (.int .i64 r2_1)]), (.bool t30)]) wv_9) ∧
  ((decide ((t19 : Int) ≤ scale)) = false →
    ∃ (t36_p : Option Addr) (t36_n : Nat) (t36_c : Nat), Loads P 22 (((⟨r, 0, none⟩ : Addr).add 0).add 1) (.slice t36_p t36_n t36_c) W ∧ ∃ (t38 : Int), Loads P 3 ((⟨r, 0, none⟩ : Addr).add 2) (.int .i64 t38) W ∧ ∃ t40 : Int, t40 = IntKind.wrap .i64 (t38 - scale) ∧ Calls P 65 ⟨[(.slice t36_p t36_n t36_c), (.int .i64 t40)]⟩ W fun e_4 wv_10 =>
    ∃ (t41_p : Option Addr) (t41_n : Nat) (t41_c : Nat) (t41_p_1 : Option Addr) (t41_n_1 : Nat) (t41_c_1 : Nat), e_4 = .returned (.tuple #[(.slice t41_p t41_n t41_c), (.slice t41_p_1 t41_n_1 t41_c_1)]) ∧
    ((decide ((0 : Int) < ((t41_n_1 : Nat) : Int))) = true →
      ∃ wv_11, Stores P 31 ⟨r_1, 0, none⟩ (.agg #[(.bool false), (.slice none 0 0), (.int .i64 0)]) wv_10 wv_11 ∧
      ∃ (r0_2 : Bool) (r1_p_2 : Option Addr) (r1_n_2 : Nat) (r1_c_2 : Nat) (r2_2 : Int), Loads P 31 ⟨r_1, 0, none⟩ (.agg #[(.bool r0_2), (.slice r1_p_2 r1_n_2 r1_c_2), (.int .i64 r2_2)]) wv_11 ∧ R (.tuple #[(.agg #[(.bool r0_2), (.slice r1_p_2 r1_n_2 r1_c_2), (.int .i64 r2_2)]), (.bool false)]) wv_11) ∧
    ((decide ((0 : Int) < ((t41_n_1 : Nat) : Int))) = false →
      ∃ (t50 : Bool), Loads P 4 (((⟨r, 0, none⟩ : Addr).add 0).add 0) (.bool t50) wv_10 ∧ Calls P 40 ⟨[(.agg #[(.bool t50), (.slice t41_p t41_n t41_c)]), (.int .i64 scale)]⟩ wv_10 fun e_5 wv_12 =>
      ∃ (t540 : Bool) (t541_p : Option Addr) (t541_n : Nat) (t541_c : Nat) (t542 : Int) (t54 : Bool), e_5 = .returned (.tuple #[(.agg #[(.bool t540), (.slice t541_p t541_n t541_c), (.int .i64 t542)]), (.bool t54)]) ∧
      ∃ wv_13, Stores P 31 ⟨r_1, 0, none⟩ (.agg #[(.bool t540), (.slice t541_p t541_n t541_c), (.int .i64 t542)]) wv_12 wv_13 ∧
      ∃ (r0_3 : Bool) (r1_p_3 : Option Addr) (r1_n_3 : Nat) (r1_c_3 : Nat) (r2_3 : Int), Loads P 31 ⟨r_1, 0, none⟩ (.agg #[(.bool r0_3), (.slice r1_p_3 r1_n_3 r1_c_3), (.int .i64 r2_3)]) wv_13 ∧ R (.tuple #[(.agg #[(.bool r0_3), (.slice r1_p_3 r1_n_3 r1_c_3), (.int .i64 r2_3)]), (.bool t54)]) wv_13))
def spec_DecAt (d0 : Bool) (d1_p : Option Addr) (d1_n : Nat) (d1_c : Nat) (d2 : Int) (scale : Int) (w : World) (R : Value → World → Prop) : Prop :=
  ∀ (r : Nat) (wv : World), New w (.cells ⟨[(.bool d0), (.slice d1_p d1_n d1_c), (.int .i64 d2)]⟩ 31 (0, 0)) r wv →
  ∀ (r_1 : Nat) (wv_1 : World), New wv (.cells ⟨[(.bool false), (.slice none 0 0), (.int .i64 0)]⟩ 31 (0, 0)) r_1 wv_1 →
  ∃ (t80 : Bool) (t81_p : Option Addr) (t81_n : Nat) (t81_c : Nat) (t82 : Int), Loads P 31 ⟨r, 0, none⟩ (.agg #[(.bool t80), (.slice t81_p t81_n t81_c), (.int .i64 t82)]) wv_1 ∧ Calls P 38 ⟨[(.agg #[(.bool t80), (.slice t81_p t81_n t81_c), (.int .i64 t82)])]⟩ wv_1 fun e wv_2 =>
  ∃ (t9 : Bool), e = .returned (.bool t9) ∧
  ((!t9) = true →
    (true = true →
      ∃ wv_3, Stores P 31 ⟨r_1, 0, none⟩ (.agg #[(.bool false), (.slice none 0 0), (.int .i64 0)]) wv_2 wv_3 ∧
      ∃ (r0 : Bool) (r1_p : Option Addr) (r1_n : Nat) (r1_c : Nat) (r2 : Int), Loads P 31 ⟨r_1, 0, none⟩ (.agg #[(.bool r0), (.slice r1_p r1_n r1_c), (.int .i64 r2)]) wv_3 ∧ R (.tuple #[(.agg #[(.bool r0), (.slice r1_p r1_n r1_c), (.int .i64 r2)]), (.bool false)]) wv_3) ∧
    (true = false →
      spec_DecAt_j0 scale r r_1 wv_2 R)) ∧
  ((!t9) = false →
    Calls P 57 ⟨[(.int .i64 scale), (.int .i64 0), (.int .i64 30)]⟩ wv_2 fun e_6 wv_14 =>
    ∃ (t13 : Bool), e_6 = .returned (.bool t13) ∧
    ((!t13) = true →
      ∃ wv_15, Stores P 31 ⟨r_1, 0, none⟩ (.agg #[(.bool false), (.slice none 0 0), (.int .i64 0)]) wv_14 wv_15 ∧
      ∃ (r0_4 : Bool) (r1_p_4 : Option Addr) (r1_n_4 : Nat) (r1_c_4 : Nat) (r2_4 : Int), Loads P 31 ⟨r_1, 0, none⟩ (.agg #[(.bool r0_4), (.slice r1_p_4 r1_n_4 r1_c_4), (.int .i64 r2_4)]) wv_15 ∧ R (.tuple #[(.agg #[(.bool r0_4), (.slice r1_p_4 r1_n_4 r1_c_4), (.int .i64 r2_4)]), (.bool false)]) wv_15) ∧
    ((!t13) = false →
      spec_DecAt_j0 scale r r_1 wv_14 R))
theorem spec_DecAt_eq (d0 : Bool) (d1_p : Option Addr) (d1_n : Nat) (d1_c : Nat) (d2 : Int) (scale : Int) (w : World) (R : Value → World → Prop) : spec_DecAt d0 d1_p d1_n d1_c d2 scale w R = fsem P Tryz.f42 (fun k => []) [(.agg #[(.bool d0), (.slice d1_p d1_n d1_c), (.int .i64 d2)]), (.int .i64 scale)] R w := by kernel_rfl
theorem spec_DecAt_ret {d0 : Bool} {d1_p : Option Addr} {d1_n : Nat} {d1_c : Nat} {d2 : Int} {scale : Int} {w : World} {R : Value → World → Prop} (h : spec_DecAt d0 d1_p d1_n d1_c d2 scale w R) : Ret P 42 [(.agg #[(.bool d0), (.slice d1_p d1_n d1_c), (.int .i64 d2)]), (.int .i64 scale)] w R :=
  Ret.of_fsem Tryz.func42 rfl (Eq.mp (spec_DecAt_eq d0 d1_p d1_n d1_c d2 scale w R) h)
def spec_l04Make (neg : Bool) (a_p : Option Addr) (a_n : Nat) (a_c : Nat) (w : World) (R : Value → World → Prop) : Prop :=
  ∀ (r : Nat) (wv : World), New w (.cells ⟨[(.bool false), (.slice none 0 0)]⟩ 29 (0, 0)) r wv →
  Calls P 66 ⟨[(.slice a_p a_n a_c)]⟩ wv fun e wv_1 =>
  ∃ (t7_p : Option Addr) (t7_n : Nat) (t7_c : Nat), e = .returned (.slice t7_p t7_n t7_c) ∧
  (neg = true →
    ∀ (r_1 : Nat) (wv_2 : World), New wv_1 (.cells ⟨[]⟩ 3 (0, 0)) r_1 wv_2 →
    ∃ (t16_p : Option Addr) (t16_n : Nat) (t16_c : Nat) (wv_3 : World), Appends P [22, 22] [(.slice (some ⟨r_1, 0, none⟩) 0 0), (.slice t7_p t7_n t7_c)] (.slice t16_p t16_n t16_c) wv_2 wv_3 ∧
    ∃ wv_4, Stores P 29 ⟨r, 0, none⟩ (.agg #[(.bool (decide ((0 : Int) < ((t7_n : Nat) : Int)))), (.slice t16_p t16_n t16_c)]) wv_3 wv_4 ∧
    ∃ (r0 : Bool) (r1_p : Option Addr) (r1_n : Nat) (r1_c : Nat), Loads P 29 ⟨r, 0, none⟩ (.agg #[(.bool r0), (.slice r1_p r1_n r1_c)]) wv_4 ∧ R (.agg #[(.bool r0), (.slice r1_p r1_n r1_c)]) wv_4) ∧
  (neg = false →
    ∀ (r_2 : Nat) (wv_5 : World), New wv_1 (.cells ⟨[]⟩ 3 (0, 0)) r_2 wv_5 →
    ∃ (t16_p_1 : Option Addr) (t16_n_1 : Nat) (t16_c_1 : Nat) (wv_6 : World), Appends P [22, 22] [(.slice (some ⟨r_2, 0, none⟩) 0 0), (.slice t7_p t7_n t7_c)] (.slice t16_p_1 t16_n_1 t16_c_1) wv_5 wv_6 ∧
    ∃ wv_7, Stores P 29 ⟨r, 0, none⟩ (.agg #[(.bool false), (.slice t16_p_1 t16_n_1 t16_c_1)]) wv_6 wv_7 ∧
    ∃ (r0_1 : Bool) (r1_p_1 : Option Addr) (r1_n_1 : Nat) (r1_c_1 : Nat), Loads P 29 ⟨r, 0, none⟩ (.agg #[(.bool r0_1), (.slice r1_p_1 r1_n_1 r1_c_1)]) wv_7 ∧ R (.agg #[(.bool r0_1), (.slice r1_p_1 r1_n_1 r1_c_1)]) wv_7)
theorem spec_l04Make_eq (neg : Bool) (a_p : Option Addr) (a_n : Nat) (a_c : Nat) (w : World) (R : Value → World → Prop) : spec_l04Make neg a_p a_n a_c w R = fsem P Tryz.f43 (fun k => []) [(.bool neg), (.slice a_p a_n a_c)] R w := by kernel_rfl
theorem spec_l04Make_ret {neg : Bool} {a_p : Option Addr} {a_n : Nat} {a_c : Nat} {w : World} {R : Value → World → Prop} (h : spec_l04Make neg a_p a_n a_c w R) : Ret P 43 [(.bool neg), (.slice a_p a_n a_c)] w R :=
  Ret.of_fsem Tryz.func43 rfl (Eq.mp (spec_l04Make_eq neg a_p a_n a_c w R) h)
def spec_NatOf (n : Int) (w : World) (R : Value → World → Prop) : Prop :=
  ∀ (r : Nat) (wv : World), New w (.cells ⟨[]⟩ 3 (0, 0)) r wv →
  ∃ (Inv : Int → Option Addr → Nat → Nat → World → Prop) (mu : Int → Option Addr → Nat → Nat → World → Nat), Inv n (some ⟨r, 0, none⟩) 0 0 wv ∧
  ∀ (junk : Fr) (wv_1 : World) (n_1 : Int) (out_p : Option Addr) (out_n : Nat) (out_c : Nat), Inv n_1 out_p out_n out_c wv_1 →
    ((decide ((0 : Int) < n_1)) = true →
      (1000000000 : Int) ≠ 0 ∧ ∃ t9 : Int, t9 = Int.tmod n_1 1000000000 ∧ ∀ (r_1 : Nat) (wv_2 : World), New wv_1 (.cells ⟨[(.int .i64 t9)]⟩ 3 (0, 0)) r_1 wv_2 →
      ∃ (t11_p : Option Addr) (t11_n : Nat) (t11_c : Nat) (wv_3 : World), Appends P [22, 22] [(.slice out_p out_n out_c), (.slice (some ⟨r_1, 0, none⟩) 1 1)] (.slice t11_p t11_n t11_c) wv_2 wv_3 ∧
      (1000000000 : Int) ≠ 0 ∧ ∃ t13 : Int, t13 = IntKind.wrap .i64 (Int.tdiv n_1 1000000000) ∧ Inv t13 t11_p t11_n t11_c wv_3 ∧ mu t13 t11_p t11_n t11_c wv_3 < mu n_1 out_p out_n out_c wv_1) ∧
    ((decide ((0 : Int) < n_1)) = false →
      R (.slice out_p out_n out_c) wv_1)
theorem spec_NatOf_eq (n : Int) (w : World) (R : Value → World → Prop) : spec_NatOf n w R = fsem P Tryz.f44 (fun k => cond (Nat.beq k 3) [(0, .one (.int .i64)), (3, .one .slice)] ([])) [(.int .i64 n)] R w := by kernel_rfl
theorem spec_NatOf_ret {n : Int} {w : World} {R : Value → World → Prop} (h : spec_NatOf n w R) : Ret P 44 [(.int .i64 n)] w R :=
  Ret.of_fsem Tryz.func44 rfl (Eq.mp (spec_NatOf_eq n w R) h)
def spec_Pad (s : ByteArray) (n : Int) (w : World) (R : Value → World → Prop) : Prop :=
  ((decide ((2000 : Int) < n)) = true →
    R (.string s) w) ∧
  ((decide ((2000 : Int) < n)) = false →
    ∃ (Inv : ByteArray → World → Prop) (mu : ByteArray → World → Nat), Inv s w ∧
    ∀ (junk : Fr) (wv : World) (s_1 : ByteArray), Inv s_1 wv →
      ((decide ((((s_1.size : Nat) : Int) : Int) < n)) = true →
        (S [48]).size + s_1.size ≤ 9223372036854775807 ∧ ∃ t13 : ByteArray, t13 = (S [48]) ++ s_1 ∧ Inv t13 wv ∧ mu t13 wv < mu s_1 wv) ∧
      ((decide ((((s_1.size : Nat) : Int) : Int) < n)) = false →
        R (.string s_1) wv))
theorem spec_Pad_eq (s : ByteArray) (n : Int) (w : World) (R : Value → World → Prop) : spec_Pad s n w R = fsem P Tryz.f45 (fun k => cond (Nat.beq k 4) [(0, .one .str)] ([])) [(.string s), (.int .i64 n)] R w := by kernel_rfl
theorem spec_Pad_ret {s : ByteArray} {n : Int} {w : World} {R : Value → World → Prop} (h : spec_Pad s n w R) : Ret P 45 [(.string s), (.int .i64 n)] w R :=
  Ret.of_fsem Tryz.func45 rfl (Eq.mp (spec_Pad_eq s n w R) h)
def spec_NatText (a_p : Option Addr) (a_n : Nat) (a_c : Nat) (w : World) (R : Value → World → Prop) : Prop :=
  Calls P 67 ⟨[(.slice a_p a_n a_c)]⟩ w fun e wv =>
  ∃ (t6 : Bool), e = .returned (.bool t6) ∧
  ((!t6) = true →
    R (.string (S [])) wv) ∧
  ((!t6) = false →
    ((decide ((((a_n : Nat) : Int) : Int) = 0)) = true →
      R (.string (S [48])) wv) ∧
    ((decide ((((a_n : Nat) : Int) : Int) = 0)) = false →
      ∃ t14 : Int, t14 = IntKind.wrap .i64 (((a_n : Nat) : Int) - 1) ∧ (0 ≤ (t14 : Int) ∧ (t14 : Int) < (a_n : Nat)) ∧ ptrS a_p fun ad => ∃ (t16 : Int), Loads P 3 (ad.add (t14.toNat * 1)) (.int .i64 t16) wv ∧ Calls P 30 ⟨[(.int .i64 t16)]⟩ wv fun e_1 wv_1 =>
      ∃ (t17 : ByteArray), e_1 = .returned (.string t17) ∧
      ∃ t20 : Int, t20 = IntKind.wrap .i64 (((a_n : Nat) : Int) - 2) ∧ ∃ (Inv : ByteArray → Int → World → Prop) (mu : ByteArray → Int → World → Nat), Inv t17 t20 wv_1 ∧
      ∀ (junk : Fr) (wv_2 : World) (s : ByteArray) (i : Int), Inv s i wv_2 →
        ((decide ((0 : Int) ≤ i)) = true →
          (0 ≤ (i : Int) ∧ (i : Int) < (a_n : Nat)) ∧ ptrS a_p fun ad_1 => ∃ (t29 : Int), Loads P 3 (ad_1.add (i.toNat * 1)) (.int .i64 t29) wv_2 ∧ Calls P 30 ⟨[(.int .i64 t29)]⟩ wv_2 fun e_2 wv_3 =>
          ∃ (t30 : ByteArray), e_2 = .returned (.string t30) ∧
          Calls P 45 ⟨[(.string t30), (.int .i64 9)]⟩ wv_3 fun e_3 wv_4 =>
          ∃ (t31 : ByteArray), e_3 = .returned (.string t31) ∧
          s.size + t31.size ≤ 9223372036854775807 ∧ ∃ t32 : ByteArray, t32 = s ++ t31 ∧ ∃ t24 : Int, t24 = IntKind.wrap .i64 (i - 1) ∧ Inv t32 t24 wv_4 ∧ mu t32 t24 wv_4 < mu s i wv_2) ∧
        ((decide ((0 : Int) ≤ i)) = false →
          R (.string s) wv_2)))
theorem spec_NatText_eq (a_p : Option Addr) (a_n : Nat) (a_c : Nat) (w : World) (R : Value → World → Prop) : spec_NatText a_p a_n a_c w R = fsem P Tryz.f46 (fun k => cond (Nat.beq k 8) [(3, .one .str), (4, .one (.int .i64))] ([])) [(.slice a_p a_n a_c)] R w := by kernel_rfl
theorem spec_NatText_ret {a_p : Option Addr} {a_n : Nat} {a_c : Nat} {w : World} {R : Value → World → Prop} (h : spec_NatText a_p a_n a_c w R) : Ret P 46 [(.slice a_p a_n a_c)] w R :=
  Ret.of_fsem Tryz.func46 rfl (Eq.mp (spec_NatText_eq a_p a_n a_c w R) h)
end Go.Proofs.YtpaekkcgphljoaaGreatDoor

namespace Go.Proofs.YtpaekkcgphljoaaGreatDoor
open Go Go.Proofs.YtpaekkcgphljoaaGreatDoor.Sx
set_option linter.unusedVariables false
set_option maxRecDepth 100000
def impl_DecOk (d0 : Bool) (d1_p : Option Addr) (d1_n : Nat) (d1_c : Nat) (d2 : Int) (w : World) (R : Value → World → Prop) : Prop :=
  ∀ (r : Nat) (wv : World), New w (.cells ⟨[(.bool d0), (.slice d1_p d1_n d1_c), (.int .i64 d2)]⟩ 31 (0, 0)) r wv →
  ∃ (t40 : Bool) (t41_p : Option Addr) (t41_n : Nat) (t41_c : Nat), Loads P 29 ((⟨r, 0, none⟩ : Addr).add 0) (.agg #[(.bool t40), (.slice t41_p t41_n t41_c)]) wv ∧ Calls P 68 ⟨[(.agg #[(.bool t40), (.slice t41_p t41_n t41_c)])]⟩ wv fun e wv_1 =>
  ∃ (t5 : Bool), e = .returned (.bool t5) ∧
  (t5 = true →
    ∃ (t9_p : Option Addr) (t9_n : Nat) (t9_c : Nat), Loads P 22 (((⟨r, 0, none⟩ : Addr).add 0).add 1) (.slice t9_p t9_n t9_c) wv_1 ∧ ((decide ((((t9_n : Nat) : Int) : Int) ≤ 6)) = true →
      ∃ (t15 : Int), Loads P 3 ((⟨r, 0, none⟩ : Addr).add 2) (.int .i64 t15) wv_1 ∧ Calls P 69 ⟨[(.int .i64 t15)]⟩ wv_1 fun e_1 wv_2 =>
      ∃ (t16 : Bool), e_1 = .returned (.bool t16) ∧
      R (.bool t16) wv_2) ∧
    ((decide ((((t9_n : Nat) : Int) : Int) ≤ 6)) = false →
      R (.bool false) wv_1)) ∧
  (t5 = false →
    (false = true →
      ∃ (t15_1 : Int), Loads P 3 ((⟨r, 0, none⟩ : Addr).add 2) (.int .i64 t15_1) wv_1 ∧ Calls P 69 ⟨[(.int .i64 t15_1)]⟩ wv_1 fun e_2 wv_3 =>
      ∃ (t16_1 : Bool), e_2 = .returned (.bool t16_1) ∧
      R (.bool t16_1) wv_3) ∧
    (false = false →
      R (.bool false) wv_1))
theorem impl_DecOk_eq (d0 : Bool) (d1_p : Option Addr) (d1_n : Nat) (d1_c : Nat) (d2 : Int) (w : World) (R : Value → World → Prop) : impl_DecOk d0 d1_p d1_n d1_c d2 w R = fsem P Tryz.f48 (fun k => []) [(.agg #[(.bool d0), (.slice d1_p d1_n d1_c), (.int .i64 d2)])] R w := by kernel_rfl
theorem impl_DecOk_ret {d0 : Bool} {d1_p : Option Addr} {d1_n : Nat} {d1_c : Nat} {d2 : Int} {w : World} {R : Value → World → Prop} (h : impl_DecOk d0 d1_p d1_n d1_c d2 w R) : Ret P 48 [(.agg #[(.bool d0), (.slice d1_p d1_n d1_c), (.int .i64 d2)])] w R :=
  Ret.of_fsem Tryz.func48 rfl (Eq.mp (impl_DecOk_eq d0 d1_p d1_n d1_c d2 w R) h)
def impl_DecCmp_j0 (r : Nat) (r_1 : Nat) (W : World) (R : Value → World → Prop) : Prop :=
  ∃ (t15 : Int), Loads P 3 ((⟨r, 0, none⟩ : Addr).add 2) (.int .i64 t15) W ∧ ∃ (t17 : Int), Loads P 3 ((⟨r_1, 0, none⟩ : Addr).add 2) (.int .i64 t17) W ∧ ∃ t18 : Int, t18 = (if t17 > t15 then t17 else t15) ∧ Calls P 70 ⟨[(.int .i64 t18)]⟩ W fun e_1 wv_3 =>
  ∃ (t19 : Value), e_1 = .returned t19 ∧
  ∃ (t210 : Bool) (t211_p : Option Addr) (t211_n : Nat) (t211_c : Nat) (t212 : Int), (∀ wv_4, Ext wv_3.drew wv_4 → Loads P 31 ⟨r, 0, none⟩ (.agg #[(.bool t210), (.slice t211_p t211_n t211_c), (.int .i64 t212)]) wv_4) ∧ CallW P t19 [(.agg #[(.bool t210), (.slice t211_p t211_n t211_c), (.int .i64 t212)])] wv_3.drew fun e_2 wv_5 =>
  ∃ (t220 : Bool) (t221_p : Option Addr) (t221_n : Nat) (t221_c : Nat), e_2 = .returned (.agg #[(.bool t220), (.slice t221_p t221_n t221_c)]) ∧
  Ext wv_3.drew wv_5 ∧ ∃ (t240 : Bool) (t241_p : Option Addr) (t241_n : Nat) (t241_c : Nat) (t242 : Int), (∀ wv_6, Ext wv_3.drew wv_6 → Loads P 31 ⟨r_1, 0, none⟩ (.agg #[(.bool t240), (.slice t241_p t241_n t241_c), (.int .i64 t242)]) wv_6) ∧ CallW P t19 [(.agg #[(.bool t240), (.slice t241_p t241_n t241_c), (.int .i64 t242)])] wv_5 fun e_3 wv_7 =>
  ∃ (t250 : Bool) (t251_p : Option Addr) (t251_n : Nat) (t251_c : Nat), e_3 = .returned (.agg #[(.bool t250), (.slice t251_p t251_n t251_c)]) ∧
  Calls P 71 ⟨[(.agg #[(.bool t220), (.slice t221_p t221_n t221_c)]), (.agg #[(.bool t250), (.slice t251_p t251_n t251_c)])]⟩ wv_7 fun e_4 wv_8 =>
  ∃ (t26 : Int), e_4 = .returned (.int .i64 t26) ∧
  R (.int .i64 t26) wv_8
def impl_DecCmp (d0 : Bool) (d1_p : Option Addr) (d1_n : Nat) (d1_c : Nat) (d2 : Int) (e0 : Bool) (e1_p : Option Addr) (e1_n : Nat) (e1_c : Nat) (e2 : Int) (w : World) (R : Value → World → Prop) : Prop :=
  ∀ (r : Nat) (wv : World), New w (.cells ⟨[(.bool d0), (.slice d1_p d1_n d1_c), (.int .i64 d2)]⟩ 31 (0, 0)) r wv →
  ∀ (r_1 : Nat) (wv_1 : World), New wv (.cells ⟨[(.bool e0), (.slice e1_p e1_n e1_c), (.int .i64 e2)]⟩ 31 (0, 0)) r_1 wv_1 →
  ∃ (t60 : Bool) (t61_p : Option Addr) (t61_n : Nat) (t61_c : Nat) (t62 : Int), Loads P 31 ⟨r, 0, none⟩ (.agg #[(.bool t60), (.slice t61_p t61_n t61_c), (.int .i64 t62)]) wv_1 ∧ Calls P 48 ⟨[(.agg #[(.bool t60), (.slice t61_p t61_n t61_c), (.int .i64 t62)])]⟩ wv_1 fun e wv_2 =>
  ∃ (t7 : Bool), e = .returned (.bool t7) ∧
  ((!t7) = true →
    (true = true →
      R (.int .i64 0) wv_2) ∧
    (true = false →
      impl_DecCmp_j0 r r_1 wv_2 R)) ∧
  ((!t7) = false →
    ∃ (t100 : Bool) (t101_p : Option Addr) (t101_n : Nat) (t101_c : Nat) (t102 : Int), Loads P 31 ⟨r_1, 0, none⟩ (.agg #[(.bool t100), (.slice t101_p t101_n t101_c), (.int .i64 t102)]) wv_2 ∧ Calls P 48 ⟨[(.agg #[(.bool t100), (.slice t101_p t101_n t101_c), (.int .i64 t102)])]⟩ wv_2 fun e_5 wv_9 =>
    ∃ (t11 : Bool), e_5 = .returned (.bool t11) ∧
    ((!t11) = true →
      R (.int .i64 0) wv_9) ∧
    ((!t11) = false →
      impl_DecCmp_j0 r r_1 wv_9 R))
theorem impl_DecCmp_eq (d0 : Bool) (d1_p : Option Addr) (d1_n : Nat) (d1_c : Nat) (d2 : Int) (e0 : Bool) (e1_p : Option Addr) (e1_n : Nat) (e1_c : Nat) (e2 : Int) (w : World) (R : Value → World → Prop) : impl_DecCmp d0 d1_p d1_n d1_c d2 e0 e1_p e1_n e1_c e2 w R = fsem P Tryz.f49 (fun k => []) [(.agg #[(.bool d0), (.slice d1_p d1_n d1_c), (.int .i64 d2)]), (.agg #[(.bool e0), (.slice e1_p e1_n e1_c), (.int .i64 e2)])] R w := by kernel_rfl
theorem impl_DecCmp_ret {d0 : Bool} {d1_p : Option Addr} {d1_n : Nat} {d1_c : Nat} {d2 : Int} {e0 : Bool} {e1_p : Option Addr} {e1_n : Nat} {e1_c : Nat} {e2 : Int} {w : World} {R : Value → World → Prop} (h : impl_DecCmp d0 d1_p d1_n d1_c d2 e0 e1_p e1_n e1_c e2 w R) : Ret P 49 [(.agg #[(.bool d0), (.slice d1_p d1_n d1_c), (.int .i64 d2)]), (.agg #[(.bool e0), (.slice e1_p e1_n e1_c), (.int .i64 e2)])] w R :=
  Ret.of_fsem Tryz.func49 rfl (Eq.mp (impl_DecCmp_eq d0 d1_p d1_n d1_c d2 e0 e1_p e1_n e1_c e2 w R) h)
def impl_decOf (num0 : Bool) (num1_p : Option Addr) (num1_n : Nat) (num1_c : Nat) (scale : Int) (w : World) (R : Value → World → Prop) : Prop :=
  ∀ (r : Nat) (wv : World), New w (.cells ⟨[(.bool num0), (.slice num1_p num1_n num1_c)]⟩ 29 (0, 0)) r wv →
  ∀ (r_1 : Nat) (wv_1 : World), New wv (.cells ⟨[(.bool false), (.slice none 0 0), (.int .i64 0)]⟩ 31 (0, 0)) r_1 wv_1 →
  ∃ (t70 : Bool) (t71_p : Option Addr) (t71_n : Nat) (t71_c : Nat), Loads P 29 ⟨r, 0, none⟩ (.agg #[(.bool t70), (.slice t71_p t71_n t71_c)]) wv_1 ∧ ∀ (r_2 : Nat) (wv_2 : World), New wv_1 (.cells ⟨[(.bool false), (.slice none 0 0), (.int .i64 0)]⟩ 31 (0, 0)) r_2 wv_2 →
  ∃ wv_3, Stores P 31 ⟨r_2, 0, none⟩ (.agg #[(.bool t70), (.slice t71_p t71_n t71_c), (.int .i64 scale)]) wv_2 wv_3 ∧
  ∃ (t100 : Bool) (t101_p : Option Addr) (t101_n : Nat) (t101_c : Nat) (t102 : Int), Loads P 31 ⟨r_2, 0, none⟩ (.agg #[(.bool t100), (.slice t101_p t101_n t101_c), (.int .i64 t102)]) wv_3 ∧ Calls P 48 ⟨[(.agg #[(.bool t100), (.slice t101_p t101_n t101_c), (.int .i64 t102)])]⟩ wv_3 fun e wv_4 =>
  ∃ (t11 : Bool), e = .returned (.bool t11) ∧
  (t11 = true →
    ∃ (t120 : Bool) (t121_p : Option Addr) (t121_n : Nat) (t121_c : Nat) (t122 : Int), Loads P 31 ⟨r_2, 0, none⟩ (.agg #[(.bool t120), (.slice t121_p t121_n t121_c), (.int .i64 t122)]) wv_4 ∧ ∃ wv_5, Stores P 31 ⟨r_1, 0, none⟩ (.agg #[(.bool t120), (.slice t121_p t121_n t121_c), (.int .i64 t122)]) wv_4 wv_5 ∧
    ∃ (r0 : Bool) (r1_p : Option Addr) (r1_n : Nat) (r1_c : Nat) (r2 : Int), Loads P 31 ⟨r_1, 0, none⟩ (.agg #[(.bool r0), (.slice r1_p r1_n r1_c), (.int .i64 r2)]) wv_5 ∧ R (.tuple #[(.agg #[(.bool r0), (.slice r1_p r1_n r1_c), (.int .i64 r2)]), (.bool true)]) wv_5) ∧
  (t11 = false →
    ∃ wv_6, Stores P 31 ⟨r_1, 0, none⟩ (.agg #[(.bool false), (.slice none 0 0), (.int .i64 0)]) wv_4 wv_6 ∧
    ∃ (r0_1 : Bool) (r1_p_1 : Option Addr) (r1_n_1 : Nat) (r1_c_1 : Nat) (r2_1 : Int), Loads P 31 ⟨r_1, 0, none⟩ (.agg #[(.bool r0_1), (.slice r1_p_1 r1_n_1 r1_c_1), (.int .i64 r2_1)]) wv_6 ∧ R (.tuple #[(.agg #[(.bool r0_1), (.slice r1_p_1 r1_n_1 r1_c_1), (.int .i64 r2_1)]), (.bool false)]) wv_6)
theorem impl_decOf_eq (num0 : Bool) (num1_p : Option Addr) (num1_n : Nat) (num1_c : Nat) (scale : Int) (w : World) (R : Value → World → Prop) : impl_decOf num0 num1_p num1_n num1_c scale w R = fsem P Tryz.f50 (fun k => []) [(.agg #[(.bool num0), (.slice num1_p num1_n num1_c)]), (.int .i64 scale)] R w := by kernel_rfl
theorem impl_decOf_ret {num0 : Bool} {num1_p : Option Addr} {num1_n : Nat} {num1_c : Nat} {scale : Int} {w : World} {R : Value → World → Prop} (h : impl_decOf num0 num1_p num1_n num1_c scale w R) : Ret P 50 [(.agg #[(.bool num0), (.slice num1_p num1_n num1_c)]), (.int .i64 scale)] w R :=
  Ret.of_fsem Tryz.func50 rfl (Eq.mp (impl_decOf_eq num0 num1_p num1_n num1_c scale w R) h)
def impl_intMul (x0 : Bool) (x1_p : Option Addr) (x1_n : Nat) (x1_c : Nat) (y0 : Bool) (y1_p : Option Addr) (y1_n : Nat) (y1_c : Nat) (w : World) (R : Value → World → Prop) : Prop :=
  ∀ (r : Nat) (wv : World), New w (.cells ⟨[(.bool x0), (.slice x1_p x1_n x1_c)]⟩ 29 (0, 0)) r wv →
  ∀ (r_1 : Nat) (wv_1 : World), New wv (.cells ⟨[(.bool y0), (.slice y1_p y1_n y1_c)]⟩ 29 (0, 0)) r_1 wv_1 →
  ∀ (r_2 : Nat) (wv_2 : World), New wv_1 (.cells ⟨[(.bool false), (.slice none 0 0)]⟩ 29 (0, 0)) r_2 wv_2 →
  ∃ (t6 : Bool), (∀ wv_3, Ext wv_2.drew wv_3 → Loads P 4 ((⟨r, 0, none⟩ : Addr).add 0) (.bool t6) wv_3) ∧ ∃ (t8 : Bool), (∀ wv_4, Ext wv_2.drew wv_4 → Loads P 4 ((⟨r_1, 0, none⟩ : Addr).add 0) (.bool t8) wv_4) ∧ ∃ (t11_p : Option Addr) (t11_n : Nat) (t11_c : Nat), (∀ wv_5, Ext wv_2.drew wv_5 → Loads P 22 ((⟨r, 0, none⟩ : Addr).add 1) (.slice t11_p t11_n t11_c) wv_5) ∧ ∃ (t13_p : Option Addr) (t13_n : Nat) (t13_c : Nat), (∀ wv_6, Ext wv_2.drew wv_6 → Loads P 22 ((⟨r_1, 0, none⟩ : Addr).add 1) (.slice t13_p t13_n t13_c) wv_6) ∧ Calls P 73 ⟨[(.slice t11_p t11_n t11_c), (.slice t13_p t13_n t13_c)]⟩ wv_2.drew fun e wv_7 =>
  ∃ (t14_p : Option Addr) (t14_n : Nat) (t14_c : Nat), e = .returned (.slice t14_p t14_n t14_c) ∧
  Ext wv_2.drew wv_7 ∧ Calls P 72 ⟨[(.bool (!(t6 == t8))), (.slice t14_p t14_n t14_c)]⟩ wv_7 fun e_1 wv_8 =>
  ∃ (t150 : Bool) (t151_p : Option Addr) (t151_n : Nat) (t151_c : Nat), e_1 = .returned (.agg #[(.bool t150), (.slice t151_p t151_n t151_c)]) ∧
  ∃ wv_9, Stores P 29 ⟨r_2, 0, none⟩ (.agg #[(.bool t150), (.slice t151_p t151_n t151_c)]) wv_8 wv_9 ∧
  ∃ (r0 : Bool) (r1_p : Option Addr) (r1_n : Nat) (r1_c : Nat), Loads P 29 ⟨r_2, 0, none⟩ (.agg #[(.bool r0), (.slice r1_p r1_n r1_c)]) wv_9 ∧ R (.agg #[(.bool r0), (.slice r1_p r1_n r1_c)]) wv_9
theorem impl_intMul_eq (x0 : Bool) (x1_p : Option Addr) (x1_n : Nat) (x1_c : Nat) (y0 : Bool) (y1_p : Option Addr) (y1_n : Nat) (y1_c : Nat) (w : World) (R : Value → World → Prop) : impl_intMul x0 x1_p x1_n x1_c y0 y1_p y1_n y1_c w R = fsem P Tryz.f51 (fun k => []) [(.agg #[(.bool x0), (.slice x1_p x1_n x1_c)]), (.agg #[(.bool y0), (.slice y1_p y1_n y1_c)])] R w := by kernel_rfl
theorem impl_intMul_ret {x0 : Bool} {x1_p : Option Addr} {x1_n : Nat} {x1_c : Nat} {y0 : Bool} {y1_p : Option Addr} {y1_n : Nat} {y1_c : Nat} {w : World} {R : Value → World → Prop} (h : impl_intMul x0 x1_p x1_n x1_c y0 y1_p y1_n y1_c w R) : Ret P 51 [(.agg #[(.bool x0), (.slice x1_p x1_n x1_c)]), (.agg #[(.bool y0), (.slice y1_p y1_n y1_c)])] w R :=
  Ret.of_fsem Tryz.func51 rfl (Eq.mp (impl_intMul_eq x0 x1_p x1_n x1_c y0 y1_p y1_n y1_c w R) h)
def impl_natOf (n : Int) (w : World) (R : Value → World → Prop) : Prop :=
  ∀ (r : Nat) (wv : World), New w (.cells ⟨[]⟩ 3 (0, 0)) r wv →
  ∃ (Inv : Int → Option Addr → Nat → Nat → World → Prop) (mu : Int → Option Addr → Nat → Nat → World → Nat), Inv n (some ⟨r, 0, none⟩) 0 0 wv ∧
  ∀ (junk : Fr) (wv_1 : World) (n_1 : Int) (a_p : Option Addr) (a_n : Nat) (a_c : Nat), Inv n_1 a_p a_n a_c wv_1 →
    ((decide ((0 : Int) < n_1)) = true →
      (1000000000 : Int) ≠ 0 ∧ ∃ t9 : Int, t9 = Int.tmod n_1 1000000000 ∧ ∃ t10 : Int, t10 = IntKind.wrap .i64 t9 ∧ ∀ (r_1 : Nat) (wv_2 : World), New wv_1 (.cells ⟨[(.int .i64 t10)]⟩ 3 (0, 0)) r_1 wv_2 →
      ∃ (t12_p : Option Addr) (t12_n : Nat) (t12_c : Nat) (wv_3 : World), Appends P [22, 22] [(.slice a_p a_n a_c), (.slice (some ⟨r_1, 0, none⟩) 1 1)] (.slice t12_p t12_n t12_c) wv_2 wv_3 ∧
      (1000000000 : Int) ≠ 0 ∧ ∃ t14 : Int, t14 = IntKind.wrap .u64 (Int.tdiv n_1 1000000000) ∧ Inv t14 t12_p t12_n t12_c wv_3 ∧ mu t14 t12_p t12_n t12_c wv_3 < mu n_1 a_p a_n a_c wv_1) ∧
    ((decide ((0 : Int) < n_1)) = false →
      R (.slice a_p a_n a_c) wv_1)
theorem impl_natOf_eq (n : Int) (w : World) (R : Value → World → Prop) : impl_natOf n w R = fsem P Tryz.f52 (fun k => cond (Nat.beq k 3) [(0, .one (.int .u64)), (3, .one .slice)] ([])) [(.int .u64 n)] R w := by kernel_rfl
theorem impl_natOf_ret {n : Int} {w : World} {R : Value → World → Prop} (h : impl_natOf n w R) : Ret P 52 [(.int .u64 n)] w R :=
  Ret.of_fsem Tryz.func52 rfl (Eq.mp (impl_natOf_eq n w R) h)
def impl_Pad (s : ByteArray) (n : Int) (w : World) (R : Value → World → Prop) : Prop :=
  ((decide ((n : Int) ≤ ((s.size : Nat) : Int))) = true →
    (true = true →
      R (.string s) w) ∧
    (true = false →
      ∃ t17 : Int, t17 = IntKind.wrap .i64 (n - ((s.size : Nat) : Int)) ∧ Calls P 74 ⟨[(.string (S [48])), (.int .i64 t17)]⟩ w fun e wv =>
      ∃ (t18 : ByteArray), e = .returned (.string t18) ∧
      t18.size + s.size ≤ 9223372036854775807 ∧ ∃ t20 : ByteArray, t20 = t18 ++ s ∧ R (.string t20) wv)) ∧
  ((decide ((n : Int) ≤ ((s.size : Nat) : Int))) = false →
    ((decide ((2000 : Int) < n)) = true →
      R (.string s) w) ∧
    ((decide ((2000 : Int) < n)) = false →
      ∃ t17_1 : Int, t17_1 = IntKind.wrap .i64 (n - ((s.size : Nat) : Int)) ∧ Calls P 74 ⟨[(.string (S [48])), (.int .i64 t17_1)]⟩ w fun e_1 wv_1 =>
      ∃ (t18_1 : ByteArray), e_1 = .returned (.string t18_1) ∧
      t18_1.size + s.size ≤ 9223372036854775807 ∧ ∃ t20_1 : ByteArray, t20_1 = t18_1 ++ s ∧ R (.string t20_1) wv_1))
theorem impl_Pad_eq (s : ByteArray) (n : Int) (w : World) (R : Value → World → Prop) : impl_Pad s n w R = fsem P Tryz.f53 (fun k => []) [(.string s), (.int .i64 n)] R w := by kernel_rfl
theorem impl_Pad_ret {s : ByteArray} {n : Int} {w : World} {R : Value → World → Prop} (h : impl_Pad s n w R) : Ret P 53 [(.string s), (.int .i64 n)] w R :=
  Ret.of_fsem Tryz.func53 rfl (Eq.mp (impl_Pad_eq s n w R) h)
def impl_natText (a_p : Option Addr) (a_n : Nat) (a_c : Nat) (w : World) (R : Value → World → Prop) : Prop :=
  ((decide ((((a_n : Nat) : Int) : Int) = 0)) = true →
    R (.string (S [48])) w) ∧
  ((decide ((((a_n : Nat) : Int) : Int) = 0)) = false →
    ∃ t11 : Int, t11 = IntKind.wrap .i64 (((a_n : Nat) : Int) - 1) ∧ (0 ≤ (t11 : Int) ∧ (t11 : Int) < (a_n : Nat)) ∧ ptrS a_p fun ad => ∃ (t13 : Int), Loads P 3 (ad.add (t11.toNat * 1)) (.int .i64 t13) w ∧ Calls P 34 ⟨[(.int .i64 t13)]⟩ w fun e wv =>
    ∃ (t14 : ByteArray), e = .returned (.string t14) ∧
    ∃ t17 : Int, t17 = IntKind.wrap .i64 (((a_n : Nat) : Int) - 2) ∧ ∃ (Inv : ByteArray → Int → World → Prop) (mu : ByteArray → Int → World → Nat), Inv t14 t17 wv ∧
    ∀ (junk : Fr) (wv_1 : World) (text : ByteArray) (i : Int), Inv text i wv_1 →
      ((decide ((0 : Int) ≤ i)) = true →
        (0 ≤ (i : Int) ∧ (i : Int) < (a_n : Nat)) ∧ ptrS a_p fun ad_1 => ∃ (t26 : Int), Loads P 3 (ad_1.add (i.toNat * 1)) (.int .i64 t26) wv_1 ∧ Calls P 34 ⟨[(.int .i64 t26)]⟩ wv_1 fun e_1 wv_2 =>
        ∃ (t27 : ByteArray), e_1 = .returned (.string t27) ∧
        Calls P 53 ⟨[(.string t27), (.int .i64 9)]⟩ wv_2 fun e_2 wv_3 =>
        ∃ (t28 : ByteArray), e_2 = .returned (.string t28) ∧
        text.size + t28.size ≤ 9223372036854775807 ∧ ∃ t29 : ByteArray, t29 = text ++ t28 ∧ ∃ t21 : Int, t21 = IntKind.wrap .i64 (i - 1) ∧ Inv t29 t21 wv_3 ∧ mu t29 t21 wv_3 < mu text i wv_1) ∧
      ((decide ((0 : Int) ≤ i)) = false →
        R (.string text) wv_1))
theorem impl_natText_eq (a_p : Option Addr) (a_n : Nat) (a_c : Nat) (w : World) (R : Value → World → Prop) : impl_natText a_p a_n a_c w R = fsem P Tryz.f54 (fun k => cond (Nat.beq k 6) [(3, .one .str), (4, .one (.int .i64))] ([])) [(.slice a_p a_n a_c)] R w := by kernel_rfl
theorem impl_natText_ret {a_p : Option Addr} {a_n : Nat} {a_c : Nat} {w : World} {R : Value → World → Prop} (h : impl_natText a_p a_n a_c w R) : Ret P 54 [(.slice a_p a_n a_c)] w R :=
  Ret.of_fsem Tryz.func54 rfl (Eq.mp (impl_natText_eq a_p a_n a_c w R) h)
def impl_DecAt_j0 (scale : Int) (r : Nat) (r_1 : Nat) (W : World) (R : Value → World → Prop) : Prop :=
  ∃ (t19 : Int), Loads P 3 ((⟨r, 0, none⟩ : Addr).add 2) (.int .i64 t19) W ∧ ((decide ((t19 : Int) ≤ scale)) = true →
    Calls P 70 ⟨[(.int .i64 scale)]⟩ W.drew fun e_1 wv_4 =>
    ∃ (t22 : Value), e_1 = .returned t22 ∧
    Ext W.drew wv_4 ∧ ∃ (t230 : Bool) (t231_p : Option Addr) (t231_n : Nat) (t231_c : Nat) (t232 : Int), (∀ wv_5, Ext W.drew wv_5 → Loads P 31 ⟨r, 0, none⟩ (.agg #[(.bool t230), (.slice t231_p t231_n t231_c), (.int .i64 t232)]) wv_5) ∧ CallW P t22 [(.agg #[(.bool t230), (.slice t231_p t231_n t231_c), (.int .i64 t232)])] wv_4 fun e_2 wv_6 =>
    ∃ (t240 : Bool) (t241_p : Option Addr) (t241_n : Nat) (t241_c : Nat), e_2 = .returned (.agg #[(.bool t240), (.slice t241_p t241_n t241_c)]) ∧
    Calls P 50 ⟨[(.agg #[(.bool t240), (.slice t241_p t241_n t241_c)]), (.int .i64 scale)]⟩ wv_6 fun e_3 wv_7 =>
    ∃ (t260 : Bool) (t261_p : Option Addr) (t261_n : Nat) (t261_c : Nat) (t262 : Int) (t26 : Bool), e_3 = .returned (.tuple #[(.agg #[(.bool t260), (.slice t261_p t261_n t261_c), (.int .i64 t262)]), (.bool t26)]) ∧
    ∃ wv_8, Stores P 31 ⟨r_1, 0, none⟩ (.agg #[(.bool t260), (.slice t261_p t261_n t261_c), (.int .i64 t262)]) wv_7 wv_8 ∧
    ∃ (r0_1 : Bool) (r1_p_1 : Option Addr) (r1_n_1 : Nat) (r1_c_1 : Nat) (r2_1 : Int), Loads P 31 ⟨r_1, 0, none⟩ (.agg #[(.bool r0_1), (.slice r1_p_1 r1_n_1 r1_c_1), (.int .i64 r2_1)]) wv_8 ∧ R (.tuple #[(.agg #[(.bool r0_1), (.slice r1_p_1 r1_n_1 r1_c_1), (.int .i64 r2_1)]), (.bool t26)]) wv_8) ∧
  ((decide ((t19 : Int) ≤ scale)) = false →
    ∃ (t32_p : Option Addr) (t32_n : Nat) (t32_c : Nat), (∀ wv_9, Ext W.drew wv_9 → Loads P 22 (((⟨r, 0, none⟩ : Addr).add 0).add 1) (.slice t32_p t32_n t32_c) wv_9) ∧ ∃ (t34 : Int), (∀ wv_10, Ext W.drew wv_10 → Loads P 3 ((⟨r, 0, none⟩ : Addr).add 2) (.int .i64 t34) wv_10) ∧ ∃ t36 : Int, t36 = IntKind.wrap .i64 (t34 - scale) ∧ Calls P 76 ⟨[(.int .i64 t36)]⟩ W.drew fun e_4 wv_11 =>
    ∃ (t37_p : Option Addr) (t37_n : Nat) (t37_c : Nat), e_4 = .returned (.slice t37_p t37_n t37_c) ∧
    Ext W.drew wv_11 ∧ Calls P 75 ⟨[(.slice t32_p t32_n t32_c), (.slice t37_p t37_n t37_c)]⟩ wv_11 fun e_5 wv_12 =>
    ∃ (t38_p : Option Addr) (t38_n : Nat) (t38_c : Nat) (t38_p_1 : Option Addr) (t38_n_1 : Nat) (t38_c_1 : Nat), e_5 = .returned (.tuple #[(.slice t38_p t38_n t38_c), (.slice t38_p_1 t38_n_1 t38_c_1)]) ∧
    ((decide ((0 : Int) < ((t38_n_1 : Nat) : Int))) = true →
      ∃ wv_13, Stores P 31 ⟨r_1, 0, none⟩ (.agg #[(.bool false), (.slice none 0 0), (.int .i64 0)]) wv_12 wv_13 ∧
      ∃ (r0_2 : Bool) (r1_p_2 : Option Addr) (r1_n_2 : Nat) (r1_c_2 : Nat) (r2_2 : Int), Loads P 31 ⟨r_1, 0, none⟩ (.agg #[(.bool r0_2), (.slice r1_p_2 r1_n_2 r1_c_2), (.int .i64 r2_2)]) wv_13 ∧ R (.tuple #[(.agg #[(.bool r0_2), (.slice r1_p_2 r1_n_2 r1_c_2), (.int .i64 r2_2)]), (.bool false)]) wv_13) ∧
    ((decide ((0 : Int) < ((t38_n_1 : Nat) : Int))) = false →
      ∃ (t47 : Bool), Loads P 4 (((⟨r, 0, none⟩ : Addr).add 0).add 0) (.bool t47) wv_12 ∧ Calls P 72 ⟨[(.bool t47), (.slice t38_p t38_n t38_c)]⟩ wv_12 fun e_6 wv_14 =>
      ∃ (t490 : Bool) (t491_p : Option Addr) (t491_n : Nat) (t491_c : Nat), e_6 = .returned (.agg #[(.bool t490), (.slice t491_p t491_n t491_c)]) ∧
      Calls P 50 ⟨[(.agg #[(.bool t490), (.slice t491_p t491_n t491_c)]), (.int .i64 scale)]⟩ wv_14 fun e_7 wv_15 =>
      ∃ (t510 : Bool) (t511_p : Option Addr) (t511_n : Nat) (t511_c : Nat) (t512 : Int) (t51 : Bool), e_7 = .returned (.tuple #[(.agg #[(.bool t510), (.slice t511_p t511_n t511_c), (.int .i64 t512)]), (.bool t51)]) ∧
      ∃ wv_16, Stores P 31 ⟨r_1, 0, none⟩ (.agg #[(.bool t510), (.slice t511_p t511_n t511_c), (.int .i64 t512)]) wv_15 wv_16 ∧
      ∃ (r0_3 : Bool) (r1_p_3 : Option Addr) (r1_n_3 : Nat) (r1_c_3 : Nat) (r2_3 : Int), Loads P 31 ⟨r_1, 0, none⟩ (.agg #[(.bool r0_3), (.slice r1_p_3 r1_n_3 r1_c_3), (.int .i64 r2_3)]) wv_16 ∧ R (.tuple #[(.agg #[(.bool r0_3), (.slice r1_p_3 r1_n_3 r1_c_3), (.int .i64 r2_3)]), (.bool t51)]) wv_16))
def impl_DecAt (d0 : Bool) (d1_p : Option Addr) (d1_n : Nat) (d1_c : Nat) (d2 : Int) (scale : Int) (w : World) (R : Value → World → Prop) : Prop :=
  ∀ (r : Nat) (wv : World), New w (.cells ⟨[(.bool d0), (.slice d1_p d1_n d1_c), (.int .i64 d2)]⟩ 31 (0, 0)) r wv →
  ∀ (r_1 : Nat) (wv_1 : World), New wv (.cells ⟨[(.bool false), (.slice none 0 0), (.int .i64 0)]⟩ 31 (0, 0)) r_1 wv_1 →
  ∃ (t80 : Bool) (t81_p : Option Addr) (t81_n : Nat) (t81_c : Nat) (t82 : Int), Loads P 31 ⟨r, 0, none⟩ (.agg #[(.bool t80), (.slice t81_p t81_n t81_c), (.int .i64 t82)]) wv_1 ∧ Calls P 48 ⟨[(.agg #[(.bool t80), (.slice t81_p t81_n t81_c), (.int .i64 t82)])]⟩ wv_1 fun e wv_2 =>
  ∃ (t9 : Bool), e = .returned (.bool t9) ∧
  ((!t9) = true →
    (true = true →
      ∃ wv_3, Stores P 31 ⟨r_1, 0, none⟩ (.agg #[(.bool false), (.slice none 0 0), (.int .i64 0)]) wv_2 wv_3 ∧
      ∃ (r0 : Bool) (r1_p : Option Addr) (r1_n : Nat) (r1_c : Nat) (r2 : Int), Loads P 31 ⟨r_1, 0, none⟩ (.agg #[(.bool r0), (.slice r1_p r1_n r1_c), (.int .i64 r2)]) wv_3 ∧ R (.tuple #[(.agg #[(.bool r0), (.slice r1_p r1_n r1_c), (.int .i64 r2)]), (.bool false)]) wv_3) ∧
    (true = false →
      impl_DecAt_j0 scale r r_1 wv_2 R)) ∧
  ((!t9) = false →
    Calls P 69 ⟨[(.int .i64 scale)]⟩ wv_2 fun e_8 wv_17 =>
    ∃ (t13 : Bool), e_8 = .returned (.bool t13) ∧
    ((!t13) = true →
      ∃ wv_18, Stores P 31 ⟨r_1, 0, none⟩ (.agg #[(.bool false), (.slice none 0 0), (.int .i64 0)]) wv_17 wv_18 ∧
      ∃ (r0_4 : Bool) (r1_p_4 : Option Addr) (r1_n_4 : Nat) (r1_c_4 : Nat) (r2_4 : Int), Loads P 31 ⟨r_1, 0, none⟩ (.agg #[(.bool r0_4), (.slice r1_p_4 r1_n_4 r1_c_4), (.int .i64 r2_4)]) wv_18 ∧ R (.tuple #[(.agg #[(.bool r0_4), (.slice r1_p_4 r1_n_4 r1_c_4), (.int .i64 r2_4)]), (.bool false)]) wv_18) ∧
    ((!t13) = false →
      impl_DecAt_j0 scale r r_1 wv_17 R))
theorem impl_DecAt_eq (d0 : Bool) (d1_p : Option Addr) (d1_n : Nat) (d1_c : Nat) (d2 : Int) (scale : Int) (w : World) (R : Value → World → Prop) : impl_DecAt d0 d1_p d1_n d1_c d2 scale w R = fsem P Tryz.f55 (fun k => []) [(.agg #[(.bool d0), (.slice d1_p d1_n d1_c), (.int .i64 d2)]), (.int .i64 scale)] R w := by kernel_rfl
theorem impl_DecAt_ret {d0 : Bool} {d1_p : Option Addr} {d1_n : Nat} {d1_c : Nat} {d2 : Int} {scale : Int} {w : World} {R : Value → World → Prop} (h : impl_DecAt d0 d1_p d1_n d1_c d2 scale w R) : Ret P 55 [(.agg #[(.bool d0), (.slice d1_p d1_n d1_c), (.int .i64 d2)]), (.int .i64 scale)] w R :=
  Ret.of_fsem Tryz.func55 rfl (Eq.mp (impl_DecAt_eq d0 d1_p d1_n d1_c d2 scale w R) h)
def spec_l01In (n : Int) (lo : Int) (hi : Int) (w : World) (R : Value → World → Prop) : Prop :=
  ((decide ((lo : Int) ≤ n)) = true →
    R (.bool (decide ((n : Int) ≤ hi))) w) ∧
  ((decide ((lo : Int) ≤ n)) = false →
    R (.bool false) w)
theorem spec_l01In_eq (n : Int) (lo : Int) (hi : Int) (w : World) (R : Value → World → Prop) : spec_l01In n lo hi w R = fsem P Tryz.f57 (fun k => []) [(.int .i64 n), (.int .i64 lo), (.int .i64 hi)] R w := by kernel_rfl
theorem spec_l01In_ret {n : Int} {lo : Int} {hi : Int} {w : World} {R : Value → World → Prop} (h : spec_l01In n lo hi w R) : Ret P 57 [(.int .i64 n), (.int .i64 lo), (.int .i64 hi)] w R :=
  Ret.of_fsem Tryz.func57 rfl (Eq.mp (spec_l01In_eq n lo hi w R) h)
def strconv_Itoa (i : Int) (w : World) (R : Value → World → Prop) : Prop :=
  Calls P 77 ⟨[(.int .i64 i)]⟩ w fun e wv =>
  ∃ (t4 : ByteArray), e = .returned (.string t4) ∧
  R (.string t4) wv
def spec_IntOk (x0 : Bool) (x1_p : Option Addr) (x1_n : Nat) (x1_c : Nat) (w : World) (R : Value → World → Prop) : Prop :=
  ∀ (r : Nat) (wv : World), New w (.cells ⟨[(.bool x0), (.slice x1_p x1_n x1_c)]⟩ 29 (0, 0)) r wv →
  ∃ (t4_p : Option Addr) (t4_n : Nat) (t4_c : Nat), Loads P 22 ((⟨r, 0, none⟩ : Addr).add 1) (.slice t4_p t4_n t4_c) wv ∧ Calls P 67 ⟨[(.slice t4_p t4_n t4_c)]⟩ wv fun e wv_1 =>
  ∃ (t5 : Bool), e = .returned (.bool t5) ∧
  (t5 = true →
    ∃ (t8 : Bool), Loads P 4 ((⟨r, 0, none⟩ : Addr).add 0) (.bool t8) wv_1 ∧ ((!t8) = true →
      R (.bool true) wv_1) ∧
    ((!t8) = false →
      ∃ (t12_p : Option Addr) (t12_n : Nat) (t12_c : Nat), Loads P 22 ((⟨r, 0, none⟩ : Addr).add 1) (.slice t12_p t12_n t12_c) wv_1 ∧ R (.bool (decide ((0 : Int) < ((t12_n : Nat) : Int)))) wv_1)) ∧
  (t5 = false →
    R (.bool false) wv_1)
theorem spec_IntOk_eq (x0 : Bool) (x1_p : Option Addr) (x1_n : Nat) (x1_c : Nat) (w : World) (R : Value → World → Prop) : spec_IntOk x0 x1_p x1_n x1_c w R = fsem P Tryz.f60 (fun k => []) [(.agg #[(.bool x0), (.slice x1_p x1_n x1_c)])] R w := by kernel_rfl
theorem spec_IntOk_ret {x0 : Bool} {x1_p : Option Addr} {x1_n : Nat} {x1_c : Nat} {w : World} {R : Value → World → Prop} (h : spec_IntOk x0 x1_p x1_n x1_c w R) : Ret P 60 [(.agg #[(.bool x0), (.slice x1_p x1_n x1_c)])] w R :=
  Ret.of_fsem Tryz.func60 rfl (Eq.mp (spec_IntOk_eq x0 x1_p x1_n x1_c w R) h)
def spec_l07Both_j0 (r : Nat) (r_1 : Nat) (r_2 : Nat) (r_3 : Nat) (scale : Int) (W : World) (R : Value → World → Prop) : Prop :=
  ∃ (t170 : Bool) (t171_p : Option Addr) (t171_n : Nat) (t171_c : Nat), (∀ wv_4, Ext W.drew wv_4 → Loads P 29 ((⟨r, 0, none⟩ : Addr).add 0) (.agg #[(.bool t170), (.slice t171_p t171_n t171_c)]) wv_4) ∧ ∃ (t20 : Int), (∀ wv_5, Ext W.drew wv_5 → Loads P 3 ((⟨r, 0, none⟩ : Addr).add 2) (.int .i64 t20) wv_5) ∧ ∃ t21 : Int, t21 = IntKind.wrap .i64 (scale - t20) ∧ Calls P 64 ⟨[(.int .i64 t21)]⟩ W.drew fun e wv_6 =>
  ∃ (t220 : Bool) (t221_p : Option Addr) (t221_n : Nat) (t221_c : Nat), e = .returned (.agg #[(.bool t220), (.slice t221_p t221_n t221_c)]) ∧
  Ext W.drew wv_6 ∧ Calls P 41 ⟨[(.agg #[(.bool t170), (.slice t171_p t171_n t171_c)]), (.agg #[(.bool t220), (.slice t221_p t221_n t221_c)])]⟩ wv_6 fun e_1 wv_7 =>
  ∃ (t230 : Bool) (t231_p : Option Addr) (t231_n : Nat) (t231_c : Nat), e_1 = .returned (.agg #[(.bool t230), (.slice t231_p t231_n t231_c)]) ∧
  Ext wv_6 wv_7 ∧ ∃ (t250 : Bool) (t251_p : Option Addr) (t251_n : Nat) (t251_c : Nat), (∀ wv_8, Ext W.drew wv_8 → Loads P 29 ((⟨r_1, 0, none⟩ : Addr).add 0) (.agg #[(.bool t250), (.slice t251_p t251_n t251_c)]) wv_8) ∧ ∃ (t28 : Int), (∀ wv_9, Ext W.drew wv_9 → Loads P 3 ((⟨r_1, 0, none⟩ : Addr).add 2) (.int .i64 t28) wv_9) ∧ ∃ t29 : Int, t29 = IntKind.wrap .i64 (scale - t28) ∧ Calls P 64 ⟨[(.int .i64 t29)]⟩ wv_7 fun e_2 wv_10 =>
  ∃ (t300 : Bool) (t301_p : Option Addr) (t301_n : Nat) (t301_c : Nat), e_2 = .returned (.agg #[(.bool t300), (.slice t301_p t301_n t301_c)]) ∧
  Ext wv_7 wv_10 ∧ Calls P 41 ⟨[(.agg #[(.bool t250), (.slice t251_p t251_n t251_c)]), (.agg #[(.bool t300), (.slice t301_p t301_n t301_c)])]⟩ wv_10 fun e_3 wv_11 =>
  ∃ (t310 : Bool) (t311_p : Option Addr) (t311_n : Nat) (t311_c : Nat), e_3 = .returned (.agg #[(.bool t310), (.slice t311_p t311_n t311_c)]) ∧
  ∃ wv_12, Stores P 29 ⟨r_2, 0, none⟩ (.agg #[(.bool t230), (.slice t231_p t231_n t231_c)]) wv_11 wv_12 ∧
  ∃ wv_13, Stores P 29 ⟨r_3, 0, none⟩ (.agg #[(.bool t310), (.slice t311_p t311_n t311_c)]) wv_12 wv_13 ∧
  ∃ (r0 : Bool) (r1_p : Option Addr) (r1_n : Nat) (r1_c : Nat), Loads P 29 ⟨r_2, 0, none⟩ (.agg #[(.bool r0), (.slice r1_p r1_n r1_c)]) wv_13 ∧ ∃ (r0_1 : Bool) (r1_p_1 : Option Addr) (r1_n_1 : Nat) (r1_c_1 : Nat), Loads P 29 ⟨r_3, 0, none⟩ (.agg #[(.bool r0_1), (.slice r1_p_1 r1_n_1 r1_c_1)]) wv_13 ∧ R (.tuple #[(.agg #[(.bool r0), (.slice r1_p r1_n r1_c)]), (.agg #[(.bool r0_1), (.slice r1_p_1 r1_n_1 r1_c_1)]), (.int .i64 scale)]) wv_13
def spec_l07Both (d0 : Bool) (d1_p : Option Addr) (d1_n : Nat) (d1_c : Nat) (d2 : Int) (e0 : Bool) (e1_p : Option Addr) (e1_n : Nat) (e1_c : Nat) (e2 : Int) (w : World) (R : Value → World → Prop) : Prop :=
  ∀ (r : Nat) (wv : World), New w (.cells ⟨[(.bool d0), (.slice d1_p d1_n d1_c), (.int .i64 d2)]⟩ 31 (0, 0)) r wv →
  ∀ (r_1 : Nat) (wv_1 : World), New wv (.cells ⟨[(.bool e0), (.slice e1_p e1_n e1_c), (.int .i64 e2)]⟩ 31 (0, 0)) r_1 wv_1 →
  ∀ (r_2 : Nat) (wv_2 : World), New wv_1 (.cells ⟨[(.bool false), (.slice none 0 0)]⟩ 29 (0, 0)) r_2 wv_2 →
  ∀ (r_3 : Nat) (wv_3 : World), New wv_2 (.cells ⟨[(.bool false), (.slice none 0 0)]⟩ 29 (0, 0)) r_3 wv_3 →
  ∃ (t9 : Int), Loads P 3 ((⟨r, 0, none⟩ : Addr).add 2) (.int .i64 t9) wv_3 ∧ ∃ (t11 : Int), Loads P 3 ((⟨r_1, 0, none⟩ : Addr).add 2) (.int .i64 t11) wv_3 ∧ ((decide ((t9 : Int) < t11)) = true →
    ∃ (t15 : Int), Loads P 3 ((⟨r_1, 0, none⟩ : Addr).add 2) (.int .i64 t15) wv_3 ∧ spec_l07Both_j0 r r_1 r_2 r_3 t15 wv_3 R) ∧
  ((decide ((t9 : Int) < t11)) = false →
    spec_l07Both_j0 r r_1 r_2 r_3 t9 wv_3 R)
theorem spec_l07Both_eq (d0 : Bool) (d1_p : Option Addr) (d1_n : Nat) (d1_c : Nat) (d2 : Int) (e0 : Bool) (e1_p : Option Addr) (e1_n : Nat) (e1_c : Nat) (e2 : Int) (w : World) (R : Value → World → Prop) : spec_l07Both d0 d1_p d1_n d1_c d2 e0 e1_p e1_n e1_c e2 w R = fsem P Tryz.f61 (fun k => []) [(.agg #[(.bool d0), (.slice d1_p d1_n d1_c), (.int .i64 d2)]), (.agg #[(.bool e0), (.slice e1_p e1_n e1_c), (.int .i64 e2)])] R w := by kernel_rfl
theorem spec_l07Both_ret {d0 : Bool} {d1_p : Option Addr} {d1_n : Nat} {d1_c : Nat} {d2 : Int} {e0 : Bool} {e1_p : Option Addr} {e1_n : Nat} {e1_c : Nat} {e2 : Int} {w : World} {R : Value → World → Prop} (h : spec_l07Both d0 d1_p d1_n d1_c d2 e0 e1_p e1_n e1_c e2 w R) : Ret P 61 [(.agg #[(.bool d0), (.slice d1_p d1_n d1_c), (.int .i64 d2)]), (.agg #[(.bool e0), (.slice e1_p e1_n e1_c), (.int .i64 e2)])] w R :=
  Ret.of_fsem Tryz.func61 rfl (Eq.mp (spec_l07Both_eq d0 d1_p d1_n d1_c d2 e0 e1_p e1_n e1_c e2 w R) h)
def spec_IntCmp_j1 (r : Nat) (r_1 : Nat) (t14 : Bool) (W_1 : World) (R : Value → World → Prop) : Prop :=
  (t14 = true →
    R (.int .i64 (-1)) W_1) ∧
  (t14 = false →
    ∃ (t24 : Bool), Loads P 4 ((⟨r, 0, none⟩ : Addr).add 0) (.bool t24) W_1 ∧ ((!t24) = true →
      ∃ (t28 : Bool), Loads P 4 ((⟨r_1, 0, none⟩ : Addr).add 0) (.bool t28) W_1 ∧ (t28 = true →
        R (.int .i64 1) W_1) ∧
      (t28 = false →
        ∃ (t32 : Bool), Loads P 4 ((⟨r, 0, none⟩ : Addr).add 0) (.bool t32) W_1 ∧ (t32 = true →
          ∃ (t34_p : Option Addr) (t34_n : Nat) (t34_c : Nat), Loads P 22 ((⟨r_1, 0, none⟩ : Addr).add 1) (.slice t34_p t34_n t34_c) W_1 ∧ ∃ (t36_p : Option Addr) (t36_n : Nat) (t36_c : Nat), Loads P 22 ((⟨r, 0, none⟩ : Addr).add 1) (.slice t36_p t36_n t36_c) W_1 ∧ Calls P 81 ⟨[(.slice t34_p t34_n t34_c), (.slice t36_p t36_n t36_c)]⟩ W_1 fun e_1 wv_3 =>
          ∃ (t37 : Int), e_1 = .returned (.int .i64 t37) ∧
          R (.int .i64 t37) wv_3) ∧
        (t32 = false →
          ∃ (t39_p : Option Addr) (t39_n : Nat) (t39_c : Nat), Loads P 22 ((⟨r, 0, none⟩ : Addr).add 1) (.slice t39_p t39_n t39_c) W_1 ∧ ∃ (t41_p : Option Addr) (t41_n : Nat) (t41_c : Nat), Loads P 22 ((⟨r_1, 0, none⟩ : Addr).add 1) (.slice t41_p t41_n t41_c) W_1 ∧ Calls P 81 ⟨[(.slice t39_p t39_n t39_c), (.slice t41_p t41_n t41_c)]⟩ W_1 fun e_2 wv_4 =>
          ∃ (t42 : Int), e_2 = .returned (.int .i64 t42) ∧
          R (.int .i64 t42) wv_4))) ∧
    ((!t24) = false →
      (false = true →
        R (.int .i64 1) W_1) ∧
      (false = false →
        ∃ (t32_1 : Bool), Loads P 4 ((⟨r, 0, none⟩ : Addr).add 0) (.bool t32_1) W_1 ∧ (t32_1 = true →
          ∃ (t34_p_1 : Option Addr) (t34_n_1 : Nat) (t34_c_1 : Nat), Loads P 22 ((⟨r_1, 0, none⟩ : Addr).add 1) (.slice t34_p_1 t34_n_1 t34_c_1) W_1 ∧ ∃ (t36_p_1 : Option Addr) (t36_n_1 : Nat) (t36_c_1 : Nat), Loads P 22 ((⟨r, 0, none⟩ : Addr).add 1) (.slice t36_p_1 t36_n_1 t36_c_1) W_1 ∧ Calls P 81 ⟨[(.slice t34_p_1 t34_n_1 t34_c_1), (.slice t36_p_1 t36_n_1 t36_c_1)]⟩ W_1 fun e_3 wv_5 =>
          ∃ (t37_1 : Int), e_3 = .returned (.int .i64 t37_1) ∧
          R (.int .i64 t37_1) wv_5) ∧
        (t32_1 = false →
          ∃ (t39_p_1 : Option Addr) (t39_n_1 : Nat) (t39_c_1 : Nat), Loads P 22 ((⟨r, 0, none⟩ : Addr).add 1) (.slice t39_p_1 t39_n_1 t39_c_1) W_1 ∧ ∃ (t41_p_1 : Option Addr) (t41_n_1 : Nat) (t41_c_1 : Nat), Loads P 22 ((⟨r_1, 0, none⟩ : Addr).add 1) (.slice t41_p_1 t41_n_1 t41_c_1) W_1 ∧ Calls P 81 ⟨[(.slice t39_p_1 t39_n_1 t39_c_1), (.slice t41_p_1 t41_n_1 t41_c_1)]⟩ W_1 fun e_4 wv_6 =>
          ∃ (t42_1 : Int), e_4 = .returned (.int .i64 t42_1) ∧
          R (.int .i64 t42_1) wv_6))))
def spec_IntCmp_j0 (r : Nat) (r_1 : Nat) (t5 : Bool) (W : World) (R : Value → World → Prop) : Prop :=
  (t5 = true →
    R (.int .i64 0) W) ∧
  (t5 = false →
    ∃ (t16 : Bool), Loads P 4 ((⟨r, 0, none⟩ : Addr).add 0) (.bool t16) W ∧ (t16 = true →
      ∃ (t19 : Bool), Loads P 4 ((⟨r_1, 0, none⟩ : Addr).add 0) (.bool t19) W ∧ spec_IntCmp_j1 r r_1 (!t19) W R) ∧
    (t16 = false →
      spec_IntCmp_j1 r r_1 false W R))
def spec_IntCmp (x0 : Bool) (x1_p : Option Addr) (x1_n : Nat) (x1_c : Nat) (y0 : Bool) (y1_p : Option Addr) (y1_n : Nat) (y1_c : Nat) (w : World) (R : Value → World → Prop) : Prop :=
  ∀ (r : Nat) (wv : World), New w (.cells ⟨[(.bool x0), (.slice x1_p x1_n x1_c)]⟩ 29 (0, 0)) r wv →
  ∀ (r_1 : Nat) (wv_1 : World), New wv (.cells ⟨[(.bool y0), (.slice y1_p y1_n y1_c)]⟩ 29 (0, 0)) r_1 wv_1 →
  ∃ (t60 : Bool) (t61_p : Option Addr) (t61_n : Nat) (t61_c : Nat), Loads P 29 ⟨r, 0, none⟩ (.agg #[(.bool t60), (.slice t61_p t61_n t61_c)]) wv_1 ∧ Calls P 60 ⟨[(.agg #[(.bool t60), (.slice t61_p t61_n t61_c)])]⟩ wv_1 fun e wv_2 =>
  ∃ (t7 : Bool), e = .returned (.bool t7) ∧
  ((!t7) = true →
    spec_IntCmp_j0 r r_1 true wv_2 R) ∧
  ((!t7) = false →
    ∃ (t100 : Bool) (t101_p : Option Addr) (t101_n : Nat) (t101_c : Nat), Loads P 29 ⟨r_1, 0, none⟩ (.agg #[(.bool t100), (.slice t101_p t101_n t101_c)]) wv_2 ∧ Calls P 60 ⟨[(.agg #[(.bool t100), (.slice t101_p t101_n t101_c)])]⟩ wv_2 fun e_5 wv_7 =>
    ∃ (t11 : Bool), e_5 = .returned (.bool t11) ∧
    spec_IntCmp_j0 r r_1 (!t11) wv_7 R)
theorem spec_IntCmp_eq (x0 : Bool) (x1_p : Option Addr) (x1_n : Nat) (x1_c : Nat) (y0 : Bool) (y1_p : Option Addr) (y1_n : Nat) (y1_c : Nat) (w : World) (R : Value → World → Prop) : spec_IntCmp x0 x1_p x1_n x1_c y0 y1_p y1_n y1_c w R = fsem P Tryz.f62 (fun k => []) [(.agg #[(.bool x0), (.slice x1_p x1_n x1_c)]), (.agg #[(.bool y0), (.slice y1_p y1_n y1_c)])] R w := by kernel_rfl
theorem spec_IntCmp_ret {x0 : Bool} {x1_p : Option Addr} {x1_n : Nat} {x1_c : Nat} {y0 : Bool} {y1_p : Option Addr} {y1_n : Nat} {y1_c : Nat} {w : World} {R : Value → World → Prop} (h : spec_IntCmp x0 x1_p x1_n x1_c y0 y1_p y1_n y1_c w R) : Ret P 62 [(.agg #[(.bool x0), (.slice x1_p x1_n x1_c)]), (.agg #[(.bool y0), (.slice y1_p y1_n y1_c)])] w R :=
  Ret.of_fsem Tryz.func62 rfl (Eq.mp (spec_IntCmp_eq x0 x1_p x1_n x1_c y0 y1_p y1_n y1_c w R) h)
def spec_l02Mul_j0 (a_p : Option Addr) (a_n : Nat) (b_p : Option Addr) (b_n : Nat) (W : World) (R : Value → World → Prop) : Prop :=
  ∃ t24 : Int, t24 = IntKind.wrap .i64 (((a_n : Nat) : Int) + ((b_n : Nat) : Int)) ∧ (0 ≤ (t24 : Int) ∧ (t24 : Int) ≤ t24 ∧ ((8 : Nat) : Int) * t24 ≤ 281474976710656) ∧
  ∀ (r : Nat) (wv : World), New W (.cells ⟨zeroRow (.int .i64 0) (t24.toNat * 1)⟩ 3 (0, 0)) r wv →
  ∃ (Inv : Int → World → Prop) (mu : Int → World → Nat), Inv 0 wv ∧
  ∀ (junk : Fr) (wv_1 : World) (t28 : Int), Inv t28 wv_1 →
    ((decide ((t28 : Int) < ((a_n : Nat) : Int))) = true →
      (0 ≤ (t28 : Int) ∧ (t28 : Int) < (a_n : Nat)) ∧ ptrS a_p fun ad => ∃ (t32 : Int), Loads P 3 (ad.add (t28.toNat * 1)) (.int .i64 t32) wv_1 ∧ ∃ (Inv_1 : Int → Int → World → Prop) (mu_1 : Int → Int → World → Nat), Inv_1 0 0 wv_1 ∧
      ∀ (junk_1 : Fr) (wv_2 : World) (carry : Int) (t35 : Int), Inv_1 carry t35 wv_2 →
        ((decide ((t35 : Int) < ((b_n : Nat) : Int))) = true →
          (0 ≤ (t35 : Int) ∧ (t35 : Int) < (b_n : Nat)) ∧ ptrS b_p fun ad_1 => ∃ (t39 : Int), Loads P 3 (ad_1.add (t35.toNat * 1)) (.int .i64 t39) wv_2 ∧ ∃ t43 : Int, t43 = IntKind.wrap .i64 (t28 + t35) ∧ (0 ≤ (t43 : Int) ∧ (t43 : Int) < (t24.toNat : Nat)) ∧ ∃ (t45 : Int), Loads P 3 ((⟨r, 0, none⟩ : Addr).add (t43.toNat * 1)) (.int .i64 t45) wv_2 ∧ ∃ t48 : Int, t48 = IntKind.wrap .i64 (t32 * t39) ∧ ∃ t49 : Int, t49 = IntKind.wrap .i64 (t45 + t48) ∧ ∃ t51 : Int, t51 = IntKind.wrap .i64 (t49 + carry) ∧ ∃ t55 : Int, t55 = IntKind.wrap .i64 (t28 + t35) ∧ (1000000000 : Int) ≠ 0 ∧ ∃ t57 : Int, t57 = Int.tmod t51 1000000000 ∧ (0 ≤ (t55 : Int) ∧ (t55 : Int) < (t24.toNat : Nat)) ∧ ∃ wv_3, Stores P 3 ((⟨r, 0, none⟩ : Addr).add (t55.toNat * 1)) (.int .i64 t57) wv_2 wv_3 ∧
          (1000000000 : Int) ≠ 0 ∧ ∃ t60 : Int, t60 = IntKind.wrap .i64 (Int.tdiv t51 1000000000) ∧ ∃ t61 : Int, t61 = IntKind.wrap .i64 (t35 + 1) ∧ Inv_1 t60 t61 wv_3 ∧ mu_1 t60 t61 wv_3 < mu_1 carry t35 wv_2) ∧
        ((decide ((t35 : Int) < ((b_n : Nat) : Int))) = false →
          ∃ t66 : Int, t66 = IntKind.wrap .i64 (t28 + ((b_n : Nat) : Int)) ∧ (0 ≤ (t66 : Int) ∧ (t66 : Int) < (t24.toNat : Nat)) ∧ ∃ wv_4, Stores P 3 ((⟨r, 0, none⟩ : Addr).add (t66.toNat * 1)) (.int .i64 carry) wv_2 wv_4 ∧
          ∃ t69 : Int, t69 = IntKind.wrap .i64 (t28 + 1) ∧ Inv t69 wv_4 ∧ mu t69 wv_4 < mu t28 wv_1)) ∧
    ((decide ((t28 : Int) < ((a_n : Nat) : Int))) = false →
      Calls P 82 ⟨[(.slice (some ⟨r, 0, none⟩) t24.toNat t24.toNat)]⟩ wv_1 fun e wv_5 =>
      ∃ (t71_p : Option Addr) (t71_n : Nat) (t71_c : Nat), e = .returned (.slice t71_p t71_n t71_c) ∧
      R (.slice t71_p t71_n t71_c) wv_5)
def spec_l02Mul (a_p : Option Addr) (a_n : Nat) (a_c : Nat) (b_p : Option Addr) (b_n : Nat) (b_c : Nat) (w : World) (R : Value → World → Prop) : Prop :=
  ((decide ((((a_n : Nat) : Int) : Int) = 0)) = true →
    (true = true →
      R (.slice none 0 0) w) ∧
    (true = false →
      spec_l02Mul_j0 a_p a_n b_p b_n w R)) ∧
  ((decide ((((a_n : Nat) : Int) : Int) = 0)) = false →
    ((decide ((((b_n : Nat) : Int) : Int) = 0)) = true →
      R (.slice none 0 0) w) ∧
    ((decide ((((b_n : Nat) : Int) : Int) = 0)) = false →
      spec_l02Mul_j0 a_p a_n b_p b_n w R))
theorem spec_l02Mul_eq (a_p : Option Addr) (a_n : Nat) (a_c : Nat) (b_p : Option Addr) (b_n : Nat) (b_c : Nat) (w : World) (R : Value → World → Prop) : spec_l02Mul a_p a_n a_c b_p b_n b_c w R = fsem P Tryz.f63 (fun k => cond (Nat.beq k 6) [(28, .one (.int .i64))] (cond (Nat.beq k 10) [(8, .one (.int .i64)), (35, .one (.int .i64))] ([]))) [(.slice a_p a_n a_c), (.slice b_p b_n b_c)] R w := by kernel_rfl
theorem spec_l02Mul_ret {a_p : Option Addr} {a_n : Nat} {a_c : Nat} {b_p : Option Addr} {b_n : Nat} {b_c : Nat} {w : World} {R : Value → World → Prop} (h : spec_l02Mul a_p a_n a_c b_p b_n b_c w R) : Ret P 63 [(.slice a_p a_n a_c), (.slice b_p b_n b_c)] w R :=
  Ret.of_fsem Tryz.func63 rfl (Eq.mp (spec_l02Mul_eq a_p a_n a_c b_p b_n b_c w R) h)
def spec_l07Ten (k : Int) (w : World) (R : Value → World → Prop) : Prop :=
  ∀ (r : Nat) (wv : World), New w (.cells ⟨[(.bool false), (.slice none 0 0)]⟩ 29 (0, 0)) r wv →
  Calls P 83 ⟨[(.int .i64 k)]⟩ wv fun e wv_1 =>
  ∃ (t4_p : Option Addr) (t4_n : Nat) (t4_c : Nat), e = .returned (.slice t4_p t4_n t4_c) ∧
  ∃ wv_2, Stores P 29 ⟨r, 0, none⟩ (.agg #[(.bool false), (.slice t4_p t4_n t4_c)]) wv_1 wv_2 ∧
  ∃ (r0 : Bool) (r1_p : Option Addr) (r1_n : Nat) (r1_c : Nat), Loads P 29 ⟨r, 0, none⟩ (.agg #[(.bool r0), (.slice r1_p r1_n r1_c)]) wv_2 ∧ R (.agg #[(.bool r0), (.slice r1_p r1_n r1_c)]) wv_2
theorem spec_l07Ten_eq (k : Int) (w : World) (R : Value → World → Prop) : spec_l07Ten k w R = fsem P Tryz.f64 (fun k => []) [(.int .i64 k)] R w := by kernel_rfl
theorem spec_l07Ten_ret {k : Int} {w : World} {R : Value → World → Prop} (h : spec_l07Ten k w R) : Ret P 64 [(.int .i64 k)] w R :=
  Ret.of_fsem Tryz.func64 rfl (Eq.mp (spec_l07Ten_eq k w R) h)
def spec_NatCut (a_p : Option Addr) (a_n : Nat) (a_c : Nat) (k : Int) (w : World) (R : Value → World → Prop) : Prop :=
  Calls P 57 ⟨[(.int .i64 k), (.int .i64 0), (.int .i64 440)]⟩ w fun e wv =>
  ∃ (t7 : Bool), e = .returned (.bool t7) ∧
  ((!t7) = true →
    R (.tuple #[(.slice none 0 0), (.slice none 0 0)]) wv) ∧
  ((!t7) = false →
    Calls P 83 ⟨[(.int .i64 k)]⟩ wv fun e_1 wv_1 =>
    ∃ (t11_p : Option Addr) (t11_n : Nat) (t11_c : Nat), e_1 = .returned (.slice t11_p t11_n t11_c) ∧
    Calls P 84 ⟨[(.slice a_p a_n a_c), (.slice t11_p t11_n t11_c)]⟩ wv_1 fun e_2 wv_2 =>
    ∃ (t12_p : Option Addr) (t12_n : Nat) (t12_c : Nat) (t12_p_1 : Option Addr) (t12_n_1 : Nat) (t12_c_1 : Nat), e_2 = .returned (.tuple #[(.slice t12_p t12_n t12_c), (.slice t12_p_1 t12_n_1 t12_c_1)]) ∧
    R (.tuple #[(.slice t12_p t12_n t12_c), (.slice t12_p_1 t12_n_1 t12_c_1)]) wv_2)
theorem spec_NatCut_eq (a_p : Option Addr) (a_n : Nat) (a_c : Nat) (k : Int) (w : World) (R : Value → World → Prop) : spec_NatCut a_p a_n a_c k w R = fsem P Tryz.f65 (fun k => []) [(.slice a_p a_n a_c), (.int .i64 k)] R w := by kernel_rfl
theorem spec_NatCut_ret {a_p : Option Addr} {a_n : Nat} {a_c : Nat} {k : Int} {w : World} {R : Value → World → Prop} (h : spec_NatCut a_p a_n a_c k w R) : Ret P 65 [(.slice a_p a_n a_c), (.int .i64 k)] w R :=
  Ret.of_fsem Tryz.func65 rfl (Eq.mp (spec_NatCut_eq a_p a_n a_c k w R) h)
def spec_l02Cap (a_p : Option Addr) (a_n : Nat) (a_c : Nat) (w : World) (R : Value → World → Prop) : Prop :=
  Calls P 82 ⟨[(.slice a_p a_n a_c)]⟩ w fun e wv =>
  ∃ (t5_p : Option Addr) (t5_n : Nat) (t5_c : Nat), e = .returned (.slice t5_p t5_n t5_c) ∧
  ((decide ((50 : Int) < ((t5_n : Nat) : Int))) = true →
    R (.slice none 0 0) wv) ∧
  ((decide ((50 : Int) < ((t5_n : Nat) : Int))) = false →
    R (.slice t5_p t5_n t5_c) wv)
theorem spec_l02Cap_eq (a_p : Option Addr) (a_n : Nat) (a_c : Nat) (w : World) (R : Value → World → Prop) : spec_l02Cap a_p a_n a_c w R = fsem P Tryz.f66 (fun k => []) [(.slice a_p a_n a_c)] R w := by kernel_rfl
theorem spec_l02Cap_ret {a_p : Option Addr} {a_n : Nat} {a_c : Nat} {w : World} {R : Value → World → Prop} (h : spec_l02Cap a_p a_n a_c w R) : Ret P 66 [(.slice a_p a_n a_c)] w R :=
  Ret.of_fsem Tryz.func66 rfl (Eq.mp (spec_l02Cap_eq a_p a_n a_c w R) h)
def spec_NatOk (a_p : Option Addr) (a_n : Nat) (a_c : Nat) (w : World) (R : Value → World → Prop) : Prop :=
  ∃ (Inv : Int → World → Prop) (mu : Int → World → Nat), Inv 0 w ∧
  ∀ (junk : Fr) (wv : World) (t7 : Int), Inv t7 wv →
    ((decide ((t7 : Int) < ((a_n : Nat) : Int))) = true →
      (0 ≤ (t7 : Int) ∧ (t7 : Int) < (a_n : Nat)) ∧ ptrS a_p fun ad => ∃ (t10 : Int), Loads P 3 (ad.add (t7.toNat * 1)) (.int .i64 t10) wv ∧ Calls P 57 ⟨[(.int .i64 t10), (.int .i64 0), (.int .i64 999999999)]⟩ wv fun e wv_1 =>
      ∃ (t12 : Bool), e = .returned (.bool t12) ∧
      ((!t12) = true →
        R (.bool false) wv_1) ∧
      ((!t12) = false →
        ∃ t14 : Int, t14 = IntKind.wrap .i64 (t7 + 1) ∧ Inv t14 wv_1 ∧ mu t14 wv_1 < mu t7 wv)) ∧
    ((decide ((t7 : Int) < ((a_n : Nat) : Int))) = false →
      ((decide ((((a_n : Nat) : Int) : Int) ≤ 50)) = true →
        ((decide ((((a_n : Nat) : Int) : Int) = 0)) = true →
          R (.bool true) wv) ∧
        ((decide ((((a_n : Nat) : Int) : Int) = 0)) = false →
          ∃ t26 : Int, t26 = IntKind.wrap .i64 (((a_n : Nat) : Int) - 1) ∧ (0 ≤ (t26 : Int) ∧ (t26 : Int) < (a_n : Nat)) ∧ ptrS a_p fun ad_1 => ∃ (t28 : Int), Loads P 3 (ad_1.add (t26.toNat * 1)) (.int .i64 t28) wv ∧ R (.bool (decide ((t28 : Int) ≠ 0))) wv)) ∧
      ((decide ((((a_n : Nat) : Int) : Int) ≤ 50)) = false →
        R (.bool false) wv))
theorem spec_NatOk_eq (a_p : Option Addr) (a_n : Nat) (a_c : Nat) (w : World) (R : Value → World → Prop) : spec_NatOk a_p a_n a_c w R = fsem P Tryz.f67 (fun k => cond (Nat.beq k 3) [(7, .one (.int .i64))] ([])) [(.slice a_p a_n a_c)] R w := by kernel_rfl
theorem spec_NatOk_ret {a_p : Option Addr} {a_n : Nat} {a_c : Nat} {w : World} {R : Value → World → Prop} (h : spec_NatOk a_p a_n a_c w R) : Ret P 67 [(.slice a_p a_n a_c)] w R :=
  Ret.of_fsem Tryz.func67 rfl (Eq.mp (spec_NatOk_eq a_p a_n a_c w R) h)
def impl_IntOk (x0 : Bool) (x1_p : Option Addr) (x1_n : Nat) (x1_c : Nat) (w : World) (R : Value → World → Prop) : Prop :=
  ∀ (r : Nat) (wv : World), New w (.cells ⟨[(.bool x0), (.slice x1_p x1_n x1_c)]⟩ 29 (0, 0)) r wv →
  ∃ (t4_p : Option Addr) (t4_n : Nat) (t4_c : Nat), Loads P 22 ((⟨r, 0, none⟩ : Addr).add 1) (.slice t4_p t4_n t4_c) wv ∧ Calls P 85 ⟨[(.slice t4_p t4_n t4_c)]⟩ wv fun e wv_1 =>
  ∃ (t5 : Bool), e = .returned (.bool t5) ∧
  (t5 = true →
    ∃ (t8 : Bool), Loads P 4 ((⟨r, 0, none⟩ : Addr).add 0) (.bool t8) wv_1 ∧ ((!t8) = true →
      R (.bool true) wv_1) ∧
    ((!t8) = false →
      ∃ (t12_p : Option Addr) (t12_n : Nat) (t12_c : Nat), Loads P 22 ((⟨r, 0, none⟩ : Addr).add 1) (.slice t12_p t12_n t12_c) wv_1 ∧ R (.bool (decide ((0 : Int) < ((t12_n : Nat) : Int)))) wv_1)) ∧
  (t5 = false →
    R (.bool false) wv_1)
theorem impl_IntOk_eq (x0 : Bool) (x1_p : Option Addr) (x1_n : Nat) (x1_c : Nat) (w : World) (R : Value → World → Prop) : impl_IntOk x0 x1_p x1_n x1_c w R = fsem P Tryz.f68 (fun k => []) [(.agg #[(.bool x0), (.slice x1_p x1_n x1_c)])] R w := by kernel_rfl
theorem impl_IntOk_ret {x0 : Bool} {x1_p : Option Addr} {x1_n : Nat} {x1_c : Nat} {w : World} {R : Value → World → Prop} (h : impl_IntOk x0 x1_p x1_n x1_c w R) : Ret P 68 [(.agg #[(.bool x0), (.slice x1_p x1_n x1_c)])] w R :=
  Ret.of_fsem Tryz.func68 rfl (Eq.mp (impl_IntOk_eq x0 x1_p x1_n x1_c w R) h)
def impl_isScale (scale : Int) (w : World) (R : Value → World → Prop) : Prop :=
  ((decide ((0 : Int) ≤ scale)) = true →
    R (.bool (decide ((scale : Int) ≤ 30))) w) ∧
  ((decide ((0 : Int) ≤ scale)) = false →
    R (.bool false) w)
theorem impl_isScale_eq (scale : Int) (w : World) (R : Value → World → Prop) : impl_isScale scale w R = fsem P Tryz.f69 (fun k => []) [(.int .i64 scale)] R w := by kernel_rfl
theorem impl_isScale_ret {scale : Int} {w : World} {R : Value → World → Prop} (h : impl_isScale scale w R) : Ret P 69 [(.int .i64 scale)] w R :=
  Ret.of_fsem Tryz.func69 rfl (Eq.mp (impl_isScale_eq scale w R) h)
def impl_scaled (scale : Int) (w : World) (R : Value → World → Prop) : Prop :=
  ∀ (r : Nat) (wv : World), New w (.cells ⟨[(.int .i64 scale)]⟩ 3 (0, 0)) r wv →
  R (.func (.func 86) #[] #[(.pointer (some ⟨r, 0, none⟩))]) wv
theorem impl_scaled_eq (scale : Int) (w : World) (R : Value → World → Prop) : impl_scaled scale w R = fsem P Tryz.f70 (fun k => []) [(.int .i64 scale)] R w := by kernel_rfl
theorem impl_scaled_ret {scale : Int} {w : World} {R : Value → World → Prop} (h : impl_scaled scale w R) : Ret P 70 [(.int .i64 scale)] w R :=
  Ret.of_fsem Tryz.func70 rfl (Eq.mp (impl_scaled_eq scale w R) h)
def impl_intCmp (x0 : Bool) (x1_p : Option Addr) (x1_n : Nat) (x1_c : Nat) (y0 : Bool) (y1_p : Option Addr) (y1_n : Nat) (y1_c : Nat) (w : World) (R : Value → World → Prop) : Prop :=
  ∀ (r : Nat) (wv : World), New w (.cells ⟨[(.bool x0), (.slice x1_p x1_n x1_c)]⟩ 29 (0, 0)) r wv →
  ∀ (r_1 : Nat) (wv_1 : World), New wv (.cells ⟨[(.bool y0), (.slice y1_p y1_n y1_c)]⟩ 29 (0, 0)) r_1 wv_1 →
  ∃ (t50 : Bool) (t51_p : Option Addr) (t51_n : Nat) (t51_c : Nat), (∀ wv_2, Ext wv_1.drew wv_2 → Loads P 29 ⟨r, 0, none⟩ (.agg #[(.bool t50), (.slice t51_p t51_n t51_c)]) wv_2) ∧ ∃ (t60 : Bool) (t61_p : Option Addr) (t61_n : Nat) (t61_c : Nat), (∀ wv_3, Ext wv_1.drew wv_3 → Loads P 29 ⟨r_1, 0, none⟩ (.agg #[(.bool t60), (.slice t61_p t61_n t61_c)]) wv_3) ∧ Calls P 89 ⟨[(.agg #[(.bool t60), (.slice t61_p t61_n t61_c)])]⟩ wv_1.drew fun e wv_4 =>
  ∃ (t70 : Bool) (t71_p : Option Addr) (t71_n : Nat) (t71_c : Nat), e = .returned (.agg #[(.bool t70), (.slice t71_p t71_n t71_c)]) ∧
  Ext wv_1.drew wv_4 ∧ Calls P 88 ⟨[(.agg #[(.bool t50), (.slice t51_p t51_n t51_c)]), (.agg #[(.bool t70), (.slice t71_p t71_n t71_c)])]⟩ wv_4 fun e_1 wv_5 =>
  ∃ (t80 : Bool) (t81_p : Option Addr) (t81_n : Nat) (t81_c : Nat), e_1 = .returned (.agg #[(.bool t80), (.slice t81_p t81_n t81_c)]) ∧
  Calls P 87 ⟨[(.agg #[(.bool t80), (.slice t81_p t81_n t81_c)])]⟩ wv_5 fun e_2 wv_6 =>
  ∃ (t9 : Int), e_2 = .returned (.int .i64 t9) ∧
  R (.int .i64 t9) wv_6
theorem impl_intCmp_eq (x0 : Bool) (x1_p : Option Addr) (x1_n : Nat) (x1_c : Nat) (y0 : Bool) (y1_p : Option Addr) (y1_n : Nat) (y1_c : Nat) (w : World) (R : Value → World → Prop) : impl_intCmp x0 x1_p x1_n x1_c y0 y1_p y1_n y1_c w R = fsem P Tryz.f71 (fun k => []) [(.agg #[(.bool x0), (.slice x1_p x1_n x1_c)]), (.agg #[(.bool y0), (.slice y1_p y1_n y1_c)])] R w := by kernel_rfl
theorem impl_intCmp_ret {x0 : Bool} {x1_p : Option Addr} {x1_n : Nat} {x1_c : Nat} {y0 : Bool} {y1_p : Option Addr} {y1_n : Nat} {y1_c : Nat} {w : World} {R : Value → World → Prop} (h : impl_intCmp x0 x1_p x1_n x1_c y0 y1_p y1_n y1_c w R) : Ret P 71 [(.agg #[(.bool x0), (.slice x1_p x1_n x1_c)]), (.agg #[(.bool y0), (.slice y1_p y1_n y1_c)])] w R :=
  Ret.of_fsem Tryz.func71 rfl (Eq.mp (impl_intCmp_eq x0 x1_p x1_n x1_c y0 y1_p y1_n y1_c w R) h)
def impl_signed (neg : Bool) (mag_p : Option Addr) (mag_n : Nat) (mag_c : Nat) (w : World) (R : Value → World → Prop) : Prop :=
  ∀ (r : Nat) (wv : World), New w (.cells ⟨[(.bool false), (.slice none 0 0)]⟩ 29 (0, 0)) r wv →
  (neg = true →
    ∃ wv_1, Stores P 29 ⟨r, 0, none⟩ (.agg #[(.bool (decide ((0 : Int) < ((mag_n : Nat) : Int)))), (.slice mag_p mag_n mag_c)]) wv wv_1 ∧
    ∃ (r0 : Bool) (r1_p : Option Addr) (r1_n : Nat) (r1_c : Nat), Loads P 29 ⟨r, 0, none⟩ (.agg #[(.bool r0), (.slice r1_p r1_n r1_c)]) wv_1 ∧ R (.agg #[(.bool r0), (.slice r1_p r1_n r1_c)]) wv_1) ∧
  (neg = false →
    ∃ wv_2, Stores P 29 ⟨r, 0, none⟩ (.agg #[(.bool false), (.slice mag_p mag_n mag_c)]) wv wv_2 ∧
    ∃ (r0_1 : Bool) (r1_p_1 : Option Addr) (r1_n_1 : Nat) (r1_c_1 : Nat), Loads P 29 ⟨r, 0, none⟩ (.agg #[(.bool r0_1), (.slice r1_p_1 r1_n_1 r1_c_1)]) wv_2 ∧ R (.agg #[(.bool r0_1), (.slice r1_p_1 r1_n_1 r1_c_1)]) wv_2)
theorem impl_signed_eq (neg : Bool) (mag_p : Option Addr) (mag_n : Nat) (mag_c : Nat) (w : World) (R : Value → World → Prop) : impl_signed neg mag_p mag_n mag_c w R = fsem P Tryz.f72 (fun k => []) [(.bool neg), (.slice mag_p mag_n mag_c)] R w := by kernel_rfl
theorem impl_signed_ret {neg : Bool} {mag_p : Option Addr} {mag_n : Nat} {mag_c : Nat} {w : World} {R : Value → World → Prop} (h : impl_signed neg mag_p mag_n mag_c w R) : Ret P 72 [(.bool neg), (.slice mag_p mag_n mag_c)] w R :=
  Ret.of_fsem Tryz.func72 rfl (Eq.mp (impl_signed_eq neg mag_p mag_n mag_c w R) h)
def impl_natMul (a_p : Option Addr) (a_n : Nat) (a_c : Nat) (b_p : Option Addr) (b_n : Nat) (b_c : Nat) (w : World) (R : Value → World → Prop) : Prop :=
  ∃ t16 : Int, t16 = IntKind.wrap .i64 (((a_n : Nat) : Int) + ((b_n : Nat) : Int)) ∧ ∃ t17 : Int, t17 = IntKind.wrap .i64 (t16 + 1) ∧ (0 ≤ (t17 : Int) ∧ (t17 : Int) ≤ t17 ∧ ((8 : Nat) : Int) * t17 ≤ 281474976710656) ∧
  ∀ (r : Nat) (wv : World), New w (.cells ⟨zeroRow (.int .i64 0) (t17.toNat * 1)⟩ 3 (0, 0)) r wv →
  ∃ (Inv : Int → World → Prop) (mu : Int → World → Nat), Inv 0 wv ∧
  ∀ (junk : Fr) (wv_1 : World) (t21 : Int), Inv t21 wv_1 →
    ((decide ((t21 : Int) < ((a_n : Nat) : Int))) = true →
      (0 ≤ (t21 : Int) ∧ (t21 : Int) < (a_n : Nat)) ∧ ptrS a_p fun ad => ∃ (t25 : Int), Loads P 3 (ad.add (t21.toNat * 1)) (.int .i64 t25) wv_1 ∧ ∃ (Inv_1 : Int → Int → World → Prop) (mu_1 : Int → Int → World → Nat), Inv_1 0 0 wv_1 ∧
      ∀ (junk_1 : Fr) (wv_2 : World) (carry : Int) (t28 : Int), Inv_1 carry t28 wv_2 →
        ((decide ((t28 : Int) < ((b_n : Nat) : Int))) = true →
          (0 ≤ (t28 : Int) ∧ (t28 : Int) < (b_n : Nat)) ∧ ptrS b_p fun ad_1 => ∃ (t32 : Int), Loads P 3 (ad_1.add (t28.toNat * 1)) (.int .i64 t32) wv_2 ∧ ∃ t37 : Int, t37 = IntKind.wrap .i64 (t21 + t28) ∧ (0 ≤ (t37 : Int) ∧ (t37 : Int) < (t17.toNat : Nat)) ∧ ∃ (t39 : Int), Loads P 3 ((⟨r, 0, none⟩ : Addr).add (t37.toNat * 1)) (.int .i64 t39) wv_2 ∧ ∃ t42 : Int, t42 = IntKind.wrap .i64 (t25 * t32) ∧ ∃ t43 : Int, t43 = IntKind.wrap .i64 (t39 + t42) ∧ ∃ t44 : Int, t44 = IntKind.wrap .i64 (carry + t43) ∧ ∃ t48 : Int, t48 = IntKind.wrap .i64 (t21 + t28) ∧ (1000000000 : Int) ≠ 0 ∧ ∃ t50 : Int, t50 = Int.tmod t44 1000000000 ∧ (0 ≤ (t48 : Int) ∧ (t48 : Int) < (t17.toNat : Nat)) ∧ ∃ wv_3, Stores P 3 ((⟨r, 0, none⟩ : Addr).add (t48.toNat * 1)) (.int .i64 t50) wv_2 wv_3 ∧
          (1000000000 : Int) ≠ 0 ∧ ∃ t53 : Int, t53 = IntKind.wrap .i64 (Int.tdiv t44 1000000000) ∧ ∃ t54 : Int, t54 = IntKind.wrap .i64 (t28 + 1) ∧ Inv_1 t53 t54 wv_3 ∧ mu_1 t53 t54 wv_3 < mu_1 carry t28 wv_2) ∧
        ((decide ((t28 : Int) < ((b_n : Nat) : Int))) = false →
          ∃ t58 : Int, t58 = IntKind.wrap .i64 (t21 + ((b_n : Nat) : Int)) ∧ ∃ (Inv_2 : Int → Int → World → Prop) (mu_2 : Int → Int → World → Nat), Inv_2 carry t58 wv_2 ∧
          ∀ (junk_2 : Fr) (wv_4 : World) (carry_1 : Int) (k : Int), Inv_2 carry_1 k wv_4 →
            ((decide ((0 : Int) < carry_1)) = true →
              (0 ≤ (k : Int) ∧ (k : Int) < (t17.toNat : Nat)) ∧ ∃ (t67 : Int), Loads P 3 ((⟨r, 0, none⟩ : Addr).add (k.toNat * 1)) (.int .i64 t67) wv_4 ∧ ∃ t68 : Int, t68 = IntKind.wrap .i64 (carry_1 + t67) ∧ (1000000000 : Int) ≠ 0 ∧ ∃ t72 : Int, t72 = Int.tmod t68 1000000000 ∧ (0 ≤ (k : Int) ∧ (k : Int) < (t17.toNat : Nat)) ∧ ∃ wv_5, Stores P 3 ((⟨r, 0, none⟩ : Addr).add (k.toNat * 1)) (.int .i64 t72) wv_4 wv_5 ∧
              (1000000000 : Int) ≠ 0 ∧ ∃ t75 : Int, t75 = IntKind.wrap .i64 (Int.tdiv t68 1000000000) ∧ ∃ t62 : Int, t62 = IntKind.wrap .i64 (k + 1) ∧ Inv_2 t75 t62 wv_5 ∧ mu_2 t75 t62 wv_5 < mu_2 carry_1 k wv_4) ∧
            ((decide ((0 : Int) < carry_1)) = false →
              ∃ t76 : Int, t76 = IntKind.wrap .i64 (t21 + 1) ∧ Inv t76 wv_4 ∧ mu t76 wv_4 < mu t21 wv_1))) ∧
    ((decide ((t21 : Int) < ((a_n : Nat) : Int))) = false →
      Calls P 90 ⟨[(.slice (some ⟨r, 0, none⟩) t17.toNat t17.toNat)]⟩ wv_1 fun e wv_6 =>
      ∃ (t78_p : Option Addr) (t78_n : Nat) (t78_c : Nat), e = .returned (.slice t78_p t78_n t78_c) ∧
      R (.slice t78_p t78_n t78_c) wv_6)
theorem impl_natMul_eq (a_p : Option Addr) (a_n : Nat) (a_c : Nat) (b_p : Option Addr) (b_n : Nat) (b_c : Nat) (w : World) (R : Value → World → Prop) : impl_natMul a_p a_n a_c b_p b_n b_c w R = fsem P Tryz.f73 (fun k => cond (Nat.beq k 4) [(21, .one (.int .i64))] (cond (Nat.beq k 8) [(8, .one (.int .i64)), (28, .one (.int .i64))] (cond (Nat.beq k 15) [(8, .one (.int .i64)), (11, .one (.int .i64))] ([])))) [(.slice a_p a_n a_c), (.slice b_p b_n b_c)] R w := by kernel_rfl
theorem impl_natMul_ret {a_p : Option Addr} {a_n : Nat} {a_c : Nat} {b_p : Option Addr} {b_n : Nat} {b_c : Nat} {w : World} {R : Value → World → Prop} (h : impl_natMul a_p a_n a_c b_p b_n b_c w R) : Ret P 73 [(.slice a_p a_n a_c), (.slice b_p b_n b_c)] w R :=
  Ret.of_fsem Tryz.func73 rfl (Eq.mp (impl_natMul_eq a_p a_n a_c b_p b_n b_c w R) h)
def impl_natDiv (a_p : Option Addr) (a_n : Nat) (a_c : Nat) (b_p : Option Addr) (b_n : Nat) (b_c : Nat) (w : World) (R : Value → World → Prop) : Prop :=
  Calls P 94 ⟨[(.slice a_p a_n a_c), (.slice b_p b_n b_c)]⟩ w fun e wv =>
  ∃ (t18 : Int), e = .returned (.int .i64 t18) ∧
  ((decide ((t18 : Int) < 0)) = true →
    ∀ (r : Nat) (wv_1 : World), New wv (.cells ⟨[]⟩ 3 (0, 0)) r wv_1 →
    Calls P 95 ⟨[(.slice a_p a_n a_c)]⟩ wv_1 fun e_1 wv_2 =>
    ∃ (t22_p : Option Addr) (t22_n : Nat) (t22_c : Nat), e_1 = .returned (.slice t22_p t22_n t22_c) ∧
    R (.tuple #[(.slice (some ⟨r, 0, none⟩) 0 0), (.slice t22_p t22_n t22_c)]) wv_2) ∧
  ((decide ((t18 : Int) < 0)) = false →
    ((decide ((((b_n : Nat) : Int) : Int) = 1)) = true →
      (0 ≤ (0 : Int) ∧ (0 : Int) < (b_n : Nat)) ∧ ptrS b_p fun ad => ∃ (t30 : Int), Loads P 3 (ad.add (0 * 1)) (.int .i64 t30) wv ∧ Calls P 96 ⟨[(.slice a_p a_n a_c), (.int .i64 t30)]⟩ wv fun e_2 wv_3 =>
      ∃ (t31_p : Option Addr) (t31_n : Nat) (t31_c : Nat) (t31 : Int), e_2 = .returned (.tuple #[(.slice t31_p t31_n t31_c), (.int .i64 t31)]) ∧
      Calls P 97 ⟨[(.int .i64 t31)]⟩ wv_3 fun e_3 wv_4 =>
      ∃ (t36_p : Option Addr) (t36_n : Nat) (t36_c : Nat), e_3 = .returned (.slice t36_p t36_n t36_c) ∧
      R (.tuple #[(.slice t31_p t31_n t31_c), (.slice t36_p t36_n t36_c)]) wv_4) ∧
    ((decide ((((b_n : Nat) : Int) : Int) = 1)) = false →
      ∃ t40 : Int, t40 = IntKind.wrap .i64 (((b_n : Nat) : Int) - 1) ∧ (0 ≤ (t40 : Int) ∧ (t40 : Int) < (b_n : Nat)) ∧ ptrS b_p fun ad_1 => ∃ (t42 : Int), Loads P 3 (ad_1.add (t40.toNat * 1)) (.int .i64 t42) wv ∧ ∃ t43 : Int, t43 = IntKind.wrap .i64 (t42 + 1) ∧ (t43 : Int) ≠ 0 ∧ ∃ t44 : Int, t44 = IntKind.wrap .i64 (Int.tdiv 1000000000 t43) ∧ ∀ (r_1 : Nat) (wv_5 : World), New wv (.cells ⟨[(.int .i64 t44)]⟩ 3 (0, 0)) r_1 wv_5 →
      Calls P 73 ⟨[(.slice a_p a_n a_c), (.slice (some ⟨r_1, 0, none⟩) 1 1)]⟩ wv_5 fun e_4 wv_6 =>
      ∃ (t48_p : Option Addr) (t48_n : Nat) (t48_c : Nat), e_4 = .returned (.slice t48_p t48_n t48_c) ∧
      ∀ (r_2 : Nat) (wv_7 : World), New wv_6 (.cells ⟨[(.int .i64 t44)]⟩ 3 (0, 0)) r_2 wv_7 →
      Calls P 73 ⟨[(.slice b_p b_n b_c), (.slice (some ⟨r_2, 0, none⟩) 1 1)]⟩ wv_7 fun e_5 wv_8 =>
      ∃ (t52_p : Option Addr) (t52_n : Nat) (t52_c : Nat), e_5 = .returned (.slice t52_p t52_n t52_c) ∧
      ∃ (Inv : Option Addr → Nat → Nat → World → Prop) (mu : Option Addr → Nat → Nat → World → Nat), Inv t48_p t48_n t48_c wv_8 ∧
      ∀ (junk : Fr) (wv_9 : World) (u_p : Option Addr) (u_n : Nat) (u_c : Nat), Inv u_p u_n u_c wv_9 →
        ((decide ((((u_n : Nat) : Int) : Int) ≤ ((a_n : Nat) : Int))) = true →
          ∀ (r_3 : Nat) (wv_10 : World), New wv_9 (.cells ⟨[(.int .i64 0)]⟩ 3 (0, 0)) r_3 wv_10 →
          ∃ (t60_p : Option Addr) (t60_n : Nat) (t60_c : Nat) (wv_11 : World), Appends P [22, 22] [(.slice u_p u_n u_c), (.slice (some ⟨r_3, 0, none⟩) 1 1)] (.slice t60_p t60_n t60_c) wv_10 wv_11 ∧
          Inv t60_p t60_n t60_c wv_11 ∧ mu t60_p t60_n t60_c wv_11 < mu u_p u_n u_c wv_9) ∧
        ((decide ((((u_n : Nat) : Int) : Int) ≤ ((a_n : Nat) : Int))) = false →
          ∃ t66 : Int, t66 = IntKind.wrap .i64 (((u_n : Nat) : Int) - ((t52_n : Nat) : Int)) ∧ (0 ≤ (t66 : Int) ∧ (t66 : Int) ≤ t66 ∧ ((8 : Nat) : Int) * t66 ≤ 281474976710656) ∧
          ∀ (r_4 : Nat) (wv_12 : World), New wv_9 (.cells ⟨zeroRow (.int .i64 0) (t66.toNat * 1)⟩ 3 (0, 0)) r_4 wv_12 →
          ∃ t70 : Int, t70 = IntKind.wrap .i64 (((t66.toNat : Nat) : Int) - 1) ∧ ∃ (Inv_1 : Int → World → Prop) (mu_1 : Int → World → Nat), Inv_1 t70 wv_12 ∧
          ∀ (junk_1 : Fr) (wv_13 : World) (j : Int), Inv_1 j wv_13 →
            ((decide ((0 : Int) ≤ j)) = true →
              ∃ t81 : Int, t81 = IntKind.wrap .i64 (j + ((t52_n : Nat) : Int)) ∧ ∃ t82 : Int, t82 = IntKind.wrap .i64 (t81 + 1) ∧ (0 ≤ (t82 : Int) ∧ (t82 : Int) ≤ (u_c : Nat)) ∧ (0 ≤ (j : Int) ∧ (j : Int) ≤ (t82.toNat : Nat)) ∧ Calls P 98 ⟨[(.slice (sub u_p j.toNat u_c 1) (t82.toNat - j.toNat) (u_c - j.toNat)), (.slice t52_p t52_n t52_c)]⟩ wv_13 fun e_6 wv_14 =>
              ∃ (t85 : Int), e_6 = .returned (.int .i64 t85) ∧
              (0 ≤ (j : Int) ∧ (j : Int) < (t66.toNat : Nat)) ∧ ∃ wv_15, Stores P 3 ((⟨r_4, 0, none⟩ : Addr).add (j.toNat * 1)) (.int .i64 t85) wv_14 wv_15 ∧
              ∃ t74 : Int, t74 = IntKind.wrap .i64 (j - 1) ∧ Inv_1 t74 wv_15 ∧ mu_1 t74 wv_15 < mu_1 j wv_13) ∧
            ((decide ((0 : Int) ≤ j)) = false →
              Calls P 90 ⟨[(.slice u_p u_n u_c)]⟩ wv_13 fun e_7 wv_16 =>
              ∃ (t89_p : Option Addr) (t89_n : Nat) (t89_c : Nat), e_7 = .returned (.slice t89_p t89_n t89_c) ∧
              Calls P 96 ⟨[(.slice t89_p t89_n t89_c), (.int .i64 t44)]⟩ wv_16 fun e_8 wv_17 =>
              ∃ (t91_p : Option Addr) (t91_n : Nat) (t91_c : Nat) (t91 : Int), e_8 = .returned (.tuple #[(.slice t91_p t91_n t91_c), (.int .i64 t91)]) ∧
              Calls P 90 ⟨[(.slice (some ⟨r_4, 0, none⟩) t66.toNat t66.toNat)]⟩ wv_17 fun e_9 wv_18 =>
              ∃ (t95_p : Option Addr) (t95_n : Nat) (t95_c : Nat), e_9 = .returned (.slice t95_p t95_n t95_c) ∧
              R (.tuple #[(.slice t95_p t95_n t95_c), (.slice t91_p t91_n t91_c)]) wv_18))))
theorem impl_natDiv_eq (a_p : Option Addr) (a_n : Nat) (a_c : Nat) (b_p : Option Addr) (b_n : Nat) (b_c : Nat) (w : World) (R : Value → World → Prop) : impl_natDiv a_p a_n a_c b_p b_n b_c w R = fsem P Tryz.f75 (fun k => cond (Nat.beq k 10) [(9, .one .slice)] (cond (Nat.beq k 15) [(13, .one (.int .i64))] ([]))) [(.slice a_p a_n a_c), (.slice b_p b_n b_c)] R w := by kernel_rfl
theorem impl_natDiv_ret {a_p : Option Addr} {a_n : Nat} {a_c : Nat} {b_p : Option Addr} {b_n : Nat} {b_c : Nat} {w : World} {R : Value → World → Prop} (h : impl_natDiv a_p a_n a_c b_p b_n b_c w R) : Ret P 75 [(.slice a_p a_n a_c), (.slice b_p b_n b_c)] w R :=
  Ret.of_fsem Tryz.func75 rfl (Eq.mp (impl_natDiv_eq a_p a_n a_c b_p b_n b_c w R) h)
def impl_natTen (k : Int) (w : World) (R : Value → World → Prop) : Prop :=
  (9 : Int) ≠ 0 ∧ ∃ t6 : Int, t6 = IntKind.wrap .i64 (Int.tdiv k 9) ∧ (9 : Int) ≠ 0 ∧ ∃ t8 : Int, t8 = IntKind.wrap .i64 (Int.tdiv k 9) ∧ ∃ t9 : Int, t9 = IntKind.wrap .i64 (t8 + 1) ∧ (0 ≤ (t6 : Int) ∧ (t6 : Int) ≤ t9 ∧ ((8 : Nat) : Int) * t9 ≤ 281474976710656) ∧
  ∀ (r : Nat) (wv : World), New w (.cells ⟨zeroRow (.int .i64 0) (t9.toNat * 1)⟩ 3 (0, 0)) r wv →
  (9 : Int) ≠ 0 ∧ ∃ t12 : Int, t12 = Int.tmod k 9 ∧ ∃ (Inv : Int → Int → World → Prop) (mu : Int → Int → World → Nat), Inv 1 0 wv ∧
  ∀ (junk : Fr) (wv_1 : World) (top : Int) (t13 : Int), Inv top t13 wv_1 →
    ((decide ((t13 : Int) < t12)) = true →
      ∃ t16 : Int, t16 = IntKind.wrap .i64 (top * 10) ∧ ∃ t17 : Int, t17 = IntKind.wrap .i64 (t13 + 1) ∧ Inv t16 t17 wv_1 ∧ mu t16 t17 wv_1 < mu top t13 wv_1) ∧
    ((decide ((t13 : Int) < t12)) = false →
      ∀ (r_1 : Nat) (wv_2 : World), New wv_1 (.cells ⟨[(.int .i64 top)]⟩ 3 (0, 0)) r_1 wv_2 →
      ∃ (t21_p : Option Addr) (t21_n : Nat) (t21_c : Nat) (wv_3 : World), Appends P [22, 22] [(.slice (some ⟨r, 0, none⟩) t6.toNat t9.toNat), (.slice (some ⟨r_1, 0, none⟩) 1 1)] (.slice t21_p t21_n t21_c) wv_2 wv_3 ∧
      R (.slice t21_p t21_n t21_c) wv_3)
theorem impl_natTen_eq (k : Int) (w : World) (R : Value → World → Prop) : impl_natTen k w R = fsem P Tryz.f76 (fun k => cond (Nat.beq k 5) [(4, .one (.int .i64)), (13, .one (.int .i64))] ([])) [(.int .i64 k)] R w := by kernel_rfl
theorem impl_natTen_ret {k : Int} {w : World} {R : Value → World → Prop} (h : impl_natTen k w R) : Ret P 76 [(.int .i64 k)] w R :=
  Ret.of_fsem Tryz.func76 rfl (Eq.mp (impl_natTen_eq k w R) h)
def spec_l02Cmp (a_p : Option Addr) (a_n : Nat) (a_c : Nat) (b_p : Option Addr) (b_n : Nat) (b_c : Nat) (w : World) (R : Value → World → Prop) : Prop :=
  ((decide ((((a_n : Nat) : Int) : Int) ≠ ((b_n : Nat) : Int))) = true →
    ((decide ((((a_n : Nat) : Int) : Int) < ((b_n : Nat) : Int))) = true →
      R (.int .i64 (-1)) w) ∧
    ((decide ((((a_n : Nat) : Int) : Int) < ((b_n : Nat) : Int))) = false →
      R (.int .i64 1) w)) ∧
  ((decide ((((a_n : Nat) : Int) : Int) ≠ ((b_n : Nat) : Int))) = false →
    ∃ t18 : Int, t18 = IntKind.wrap .i64 (((a_n : Nat) : Int) - 1) ∧ ∃ (Inv : Int → World → Prop) (mu : Int → World → Nat), Inv t18 w ∧
    ∀ (junk : Fr) (wv : World) (i : Int), Inv i wv →
      ((decide ((0 : Int) ≤ i)) = true →
        (0 ≤ (i : Int) ∧ (i : Int) < (a_n : Nat)) ∧ ptrS a_p fun ad => ∃ (t26 : Int), (∀ wv_1, Ext wv.drew wv_1 → Loads P 3 (ad.add (i.toNat * 1)) (.int .i64 t26) wv_1) ∧ (0 ≤ (i : Int) ∧ (i : Int) < (b_n : Nat)) ∧ ptrS b_p fun ad_1 => ∃ (t30 : Int), (∀ wv_2, Ext wv.drew wv_2 → Loads P 3 (ad_1.add (i.toNat * 1)) (.int .i64 t30) wv_2) ∧ ((decide ((t26 : Int) < t30)) = true →
          R (.int .i64 (-1)) wv.drew) ∧
        ((decide ((t26 : Int) < t30)) = false →
          (0 ≤ (i : Int) ∧ (i : Int) < (a_n : Nat)) ∧ ptrS a_p fun ad_2 => ∃ (t35 : Int), (∀ wv_3, Ext wv.drew.drew wv_3 → Loads P 3 (ad_2.add (i.toNat * 1)) (.int .i64 t35) wv_3) ∧ (0 ≤ (i : Int) ∧ (i : Int) < (b_n : Nat)) ∧ ptrS b_p fun ad_3 => ∃ (t39 : Int), (∀ wv_4, Ext wv.drew.drew wv_4 → Loads P 3 (ad_3.add (i.toNat * 1)) (.int .i64 t39) wv_4) ∧ ((decide ((t39 : Int) < t35)) = true →
            R (.int .i64 1) wv.drew.drew) ∧
          ((decide ((t39 : Int) < t35)) = false →
            ∃ t22 : Int, t22 = IntKind.wrap .i64 (i - 1) ∧ Inv t22 wv.drew.drew ∧ mu t22 wv.drew.drew < mu i wv))) ∧
      ((decide ((0 : Int) ≤ i)) = false →
        R (.int .i64 0) wv))
theorem spec_l02Cmp_eq (a_p : Option Addr) (a_n : Nat) (a_c : Nat) (b_p : Option Addr) (b_n : Nat) (b_c : Nat) (w : World) (R : Value → World → Prop) : spec_l02Cmp a_p a_n a_c b_p b_n b_c w R = fsem P Tryz.f81 (fun k => cond (Nat.beq k 7) [(5, .one (.int .i64))] ([])) [(.slice a_p a_n a_c), (.slice b_p b_n b_c)] R w := by kernel_rfl
theorem spec_l02Cmp_ret {a_p : Option Addr} {a_n : Nat} {a_c : Nat} {b_p : Option Addr} {b_n : Nat} {b_c : Nat} {w : World} {R : Value → World → Prop} (h : spec_l02Cmp a_p a_n a_c b_p b_n b_c w R) : Ret P 81 [(.slice a_p a_n a_c), (.slice b_p b_n b_c)] w R :=
  Ret.of_fsem Tryz.func81 rfl (Eq.mp (spec_l02Cmp_eq a_p a_n a_c b_p b_n b_c w R) h)
def spec_l02Trim (a_p : Option Addr) (a_n : Nat) (a_c : Nat) (w : World) (R : Value → World → Prop) : Prop :=
  ∃ (Inv : Int → World → Prop) (mu : Int → World → Nat), Inv ((a_n : Nat) : Int) w ∧
  ∀ (junk : Fr) (wv : World) (n : Int), Inv n wv →
    ((decide ((0 : Int) < n)) = true →
      ∃ t11 : Int, t11 = IntKind.wrap .i64 (n - 1) ∧ (0 ≤ (t11 : Int) ∧ (t11 : Int) < (a_n : Nat)) ∧ ptrS a_p fun ad => ∃ (t13 : Int), Loads P 3 (ad.add (t11.toNat * 1)) (.int .i64 t13) wv ∧ ((decide ((t13 : Int) = 0)) = true →
        ∃ t17 : Int, t17 = IntKind.wrap .i64 (n - 1) ∧ Inv t17 wv ∧ mu t17 wv < mu n wv) ∧
      ((decide ((t13 : Int) = 0)) = false →
        (0 ≤ (n : Int) ∧ (n : Int) ≤ (a_c : Nat)) ∧ R (.slice (sub a_p 0 a_c 1) (n.toNat - 0) (a_c - 0)) wv)) ∧
    ((decide ((0 : Int) < n)) = false →
      (false = true →
        ∃ t17_1 : Int, t17_1 = IntKind.wrap .i64 (n - 1) ∧ Inv t17_1 wv ∧ mu t17_1 wv < mu n wv) ∧
      (false = false →
        (0 ≤ (n : Int) ∧ (n : Int) ≤ (a_c : Nat)) ∧ R (.slice (sub a_p 0 a_c 1) (n.toNat - 0) (a_c - 0)) wv))
theorem spec_l02Trim_eq (a_p : Option Addr) (a_n : Nat) (a_c : Nat) (w : World) (R : Value → World → Prop) : spec_l02Trim a_p a_n a_c w R = fsem P Tryz.f82 (fun k => cond (Nat.beq k 3) [(3, .one (.int .i64))] ([])) [(.slice a_p a_n a_c)] R w := by kernel_rfl
theorem spec_l02Trim_ret {a_p : Option Addr} {a_n : Nat} {a_c : Nat} {w : World} {R : Value → World → Prop} (h : spec_l02Trim a_p a_n a_c w R) : Ret P 82 [(.slice a_p a_n a_c)] w R :=
  Ret.of_fsem Tryz.func82 rfl (Eq.mp (spec_l02Trim_eq a_p a_n a_c w R) h)
def spec_NatTen (k : Int) (w : World) (R : Value → World → Prop) : Prop :=
  Calls P 57 ⟨[(.int .i64 k), (.int .i64 0), (.int .i64 449)]⟩ w fun e wv =>
  ∃ (t7 : Bool), e = .returned (.bool t7) ∧
  ((!t7) = true →
    R (.slice none 0 0) wv) ∧
  ((!t7) = false →
    (9 : Int) ≠ 0 ∧ ∃ t10 : Int, t10 = IntKind.wrap .i64 (Int.tdiv k 9) ∧ (0 ≤ (t10 : Int) ∧ (t10 : Int) ≤ t10 ∧ ((8 : Nat) : Int) * t10 ≤ 281474976710656) ∧
    ∀ (r : Nat) (wv_1 : World), New wv (.cells ⟨zeroRow (.int .i64 0) (t10.toNat * 1)⟩ 3 (0, 0)) r wv_1 →
    ∃ (Inv : Int → Int → World → Prop) (mu : Int → Int → World → Nat), Inv 1 0 wv_1 ∧
    ∀ (junk : Fr) (wv_2 : World) (f : Int) (i : Int), Inv f i wv_2 →
      (9 : Int) ≠ 0 ∧ ∃ t14 : Int, t14 = Int.tmod k 9 ∧ ((decide ((i : Int) < t14)) = true →
        ∃ t19 : Int, t19 = IntKind.wrap .i64 (f * 10) ∧ ∃ t17 : Int, t17 = IntKind.wrap .i64 (i + 1) ∧ Inv t19 t17 wv_2 ∧ mu t19 t17 wv_2 < mu f i wv_2) ∧
      ((decide ((i : Int) < t14)) = false →
        ∀ (r_1 : Nat) (wv_3 : World), New wv_2 (.cells ⟨[(.int .i64 f)]⟩ 3 (0, 0)) r_1 wv_3 →
        ∃ (t23_p : Option Addr) (t23_n : Nat) (t23_c : Nat) (wv_4 : World), Appends P [22, 22] [(.slice (some ⟨r, 0, none⟩) t10.toNat t10.toNat), (.slice (some ⟨r_1, 0, none⟩) 1 1)] (.slice t23_p t23_n t23_c) wv_3 wv_4 ∧
        R (.slice t23_p t23_n t23_c) wv_4))
theorem spec_NatTen_eq (k : Int) (w : World) (R : Value → World → Prop) : spec_NatTen k w R = fsem P Tryz.f83 (fun k => cond (Nat.beq k 7) [(4, .one (.int .i64)), (5, .one (.int .i64))] ([])) [(.int .i64 k)] R w := by kernel_rfl
theorem spec_NatTen_ret {k : Int} {w : World} {R : Value → World → Prop} (h : spec_NatTen k w R) : Ret P 83 [(.int .i64 k)] w R :=
  Ret.of_fsem Tryz.func83 rfl (Eq.mp (spec_NatTen_eq k w R) h)
def spec_NatDiv (a_p : Option Addr) (a_n : Nat) (a_c : Nat) (b_p : Option Addr) (b_n : Nat) (b_c : Nat) (w : World) (R : Value → World → Prop) : Prop :=
  Calls P 67 ⟨[(.slice a_p a_n a_c)]⟩ w fun e wv =>
  ∃ (t7 : Bool), e = .returned (.bool t7) ∧
  ((!t7) = true →
    (true = true →
      (true = true →
        R (.tuple #[(.slice none 0 0), (.slice none 0 0)]) wv) ∧
      (true = false →
        Calls P 102 ⟨[(.slice a_p a_n a_c), (.slice b_p b_n b_c)]⟩ wv fun e_1 wv_1 =>
        ∃ (t21_p : Option Addr) (t21_n : Nat) (t21_c : Nat) (t21_p_1 : Option Addr) (t21_n_1 : Nat) (t21_c_1 : Nat), e_1 = .returned (.tuple #[(.slice t21_p t21_n t21_c), (.slice t21_p_1 t21_n_1 t21_c_1)]) ∧
        R (.tuple #[(.slice t21_p t21_n t21_c), (.slice t21_p_1 t21_n_1 t21_c_1)]) wv_1)) ∧
    (true = false →
      ((decide ((((b_n : Nat) : Int) : Int) = 0)) = true →
        R (.tuple #[(.slice none 0 0), (.slice none 0 0)]) wv) ∧
      ((decide ((((b_n : Nat) : Int) : Int) = 0)) = false →
        Calls P 102 ⟨[(.slice a_p a_n a_c), (.slice b_p b_n b_c)]⟩ wv fun e_2 wv_2 =>
        ∃ (t21_p_2 : Option Addr) (t21_n_2 : Nat) (t21_c_2 : Nat) (t21_p_3 : Option Addr) (t21_n_3 : Nat) (t21_c_3 : Nat), e_2 = .returned (.tuple #[(.slice t21_p_2 t21_n_2 t21_c_2), (.slice t21_p_3 t21_n_3 t21_c_3)]) ∧
        R (.tuple #[(.slice t21_p_2 t21_n_2 t21_c_2), (.slice t21_p_3 t21_n_3 t21_c_3)]) wv_2))) ∧
  ((!t7) = false →
    Calls P 67 ⟨[(.slice b_p b_n b_c)]⟩ wv fun e_3 wv_3 =>
    ∃ (t11 : Bool), e_3 = .returned (.bool t11) ∧
    ((!t11) = true →
      (true = true →
        R (.tuple #[(.slice none 0 0), (.slice none 0 0)]) wv_3) ∧
      (true = false →
        Calls P 102 ⟨[(.slice a_p a_n a_c), (.slice b_p b_n b_c)]⟩ wv_3 fun e_4 wv_4 =>
        ∃ (t21_p_4 : Option Addr) (t21_n_4 : Nat) (t21_c_4 : Nat) (t21_p_5 : Option Addr) (t21_n_5 : Nat) (t21_c_5 : Nat), e_4 = .returned (.tuple #[(.slice t21_p_4 t21_n_4 t21_c_4), (.slice t21_p_5 t21_n_5 t21_c_5)]) ∧
        R (.tuple #[(.slice t21_p_4 t21_n_4 t21_c_4), (.slice t21_p_5 t21_n_5 t21_c_5)]) wv_4)) ∧
    ((!t11) = false →
      ((decide ((((b_n : Nat) : Int) : Int) = 0)) = true →
        R (.tuple #[(.slice none 0 0), (.slice none 0 0)]) wv_3) ∧
      ((decide ((((b_n : Nat) : Int) : Int) = 0)) = false →
        Calls P 102 ⟨[(.slice a_p a_n a_c), (.slice b_p b_n b_c)]⟩ wv_3 fun e_5 wv_5 =>
        ∃ (t21_p_6 : Option Addr) (t21_n_6 : Nat) (t21_c_6 : Nat) (t21_p_7 : Option Addr) (t21_n_7 : Nat) (t21_c_7 : Nat), e_5 = .returned (.tuple #[(.slice t21_p_6 t21_n_6 t21_c_6), (.slice t21_p_7 t21_n_7 t21_c_7)]) ∧
        R (.tuple #[(.slice t21_p_6 t21_n_6 t21_c_6), (.slice t21_p_7 t21_n_7 t21_c_7)]) wv_5)))
theorem spec_NatDiv_eq (a_p : Option Addr) (a_n : Nat) (a_c : Nat) (b_p : Option Addr) (b_n : Nat) (b_c : Nat) (w : World) (R : Value → World → Prop) : spec_NatDiv a_p a_n a_c b_p b_n b_c w R = fsem P Tryz.f84 (fun k => []) [(.slice a_p a_n a_c), (.slice b_p b_n b_c)] R w := by kernel_rfl
theorem spec_NatDiv_ret {a_p : Option Addr} {a_n : Nat} {a_c : Nat} {b_p : Option Addr} {b_n : Nat} {b_c : Nat} {w : World} {R : Value → World → Prop} (h : spec_NatDiv a_p a_n a_c b_p b_n b_c w R) : Ret P 84 [(.slice a_p a_n a_c), (.slice b_p b_n b_c)] w R :=
  Ret.of_fsem Tryz.func84 rfl (Eq.mp (spec_NatDiv_eq a_p a_n a_c b_p b_n b_c w R) h)
def impl_NatOk_j0 (a_p : Option Addr) (a_n : Nat) (W : World) (R : Value → World → Prop) : Prop :=
  ∃ (Inv : Int → World → Prop) (mu : Int → World → Nat), Inv 0 W ∧
  ∀ (junk : Fr) (wv : World) (t24 : Int), Inv t24 wv →
    ((decide ((t24 : Int) < ((a_n : Nat) : Int))) = true →
      (0 ≤ (t24 : Int) ∧ (t24 : Int) < (a_n : Nat)) ∧ ptrS a_p fun ad => ∃ (t27 : Int), Loads P 3 (ad.add (t24.toNat * 1)) (.int .i64 t27) wv ∧ ((decide ((t27 : Int) < 0)) = true →
        (true = true →
          R (.bool false) wv) ∧
        (true = false →
          ∃ t34 : Int, t34 = IntKind.wrap .i64 (t24 + 1) ∧ Inv t34 wv ∧ mu t34 wv < mu t24 wv)) ∧
      ((decide ((t27 : Int) < 0)) = false →
        ((decide ((1000000000 : Int) ≤ t27)) = true →
          R (.bool false) wv) ∧
        ((decide ((1000000000 : Int) ≤ t27)) = false →
          ∃ t34_1 : Int, t34_1 = IntKind.wrap .i64 (t24 + 1) ∧ Inv t34_1 wv ∧ mu t34_1 wv < mu t24 wv))) ∧
    ((decide ((t24 : Int) < ((a_n : Nat) : Int))) = false →
      R (.bool true) wv)
def impl_NatOk (a_p : Option Addr) (a_n : Nat) (a_c : Nat) (w : World) (R : Value → World → Prop) : Prop :=
  ((decide ((50 : Int) < ((a_n : Nat) : Int))) = true →
    (true = true →
      R (.bool false) w) ∧
    (true = false →
      impl_NatOk_j0 a_p a_n w R)) ∧
  ((decide ((50 : Int) < ((a_n : Nat) : Int))) = false →
    ((decide ((0 : Int) < ((a_n : Nat) : Int))) = true →
      ∃ t16 : Int, t16 = IntKind.wrap .i64 (((a_n : Nat) : Int) - 1) ∧ (0 ≤ (t16 : Int) ∧ (t16 : Int) < (a_n : Nat)) ∧ ptrS a_p fun ad_1 => ∃ (t18 : Int), Loads P 3 (ad_1.add (t16.toNat * 1)) (.int .i64 t18) w ∧ ((decide ((t18 : Int) = 0)) = true →
        R (.bool false) w) ∧
      ((decide ((t18 : Int) = 0)) = false →
        impl_NatOk_j0 a_p a_n w R)) ∧
    ((decide ((0 : Int) < ((a_n : Nat) : Int))) = false →
      (false = true →
        R (.bool false) w) ∧
      (false = false →
        impl_NatOk_j0 a_p a_n w R)))
theorem impl_NatOk_eq (a_p : Option Addr) (a_n : Nat) (a_c : Nat) (w : World) (R : Value → World → Prop) : impl_NatOk a_p a_n a_c w R = fsem P Tryz.f85 (fun k => cond (Nat.beq k 5) [(24, .one (.int .i64))] ([])) [(.slice a_p a_n a_c)] R w := by kernel_rfl
theorem impl_NatOk_ret {a_p : Option Addr} {a_n : Nat} {a_c : Nat} {w : World} {R : Value → World → Prop} (h : impl_NatOk a_p a_n a_c w R) : Ret P 85 [(.slice a_p a_n a_c)] w R :=
  Ret.of_fsem Tryz.func85 rfl (Eq.mp (impl_NatOk_eq a_p a_n a_c w R) h)
def impl_scaled_1 (d0 : Bool) (d1_p : Option Addr) (d1_n : Nat) (d1_c : Nat) (d2 : Int) (cap0 : Option Addr) (w : World) (R : Value → World → Prop) : Prop :=
  ∀ (r : Nat) (wv : World), New w (.cells ⟨[(.bool d0), (.slice d1_p d1_n d1_c), (.int .i64 d2)]⟩ 31 (0, 0)) r wv →
  ∀ (r_1 : Nat) (wv_1 : World), New wv (.cells ⟨[(.bool false), (.slice none 0 0)]⟩ 29 (0, 0)) r_1 wv_1 →
  ∃ (t6 : Bool), (∀ wv_2, Ext wv_1.drew wv_2 → Loads P 4 (((⟨r, 0, none⟩ : Addr).add 0).add 0) (.bool t6) wv_2) ∧ ∃ (t9_p : Option Addr) (t9_n : Nat) (t9_c : Nat), (∀ wv_3, Ext wv_1.drew wv_3 → Loads P 22 (((⟨r, 0, none⟩ : Addr).add 0).add 1) (.slice t9_p t9_n t9_c) wv_3) ∧ ptrS cap0 fun ad => ∃ (t10 : Int), (∀ wv_4, Ext wv_1.drew wv_4 → Loads P 3 ad (.int .i64 t10) wv_4) ∧ ∃ (t12 : Int), (∀ wv_5, Ext wv_1.drew wv_5 → Loads P 3 ((⟨r, 0, none⟩ : Addr).add 2) (.int .i64 t12) wv_5) ∧ ∃ t13 : Int, t13 = IntKind.wrap .i64 (t10 - t12) ∧ Calls P 76 ⟨[(.int .i64 t13)]⟩ wv_1.drew fun e wv_6 =>
  ∃ (t14_p : Option Addr) (t14_n : Nat) (t14_c : Nat), e = .returned (.slice t14_p t14_n t14_c) ∧
  Ext wv_1.drew wv_6 ∧ Calls P 73 ⟨[(.slice t9_p t9_n t9_c), (.slice t14_p t14_n t14_c)]⟩ wv_6 fun e_1 wv_7 =>
  ∃ (t15_p : Option Addr) (t15_n : Nat) (t15_c : Nat), e_1 = .returned (.slice t15_p t15_n t15_c) ∧
  Ext wv_6 wv_7 ∧ Calls P 72 ⟨[(.bool t6), (.slice t15_p t15_n t15_c)]⟩ wv_7 fun e_2 wv_8 =>
  ∃ (t160 : Bool) (t161_p : Option Addr) (t161_n : Nat) (t161_c : Nat), e_2 = .returned (.agg #[(.bool t160), (.slice t161_p t161_n t161_c)]) ∧
  ∃ wv_9, Stores P 29 ⟨r_1, 0, none⟩ (.agg #[(.bool t160), (.slice t161_p t161_n t161_c)]) wv_8 wv_9 ∧
  ∃ (r0 : Bool) (r1_p : Option Addr) (r1_n : Nat) (r1_c : Nat), Loads P 29 ⟨r_1, 0, none⟩ (.agg #[(.bool r0), (.slice r1_p r1_n r1_c)]) wv_9 ∧ R (.agg #[(.bool r0), (.slice r1_p r1_n r1_c)]) wv_9
theorem impl_scaled_1_eq (d0 : Bool) (d1_p : Option Addr) (d1_n : Nat) (d1_c : Nat) (d2 : Int) (cap0 : Option Addr) (w : World) (R : Value → World → Prop) : impl_scaled_1 d0 d1_p d1_n d1_c d2 cap0 w R = fsem P Tryz.f86 (fun k => []) [(.agg #[(.bool d0), (.slice d1_p d1_n d1_c), (.int .i64 d2)]), (.pointer cap0)] R w := by kernel_rfl
theorem impl_scaled_1_ret {d0 : Bool} {d1_p : Option Addr} {d1_n : Nat} {d1_c : Nat} {d2 : Int} {cap0 : Option Addr} {w : World} {R : Value → World → Prop} (h : impl_scaled_1 d0 d1_p d1_n d1_c d2 cap0 w R) : Ret P 86 [(.agg #[(.bool d0), (.slice d1_p d1_n d1_c), (.int .i64 d2)]), (.pointer cap0)] w R :=
  Ret.of_fsem Tryz.func86 rfl (Eq.mp (impl_scaled_1_eq d0 d1_p d1_n d1_c d2 cap0 w R) h)
def impl_intSign (x0 : Bool) (x1_p : Option Addr) (x1_n : Nat) (x1_c : Nat) (w : World) (R : Value → World → Prop) : Prop :=
  ∀ (r : Nat) (wv : World), New w (.cells ⟨[(.bool x0), (.slice x1_p x1_n x1_c)]⟩ 29 (0, 0)) r wv →
  ∃ (t5_p : Option Addr) (t5_n : Nat) (t5_c : Nat), Loads P 22 ((⟨r, 0, none⟩ : Addr).add 1) (.slice t5_p t5_n t5_c) wv ∧ ((decide ((((t5_n : Nat) : Int) : Int) = 0)) = true →
    R (.int .i64 0) wv) ∧
  ((decide ((((t5_n : Nat) : Int) : Int) = 0)) = false →
    ∃ (t10 : Bool), Loads P 4 ((⟨r, 0, none⟩ : Addr).add 0) (.bool t10) wv ∧ (t10 = true →
      R (.int .i64 (-1)) wv) ∧
    (t10 = false →
      R (.int .i64 1) wv))
theorem impl_intSign_eq (x0 : Bool) (x1_p : Option Addr) (x1_n : Nat) (x1_c : Nat) (w : World) (R : Value → World → Prop) : impl_intSign x0 x1_p x1_n x1_c w R = fsem P Tryz.f87 (fun k => []) [(.agg #[(.bool x0), (.slice x1_p x1_n x1_c)])] R w := by kernel_rfl
theorem impl_intSign_ret {x0 : Bool} {x1_p : Option Addr} {x1_n : Nat} {x1_c : Nat} {w : World} {R : Value → World → Prop} (h : impl_intSign x0 x1_p x1_n x1_c w R) : Ret P 87 [(.agg #[(.bool x0), (.slice x1_p x1_n x1_c)])] w R :=
  Ret.of_fsem Tryz.func87 rfl (Eq.mp (impl_intSign_eq x0 x1_p x1_n x1_c w R) h)
def impl_intAdd_j0 (r : Nat) (r_1 : Nat) (r_2 : Nat) (W : World) (R : Value → World → Prop) : Prop :=
  ∃ (t27 : Bool), (∀ wv_12, Ext W.drew wv_12 → Loads P 4 ((⟨r, 0, none⟩ : Addr).add 0) (.bool t27) wv_12) ∧ ∃ (t29_p : Option Addr) (t29_n : Nat) (t29_c : Nat), (∀ wv_13, Ext W.drew wv_13 → Loads P 22 ((⟨r, 0, none⟩ : Addr).add 1) (.slice t29_p t29_n t29_c) wv_13) ∧ ∃ (t31_p : Option Addr) (t31_n : Nat) (t31_c : Nat), (∀ wv_14, Ext W.drew wv_14 → Loads P 22 ((⟨r_1, 0, none⟩ : Addr).add 1) (.slice t31_p t31_n t31_c) wv_14) ∧ Calls P 104 ⟨[(.slice t29_p t29_n t29_c), (.slice t31_p t31_n t31_c)]⟩ W.drew fun e_3 wv_15 =>
  ∃ (t32_p : Option Addr) (t32_n : Nat) (t32_c : Nat), e_3 = .returned (.slice t32_p t32_n t32_c) ∧
  Ext W.drew wv_15 ∧ Calls P 72 ⟨[(.bool t27), (.slice t32_p t32_n t32_c)]⟩ wv_15 fun e_4 wv_16 =>
  ∃ (t330 : Bool) (t331_p : Option Addr) (t331_n : Nat) (t331_c : Nat), e_4 = .returned (.agg #[(.bool t330), (.slice t331_p t331_n t331_c)]) ∧
  ∃ wv_17, Stores P 29 ⟨r_2, 0, none⟩ (.agg #[(.bool t330), (.slice t331_p t331_n t331_c)]) wv_16 wv_17 ∧
  ∃ (r0_1 : Bool) (r1_p_1 : Option Addr) (r1_n_1 : Nat) (r1_c_1 : Nat), Loads P 29 ⟨r_2, 0, none⟩ (.agg #[(.bool r0_1), (.slice r1_p_1 r1_n_1 r1_c_1)]) wv_17 ∧ R (.agg #[(.bool r0_1), (.slice r1_p_1 r1_n_1 r1_c_1)]) wv_17
def impl_intAdd (x0 : Bool) (x1_p : Option Addr) (x1_n : Nat) (x1_c : Nat) (y0 : Bool) (y1_p : Option Addr) (y1_n : Nat) (y1_c : Nat) (w : World) (R : Value → World → Prop) : Prop :=
  ∀ (r : Nat) (wv : World), New w (.cells ⟨[(.bool x0), (.slice x1_p x1_n x1_c)]⟩ 29 (0, 0)) r wv →
  ∀ (r_1 : Nat) (wv_1 : World), New wv (.cells ⟨[(.bool y0), (.slice y1_p y1_n y1_c)]⟩ 29 (0, 0)) r_1 wv_1 →
  ∀ (r_2 : Nat) (wv_2 : World), New wv_1 (.cells ⟨[(.bool false), (.slice none 0 0)]⟩ 29 (0, 0)) r_2 wv_2 →
  ∃ (t6 : Bool), Loads P 4 ((⟨r, 0, none⟩ : Addr).add 0) (.bool t6) wv_2 ∧ ∃ (t8 : Bool), Loads P 4 ((⟨r_1, 0, none⟩ : Addr).add 0) (.bool t8) wv_2 ∧ ((t6 == t8) = true →
    ∃ (t11 : Bool), (∀ wv_3, Ext wv_2.drew wv_3 → Loads P 4 ((⟨r, 0, none⟩ : Addr).add 0) (.bool t11) wv_3) ∧ ∃ (t13_p : Option Addr) (t13_n : Nat) (t13_c : Nat), (∀ wv_4, Ext wv_2.drew wv_4 → Loads P 22 ((⟨r, 0, none⟩ : Addr).add 1) (.slice t13_p t13_n t13_c) wv_4) ∧ ∃ (t15_p : Option Addr) (t15_n : Nat) (t15_c : Nat), (∀ wv_5, Ext wv_2.drew wv_5 → Loads P 22 ((⟨r_1, 0, none⟩ : Addr).add 1) (.slice t15_p t15_n t15_c) wv_5) ∧ Calls P 103 ⟨[(.slice t13_p t13_n t13_c), (.slice t15_p t15_n t15_c)]⟩ wv_2.drew fun e wv_6 =>
    ∃ (t16_p : Option Addr) (t16_n : Nat) (t16_c : Nat), e = .returned (.slice t16_p t16_n t16_c) ∧
    Ext wv_2.drew wv_6 ∧ Calls P 72 ⟨[(.bool t11), (.slice t16_p t16_n t16_c)]⟩ wv_6 fun e_1 wv_7 =>
    ∃ (t170 : Bool) (t171_p : Option Addr) (t171_n : Nat) (t171_c : Nat), e_1 = .returned (.agg #[(.bool t170), (.slice t171_p t171_n t171_c)]) ∧
    ∃ wv_8, Stores P 29 ⟨r_2, 0, none⟩ (.agg #[(.bool t170), (.slice t171_p t171_n t171_c)]) wv_7 wv_8 ∧
    ∃ (r0 : Bool) (r1_p : Option Addr) (r1_n : Nat) (r1_c : Nat), Loads P 29 ⟨r_2, 0, none⟩ (.agg #[(.bool r0), (.slice r1_p r1_n r1_c)]) wv_8 ∧ R (.agg #[(.bool r0), (.slice r1_p r1_n r1_c)]) wv_8) ∧
  ((t6 == t8) = false →
    ∃ (t19_p : Option Addr) (t19_n : Nat) (t19_c : Nat), Loads P 22 ((⟨r, 0, none⟩ : Addr).add 1) (.slice t19_p t19_n t19_c) wv_2 ∧ ∃ (t21_p : Option Addr) (t21_n : Nat) (t21_c : Nat), Loads P 22 ((⟨r_1, 0, none⟩ : Addr).add 1) (.slice t21_p t21_n t21_c) wv_2 ∧ Calls P 94 ⟨[(.slice t19_p t19_n t19_c), (.slice t21_p t21_n t21_c)]⟩ wv_2 fun e_2 wv_9 =>
    ∃ (t22 : Int), e_2 = .returned (.int .i64 t22) ∧
    ((decide ((t22 : Int) < 0)) = true →
      ∃ (t240 : Bool) (t241_p : Option Addr) (t241_n : Nat) (t241_c : Nat), Loads P 29 ⟨r_1, 0, none⟩ (.agg #[(.bool t240), (.slice t241_p t241_n t241_c)]) wv_9 ∧ ∃ (t250 : Bool) (t251_p : Option Addr) (t251_n : Nat) (t251_c : Nat), Loads P 29 ⟨r, 0, none⟩ (.agg #[(.bool t250), (.slice t251_p t251_n t251_c)]) wv_9 ∧ ∃ wv_10, Stores P 29 ⟨r, 0, none⟩ (.agg #[(.bool t240), (.slice t241_p t241_n t241_c)]) wv_9 wv_10 ∧
      ∃ wv_11, Stores P 29 ⟨r_1, 0, none⟩ (.agg #[(.bool t250), (.slice t251_p t251_n t251_c)]) wv_10 wv_11 ∧
      impl_intAdd_j0 r r_1 r_2 wv_11 R) ∧
    ((decide ((t22 : Int) < 0)) = false →
      impl_intAdd_j0 r r_1 r_2 wv_9 R))
theorem impl_intAdd_eq (x0 : Bool) (x1_p : Option Addr) (x1_n : Nat) (x1_c : Nat) (y0 : Bool) (y1_p : Option Addr) (y1_n : Nat) (y1_c : Nat) (w : World) (R : Value → World → Prop) : impl_intAdd x0 x1_p x1_n x1_c y0 y1_p y1_n y1_c w R = fsem P Tryz.f88 (fun k => []) [(.agg #[(.bool x0), (.slice x1_p x1_n x1_c)]), (.agg #[(.bool y0), (.slice y1_p y1_n y1_c)])] R w := by kernel_rfl
theorem impl_intAdd_ret {x0 : Bool} {x1_p : Option Addr} {x1_n : Nat} {x1_c : Nat} {y0 : Bool} {y1_p : Option Addr} {y1_n : Nat} {y1_c : Nat} {w : World} {R : Value → World → Prop} (h : impl_intAdd x0 x1_p x1_n x1_c y0 y1_p y1_n y1_c w R) : Ret P 88 [(.agg #[(.bool x0), (.slice x1_p x1_n x1_c)]), (.agg #[(.bool y0), (.slice y1_p y1_n y1_c)])] w R :=
  Ret.of_fsem Tryz.func88 rfl (Eq.mp (impl_intAdd_eq x0 x1_p x1_n x1_c y0 y1_p y1_n y1_c w R) h)
def impl_intNeg (x0 : Bool) (x1_p : Option Addr) (x1_n : Nat) (x1_c : Nat) (w : World) (R : Value → World → Prop) : Prop :=
  ∀ (r : Nat) (wv : World), New w (.cells ⟨[(.bool x0), (.slice x1_p x1_n x1_c)]⟩ 29 (0, 0)) r wv →
  ∀ (r_1 : Nat) (wv_1 : World), New wv (.cells ⟨[(.bool false), (.slice none 0 0)]⟩ 29 (0, 0)) r_1 wv_1 →
  ∃ (t4 : Bool), (∀ wv_2, Ext wv_1.drew wv_2 → Loads P 4 ((⟨r, 0, none⟩ : Addr).add 0) (.bool t4) wv_2) ∧ ∃ (t7_p : Option Addr) (t7_n : Nat) (t7_c : Nat), (∀ wv_3, Ext wv_1.drew wv_3 → Loads P 22 ((⟨r, 0, none⟩ : Addr).add 1) (.slice t7_p t7_n t7_c) wv_3) ∧ Calls P 95 ⟨[(.slice t7_p t7_n t7_c)]⟩ wv_1.drew fun e wv_4 =>
  ∃ (t8_p : Option Addr) (t8_n : Nat) (t8_c : Nat), e = .returned (.slice t8_p t8_n t8_c) ∧
  Ext wv_1.drew wv_4 ∧ Calls P 72 ⟨[(.bool (!t4)), (.slice t8_p t8_n t8_c)]⟩ wv_4 fun e_1 wv_5 =>
  ∃ (t90 : Bool) (t91_p : Option Addr) (t91_n : Nat) (t91_c : Nat), e_1 = .returned (.agg #[(.bool t90), (.slice t91_p t91_n t91_c)]) ∧
  ∃ wv_6, Stores P 29 ⟨r_1, 0, none⟩ (.agg #[(.bool t90), (.slice t91_p t91_n t91_c)]) wv_5 wv_6 ∧
  ∃ (r0 : Bool) (r1_p : Option Addr) (r1_n : Nat) (r1_c : Nat), Loads P 29 ⟨r_1, 0, none⟩ (.agg #[(.bool r0), (.slice r1_p r1_n r1_c)]) wv_6 ∧ R (.agg #[(.bool r0), (.slice r1_p r1_n r1_c)]) wv_6
theorem impl_intNeg_eq (x0 : Bool) (x1_p : Option Addr) (x1_n : Nat) (x1_c : Nat) (w : World) (R : Value → World → Prop) : impl_intNeg x0 x1_p x1_n x1_c w R = fsem P Tryz.f89 (fun k => []) [(.agg #[(.bool x0), (.slice x1_p x1_n x1_c)])] R w := by kernel_rfl
theorem impl_intNeg_ret {x0 : Bool} {x1_p : Option Addr} {x1_n : Nat} {x1_c : Nat} {w : World} {R : Value → World → Prop} (h : impl_intNeg x0 x1_p x1_n x1_c w R) : Ret P 89 [(.agg #[(.bool x0), (.slice x1_p x1_n x1_c)])] w R :=
  Ret.of_fsem Tryz.func89 rfl (Eq.mp (impl_intNeg_eq x0 x1_p x1_n x1_c w R) h)
def impl_trim (a_p : Option Addr) (a_n : Nat) (a_c : Nat) (w : World) (R : Value → World → Prop) : Prop :=
  ∃ (Inv : Option Addr → Nat → Nat → World → Prop) (mu : Option Addr → Nat → Nat → World → Nat), Inv a_p a_n a_c w ∧
  ∀ (junk : Fr) (wv : World) (a_p_1 : Option Addr) (a_n_1 : Nat) (a_c_1 : Nat), Inv a_p_1 a_n_1 a_c_1 wv →
    ((decide ((0 : Int) < ((a_n_1 : Nat) : Int))) = true →
      ∃ t10 : Int, t10 = IntKind.wrap .i64 (((a_n_1 : Nat) : Int) - 1) ∧ (0 ≤ (t10 : Int) ∧ (t10 : Int) < (a_n_1 : Nat)) ∧ ptrS a_p_1 fun ad => ∃ (t12 : Int), Loads P 3 (ad.add (t10.toNat * 1)) (.int .i64 t12) wv ∧ ((decide ((t12 : Int) = 0)) = true →
        ∃ t18 : Int, t18 = IntKind.wrap .i64 (((a_n_1 : Nat) : Int) - 1) ∧ (0 ≤ (t18 : Int) ∧ (t18 : Int) ≤ (a_c_1 : Nat)) ∧ Inv (sub a_p_1 0 a_c_1 1) (t18.toNat - 0) (a_c_1 - 0) wv ∧ mu (sub a_p_1 0 a_c_1 1) (t18.toNat - 0) (a_c_1 - 0) wv < mu a_p_1 a_n_1 a_c_1 wv) ∧
      ((decide ((t12 : Int) = 0)) = false →
        R (.slice a_p_1 a_n_1 a_c_1) wv)) ∧
    ((decide ((0 : Int) < ((a_n_1 : Nat) : Int))) = false →
      (false = true →
        ∃ t18_1 : Int, t18_1 = IntKind.wrap .i64 (((a_n_1 : Nat) : Int) - 1) ∧ (0 ≤ (t18_1 : Int) ∧ (t18_1 : Int) ≤ (a_c_1 : Nat)) ∧ Inv (sub a_p_1 0 a_c_1 1) (t18_1.toNat - 0) (a_c_1 - 0) wv ∧ mu (sub a_p_1 0 a_c_1 1) (t18_1.toNat - 0) (a_c_1 - 0) wv < mu a_p_1 a_n_1 a_c_1 wv) ∧
      (false = false →
        R (.slice a_p_1 a_n_1 a_c_1) wv))
theorem impl_trim_eq (a_p : Option Addr) (a_n : Nat) (a_c : Nat) (w : World) (R : Value → World → Prop) : impl_trim a_p a_n a_c w R = fsem P Tryz.f90 (fun k => cond (Nat.beq k 2) [(0, .one .slice)] ([])) [(.slice a_p a_n a_c)] R w := by kernel_rfl
theorem impl_trim_ret {a_p : Option Addr} {a_n : Nat} {a_c : Nat} {w : World} {R : Value → World → Prop} (h : impl_trim a_p a_n a_c w R) : Ret P 90 [(.slice a_p a_n a_c)] w R :=
  Ret.of_fsem Tryz.func90 rfl (Eq.mp (impl_trim_eq a_p a_n a_c w R) h)
def impl_natCmp (a_p : Option Addr) (a_n : Nat) (a_c : Nat) (b_p : Option Addr) (b_n : Nat) (b_c : Nat) (w : World) (R : Value → World → Prop) : Prop :=
  ((decide ((((a_n : Nat) : Int) : Int) ≠ ((b_n : Nat) : Int))) = true →
    ((decide ((((a_n : Nat) : Int) : Int) < ((b_n : Nat) : Int))) = true →
      R (.int .i64 (-1)) w) ∧
    ((decide ((((a_n : Nat) : Int) : Int) < ((b_n : Nat) : Int))) = false →
      R (.int .i64 1) w)) ∧
  ((decide ((((a_n : Nat) : Int) : Int) ≠ ((b_n : Nat) : Int))) = false →
    ∃ t18 : Int, t18 = IntKind.wrap .i64 (((a_n : Nat) : Int) - 1) ∧ ∃ (Inv : Int → World → Prop) (mu : Int → World → Nat), Inv t18 w ∧
    ∀ (junk : Fr) (wv : World) (i : Int), Inv i wv →
      ((decide ((0 : Int) ≤ i)) = true →
        (0 ≤ (i : Int) ∧ (i : Int) < (a_n : Nat)) ∧ ptrS a_p fun ad => ∃ (t26 : Int), (∀ wv_1, Ext wv.drew wv_1 → Loads P 3 (ad.add (i.toNat * 1)) (.int .i64 t26) wv_1) ∧ (0 ≤ (i : Int) ∧ (i : Int) < (b_n : Nat)) ∧ ptrS b_p fun ad_1 => ∃ (t30 : Int), (∀ wv_2, Ext wv.drew wv_2 → Loads P 3 (ad_1.add (i.toNat * 1)) (.int .i64 t30) wv_2) ∧ ((decide ((t26 : Int) ≠ t30)) = true →
          (0 ≤ (i : Int) ∧ (i : Int) < (a_n : Nat)) ∧ ptrS a_p fun ad_2 => ∃ (t35 : Int), (∀ wv_3, Ext wv.drew.drew wv_3 → Loads P 3 (ad_2.add (i.toNat * 1)) (.int .i64 t35) wv_3) ∧ (0 ≤ (i : Int) ∧ (i : Int) < (b_n : Nat)) ∧ ptrS b_p fun ad_3 => ∃ (t39 : Int), (∀ wv_4, Ext wv.drew.drew wv_4 → Loads P 3 (ad_3.add (i.toNat * 1)) (.int .i64 t39) wv_4) ∧ ((decide ((t35 : Int) < t39)) = true →
            R (.int .i64 (-1)) wv.drew.drew) ∧
          ((decide ((t35 : Int) < t39)) = false →
            R (.int .i64 1) wv.drew.drew)) ∧
        ((decide ((t26 : Int) ≠ t30)) = false →
          ∃ t22 : Int, t22 = IntKind.wrap .i64 (i - 1) ∧ Inv t22 wv.drew ∧ mu t22 wv.drew < mu i wv)) ∧
      ((decide ((0 : Int) ≤ i)) = false →
        R (.int .i64 0) wv))
theorem impl_natCmp_eq (a_p : Option Addr) (a_n : Nat) (a_c : Nat) (b_p : Option Addr) (b_n : Nat) (b_c : Nat) (w : World) (R : Value → World → Prop) : impl_natCmp a_p a_n a_c b_p b_n b_c w R = fsem P Tryz.f94 (fun k => cond (Nat.beq k 7) [(5, .one (.int .i64))] ([])) [(.slice a_p a_n a_c), (.slice b_p b_n b_c)] R w := by kernel_rfl
theorem impl_natCmp_ret {a_p : Option Addr} {a_n : Nat} {a_c : Nat} {b_p : Option Addr} {b_n : Nat} {b_c : Nat} {w : World} {R : Value → World → Prop} (h : impl_natCmp a_p a_n a_c b_p b_n b_c w R) : Ret P 94 [(.slice a_p a_n a_c), (.slice b_p b_n b_c)] w R :=
  Ret.of_fsem Tryz.func94 rfl (Eq.mp (impl_natCmp_eq a_p a_n a_c b_p b_n b_c w R) h)
def impl_natCopy (a_p : Option Addr) (a_n : Nat) (a_c : Nat) (w : World) (R : Value → World → Prop) : Prop :=
  ∀ (r : Nat) (wv : World), New w (.cells ⟨[]⟩ 3 (0, 0)) r wv →
  ∃ (t5_p : Option Addr) (t5_n : Nat) (t5_c : Nat) (wv_1 : World), Appends P [22, 22] [(.slice (some ⟨r, 0, none⟩) 0 0), (.slice a_p a_n a_c)] (.slice t5_p t5_n t5_c) wv wv_1 ∧
  R (.slice t5_p t5_n t5_c) wv_1
theorem impl_natCopy_eq (a_p : Option Addr) (a_n : Nat) (a_c : Nat) (w : World) (R : Value → World → Prop) : impl_natCopy a_p a_n a_c w R = fsem P Tryz.f95 (fun k => []) [(.slice a_p a_n a_c)] R w := by kernel_rfl
theorem impl_natCopy_ret {a_p : Option Addr} {a_n : Nat} {a_c : Nat} {w : World} {R : Value → World → Prop} (h : impl_natCopy a_p a_n a_c w R) : Ret P 95 [(.slice a_p a_n a_c)] w R :=
  Ret.of_fsem Tryz.func95 rfl (Eq.mp (impl_natCopy_eq a_p a_n a_c w R) h)
def impl_natSmall (a_p : Option Addr) (a_n : Nat) (a_c : Nat) (d : Int) (w : World) (R : Value → World → Prop) : Prop :=
  (0 ≤ (((a_n : Nat) : Int) : Int) ∧ (((a_n : Nat) : Int) : Int) ≤ ((a_n : Nat) : Int) ∧ ((8 : Nat) : Int) * ((a_n : Nat) : Int) ≤ 281474976710656) ∧
  ∀ (r : Nat) (wv : World), New w (.cells ⟨zeroRow (.int .i64 0) (a_n * 1)⟩ 3 (0, 0)) r wv →
  ∃ t14 : Int, t14 = IntKind.wrap .i64 (((a_n : Nat) : Int) - 1) ∧ ∃ (Inv : Int → Int → World → Prop) (mu : Int → Int → World → Nat), Inv 0 t14 wv ∧
  ∀ (junk : Fr) (wv_1 : World) (rest : Int) (i : Int), Inv rest i wv_1 →
    ((decide ((0 : Int) ≤ i)) = true →
      ∃ t20 : Int, t20 = IntKind.wrap .i64 (rest * 1000000000) ∧ (0 ≤ (i : Int) ∧ (i : Int) < (a_n : Nat)) ∧ ptrS a_p fun ad => ∃ (t24 : Int), Loads P 3 (ad.add (i.toNat * 1)) (.int .i64 t24) wv_1 ∧ ∃ t25 : Int, t25 = IntKind.wrap .i64 (t20 + t24) ∧ (d : Int) ≠ 0 ∧ ∃ t30 : Int, t30 = IntKind.wrap .i64 (Int.tdiv t25 d) ∧ (0 ≤ (i : Int) ∧ (i : Int) < (a_n : Nat)) ∧ ∃ wv_2, Stores P 3 ((⟨r, 0, none⟩ : Addr).add (i.toNat * 1)) (.int .i64 t30) wv_1 wv_2 ∧
      (d : Int) ≠ 0 ∧ ∃ t34 : Int, t34 = Int.tmod t25 d ∧ ∃ t18 : Int, t18 = IntKind.wrap .i64 (i - 1) ∧ Inv t34 t18 wv_2 ∧ mu t34 t18 wv_2 < mu rest i wv_1) ∧
    ((decide ((0 : Int) ≤ i)) = false →
      Calls P 90 ⟨[(.slice (some ⟨r, 0, none⟩) a_n a_n)]⟩ wv_1 fun e wv_3 =>
      ∃ (t36_p : Option Addr) (t36_n : Nat) (t36_c : Nat), e = .returned (.slice t36_p t36_n t36_c) ∧
      R (.tuple #[(.slice t36_p t36_n t36_c), (.int .i64 rest)]) wv_3)
theorem impl_natSmall_eq (a_p : Option Addr) (a_n : Nat) (a_c : Nat) (d : Int) (w : World) (R : Value → World → Prop) : impl_natSmall a_p a_n a_c d w R = fsem P Tryz.f96 (fun k => cond (Nat.beq k 5) [(7, .one (.int .i64)), (8, .one (.int .i64))] ([])) [(.slice a_p a_n a_c), (.int .i64 d)] R w := by kernel_rfl
theorem impl_natSmall_ret {a_p : Option Addr} {a_n : Nat} {a_c : Nat} {d : Int} {w : World} {R : Value → World → Prop} (h : impl_natSmall a_p a_n a_c d w R) : Ret P 96 [(.slice a_p a_n a_c), (.int .i64 d)] w R :=
  Ret.of_fsem Tryz.func96 rfl (Eq.mp (impl_natSmall_eq a_p a_n a_c d w R) h)
def impl_NatOf (n : Int) (w : World) (R : Value → World → Prop) : Prop :=
  ((decide ((n : Int) < 0)) = true →
    R (.slice none 0 0) w) ∧
  ((decide ((n : Int) < 0)) = false →
    ∃ t6 : Int, t6 = IntKind.wrap .u64 n ∧ Calls P 52 ⟨[(.int .u64 t6)]⟩ w fun e wv =>
    ∃ (t7_p : Option Addr) (t7_n : Nat) (t7_c : Nat), e = .returned (.slice t7_p t7_n t7_c) ∧
    R (.slice t7_p t7_n t7_c) wv)
theorem impl_NatOf_eq (n : Int) (w : World) (R : Value → World → Prop) : impl_NatOf n w R = fsem P Tryz.f97 (fun k => []) [(.int .i64 n)] R w := by kernel_rfl
theorem impl_NatOf_ret {n : Int} {w : World} {R : Value → World → Prop} (h : impl_NatOf n w R) : Ret P 97 [(.int .i64 n)] w R :=
  Ret.of_fsem Tryz.func97 rfl (Eq.mp (impl_NatOf_eq n w R) h)
def impl_divStep_j0 (q_1 : Int) (W : World) (R : Value → World → Prop) : Prop :=
  R (.int .i64 q_1) W
def impl_divStep_j1 (q_2 : Int) (W_1 : World) (R : Value → World → Prop) : Prop :=
  R (.int .i64 q_2) W_1
def impl_divStep_j2 (q_3 : Int) (W_2 : World) (R : Value → World → Prop) : Prop :=
  R (.int .i64 q_3) W_2
def impl_divStep_j3 (q_4 : Int) (W_3 : World) (R : Value → World → Prop) : Prop :=
  R (.int .i64 q_4) W_3
def impl_divStep (u_p : Option Addr) (u_n : Nat) (u_c : Nat) (v_p : Option Addr) (v_n : Nat) (v_c : Nat) (w : World) (R : Value → World → Prop) : Prop :=
  (0 ≤ (((v_n : Nat) : Int) : Int) ∧ (((v_n : Nat) : Int) : Int) < (u_n : Nat)) ∧ ptrS u_p fun ad => ∃ (t13 : Int), (∀ wv, Ext w.drew wv → Loads P 3 (ad.add (v_n * 1)) (.int .i64 t13) wv) ∧ ∃ t14 : Int, t14 = IntKind.wrap .i64 (t13 * 1000000000) ∧ ∃ t17 : Int, t17 = IntKind.wrap .i64 (((v_n : Nat) : Int) - 1) ∧ (0 ≤ (t17 : Int) ∧ (t17 : Int) < (u_n : Nat)) ∧ ptrS u_p fun ad_1 => ∃ (t19 : Int), (∀ wv_1, Ext w.drew wv_1 → Loads P 3 (ad_1.add (t17.toNat * 1)) (.int .i64 t19) wv_1) ∧ ∃ t20 : Int, t20 = IntKind.wrap .i64 (t14 + t19) ∧ ∃ t24 : Int, t24 = IntKind.wrap .i64 (((v_n : Nat) : Int) - 1) ∧ (0 ≤ (t24 : Int) ∧ (t24 : Int) < (v_n : Nat)) ∧ ptrS v_p fun ad_2 => ∃ (t26 : Int), Loads P 3 (ad_2.add (t24.toNat * 1)) (.int .i64 t26) w.drew ∧ (t26 : Int) ≠ 0 ∧ ∃ t27 : Int, t27 = IntKind.wrap .i64 (Int.tdiv t20 t26) ∧ ∃ t28 : Int, t28 = (if 999999999 < t27 then 999999999 else t27) ∧ ∃ (Inv : Int → World → Prop) (mu : Int → World → Nat), Inv t28 w.drew ∧
  ∀ (junk : Fr) (wv_2 : World) (q : Int), Inv q wv_2 →
    ((decide ((0 : Int) < q)) = true →
      ∃ t36 : Int, t36 = IntKind.wrap .i64 (((v_n : Nat) : Int) - 1) ∧ (0 ≤ (t36 : Int) ∧ (t36 : Int) < (v_n : Nat)) ∧ ptrS v_p fun ad_3 => ∃ (t38 : Int), (∀ wv_3, Ext wv_2.drew wv_3 → Loads P 3 (ad_3.add (t36.toNat * 1)) (.int .i64 t38) wv_3) ∧ ∃ t39 : Int, t39 = IntKind.wrap .i64 (q * t38) ∧ ∃ t40 : Int, t40 = IntKind.wrap .i64 (t20 - t39) ∧ ((decide ((t40 : Int) < 1000000000)) = true →
        ∃ t47 : Int, t47 = IntKind.wrap .i64 (((v_n : Nat) : Int) - 2) ∧ (0 ≤ (t47 : Int) ∧ (t47 : Int) < (v_n : Nat)) ∧ ptrS v_p fun ad_4 => ∃ (t49 : Int), (∀ wv_4, Ext wv_2.drew wv_4 → Loads P 3 (ad_4.add (t47.toNat * 1)) (.int .i64 t49) wv_4) ∧ ∃ t50 : Int, t50 = IntKind.wrap .i64 (q * t49) ∧ ∃ t55 : Int, t55 = IntKind.wrap .i64 (((v_n : Nat) : Int) - 1) ∧ (0 ≤ (t55 : Int) ∧ (t55 : Int) < (v_n : Nat)) ∧ ptrS v_p fun ad_5 => ∃ (t57 : Int), (∀ wv_5, Ext wv_2.drew wv_5 → Loads P 3 (ad_5.add (t55.toNat * 1)) (.int .i64 t57) wv_5) ∧ ∃ t58 : Int, t58 = IntKind.wrap .i64 (q * t57) ∧ ∃ t59 : Int, t59 = IntKind.wrap .i64 (t20 - t58) ∧ ∃ t60 : Int, t60 = IntKind.wrap .i64 (t59 * 1000000000) ∧ ∃ t63 : Int, t63 = IntKind.wrap .i64 (((v_n : Nat) : Int) - 2) ∧ (0 ≤ (t63 : Int) ∧ (t63 : Int) < (u_n : Nat)) ∧ ptrS u_p fun ad_6 => ∃ (t65 : Int), (∀ wv_6, Ext wv_2.drew wv_6 → Loads P 3 (ad_6.add (t63.toNat * 1)) (.int .i64 t65) wv_6) ∧ ∃ t66 : Int, t66 = IntKind.wrap .i64 (t60 + t65) ∧ ((decide ((t66 : Int) < t50)) = true →
          ∃ t70 : Int, t70 = IntKind.wrap .i64 (q - 1) ∧ Inv t70 wv_2.drew ∧ mu t70 wv_2.drew < mu q wv_2) ∧
        ((decide ((t66 : Int) < t50)) = false →
          Calls P 108 ⟨[(.slice u_p u_n u_c), (.slice v_p v_n v_c), (.int .i64 q)]⟩ wv_2.drew fun e wv_7 =>
          ∃ (t74 : Bool), e = .returned (.bool t74) ∧
          (t74 = true →
            ∃ t76 : Int, t76 = IntKind.wrap .i64 (q - 1) ∧ Calls P 109 ⟨[(.slice u_p u_n u_c), (.slice v_p v_n v_c)]⟩ wv_7 fun e_1 wv_8 =>
            e_1 = .returned (.tuple #[]) ∧
            impl_divStep_j0 t76 wv_8 R) ∧
          (t74 = false →
            impl_divStep_j0 q wv_7 R))) ∧
      ((decide ((t40 : Int) < 1000000000)) = false →
        (false = true →
          ∃ t70_1 : Int, t70_1 = IntKind.wrap .i64 (q - 1) ∧ Inv t70_1 wv_2.drew ∧ mu t70_1 wv_2.drew < mu q wv_2) ∧
        (false = false →
          Calls P 108 ⟨[(.slice u_p u_n u_c), (.slice v_p v_n v_c), (.int .i64 q)]⟩ wv_2.drew fun e_2 wv_9 =>
          ∃ (t74_1 : Bool), e_2 = .returned (.bool t74_1) ∧
          (t74_1 = true →
            ∃ t76_1 : Int, t76_1 = IntKind.wrap .i64 (q - 1) ∧ Calls P 109 ⟨[(.slice u_p u_n u_c), (.slice v_p v_n v_c)]⟩ wv_9 fun e_3 wv_10 =>
            e_3 = .returned (.tuple #[]) ∧
            impl_divStep_j1 t76_1 wv_10 R) ∧
          (t74_1 = false →
            impl_divStep_j1 q wv_9 R)))) ∧
    ((decide ((0 : Int) < q)) = false →
      (false = true →
        ∃ t47_1 : Int, t47_1 = IntKind.wrap .i64 (((v_n : Nat) : Int) - 2) ∧ (0 ≤ (t47_1 : Int) ∧ (t47_1 : Int) < (v_n : Nat)) ∧ ptrS v_p fun ad_7 => ∃ (t49_1 : Int), (∀ wv_11, Ext wv_2.drew wv_11 → Loads P 3 (ad_7.add (t47_1.toNat * 1)) (.int .i64 t49_1) wv_11) ∧ ∃ t50_1 : Int, t50_1 = IntKind.wrap .i64 (q * t49_1) ∧ ∃ t55_1 : Int, t55_1 = IntKind.wrap .i64 (((v_n : Nat) : Int) - 1) ∧ (0 ≤ (t55_1 : Int) ∧ (t55_1 : Int) < (v_n : Nat)) ∧ ptrS v_p fun ad_8 => ∃ (t57_1 : Int), (∀ wv_12, Ext wv_2.drew wv_12 → Loads P 3 (ad_8.add (t55_1.toNat * 1)) (.int .i64 t57_1) wv_12) ∧ ∃ t58_1 : Int, t58_1 = IntKind.wrap .i64 (q * t57_1) ∧ ∃ t59_1 : Int, t59_1 = IntKind.wrap .i64 (t20 - t58_1) ∧ ∃ t60_1 : Int, t60_1 = IntKind.wrap .i64 (t59_1 * 1000000000) ∧ ∃ t63_1 : Int, t63_1 = IntKind.wrap .i64 (((v_n : Nat) : Int) - 2) ∧ (0 ≤ (t63_1 : Int) ∧ (t63_1 : Int) < (u_n : Nat)) ∧ ptrS u_p fun ad_9 => ∃ (t65_1 : Int), (∀ wv_13, Ext wv_2.drew wv_13 → Loads P 3 (ad_9.add (t63_1.toNat * 1)) (.int .i64 t65_1) wv_13) ∧ ∃ t66_1 : Int, t66_1 = IntKind.wrap .i64 (t60_1 + t65_1) ∧ ((decide ((t66_1 : Int) < t50_1)) = true →
          ∃ t70_2 : Int, t70_2 = IntKind.wrap .i64 (q - 1) ∧ Inv t70_2 wv_2.drew ∧ mu t70_2 wv_2.drew < mu q wv_2) ∧
        ((decide ((t66_1 : Int) < t50_1)) = false →
          Calls P 108 ⟨[(.slice u_p u_n u_c), (.slice v_p v_n v_c), (.int .i64 q)]⟩ wv_2.drew fun e_4 wv_14 =>
          ∃ (t74_2 : Bool), e_4 = .returned (.bool t74_2) ∧
          (t74_2 = true →
            ∃ t76_2 : Int, t76_2 = IntKind.wrap .i64 (q - 1) ∧ Calls P 109 ⟨[(.slice u_p u_n u_c), (.slice v_p v_n v_c)]⟩ wv_14 fun e_5 wv_15 =>
            e_5 = .returned (.tuple #[]) ∧
            impl_divStep_j2 t76_2 wv_15 R) ∧
          (t74_2 = false →
            impl_divStep_j2 q wv_14 R))) ∧
      (false = false →
        (false = true →
          ∃ t70_3 : Int, t70_3 = IntKind.wrap .i64 (q - 1) ∧ Inv t70_3 wv_2.drew ∧ mu t70_3 wv_2.drew < mu q wv_2) ∧
        (false = false →
          Calls P 108 ⟨[(.slice u_p u_n u_c), (.slice v_p v_n v_c), (.int .i64 q)]⟩ wv_2.drew fun e_6 wv_16 =>
          ∃ (t74_3 : Bool), e_6 = .returned (.bool t74_3) ∧
          (t74_3 = true →
            ∃ t76_3 : Int, t76_3 = IntKind.wrap .i64 (q - 1) ∧ Calls P 109 ⟨[(.slice u_p u_n u_c), (.slice v_p v_n v_c)]⟩ wv_16 fun e_7 wv_17 =>
            e_7 = .returned (.tuple #[]) ∧
            impl_divStep_j3 t76_3 wv_17 R) ∧
          (t74_3 = false →
            impl_divStep_j3 q wv_16 R))))
theorem impl_divStep_eq (u_p : Option Addr) (u_n : Nat) (u_c : Nat) (v_p : Option Addr) (v_n : Nat) (v_c : Nat) (w : World) (R : Value → World → Prop) : impl_divStep u_p u_n u_c v_p v_n v_c w R = fsem P Tryz.f98 (fun k => cond (Nat.beq k 5) [(7, .one (.int .i64))] ([])) [(.slice u_p u_n u_c), (.slice v_p v_n v_c)] R w := by kernel_rfl
theorem impl_divStep_ret {u_p : Option Addr} {u_n : Nat} {u_c : Nat} {v_p : Option Addr} {v_n : Nat} {v_c : Nat} {w : World} {R : Value → World → Prop} (h : impl_divStep u_p u_n u_c v_p v_n v_c w R) : Ret P 98 [(.slice u_p u_n u_c), (.slice v_p v_n v_c)] w R :=
  Ret.of_fsem Tryz.func98 rfl (Eq.mp (impl_divStep_eq u_p u_n u_c v_p v_n v_c w R) h)
end Go.Proofs.YtpaekkcgphljoaaGreatDoor

namespace Go.Proofs.YtpaekkcgphljoaaGreatDoor
open Go Go.Proofs.YtpaekkcgphljoaaGreatDoor.Sx
set_option linter.unusedVariables false
set_option maxRecDepth 100000
def spec_l03Div_j0 (wv_4 : World) (Inv : Option Addr → Nat → Nat → Int → World → Prop) (mu : Option Addr → Nat → Nat → Int → World → Nat) (rest_p : Option Addr) (rest_n : Nat) (rest_c : Nat) (i : Int) (rest_p_1 : Option Addr) (rest_n_1 : Nat) (rest_c_1 : Nat) (W : World) (R : Value → World → Prop) : Prop :=
  ∃ t36 : Int, t36 = IntKind.wrap .i64 (i - 1) ∧ Inv rest_p_1 rest_n_1 rest_c_1 t36 W ∧ mu rest_p_1 rest_n_1 rest_c_1 t36 W < mu rest_p rest_n rest_c i wv_4
def spec_l03Div (a_p : Option Addr) (a_n : Nat) (a_c : Nat) (b_p : Option Addr) (b_n : Nat) (b_c : Nat) (w : World) (R : Value → World → Prop) : Prop :=
  ((decide ((((b_n : Nat) : Int) : Int) = 1)) = true →
    (0 ≤ (0 : Int) ∧ (0 : Int) < (b_n : Nat)) ∧ ptrS b_p fun ad => ∃ (t19 : Int), Loads P 3 (ad.add (0 * 1)) (.int .i64 t19) w ∧ Calls P 116 ⟨[(.slice a_p a_n a_c), (.int .i64 t19)]⟩ w fun e wv =>
    ∃ (t20_p : Option Addr) (t20_n : Nat) (t20_c : Nat) (t20 : Int), e = .returned (.tuple #[(.slice t20_p t20_n t20_c), (.int .i64 t20)]) ∧
    Calls P 44 ⟨[(.int .i64 t20)]⟩ wv fun e_1 wv_1 =>
    ∃ (t25_p : Option Addr) (t25_n : Nat) (t25_c : Nat), e_1 = .returned (.slice t25_p t25_n t25_c) ∧
    R (.tuple #[(.slice t20_p t20_n t20_c), (.slice t25_p t25_n t25_c)]) wv_1) ∧
  ((decide ((((b_n : Nat) : Int) : Int) = 1)) = false →
    (0 ≤ (((a_n : Nat) : Int) : Int) ∧ (((a_n : Nat) : Int) : Int) ≤ ((a_n : Nat) : Int) ∧ ((8 : Nat) : Int) * ((a_n : Nat) : Int) ≤ 281474976710656) ∧
    ∀ (r : Nat) (wv_2 : World), New w (.cells ⟨zeroRow (.int .i64 0) (a_n * 1)⟩ 3 (0, 0)) r wv_2 →
    ∀ (r_1 : Nat) (wv_3 : World), New wv_2 (.cells ⟨[]⟩ 3 (0, 0)) r_1 wv_3 →
    ∃ t32 : Int, t32 = IntKind.wrap .i64 (((a_n : Nat) : Int) - 1) ∧ ∃ (Inv : Option Addr → Nat → Nat → Int → World → Prop) (mu : Option Addr → Nat → Nat → Int → World → Nat), Inv (some ⟨r_1, 0, none⟩) 0 0 t32 wv_3 ∧
    ∀ (junk : Fr) (wv_4 : World) (rest_p : Option Addr) (rest_n : Nat) (rest_c : Nat) (i : Int), Inv rest_p rest_n rest_c i wv_4 →
      ((decide ((0 : Int) ≤ i)) = true →
        (0 ≤ (i : Int) ∧ (i : Int) < (a_n : Nat)) ∧ ptrS a_p fun ad_1 => ∃ (t40 : Int), Loads P 3 (ad_1.add (i.toNat * 1)) (.int .i64 t40) wv_4 ∧ ∀ (r_2 : Nat) (wv_5 : World), New wv_4 (.cells ⟨[(.int .i64 t40)]⟩ 3 (0, 0)) r_2 wv_5 →
        ∃ (t43_p : Option Addr) (t43_n : Nat) (t43_c : Nat) (wv_6 : World), Appends P [22, 22] [(.slice (some ⟨r_2, 0, none⟩) 1 1), (.slice rest_p rest_n rest_c)] (.slice t43_p t43_n t43_c) wv_5 wv_6 ∧
        Calls P 82 ⟨[(.slice t43_p t43_n t43_c)]⟩ wv_6 fun e_2 wv_7 =>
        ∃ (t44_p : Option Addr) (t44_n : Nat) (t44_c : Nat), e_2 = .returned (.slice t44_p t44_n t44_c) ∧
        Calls P 81 ⟨[(.slice t44_p t44_n t44_c), (.slice b_p b_n b_c)]⟩ wv_7 fun e_3 wv_8 =>
        ∃ (t47 : Int), e_3 = .returned (.int .i64 t47) ∧
        ((decide ((t47 : Int) < 0)) = true →
          spec_l03Div_j0 wv_4 Inv mu rest_p rest_n rest_c i t44_p t44_n t44_c wv_8 R) ∧
        ((decide ((t47 : Int) < 0)) = false →
          Calls P 117 ⟨[(.slice t44_p t44_n t44_c), (.slice b_p b_n b_c)]⟩ wv_8 fun e_4 wv_9 =>
          ∃ (t51 : Int), e_4 = .returned (.int .i64 t51) ∧
          (0 ≤ (i : Int) ∧ (i : Int) < (a_n : Nat)) ∧ ∃ wv_10, Stores P 3 ((⟨r, 0, none⟩ : Addr).add (i.toNat * 1)) (.int .i64 t51) wv_9 wv_10 ∧
          Calls P 44 ⟨[(.int .i64 t51)]⟩ wv_10 fun e_5 wv_11 =>
          ∃ (t59_p : Option Addr) (t59_n : Nat) (t59_c : Nat), e_5 = .returned (.slice t59_p t59_n t59_c) ∧
          Calls P 63 ⟨[(.slice b_p b_n b_c), (.slice t59_p t59_n t59_c)]⟩ wv_11 fun e_6 wv_12 =>
          ∃ (t60_p : Option Addr) (t60_n : Nat) (t60_c : Nat), e_6 = .returned (.slice t60_p t60_n t60_c) ∧
          Calls P 118 ⟨[(.slice t44_p t44_n t44_c), (.slice t60_p t60_n t60_c)]⟩ wv_12 fun e_7 wv_13 =>
          ∃ (t61_p : Option Addr) (t61_n : Nat) (t61_c : Nat), e_7 = .returned (.slice t61_p t61_n t61_c) ∧
          spec_l03Div_j0 wv_4 Inv mu rest_p rest_n rest_c i t61_p t61_n t61_c wv_13 R)) ∧
      ((decide ((0 : Int) ≤ i)) = false →
        Calls P 82 ⟨[(.slice (some ⟨r, 0, none⟩) a_n a_n)]⟩ wv_4 fun e_8 wv_14 =>
        ∃ (t63_p : Option Addr) (t63_n : Nat) (t63_c : Nat), e_8 = .returned (.slice t63_p t63_n t63_c) ∧
        R (.tuple #[(.slice t63_p t63_n t63_c), (.slice rest_p rest_n rest_c)]) wv_14))
theorem spec_l03Div_eq (a_p : Option Addr) (a_n : Nat) (a_c : Nat) (b_p : Option Addr) (b_n : Nat) (b_c : Nat) (w : World) (R : Value → World → Prop) : spec_l03Div a_p a_n a_c b_p b_n b_c w R = fsem P Tryz.f102 (fun k => cond (Nat.beq k 8) [(9, .one .slice), (10, .one (.int .i64))] ([])) [(.slice a_p a_n a_c), (.slice b_p b_n b_c)] R w := by kernel_rfl
theorem spec_l03Div_ret {a_p : Option Addr} {a_n : Nat} {a_c : Nat} {b_p : Option Addr} {b_n : Nat} {b_c : Nat} {w : World} {R : Value → World → Prop} (h : spec_l03Div a_p a_n a_c b_p b_n b_c w R) : Ret P 102 [(.slice a_p a_n a_c), (.slice b_p b_n b_c)] w R :=
  Ret.of_fsem Tryz.func102 rfl (Eq.mp (spec_l03Div_eq a_p a_n a_c b_p b_n b_c w R) h)
def impl_natAdd_j1 (wv_1 : World) (Inv : Option Addr → Nat → Nat → Int → Int → World → Prop) (mu : Option Addr → Nat → Nat → Int → Int → World → Nat) (out_p : Option Addr) (out_n : Nat) (out_c : Nat) (carry : Int) (i : Int) (carry_2 : Int) (W_1 : World) (R : Value → World → Prop) : Prop :=
  (1000000000 : Int) ≠ 0 ∧ ∃ t46 : Int, t46 = Int.tmod carry_2 1000000000 ∧ ∀ (r_1 : Nat) (wv_2 : World), New W_1 (.cells ⟨[(.int .i64 t46)]⟩ 3 (0, 0)) r_1 wv_2 →
  ∃ (t48_p : Option Addr) (t48_n : Nat) (t48_c : Nat) (wv_3 : World), Appends P [22, 22] [(.slice out_p out_n out_c), (.slice (some ⟨r_1, 0, none⟩) 1 1)] (.slice t48_p t48_n t48_c) wv_2 wv_3 ∧
  (1000000000 : Int) ≠ 0 ∧ ∃ t50 : Int, t50 = IntKind.wrap .i64 (Int.tdiv carry_2 1000000000) ∧ ∃ t23 : Int, t23 = IntKind.wrap .i64 (i + 1) ∧ Inv t48_p t48_n t48_c t50 t23 wv_3 ∧ mu t48_p t48_n t48_c t50 t23 wv_3 < mu out_p out_n out_c carry i wv_1
def impl_natAdd_j0 (b_p : Option Addr) (b_n : Nat) (wv_1 : World) (Inv : Option Addr → Nat → Nat → Int → Int → World → Prop) (mu : Option Addr → Nat → Nat → Int → Int → World → Nat) (out_p : Option Addr) (out_n : Nat) (out_c : Nat) (carry : Int) (i : Int) (carry_1 : Int) (W : World) (R : Value → World → Prop) : Prop :=
  ((decide ((i : Int) < ((b_n : Nat) : Int))) = true →
    (0 ≤ (i : Int) ∧ (i : Int) < (b_n : Nat)) ∧ ptrS b_p fun ad_1 => ∃ (t42 : Int), Loads P 3 (ad_1.add (i.toNat * 1)) (.int .i64 t42) W ∧ ∃ t43 : Int, t43 = IntKind.wrap .i64 (carry_1 + t42) ∧ impl_natAdd_j1 wv_1 Inv mu out_p out_n out_c carry i t43 W R) ∧
  ((decide ((i : Int) < ((b_n : Nat) : Int))) = false →
    impl_natAdd_j1 wv_1 Inv mu out_p out_n out_c carry i carry_1 W R)
def impl_natAdd (a_p : Option Addr) (a_n : Nat) (a_c : Nat) (b_p : Option Addr) (b_n : Nat) (b_c : Nat) (w : World) (R : Value → World → Prop) : Prop :=
  ∃ t12 : Int, t12 = (if ((b_n : Nat) : Int) > ((a_n : Nat) : Int) then ((b_n : Nat) : Int) else ((a_n : Nat) : Int)) ∧ ∃ t13 : Int, t13 = IntKind.wrap .i64 (t12 + 1) ∧ (0 ≤ (0 : Int) ∧ (0 : Int) ≤ t13 ∧ ((8 : Nat) : Int) * t13 ≤ 281474976710656) ∧
  ∀ (r : Nat) (wv : World), New w (.cells ⟨zeroRow (.int .i64 0) (t13.toNat * 1)⟩ 3 (0, 0)) r wv →
  ∃ (Inv : Option Addr → Nat → Nat → Int → Int → World → Prop) (mu : Option Addr → Nat → Nat → Int → Int → World → Nat), Inv (some ⟨r, 0, none⟩) 0 t13.toNat 0 0 wv ∧
  ∀ (junk : Fr) (wv_1 : World) (out_p : Option Addr) (out_n : Nat) (out_c : Nat) (carry : Int) (i : Int), Inv out_p out_n out_c carry i wv_1 →
    ∃ t20 : Int, t20 = (if ((b_n : Nat) : Int) > ((a_n : Nat) : Int) then ((b_n : Nat) : Int) else ((a_n : Nat) : Int)) ∧ ((decide ((i : Int) < t20)) = true →
      ((decide ((i : Int) < ((a_n : Nat) : Int))) = true →
        (0 ≤ (i : Int) ∧ (i : Int) < (a_n : Nat)) ∧ ptrS a_p fun ad => ∃ (t32 : Int), Loads P 3 (ad.add (i.toNat * 1)) (.int .i64 t32) wv_1 ∧ ∃ t33 : Int, t33 = IntKind.wrap .i64 (carry + t32) ∧ impl_natAdd_j0 b_p b_n wv_1 Inv mu out_p out_n out_c carry i t33 wv_1 R) ∧
      ((decide ((i : Int) < ((a_n : Nat) : Int))) = false →
        impl_natAdd_j0 b_p b_n wv_1 Inv mu out_p out_n out_c carry i carry wv_1 R)) ∧
    ((decide ((i : Int) < t20)) = false →
      ∀ (r_2 : Nat) (wv_4 : World), New wv_1 (.cells ⟨[(.int .i64 carry)]⟩ 3 (0, 0)) r_2 wv_4 →
      ∃ (t54_p : Option Addr) (t54_n : Nat) (t54_c : Nat) (wv_5 : World), Appends P [22, 22] [(.slice out_p out_n out_c), (.slice (some ⟨r_2, 0, none⟩) 1 1)] (.slice t54_p t54_n t54_c) wv_4 wv_5 ∧
      Calls P 90 ⟨[(.slice t54_p t54_n t54_c)]⟩ wv_5 fun e wv_6 =>
      ∃ (t55_p : Option Addr) (t55_n : Nat) (t55_c : Nat), e = .returned (.slice t55_p t55_n t55_c) ∧
      R (.slice t55_p t55_n t55_c) wv_6)
theorem impl_natAdd_eq (a_p : Option Addr) (a_n : Nat) (a_c : Nat) (b_p : Option Addr) (b_n : Nat) (b_c : Nat) (w : World) (R : Value → World → Prop) : impl_natAdd a_p a_n a_c b_p b_n b_c w R = fsem P Tryz.f103 (fun k => cond (Nat.beq k 5) [(5, .one .slice), (6, .one (.int .i64)), (7, .one (.int .i64))] ([])) [(.slice a_p a_n a_c), (.slice b_p b_n b_c)] R w := by kernel_rfl
theorem impl_natAdd_ret {a_p : Option Addr} {a_n : Nat} {a_c : Nat} {b_p : Option Addr} {b_n : Nat} {b_c : Nat} {w : World} {R : Value → World → Prop} (h : impl_natAdd a_p a_n a_c b_p b_n b_c w R) : Ret P 103 [(.slice a_p a_n a_c), (.slice b_p b_n b_c)] w R :=
  Ret.of_fsem Tryz.func103 rfl (Eq.mp (impl_natAdd_eq a_p a_n a_c b_p b_n b_c w R) h)
def impl_natSub_j1 (a_n : Nat) (r : Nat) (wv_1 : World) (Inv : Int → Int → World → Prop) (mu : Int → Int → World → Nat) (borrow : Int) (t14 : Int) (borrow_1 : Int) (n_1 : Int) (W_1 : World) (R : Value → World → Prop) : Prop :=
  (0 ≤ (t14 : Int) ∧ (t14 : Int) < (a_n : Nat)) ∧ ∃ wv_2, Stores P 3 ((⟨r, 0, none⟩ : Addr).add (t14.toNat * 1)) (.int .i64 n_1) W_1 wv_2 ∧
  ∃ t41 : Int, t41 = IntKind.wrap .i64 (t14 + 1) ∧ Inv borrow_1 t41 wv_2 ∧ mu borrow_1 t41 wv_2 < mu borrow t14 wv_1
def impl_natSub_j0 (a_n : Nat) (r : Nat) (wv_1 : World) (Inv : Int → Int → World → Prop) (mu : Int → Int → World → Nat) (borrow : Int) (t14 : Int) (n : Int) (W : World) (R : Value → World → Prop) : Prop :=
  ((decide ((n : Int) < 0)) = true →
    ∃ t36 : Int, t36 = IntKind.wrap .i64 (n + 1000000000) ∧ impl_natSub_j1 a_n r wv_1 Inv mu borrow t14 1 t36 W R) ∧
  ((decide ((n : Int) < 0)) = false →
    impl_natSub_j1 a_n r wv_1 Inv mu borrow t14 0 n W R)
def impl_natSub (a_p : Option Addr) (a_n : Nat) (a_c : Nat) (b_p : Option Addr) (b_n : Nat) (b_c : Nat) (w : World) (R : Value → World → Prop) : Prop :=
  (0 ≤ (((a_n : Nat) : Int) : Int) ∧ (((a_n : Nat) : Int) : Int) ≤ ((a_n : Nat) : Int) ∧ ((8 : Nat) : Int) * ((a_n : Nat) : Int) ≤ 281474976710656) ∧
  ∀ (r : Nat) (wv : World), New w (.cells ⟨zeroRow (.int .i64 0) (a_n * 1)⟩ 3 (0, 0)) r wv →
  ∃ (Inv : Int → Int → World → Prop) (mu : Int → Int → World → Nat), Inv 0 0 wv ∧
  ∀ (junk : Fr) (wv_1 : World) (borrow : Int) (t14 : Int), Inv borrow t14 wv_1 →
    ((decide ((t14 : Int) < ((a_n : Nat) : Int))) = true →
      (0 ≤ (t14 : Int) ∧ (t14 : Int) < (a_n : Nat)) ∧ ptrS a_p fun ad => ∃ (t20 : Int), Loads P 3 (ad.add (t14.toNat * 1)) (.int .i64 t20) wv_1 ∧ ∃ t22 : Int, t22 = IntKind.wrap .i64 (t20 - borrow) ∧ ((decide ((t14 : Int) < ((b_n : Nat) : Int))) = true →
        (0 ≤ (t14 : Int) ∧ (t14 : Int) < (b_n : Nat)) ∧ ptrS b_p fun ad_1 => ∃ (t31 : Int), Loads P 3 (ad_1.add (t14.toNat * 1)) (.int .i64 t31) wv_1 ∧ ∃ t32 : Int, t32 = IntKind.wrap .i64 (t22 - t31) ∧ impl_natSub_j0 a_n r wv_1 Inv mu borrow t14 t32 wv_1 R) ∧
      ((decide ((t14 : Int) < ((b_n : Nat) : Int))) = false →
        impl_natSub_j0 a_n r wv_1 Inv mu borrow t14 t22 wv_1 R)) ∧
    ((decide ((t14 : Int) < ((a_n : Nat) : Int))) = false →
      Calls P 90 ⟨[(.slice (some ⟨r, 0, none⟩) a_n a_n)]⟩ wv_1 fun e wv_3 =>
      ∃ (t43_p : Option Addr) (t43_n : Nat) (t43_c : Nat), e = .returned (.slice t43_p t43_n t43_c) ∧
      R (.slice t43_p t43_n t43_c) wv_3)
theorem impl_natSub_eq (a_p : Option Addr) (a_n : Nat) (a_c : Nat) (b_p : Option Addr) (b_n : Nat) (b_c : Nat) (w : World) (R : Value → World → Prop) : impl_natSub a_p a_n a_c b_p b_n b_c w R = fsem P Tryz.f104 (fun k => cond (Nat.beq k 5) [(6, .one (.int .i64)), (14, .one (.int .i64))] ([])) [(.slice a_p a_n a_c), (.slice b_p b_n b_c)] R w := by kernel_rfl
theorem impl_natSub_ret {a_p : Option Addr} {a_n : Nat} {a_c : Nat} {b_p : Option Addr} {b_n : Nat} {b_c : Nat} {w : World} {R : Value → World → Prop} (h : impl_natSub a_p a_n a_c b_p b_n b_c w R) : Ret P 104 [(.slice a_p a_n a_c), (.slice b_p b_n b_c)] w R :=
  Ret.of_fsem Tryz.func104 rfl (Eq.mp (impl_natSub_eq a_p a_n a_c b_p b_n b_c w R) h)
def impl_subTimes_j0 (u_p : Option Addr) (u_n : Nat) (wv : World) (Inv : Int → Int → World → Prop) (mu : Int → Int → World → Nat) (borrow : Int) (t13 : Int) (borrow_1 : Int) (n : Int) (W : World) (R : Value → World → Prop) : Prop :=
  (0 ≤ (t13 : Int) ∧ (t13 : Int) < (u_n : Nat)) ∧ ptrS u_p fun ad_2 => ∃ wv_1, Stores P 3 (ad_2.add (t13.toNat * 1)) (.int .i64 n) W wv_1 ∧
  ∃ t43 : Int, t43 = IntKind.wrap .i64 (t13 + 1) ∧ Inv borrow_1 t43 wv_1 ∧ mu borrow_1 t43 wv_1 < mu borrow t13 wv
def impl_subTimes (u_p : Option Addr) (u_n : Nat) (u_c : Nat) (v_p : Option Addr) (v_n : Nat) (v_c : Nat) (q : Int) (w : World) (R : Value → World → Prop) : Prop :=
  ∃ (Inv : Int → Int → World → Prop) (mu : Int → Int → World → Nat), Inv 0 0 w ∧
  ∀ (junk : Fr) (wv : World) (borrow : Int) (t13 : Int), Inv borrow t13 wv →
    ((decide ((t13 : Int) < ((v_n : Nat) : Int))) = true →
      (0 ≤ (t13 : Int) ∧ (t13 : Int) < (v_n : Nat)) ∧ ptrS v_p fun ad => ∃ (t17 : Int), Loads P 3 (ad.add (t13.toNat * 1)) (.int .i64 t17) wv ∧ (0 ≤ (t13 : Int) ∧ (t13 : Int) < (u_n : Nat)) ∧ ptrS u_p fun ad_1 => ∃ (t21 : Int), Loads P 3 (ad_1.add (t13.toNat * 1)) (.int .i64 t21) wv ∧ ∃ t24 : Int, t24 = IntKind.wrap .i64 (t17 * q) ∧ ∃ t25 : Int, t25 = IntKind.wrap .i64 (t21 - t24) ∧ ∃ t27 : Int, t27 = IntKind.wrap .i64 (t25 - borrow) ∧ ((decide ((t27 : Int) < 0)) = true →
        ∃ t31 : Int, t31 = IntKind.wrap .i64 (0 - t27) ∧ ∃ t32 : Int, t32 = IntKind.wrap .i64 (t31 + 1000000000) ∧ ∃ t33 : Int, t33 = IntKind.wrap .i64 (t32 - 1) ∧ (1000000000 : Int) ≠ 0 ∧ ∃ t34 : Int, t34 = IntKind.wrap .i64 (Int.tdiv t33 1000000000) ∧ ∃ t37 : Int, t37 = IntKind.wrap .i64 (t34 * 1000000000) ∧ ∃ t38 : Int, t38 = IntKind.wrap .i64 (t27 + t37) ∧ impl_subTimes_j0 u_p u_n wv Inv mu borrow t13 t34 t38 wv R) ∧
      ((decide ((t27 : Int) < 0)) = false →
        impl_subTimes_j0 u_p u_n wv Inv mu borrow t13 0 t27 wv R)) ∧
    ((decide ((t13 : Int) < ((v_n : Nat) : Int))) = false →
      (0 ≤ (((v_n : Nat) : Int) : Int) ∧ (((v_n : Nat) : Int) : Int) < (u_n : Nat)) ∧ ptrS u_p fun ad_3 => ∃ (t48 : Int), Loads P 3 (ad_3.add (v_n * 1)) (.int .i64 t48) wv ∧ ∃ t50 : Int, t50 = IntKind.wrap .i64 (t48 - borrow) ∧ (0 ≤ (((v_n : Nat) : Int) : Int) ∧ (((v_n : Nat) : Int) : Int) < (u_n : Nat)) ∧ ptrS u_p fun ad_4 => ∃ wv_2, Stores P 3 (ad_4.add (v_n * 1)) (.int .i64 t50) wv wv_2 ∧
      (0 ≤ (((v_n : Nat) : Int) : Int) ∧ (((v_n : Nat) : Int) : Int) < (u_n : Nat)) ∧ ptrS u_p fun ad_5 => ∃ (t56 : Int), Loads P 3 (ad_5.add (v_n * 1)) (.int .i64 t56) wv_2 ∧ R (.bool (decide ((t56 : Int) < 0))) wv_2)
theorem impl_subTimes_eq (u_p : Option Addr) (u_n : Nat) (u_c : Nat) (v_p : Option Addr) (v_n : Nat) (v_c : Nat) (q : Int) (w : World) (R : Value → World → Prop) : impl_subTimes u_p u_n u_c v_p v_n v_c q w R = fsem P Tryz.f108 (fun k => cond (Nat.beq k 4) [(7, .one (.int .i64)), (13, .one (.int .i64))] ([])) [(.slice u_p u_n u_c), (.slice v_p v_n v_c), (.int .i64 q)] R w := by kernel_rfl
theorem impl_subTimes_ret {u_p : Option Addr} {u_n : Nat} {u_c : Nat} {v_p : Option Addr} {v_n : Nat} {v_c : Nat} {q : Int} {w : World} {R : Value → World → Prop} (h : impl_subTimes u_p u_n u_c v_p v_n v_c q w R) : Ret P 108 [(.slice u_p u_n u_c), (.slice v_p v_n v_c), (.int .i64 q)] w R :=
  Ret.of_fsem Tryz.func108 rfl (Eq.mp (impl_subTimes_eq u_p u_n u_c v_p v_n v_c q w R) h)
def impl_addBack (u_p : Option Addr) (u_n : Nat) (u_c : Nat) (v_p : Option Addr) (v_n : Nat) (v_c : Nat) (w : World) (R : Value → World → Prop) : Prop :=
  ∃ (Inv : Int → Int → World → Prop) (mu : Int → Int → World → Nat), Inv 0 0 w ∧
  ∀ (junk : Fr) (wv : World) (carry : Int) (t9 : Int), Inv carry t9 wv →
    ((decide ((t9 : Int) < ((v_n : Nat) : Int))) = true →
      (0 ≤ (t9 : Int) ∧ (t9 : Int) < (v_n : Nat)) ∧ ptrS v_p fun ad => ∃ (t13 : Int), Loads P 3 (ad.add (t9.toNat * 1)) (.int .i64 t13) wv ∧ (0 ≤ (t9 : Int) ∧ (t9 : Int) < (u_n : Nat)) ∧ ptrS u_p fun ad_1 => ∃ (t18 : Int), Loads P 3 (ad_1.add (t9.toNat * 1)) (.int .i64 t18) wv ∧ ∃ t20 : Int, t20 = IntKind.wrap .i64 (t18 + t13) ∧ ∃ t21 : Int, t21 = IntKind.wrap .i64 (carry + t20) ∧ (1000000000 : Int) ≠ 0 ∧ ∃ t25 : Int, t25 = Int.tmod t21 1000000000 ∧ (0 ≤ (t9 : Int) ∧ (t9 : Int) < (u_n : Nat)) ∧ ptrS u_p fun ad_2 => ∃ wv_1, Stores P 3 (ad_2.add (t9.toNat * 1)) (.int .i64 t25) wv wv_1 ∧
      (1000000000 : Int) ≠ 0 ∧ ∃ t28 : Int, t28 = IntKind.wrap .i64 (Int.tdiv t21 1000000000) ∧ ∃ t29 : Int, t29 = IntKind.wrap .i64 (t9 + 1) ∧ Inv t28 t29 wv_1 ∧ mu t28 t29 wv_1 < mu carry t9 wv) ∧
    ((decide ((t9 : Int) < ((v_n : Nat) : Int))) = false →
      (0 ≤ (((v_n : Nat) : Int) : Int) ∧ (((v_n : Nat) : Int) : Int) < (u_n : Nat)) ∧ ptrS u_p fun ad_3 => ∃ (t34 : Int), Loads P 3 (ad_3.add (v_n * 1)) (.int .i64 t34) wv ∧ ∃ t36 : Int, t36 = IntKind.wrap .i64 (t34 + carry) ∧ (0 ≤ (((v_n : Nat) : Int) : Int) ∧ (((v_n : Nat) : Int) : Int) < (u_n : Nat)) ∧ ptrS u_p fun ad_4 => ∃ wv_2, Stores P 3 (ad_4.add (v_n * 1)) (.int .i64 t36) wv wv_2 ∧
      R (.tuple #[]) wv_2)
theorem impl_addBack_eq (u_p : Option Addr) (u_n : Nat) (u_c : Nat) (v_p : Option Addr) (v_n : Nat) (v_c : Nat) (w : World) (R : Value → World → Prop) : impl_addBack u_p u_n u_c v_p v_n v_c w R = fsem P Tryz.f109 (fun k => cond (Nat.beq k 3) [(4, .one (.int .i64)), (9, .one (.int .i64))] ([])) [(.slice u_p u_n u_c), (.slice v_p v_n v_c)] R w := by kernel_rfl
theorem impl_addBack_ret {u_p : Option Addr} {u_n : Nat} {u_c : Nat} {v_p : Option Addr} {v_n : Nat} {v_c : Nat} {w : World} {R : Value → World → Prop} (h : impl_addBack u_p u_n u_c v_p v_n v_c w R) : Ret P 109 [(.slice u_p u_n u_c), (.slice v_p v_n v_c)] w R :=
  Ret.of_fsem Tryz.func109 rfl (Eq.mp (impl_addBack_eq u_p u_n u_c v_p v_n v_c w R) h)
def spec_l03Small (a_p : Option Addr) (a_n : Nat) (a_c : Nat) (d : Int) (w : World) (R : Value → World → Prop) : Prop :=
  (0 ≤ (((a_n : Nat) : Int) : Int) ∧ (((a_n : Nat) : Int) : Int) ≤ ((a_n : Nat) : Int) ∧ ((8 : Nat) : Int) * ((a_n : Nat) : Int) ≤ 281474976710656) ∧
  ∀ (r : Nat) (wv : World), New w (.cells ⟨zeroRow (.int .i64 0) (a_n * 1)⟩ 3 (0, 0)) r wv →
  ∃ t15 : Int, t15 = IntKind.wrap .i64 (((a_n : Nat) : Int) - 1) ∧ ∃ (Inv : Int → Int → World → Prop) (mu : Int → Int → World → Nat), Inv 0 t15 wv ∧
  ∀ (junk : Fr) (wv_1 : World) (rest : Int) (i : Int), Inv rest i wv_1 →
    ((decide ((0 : Int) ≤ i)) = true →
      ∃ t21 : Int, t21 = IntKind.wrap .i64 (rest * 1000000000) ∧ (0 ≤ (i : Int) ∧ (i : Int) < (a_n : Nat)) ∧ ptrS a_p fun ad => ∃ (t25 : Int), Loads P 3 (ad.add (i.toNat * 1)) (.int .i64 t25) wv_1 ∧ ∃ t26 : Int, t26 = IntKind.wrap .i64 (t21 + t25) ∧ (d : Int) ≠ 0 ∧ ∃ t31 : Int, t31 = IntKind.wrap .i64 (Int.tdiv t26 d) ∧ (0 ≤ (i : Int) ∧ (i : Int) < (a_n : Nat)) ∧ ∃ wv_2, Stores P 3 ((⟨r, 0, none⟩ : Addr).add (i.toNat * 1)) (.int .i64 t31) wv_1 wv_2 ∧
      (d : Int) ≠ 0 ∧ ∃ t35 : Int, t35 = Int.tmod t26 d ∧ ∃ t19 : Int, t19 = IntKind.wrap .i64 (i - 1) ∧ Inv t35 t19 wv_2 ∧ mu t35 t19 wv_2 < mu rest i wv_1) ∧
    ((decide ((0 : Int) ≤ i)) = false →
      Calls P 82 ⟨[(.slice (some ⟨r, 0, none⟩) a_n a_n)]⟩ wv_1 fun e wv_3 =>
      ∃ (t37_p : Option Addr) (t37_n : Nat) (t37_c : Nat), e = .returned (.slice t37_p t37_n t37_c) ∧
      R (.tuple #[(.slice t37_p t37_n t37_c), (.int .i64 rest)]) wv_3)
theorem spec_l03Small_eq (a_p : Option Addr) (a_n : Nat) (a_c : Nat) (d : Int) (w : World) (R : Value → World → Prop) : spec_l03Small a_p a_n a_c d w R = fsem P Tryz.f116 (fun k => cond (Nat.beq k 5) [(7, .one (.int .i64)), (8, .one (.int .i64))] ([])) [(.slice a_p a_n a_c), (.int .i64 d)] R w := by kernel_rfl
theorem spec_l03Small_ret {a_p : Option Addr} {a_n : Nat} {a_c : Nat} {d : Int} {w : World} {R : Value → World → Prop} (h : spec_l03Small a_p a_n a_c d w R) : Ret P 116 [(.slice a_p a_n a_c), (.int .i64 d)] w R :=
  Ret.of_fsem Tryz.func116 rfl (Eq.mp (spec_l03Small_eq a_p a_n a_c d w R) h)
def spec_l03Digit (r_p : Option Addr) (r_n : Nat) (r_c : Nat) (b_p : Option Addr) (b_n : Nat) (b_c : Nat) (w : World) (R : Value → World → Prop) : Prop :=
  ∃ (Inv : Int → Int → World → Prop) (mu : Int → Int → World → Nat), Inv 0 999999999 w ∧
  ∀ (junk : Fr) (wv : World) (lo : Int) (hi : Int), Inv lo hi wv →
    ((decide ((lo : Int) < hi)) = true →
      ∃ t13 : Int, t13 = IntKind.wrap .i64 (lo + hi) ∧ ∃ t14 : Int, t14 = IntKind.wrap .i64 (t13 + 1) ∧ (2 : Int) ≠ 0 ∧ ∃ t15 : Int, t15 = IntKind.wrap .i64 (Int.tdiv t14 2) ∧ Calls P 44 ⟨[(.int .i64 t15)]⟩ wv fun e wv_1 =>
      ∃ (t18_p : Option Addr) (t18_n : Nat) (t18_c : Nat), e = .returned (.slice t18_p t18_n t18_c) ∧
      Calls P 63 ⟨[(.slice b_p b_n b_c), (.slice t18_p t18_n t18_c)]⟩ wv_1 fun e_1 wv_2 =>
      ∃ (t19_p : Option Addr) (t19_n : Nat) (t19_c : Nat), e_1 = .returned (.slice t19_p t19_n t19_c) ∧
      Calls P 81 ⟨[(.slice t19_p t19_n t19_c), (.slice r_p r_n r_c)]⟩ wv_2 fun e_2 wv_3 =>
      ∃ (t21 : Int), e_2 = .returned (.int .i64 t21) ∧
      ((decide ((t21 : Int) ≤ 0)) = true →
        Inv t15 hi wv_3 ∧ mu t15 hi wv_3 < mu lo hi wv) ∧
      ((decide ((t21 : Int) ≤ 0)) = false →
        ∃ t25 : Int, t25 = IntKind.wrap .i64 (t15 - 1) ∧ Inv lo t25 wv_3 ∧ mu lo t25 wv_3 < mu lo hi wv)) ∧
    ((decide ((lo : Int) < hi)) = false →
      R (.int .i64 lo) wv)
theorem spec_l03Digit_eq (r_p : Option Addr) (r_n : Nat) (r_c : Nat) (b_p : Option Addr) (b_n : Nat) (b_c : Nat) (w : World) (R : Value → World → Prop) : spec_l03Digit r_p r_n r_c b_p b_n b_c w R = fsem P Tryz.f117 (fun k => cond (Nat.beq k 4) [(5, .one (.int .i64)), (6, .one (.int .i64))] ([])) [(.slice r_p r_n r_c), (.slice b_p b_n b_c)] R w := by kernel_rfl
theorem spec_l03Digit_ret {r_p : Option Addr} {r_n : Nat} {r_c : Nat} {b_p : Option Addr} {b_n : Nat} {b_c : Nat} {w : World} {R : Value → World → Prop} (h : spec_l03Digit r_p r_n r_c b_p b_n b_c w R) : Ret P 117 [(.slice r_p r_n r_c), (.slice b_p b_n b_c)] w R :=
  Ret.of_fsem Tryz.func117 rfl (Eq.mp (spec_l03Digit_eq r_p r_n r_c b_p b_n b_c w R) h)
def spec_l02Sub_j1 (wv_1 : World) (Inv : Option Addr → Nat → Nat → Int → Int → World → Prop) (mu : Option Addr → Nat → Nat → Int → Int → World → Nat) (out_p : Option Addr) (out_n : Nat) (out_c : Nat) (less : Int) (t12 : Int) (less_1 : Int) (n_1 : Int) (W_1 : World) (R : Value → World → Prop) : Prop :=
  ∀ (r_1 : Nat) (wv_2 : World), New W_1 (.cells ⟨[(.int .i64 n_1)]⟩ 3 (0, 0)) r_1 wv_2 →
  ∃ (t38_p : Option Addr) (t38_n : Nat) (t38_c : Nat) (wv_3 : World), Appends P [22, 22] [(.slice out_p out_n out_c), (.slice (some ⟨r_1, 0, none⟩) 1 1)] (.slice t38_p t38_n t38_c) wv_2 wv_3 ∧
  ∃ t39 : Int, t39 = IntKind.wrap .i64 (t12 + 1) ∧ Inv t38_p t38_n t38_c less_1 t39 wv_3 ∧ mu t38_p t38_n t38_c less_1 t39 wv_3 < mu out_p out_n out_c less t12 wv_1
def spec_l02Sub_j0 (wv_1 : World) (Inv : Option Addr → Nat → Nat → Int → Int → World → Prop) (mu : Option Addr → Nat → Nat → Int → Int → World → Nat) (out_p : Option Addr) (out_n : Nat) (out_c : Nat) (less : Int) (t12 : Int) (n : Int) (W : World) (R : Value → World → Prop) : Prop :=
  ((decide ((n : Int) < 0)) = true →
    ∃ t34 : Int, t34 = IntKind.wrap .i64 (n + 1000000000) ∧ spec_l02Sub_j1 wv_1 Inv mu out_p out_n out_c less t12 1 t34 W R) ∧
  ((decide ((n : Int) < 0)) = false →
    spec_l02Sub_j1 wv_1 Inv mu out_p out_n out_c less t12 0 n W R)
def spec_l02Sub (a_p : Option Addr) (a_n : Nat) (a_c : Nat) (b_p : Option Addr) (b_n : Nat) (b_c : Nat) (w : World) (R : Value → World → Prop) : Prop :=
  ∀ (r : Nat) (wv : World), New w (.cells ⟨[]⟩ 3 (0, 0)) r wv →
  ∃ (Inv : Option Addr → Nat → Nat → Int → Int → World → Prop) (mu : Option Addr → Nat → Nat → Int → Int → World → Nat), Inv (some ⟨r, 0, none⟩) 0 0 0 0 wv ∧
  ∀ (junk : Fr) (wv_1 : World) (out_p : Option Addr) (out_n : Nat) (out_c : Nat) (less : Int) (t12 : Int), Inv out_p out_n out_c less t12 wv_1 →
    ((decide ((t12 : Int) < ((a_n : Nat) : Int))) = true →
      (0 ≤ (t12 : Int) ∧ (t12 : Int) < (a_n : Nat)) ∧ ptrS a_p fun ad => ∃ (t18 : Int), Loads P 3 (ad.add (t12.toNat * 1)) (.int .i64 t18) wv_1 ∧ ∃ t20 : Int, t20 = IntKind.wrap .i64 (t18 - less) ∧ ((decide ((t12 : Int) < ((b_n : Nat) : Int))) = true →
        (0 ≤ (t12 : Int) ∧ (t12 : Int) < (b_n : Nat)) ∧ ptrS b_p fun ad_1 => ∃ (t29 : Int), Loads P 3 (ad_1.add (t12.toNat * 1)) (.int .i64 t29) wv_1 ∧ ∃ t30 : Int, t30 = IntKind.wrap .i64 (t20 - t29) ∧ spec_l02Sub_j0 wv_1 Inv mu out_p out_n out_c less t12 t30 wv_1 R) ∧
      ((decide ((t12 : Int) < ((b_n : Nat) : Int))) = false →
        spec_l02Sub_j0 wv_1 Inv mu out_p out_n out_c less t12 t20 wv_1 R)) ∧
    ((decide ((t12 : Int) < ((a_n : Nat) : Int))) = false →
      Calls P 82 ⟨[(.slice out_p out_n out_c)]⟩ wv_1 fun e wv_4 =>
      ∃ (t41_p : Option Addr) (t41_n : Nat) (t41_c : Nat), e = .returned (.slice t41_p t41_n t41_c) ∧
      R (.slice t41_p t41_n t41_c) wv_4)
theorem spec_l02Sub_eq (a_p : Option Addr) (a_n : Nat) (a_c : Nat) (b_p : Option Addr) (b_n : Nat) (b_c : Nat) (w : World) (R : Value → World → Prop) : spec_l02Sub a_p a_n a_c b_p b_n b_c w R = fsem P Tryz.f118 (fun k => cond (Nat.beq k 5) [(5, .one .slice), (6, .one (.int .i64)), (12, .one (.int .i64))] ([])) [(.slice a_p a_n a_c), (.slice b_p b_n b_c)] R w := by kernel_rfl
theorem spec_l02Sub_ret {a_p : Option Addr} {a_n : Nat} {a_c : Nat} {b_p : Option Addr} {b_n : Nat} {b_c : Nat} {w : World} {R : Value → World → Prop} (h : spec_l02Sub a_p a_n a_c b_p b_n b_c w R) : Ret P 118 [(.slice a_p a_n a_c), (.slice b_p b_n b_c)] w R :=
  Ret.of_fsem Tryz.func118 rfl (Eq.mp (spec_l02Sub_eq a_p a_n a_c b_p b_n b_c w R) h)
end Go.Proofs.YtpaekkcgphljoaaGreatDoor
