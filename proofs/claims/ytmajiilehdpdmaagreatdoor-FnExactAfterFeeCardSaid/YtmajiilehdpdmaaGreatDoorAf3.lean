/-
  Parts of the proof of afterFee_holds: G3, G4.
  Conditions: none.
-/
import Derived.Test.YtmajiilehdpdmaaGreatDoorAf2

namespace Go.Proofs.YtmajiilehdpdmaaGreatDoor
open Go Go.Proofs.YtmajiilehdpdmaaGreatDoor.Sx
set_option linter.unusedVariables false
set_option maxRecDepth 100000
def impl_RatRest (r0 : Bool) (r1_p : Option Addr) (r1_n : Nat) (r1_c : Nat) (r2_p : Option Addr) (r2_n : Nat) (r2_c : Nat) (m : Int) (w : World) (R : Value → World → Prop) : Prop :=
 ∀ (r : Nat) (wv : World), New w (.cells ⟨[(.bool r0), (.slice r1_p r1_n r1_c), (.slice r2_p r2_n r2_c)]⟩ 34 (0, 0)) r wv →
 ∀ (r_1 : Nat) (wv_1 : World), New wv (.cells ⟨[(.bool false), (.slice none 0 0)]⟩ 30 (0, 0)) r_1 wv_1 →
 ∀ (r_2 : Nat) (wv_2 : World), New wv_1 (.cells ⟨[(.bool false), (.slice none 0 0), (.slice none 0 0)]⟩ 34 (0, 0)) r_2 wv_2 →
 ∃ (t140 : Bool) (t141_p : Option Addr) (t141_n : Nat) (t141_c : Nat) (t142_p : Option Addr) (t142_n : Nat) (t142_c : Nat), Loads P 34 ⟨r, 0, none⟩ (.agg #[(.bool t140), (.slice t141_p t141_n t141_c), (.slice t142_p t142_n t142_c)]) wv_2 ∧ Calls P 106 ⟨[(.agg #[(.bool t140), (.slice t141_p t141_n t141_c), (.slice t142_p t142_n t142_c)]), (.int .i64 m)]⟩ wv_2 fun e wv_3 =>
 ∃ (t160 : Bool) (t161_p : Option Addr) (t161_n : Nat) (t161_c : Nat) (t16 : Bool), e = .returned (.tuple #[(.agg #[(.bool t160), (.slice t161_p t161_n t161_c)]), (.bool t16)]) ∧
 ∀ (r_3 : Nat) (wv_4 : World), New wv_3 (.cells ⟨[(.bool false), (.slice none 0 0)]⟩ 30 (0, 0)) r_3 wv_4 →
 ∃ wv_5, Stores P 30 ⟨r_3, 0, none⟩ (.agg #[(.bool t160), (.slice t161_p t161_n t161_c)]) wv_4 wv_5 ∧
 ((!t16) = true →
 ∃ wv_6, Stores P 30 ⟨r_1, 0, none⟩ (.agg #[(.bool false), (.slice none 0 0)]) wv_5 wv_6 ∧
 ∃ wv_7, Stores P 34 ⟨r_2, 0, none⟩ (.agg #[(.bool false), (.slice none 0 0), (.slice none 0 0)]) wv_6 wv_7 ∧
 ∃ (r0_1 : Bool) (r1_p_1 : Option Addr) (r1_n_1 : Nat) (r1_c_1 : Nat), Loads P 30 ⟨r_1, 0, none⟩ (.agg #[(.bool r0_1), (.slice r1_p_1 r1_n_1 r1_c_1)]) wv_7 ∧ ∃ (r0_2 : Bool) (r1_p_2 : Option Addr) (r1_n_2 : Nat) (r1_c_2 : Nat) (r2_p_1 : Option Addr) (r2_n_1 : Nat) (r2_c_1 : Nat), Loads P 34 ⟨r_2, 0, none⟩ (.agg #[(.bool r0_2), (.slice r1_p_2 r1_n_2 r1_c_2), (.slice r2_p_1 r2_n_1 r2_c_1)]) wv_7 ∧ R (.tuple #[(.agg #[(.bool r0_1), (.slice r1_p_1 r1_n_1 r1_c_1)]), (.agg #[(.bool r0_2), (.slice r1_p_2 r1_n_2 r1_c_2), (.slice r2_p_1 r2_n_1 r2_c_1)]), (.bool false)]) wv_7) ∧
 ((!t16) = false →
 ∃ (t240 : Bool) (t241_p : Option Addr) (t241_n : Nat) (t241_c : Nat), Loads P 30 ⟨r_3, 0, none⟩ (.agg #[(.bool t240), (.slice t241_p t241_n t241_c)]) wv_5 ∧ Calls P 107 ⟨[(.agg #[(.bool t240), (.slice t241_p t241_n t241_c)])]⟩ wv_5 fun e_1 wv_8 =>
 ∃ (t250 : Bool) (t251_p : Option Addr) (t251_n : Nat) (t251_c : Nat) (t252_p : Option Addr) (t252_n : Nat) (t252_c : Nat) (t25 : Bool), e_1 = .returned (.tuple #[(.agg #[(.bool t250), (.slice t251_p t251_n t251_c), (.slice t252_p t252_n t252_c)]), (.bool t25)]) ∧
 ∀ (r_4 : Nat) (wv_9 : World), New wv_8 (.cells ⟨[(.bool false), (.slice none 0 0), (.slice none 0 0)]⟩ 34 (0, 0)) r_4 wv_9 →
 ∃ wv_10, Stores P 34 ⟨r_4, 0, none⟩ (.agg #[(.bool t250), (.slice t251_p t251_n t251_c), (.slice t252_p t252_n t252_c)]) wv_9 wv_10 ∧
 ∃ (t290 : Bool) (t291_p : Option Addr) (t291_n : Nat) (t291_c : Nat) (t292_p : Option Addr) (t292_n : Nat) (t292_c : Nat), Loads P 34 ⟨r, 0, none⟩ (.agg #[(.bool t290), (.slice t291_p t291_n t291_c), (.slice t292_p t292_n t292_c)]) wv_10 ∧ ∃ (t300 : Bool) (t301_p : Option Addr) (t301_n : Nat) (t301_c : Nat) (t302_p : Option Addr) (t302_n : Nat) (t302_c : Nat), Loads P 34 ⟨r_4, 0, none⟩ (.agg #[(.bool t300), (.slice t301_p t301_n t301_c), (.slice t302_p t302_n t302_c)]) wv_10 ∧ Calls P 108 ⟨[(.agg #[(.bool t290), (.slice t291_p t291_n t291_c), (.slice t292_p t292_n t292_c)]), (.agg #[(.bool t300), (.slice t301_p t301_n t301_c), (.slice t302_p t302_n t302_c)])]⟩ wv_10 fun e_2 wv_11 =>
 ∃ (t310 : Bool) (t311_p : Option Addr) (t311_n : Nat) (t311_c : Nat) (t312_p : Option Addr) (t312_n : Nat) (t312_c : Nat) (t31 : Bool), e_2 = .returned (.tuple #[(.agg #[(.bool t310), (.slice t311_p t311_n t311_c), (.slice t312_p t312_n t312_c)]), (.bool t31)]) ∧
 ∀ (r_5 : Nat) (wv_12 : World), New wv_11 (.cells ⟨[(.bool false), (.slice none 0 0), (.slice none 0 0)]⟩ 34 (0, 0)) r_5 wv_12 →
 ∃ wv_13, Stores P 34 ⟨r_5, 0, none⟩ (.agg #[(.bool t310), (.slice t311_p t311_n t311_c), (.slice t312_p t312_n t312_c)]) wv_12 wv_13 ∧
 ((!t25) = true →
 (true = true →
 ∃ wv_14, Stores P 30 ⟨r_1, 0, none⟩ (.agg #[(.bool false), (.slice none 0 0)]) wv_13 wv_14 ∧
 ∃ wv_15, Stores P 34 ⟨r_2, 0, none⟩ (.agg #[(.bool false), (.slice none 0 0), (.slice none 0 0)]) wv_14 wv_15 ∧
 ∃ (r0_3 : Bool) (r1_p_3 : Option Addr) (r1_n_3 : Nat) (r1_c_3 : Nat), Loads P 30 ⟨r_1, 0, none⟩ (.agg #[(.bool r0_3), (.slice r1_p_3 r1_n_3 r1_c_3)]) wv_15 ∧ ∃ (r0_4 : Bool) (r1_p_4 : Option Addr) (r1_n_4 : Nat) (r1_c_4 : Nat) (r2_p_2 : Option Addr) (r2_n_2 : Nat) (r2_c_2 : Nat), Loads P 34 ⟨r_2, 0, none⟩ (.agg #[(.bool r0_4), (.slice r1_p_4 r1_n_4 r1_c_4), (.slice r2_p_2 r2_n_2 r2_c_2)]) wv_15 ∧ R (.tuple #[(.agg #[(.bool r0_3), (.slice r1_p_3 r1_n_3 r1_c_3)]), (.agg #[(.bool r0_4), (.slice r1_p_4 r1_n_4 r1_c_4), (.slice r2_p_2 r2_n_2 r2_c_2)]), (.bool false)]) wv_15) ∧
 (true = false →
 ∃ blks : List Nat, ∃ (t420 : Bool) (t421_p : Option Addr) (t421_n : Nat) (t421_c : Nat), (∀ wv_16, EX blks wv_13.drew wv_16 → Loads P 30 ⟨r_3, 0, none⟩ (.agg #[(.bool t420), (.slice t421_p t421_n t421_c)]) wv_16) ∧ ∃ (t430 : Bool) (t431_p : Option Addr) (t431_n : Nat) (t431_c : Nat) (t432_p : Option Addr) (t432_n : Nat) (t432_c : Nat), (∀ wv_17, EX blks wv_13.drew wv_17 → Loads P 34 ⟨r_5, 0, none⟩ (.agg #[(.bool t430), (.slice t431_p t431_n t431_c), (.slice t432_p t432_n t432_c)]) wv_17) ∧ ∃ wv_18, Stores P 30 ⟨r_1, 0, none⟩ (.agg #[(.bool t420), (.slice t421_p t421_n t421_c)]) wv_13.drew wv_18 ∧
 EX blks wv_13.drew wv_18 ∧ ∃ wv_19, Stores P 34 ⟨r_2, 0, none⟩ (.agg #[(.bool t430), (.slice t431_p t431_n t431_c), (.slice t432_p t432_n t432_c)]) wv_18 wv_19 ∧
 ∃ (r0_5 : Bool) (r1_p_5 : Option Addr) (r1_n_5 : Nat) (r1_c_5 : Nat), Loads P 30 ⟨r_1, 0, none⟩ (.agg #[(.bool r0_5), (.slice r1_p_5 r1_n_5 r1_c_5)]) wv_19 ∧ ∃ (r0_6 : Bool) (r1_p_6 : Option Addr) (r1_n_6 : Nat) (r1_c_6 : Nat) (r2_p_3 : Option Addr) (r2_n_3 : Nat) (r2_c_3 : Nat), Loads P 34 ⟨r_2, 0, none⟩ (.agg #[(.bool r0_6), (.slice r1_p_6 r1_n_6 r1_c_6), (.slice r2_p_3 r2_n_3 r2_c_3)]) wv_19 ∧ R (.tuple #[(.agg #[(.bool r0_5), (.slice r1_p_5 r1_n_5 r1_c_5)]), (.agg #[(.bool r0_6), (.slice r1_p_6 r1_n_6 r1_c_6), (.slice r2_p_3 r2_n_3 r2_c_3)]), (.bool true)]) wv_19)) ∧
 ((!t25) = false →
 ((!t31) = true →
 ∃ wv_20, Stores P 30 ⟨r_1, 0, none⟩ (.agg #[(.bool false), (.slice none 0 0)]) wv_13 wv_20 ∧
 ∃ wv_21, Stores P 34 ⟨r_2, 0, none⟩ (.agg #[(.bool false), (.slice none 0 0), (.slice none 0 0)]) wv_20 wv_21 ∧
 ∃ (r0_7 : Bool) (r1_p_7 : Option Addr) (r1_n_7 : Nat) (r1_c_7 : Nat), Loads P 30 ⟨r_1, 0, none⟩ (.agg #[(.bool r0_7), (.slice r1_p_7 r1_n_7 r1_c_7)]) wv_21 ∧ ∃ (r0_8 : Bool) (r1_p_8 : Option Addr) (r1_n_8 : Nat) (r1_c_8 : Nat) (r2_p_4 : Option Addr) (r2_n_4 : Nat) (r2_c_4 : Nat), Loads P 34 ⟨r_2, 0, none⟩ (.agg #[(.bool r0_8), (.slice r1_p_8 r1_n_8 r1_c_8), (.slice r2_p_4 r2_n_4 r2_c_4)]) wv_21 ∧ R (.tuple #[(.agg #[(.bool r0_7), (.slice r1_p_7 r1_n_7 r1_c_7)]), (.agg #[(.bool r0_8), (.slice r1_p_8 r1_n_8 r1_c_8), (.slice r2_p_4 r2_n_4 r2_c_4)]), (.bool false)]) wv_21) ∧
 ((!t31) = false →
 ∃ blks_1 : List Nat, ∃ (t420_1 : Bool) (t421_p_1 : Option Addr) (t421_n_1 : Nat) (t421_c_1 : Nat), (∀ wv_22, EX blks_1 wv_13.drew wv_22 → Loads P 30 ⟨r_3, 0, none⟩ (.agg #[(.bool t420_1), (.slice t421_p_1 t421_n_1 t421_c_1)]) wv_22) ∧ ∃ (t430_1 : Bool) (t431_p_1 : Option Addr) (t431_n_1 : Nat) (t431_c_1 : Nat) (t432_p_1 : Option Addr) (t432_n_1 : Nat) (t432_c_1 : Nat), (∀ wv_23, EX blks_1 wv_13.drew wv_23 → Loads P 34 ⟨r_5, 0, none⟩ (.agg #[(.bool t430_1), (.slice t431_p_1 t431_n_1 t431_c_1), (.slice t432_p_1 t432_n_1 t432_c_1)]) wv_23) ∧ ∃ wv_24, Stores P 30 ⟨r_1, 0, none⟩ (.agg #[(.bool t420_1), (.slice t421_p_1 t421_n_1 t421_c_1)]) wv_13.drew wv_24 ∧
 EX blks_1 wv_13.drew wv_24 ∧ ∃ wv_25, Stores P 34 ⟨r_2, 0, none⟩ (.agg #[(.bool t430_1), (.slice t431_p_1 t431_n_1 t431_c_1), (.slice t432_p_1 t432_n_1 t432_c_1)]) wv_24 wv_25 ∧
 ∃ (r0_9 : Bool) (r1_p_9 : Option Addr) (r1_n_9 : Nat) (r1_c_9 : Nat), Loads P 30 ⟨r_1, 0, none⟩ (.agg #[(.bool r0_9), (.slice r1_p_9 r1_n_9 r1_c_9)]) wv_25 ∧ ∃ (r0_10 : Bool) (r1_p_10 : Option Addr) (r1_n_10 : Nat) (r1_c_10 : Nat) (r2_p_5 : Option Addr) (r2_n_5 : Nat) (r2_c_5 : Nat), Loads P 34 ⟨r_2, 0, none⟩ (.agg #[(.bool r0_10), (.slice r1_p_10 r1_n_10 r1_c_10), (.slice r2_p_5 r2_n_5 r2_c_5)]) wv_25 ∧ R (.tuple #[(.agg #[(.bool r0_9), (.slice r1_p_9 r1_n_9 r1_c_9)]), (.agg #[(.bool r0_10), (.slice r1_p_10 r1_n_10 r1_c_10), (.slice r2_p_5 r2_n_5 r2_c_5)]), (.bool true)]) wv_25)))
theorem impl_RatRest_ret {r0 : Bool} {r1_p : Option Addr} {r1_n : Nat} {r1_c : Nat} {r2_p : Option Addr} {r2_n : Nat} {r2_c : Nat} {m : Int} {w : World} {R : Value → World → Prop} (h : impl_RatRest r0 r1_p r1_n r1_c r2_p r2_n r2_c m w R) : Ret P 69 [(.agg #[(.bool r0), (.slice r1_p r1_n r1_c), (.slice r2_p r2_n r2_c)]), (.int .i64 m)] w R :=
  Ret.of_fsem Tryz.func69 rfl (Eq.mp (show _ = fsem P Tryz.f69 (fun k => []) _ R w from by kernel_rfl) h)
def impl_moneyOf (cur : ByteArray) (units0 : Bool) (units1_p : Option Addr) (units1_n : Nat) (units1_c : Nat) (w : World) (R : Value → World → Prop) : Prop :=
 ∀ (r : Nat) (wv : World), New w (.cells ⟨[(.bool units0), (.slice units1_p units1_n units1_c)]⟩ 30 (0, 0)) r wv →
 ∀ (r_1 : Nat) (wv_1 : World), New wv (.cells ⟨[(.string ByteArray.empty), (.bool false), (.slice none 0 0)]⟩ 32 (0, 0)) r_1 wv_1 →
 ∃ (t80 : Bool) (t81_p : Option Addr) (t81_n : Nat) (t81_c : Nat), Loads P 30 ⟨r, 0, none⟩ (.agg #[(.bool t80), (.slice t81_p t81_n t81_c)]) wv_1 ∧ ∀ (r_2 : Nat) (wv_2 : World), New wv_1 (.cells ⟨[(.string ByteArray.empty), (.bool false), (.slice none 0 0)]⟩ 32 (0, 0)) r_2 wv_2 →
 ∃ wv_3, Stores P 32 ⟨r_2, 0, none⟩ (.agg #[(.string cur), (.bool t80), (.slice t81_p t81_n t81_c)]) wv_2 wv_3 ∧
 ∃ (t100 : ByteArray) (t101 : Bool) (t102_p : Option Addr) (t102_n : Nat) (t102_c : Nat), Loads P 32 ⟨r_2, 0, none⟩ (.agg #[(.string t100), (.bool t101), (.slice t102_p t102_n t102_c)]) wv_3 ∧ Calls P 28 ⟨[(.agg #[(.string t100), (.bool t101), (.slice t102_p t102_n t102_c)])]⟩ wv_3 fun e wv_4 =>
 ∃ (t11 : Bool), e = .returned (.bool t11) ∧
 (t11 = true →
 ∃ (t120 : ByteArray) (t121 : Bool) (t122_p : Option Addr) (t122_n : Nat) (t122_c : Nat), Loads P 32 ⟨r_2, 0, none⟩ (.agg #[(.string t120), (.bool t121), (.slice t122_p t122_n t122_c)]) wv_4 ∧ ∃ wv_5, Stores P 32 ⟨r_1, 0, none⟩ (.agg #[(.string t120), (.bool t121), (.slice t122_p t122_n t122_c)]) wv_4 wv_5 ∧
 ∃ (r0 : ByteArray) (r1 : Bool) (r2_p : Option Addr) (r2_n : Nat) (r2_c : Nat), Loads P 32 ⟨r_1, 0, none⟩ (.agg #[(.string r0), (.bool r1), (.slice r2_p r2_n r2_c)]) wv_5 ∧ R (.tuple #[(.agg #[(.string r0), (.bool r1), (.slice r2_p r2_n r2_c)]), (.bool true)]) wv_5) ∧
 (t11 = false →
 ∃ wv_6, Stores P 32 ⟨r_1, 0, none⟩ (.agg #[(.string ByteArray.empty), (.bool false), (.slice none 0 0)]) wv_4 wv_6 ∧
 ∃ (r0_1 : ByteArray) (r1_1 : Bool) (r2_p_1 : Option Addr) (r2_n_1 : Nat) (r2_c_1 : Nat), Loads P 32 ⟨r_1, 0, none⟩ (.agg #[(.string r0_1), (.bool r1_1), (.slice r2_p_1 r2_n_1 r2_c_1)]) wv_6 ∧ R (.tuple #[(.agg #[(.string r0_1), (.bool r1_1), (.slice r2_p_1 r2_n_1 r2_c_1)]), (.bool false)]) wv_6)
theorem impl_moneyOf_ret {cur : ByteArray} {units0 : Bool} {units1_p : Option Addr} {units1_n : Nat} {units1_c : Nat} {w : World} {R : Value → World → Prop} (h : impl_moneyOf cur units0 units1_p units1_n units1_c w R) : Ret P 70 [(.string cur), (.agg #[(.bool units0), (.slice units1_p units1_n units1_c)])] w R :=
  Ret.of_fsem Tryz.func70 rfl (Eq.mp (show _ = fsem P Tryz.f70 (fun k => []) _ R w from by kernel_rfl) h)
def spec_l09Both (m0 : ByteArray) (m1 : Bool) (m2_p : Option Addr) (m2_n : Nat) (m2_c : Nat) (n0 : ByteArray) (n1 : Bool) (n2_p : Option Addr) (n2_n : Nat) (n2_c : Nat) (w : World) (R : Value → World → Prop) : Prop :=
 ∀ (r : Nat) (wv : World), New w (.cells ⟨[(.string m0), (.bool m1), (.slice m2_p m2_n m2_c)]⟩ 32 (0, 0)) r wv →
 ∀ (r_1 : Nat) (wv_1 : World), New wv (.cells ⟨[(.string n0), (.bool n1), (.slice n2_p n2_n n2_c)]⟩ 32 (0, 0)) r_1 wv_1 →
 ∃ (t50 : ByteArray) (t51 : Bool) (t52_p : Option Addr) (t52_n : Nat) (t52_c : Nat), Loads P 32 ⟨r, 0, none⟩ (.agg #[(.string t50), (.bool t51), (.slice t52_p t52_n t52_c)]) wv_1 ∧ Calls P 24 ⟨[(.agg #[(.string t50), (.bool t51), (.slice t52_p t52_n t52_c)])]⟩ wv_1 fun e wv_2 =>
 ∃ (t6 : Bool), e = .returned (.bool t6) ∧
 (t6 = true →
 ∃ (t80 : ByteArray) (t81 : Bool) (t82_p : Option Addr) (t82_n : Nat) (t82_c : Nat), Loads P 32 ⟨r_1, 0, none⟩ (.agg #[(.string t80), (.bool t81), (.slice t82_p t82_n t82_c)]) wv_2 ∧ Calls P 24 ⟨[(.agg #[(.string t80), (.bool t81), (.slice t82_p t82_n t82_c)])]⟩ wv_2 fun e_1 wv_3 =>
 ∃ (t9 : Bool), e_1 = .returned (.bool t9) ∧
 (t9 = true →
 ∃ (t13 : ByteArray), Loads P 9 ((⟨r, 0, none⟩ : Addr).add 0) (.string t13) wv_3 ∧ ∃ (t15 : ByteArray), Loads P 9 ((⟨r_1, 0, none⟩ : Addr).add 0) (.string t15) wv_3 ∧ R (.bool (decide (t13 = t15))) wv_3) ∧
 (t9 = false →
 R (.bool false) wv_3)) ∧
 (t6 = false →
 (false = true →
 ∃ (t13_1 : ByteArray), Loads P 9 ((⟨r, 0, none⟩ : Addr).add 0) (.string t13_1) wv_2 ∧ ∃ (t15_1 : ByteArray), Loads P 9 ((⟨r_1, 0, none⟩ : Addr).add 0) (.string t15_1) wv_2 ∧ R (.bool (decide (t13_1 = t15_1))) wv_2) ∧
 (false = false →
 R (.bool false) wv_2))
theorem spec_l09Both_ret {m0 : ByteArray} {m1 : Bool} {m2_p : Option Addr} {m2_n : Nat} {m2_c : Nat} {n0 : ByteArray} {n1 : Bool} {n2_p : Option Addr} {n2_n : Nat} {n2_c : Nat} {w : World} {R : Value → World → Prop} (h : spec_l09Both m0 m1 m2_p m2_n m2_c n0 n1 n2_p n2_n n2_c w R) : Ret P 72 [(.agg #[(.string m0), (.bool m1), (.slice m2_p m2_n m2_c)]), (.agg #[(.string n0), (.bool n1), (.slice n2_p n2_n n2_c)])] w R :=
  Ret.of_fsem Tryz.func72 rfl (Eq.mp (show _ = fsem P Tryz.f72 (fun k => []) _ R w from by kernel_rfl) h)
def impl_alike (m0 : ByteArray) (m1 : Bool) (m2_p : Option Addr) (m2_n : Nat) (m2_c : Nat) (n0 : ByteArray) (n1 : Bool) (n2_p : Option Addr) (n2_n : Nat) (n2_c : Nat) (w : World) (R : Value → World → Prop) : Prop :=
 ∀ (r : Nat) (wv : World), New w (.cells ⟨[(.string m0), (.bool m1), (.slice m2_p m2_n m2_c)]⟩ 32 (0, 0)) r wv →
 ∀ (r_1 : Nat) (wv_1 : World), New wv (.cells ⟨[(.string n0), (.bool n1), (.slice n2_p n2_n n2_c)]⟩ 32 (0, 0)) r_1 wv_1 →
 ∃ (t50 : ByteArray) (t51 : Bool) (t52_p : Option Addr) (t52_n : Nat) (t52_c : Nat), Loads P 32 ⟨r, 0, none⟩ (.agg #[(.string t50), (.bool t51), (.slice t52_p t52_n t52_c)]) wv_1 ∧ Calls P 28 ⟨[(.agg #[(.string t50), (.bool t51), (.slice t52_p t52_n t52_c)])]⟩ wv_1 fun e wv_2 =>
 ∃ (t6 : Bool), e = .returned (.bool t6) ∧
 (t6 = true →
 ∃ (t80 : ByteArray) (t81 : Bool) (t82_p : Option Addr) (t82_n : Nat) (t82_c : Nat), Loads P 32 ⟨r_1, 0, none⟩ (.agg #[(.string t80), (.bool t81), (.slice t82_p t82_n t82_c)]) wv_2 ∧ Calls P 28 ⟨[(.agg #[(.string t80), (.bool t81), (.slice t82_p t82_n t82_c)])]⟩ wv_2 fun e_1 wv_3 =>
 ∃ (t9 : Bool), e_1 = .returned (.bool t9) ∧
 (t9 = true →
 ∃ (t13 : ByteArray), Loads P 9 ((⟨r, 0, none⟩ : Addr).add 0) (.string t13) wv_3 ∧ ∃ (t15 : ByteArray), Loads P 9 ((⟨r_1, 0, none⟩ : Addr).add 0) (.string t15) wv_3 ∧ R (.bool (decide (t13 = t15))) wv_3) ∧
 (t9 = false →
 R (.bool false) wv_3)) ∧
 (t6 = false →
 (false = true →
 ∃ (t13_1 : ByteArray), Loads P 9 ((⟨r, 0, none⟩ : Addr).add 0) (.string t13_1) wv_2 ∧ ∃ (t15_1 : ByteArray), Loads P 9 ((⟨r_1, 0, none⟩ : Addr).add 0) (.string t15_1) wv_2 ∧ R (.bool (decide (t13_1 = t15_1))) wv_2) ∧
 (false = false →
 R (.bool false) wv_2))
theorem impl_alike_ret {m0 : ByteArray} {m1 : Bool} {m2_p : Option Addr} {m2_n : Nat} {m2_c : Nat} {n0 : ByteArray} {n1 : Bool} {n2_p : Option Addr} {n2_n : Nat} {n2_c : Nat} {w : World} {R : Value → World → Prop} (h : impl_alike m0 m1 m2_p m2_n m2_c n0 n1 n2_p n2_n n2_c w R) : Ret P 73 [(.agg #[(.string m0), (.bool m1), (.slice m2_p m2_n m2_c)]), (.agg #[(.string n0), (.bool n1), (.slice n2_p n2_n n2_c)])] w R :=
  Ret.of_fsem Tryz.func73 rfl (Eq.mp (show _ = fsem P Tryz.f73 (fun k => []) _ R w from by kernel_rfl) h)
def impl_intAdd_j0 (r : Nat) (r_1 : Nat) (r_2 : Nat) (W : World) (R : Value → World → Prop) : Prop :=
 ∃ (t27 : Bool), (∀ wv_12, Ext W.drew wv_12 → Loads P 4 ((⟨r, 0, none⟩ : Addr).add 0) (.bool t27) wv_12) ∧ ∃ (t29_p : Option Addr) (t29_n : Nat) (t29_c : Nat), (∀ wv_13, Ext W.drew wv_13 → Loads P 23 ((⟨r, 0, none⟩ : Addr).add 1) (.slice t29_p t29_n t29_c) wv_13) ∧ ∃ (t31_p : Option Addr) (t31_n : Nat) (t31_c : Nat), (∀ wv_14, Ext W.drew wv_14 → Loads P 23 ((⟨r_1, 0, none⟩ : Addr).add 1) (.slice t31_p t31_n t31_c) wv_14) ∧ Calls P 65 ⟨[(.slice t29_p t29_n t29_c), (.slice t31_p t31_n t31_c)]⟩ W.drew fun e_3 wv_15 =>
 ∃ (t32_p : Option Addr) (t32_n : Nat) (t32_c : Nat), e_3 = .returned (.slice t32_p t32_n t32_c) ∧
 Ext W.drew wv_15 ∧ Calls P 109 ⟨[(.bool t27), (.slice t32_p t32_n t32_c)]⟩ wv_15 fun e_4 wv_16 =>
 ∃ (t330 : Bool) (t331_p : Option Addr) (t331_n : Nat) (t331_c : Nat), e_4 = .returned (.agg #[(.bool t330), (.slice t331_p t331_n t331_c)]) ∧
 ∃ wv_17, Stores P 30 ⟨r_2, 0, none⟩ (.agg #[(.bool t330), (.slice t331_p t331_n t331_c)]) wv_16 wv_17 ∧
 ∃ (r0_1 : Bool) (r1_p_1 : Option Addr) (r1_n_1 : Nat) (r1_c_1 : Nat), Loads P 30 ⟨r_2, 0, none⟩ (.agg #[(.bool r0_1), (.slice r1_p_1 r1_n_1 r1_c_1)]) wv_17 ∧ R (.agg #[(.bool r0_1), (.slice r1_p_1 r1_n_1 r1_c_1)]) wv_17
def impl_intAdd (x0 : Bool) (x1_p : Option Addr) (x1_n : Nat) (x1_c : Nat) (y0 : Bool) (y1_p : Option Addr) (y1_n : Nat) (y1_c : Nat) (w : World) (R : Value → World → Prop) : Prop :=
 ∀ (r : Nat) (wv : World), New w (.cells ⟨[(.bool x0), (.slice x1_p x1_n x1_c)]⟩ 30 (0, 0)) r wv →
 ∀ (r_1 : Nat) (wv_1 : World), New wv (.cells ⟨[(.bool y0), (.slice y1_p y1_n y1_c)]⟩ 30 (0, 0)) r_1 wv_1 →
 ∀ (r_2 : Nat) (wv_2 : World), New wv_1 (.cells ⟨[(.bool false), (.slice none 0 0)]⟩ 30 (0, 0)) r_2 wv_2 →
 ∃ (t6 : Bool), Loads P 4 ((⟨r, 0, none⟩ : Addr).add 0) (.bool t6) wv_2 ∧ ∃ (t8 : Bool), Loads P 4 ((⟨r_1, 0, none⟩ : Addr).add 0) (.bool t8) wv_2 ∧ ((t6 == t8) = true →
 ∃ (t11 : Bool), (∀ wv_3, Ext wv_2.drew wv_3 → Loads P 4 ((⟨r, 0, none⟩ : Addr).add 0) (.bool t11) wv_3) ∧ ∃ (t13_p : Option Addr) (t13_n : Nat) (t13_c : Nat), (∀ wv_4, Ext wv_2.drew wv_4 → Loads P 23 ((⟨r, 0, none⟩ : Addr).add 1) (.slice t13_p t13_n t13_c) wv_4) ∧ ∃ (t15_p : Option Addr) (t15_n : Nat) (t15_c : Nat), (∀ wv_5, Ext wv_2.drew wv_5 → Loads P 23 ((⟨r_1, 0, none⟩ : Addr).add 1) (.slice t15_p t15_n t15_c) wv_5) ∧ Calls P 110 ⟨[(.slice t13_p t13_n t13_c), (.slice t15_p t15_n t15_c)]⟩ wv_2.drew fun e wv_6 =>
 ∃ (t16_p : Option Addr) (t16_n : Nat) (t16_c : Nat), e = .returned (.slice t16_p t16_n t16_c) ∧
 Ext wv_2.drew wv_6 ∧ Calls P 109 ⟨[(.bool t11), (.slice t16_p t16_n t16_c)]⟩ wv_6 fun e_1 wv_7 =>
 ∃ (t170 : Bool) (t171_p : Option Addr) (t171_n : Nat) (t171_c : Nat), e_1 = .returned (.agg #[(.bool t170), (.slice t171_p t171_n t171_c)]) ∧
 ∃ wv_8, Stores P 30 ⟨r_2, 0, none⟩ (.agg #[(.bool t170), (.slice t171_p t171_n t171_c)]) wv_7 wv_8 ∧
 ∃ (r0 : Bool) (r1_p : Option Addr) (r1_n : Nat) (r1_c : Nat), Loads P 30 ⟨r_2, 0, none⟩ (.agg #[(.bool r0), (.slice r1_p r1_n r1_c)]) wv_8 ∧ R (.agg #[(.bool r0), (.slice r1_p r1_n r1_c)]) wv_8) ∧
 ((t6 == t8) = false →
 ∃ (t19_p : Option Addr) (t19_n : Nat) (t19_c : Nat), Loads P 23 ((⟨r, 0, none⟩ : Addr).add 1) (.slice t19_p t19_n t19_c) wv_2 ∧ ∃ (t21_p : Option Addr) (t21_n : Nat) (t21_c : Nat), Loads P 23 ((⟨r_1, 0, none⟩ : Addr).add 1) (.slice t21_p t21_n t21_c) wv_2 ∧ Calls P 63 ⟨[(.slice t19_p t19_n t19_c), (.slice t21_p t21_n t21_c)]⟩ wv_2 fun e_2 wv_9 =>
 ∃ (t22 : Int), e_2 = .returned (.int .i64 t22) ∧
 ((decide ((t22 : Int) < 0)) = true →
 ∃ (t240 : Bool) (t241_p : Option Addr) (t241_n : Nat) (t241_c : Nat), Loads P 30 ⟨r_1, 0, none⟩ (.agg #[(.bool t240), (.slice t241_p t241_n t241_c)]) wv_9 ∧ ∃ (t250 : Bool) (t251_p : Option Addr) (t251_n : Nat) (t251_c : Nat), Loads P 30 ⟨r, 0, none⟩ (.agg #[(.bool t250), (.slice t251_p t251_n t251_c)]) wv_9 ∧ ∃ wv_10, Stores P 30 ⟨r, 0, none⟩ (.agg #[(.bool t240), (.slice t241_p t241_n t241_c)]) wv_9 wv_10 ∧
 ∃ wv_11, Stores P 30 ⟨r_1, 0, none⟩ (.agg #[(.bool t250), (.slice t251_p t251_n t251_c)]) wv_10 wv_11 ∧
 impl_intAdd_j0 r r_1 r_2 wv_11 R) ∧
 ((decide ((t22 : Int) < 0)) = false →
 impl_intAdd_j0 r r_1 r_2 wv_9 R))
theorem impl_intAdd_ret {x0 : Bool} {x1_p : Option Addr} {x1_n : Nat} {x1_c : Nat} {y0 : Bool} {y1_p : Option Addr} {y1_n : Nat} {y1_c : Nat} {w : World} {R : Value → World → Prop} (h : impl_intAdd x0 x1_p x1_n x1_c y0 y1_p y1_n y1_c w R) : Ret P 74 [(.agg #[(.bool x0), (.slice x1_p x1_n x1_c)]), (.agg #[(.bool y0), (.slice y1_p y1_n y1_c)])] w R :=
  Ret.of_fsem Tryz.func74 rfl (Eq.mp (show _ = fsem P Tryz.f74 (fun k => []) _ R w from by kernel_rfl) h)
def impl_intNeg (x0 : Bool) (x1_p : Option Addr) (x1_n : Nat) (x1_c : Nat) (w : World) (R : Value → World → Prop) : Prop :=
 ∀ (r : Nat) (wv : World), New w (.cells ⟨[(.bool x0), (.slice x1_p x1_n x1_c)]⟩ 30 (0, 0)) r wv →
 ∀ (r_1 : Nat) (wv_1 : World), New wv (.cells ⟨[(.bool false), (.slice none 0 0)]⟩ 30 (0, 0)) r_1 wv_1 →
 ∃ (t4 : Bool), (∀ wv_2, Ext wv_1.drew wv_2 → Loads P 4 ((⟨r, 0, none⟩ : Addr).add 0) (.bool t4) wv_2) ∧ ∃ (t7_p : Option Addr) (t7_n : Nat) (t7_c : Nat), (∀ wv_3, Ext wv_1.drew wv_3 → Loads P 23 ((⟨r, 0, none⟩ : Addr).add 1) (.slice t7_p t7_n t7_c) wv_3) ∧ Calls P 111 ⟨[(.slice t7_p t7_n t7_c)]⟩ wv_1.drew fun e wv_4 =>
 ∃ (t8_p : Option Addr) (t8_n : Nat) (t8_c : Nat), e = .returned (.slice t8_p t8_n t8_c) ∧
 Ext wv_1.drew wv_4 ∧ Calls P 109 ⟨[(.bool (!t4)), (.slice t8_p t8_n t8_c)]⟩ wv_4 fun e_1 wv_5 =>
 ∃ (t90 : Bool) (t91_p : Option Addr) (t91_n : Nat) (t91_c : Nat), e_1 = .returned (.agg #[(.bool t90), (.slice t91_p t91_n t91_c)]) ∧
 ∃ wv_6, Stores P 30 ⟨r_1, 0, none⟩ (.agg #[(.bool t90), (.slice t91_p t91_n t91_c)]) wv_5 wv_6 ∧
 ∃ (r0 : Bool) (r1_p : Option Addr) (r1_n : Nat) (r1_c : Nat), Loads P 30 ⟨r_1, 0, none⟩ (.agg #[(.bool r0), (.slice r1_p r1_n r1_c)]) wv_6 ∧ R (.agg #[(.bool r0), (.slice r1_p r1_n r1_c)]) wv_6
theorem impl_intNeg_ret {x0 : Bool} {x1_p : Option Addr} {x1_n : Nat} {x1_c : Nat} {w : World} {R : Value → World → Prop} (h : impl_intNeg x0 x1_p x1_n x1_c w R) : Ret P 75 [(.agg #[(.bool x0), (.slice x1_p x1_n x1_c)])] w R :=
  Ret.of_fsem Tryz.func75 rfl (Eq.mp (show _ = fsem P Tryz.f75 (fun k => []) _ R w from by kernel_rfl) h)
def spec_l01In (n : Int) (lo : Int) (hi : Int) (w : World) (R : Value → World → Prop) : Prop :=
 ((decide ((lo : Int) ≤ n)) = true →
 R (.bool (decide ((n : Int) ≤ hi))) w) ∧
 ((decide ((lo : Int) ≤ n)) = false →
 R (.bool false) w)
theorem spec_l01In_ret {n : Int} {lo : Int} {hi : Int} {w : World} {R : Value → World → Prop} (h : spec_l01In n lo hi w R) : Ret P 76 [(.int .i64 n), (.int .i64 lo), (.int .i64 hi)] w R :=
  Ret.of_fsem Tryz.func76 rfl (Eq.mp (show _ = fsem P Tryz.f76 (fun k => []) _ R w from by kernel_rfl) h)
def spec_TaxRateOk (r0 : Bool) (r1_p : Option Addr) (r1_n : Nat) (r1_c : Nat) (r2 : Int) (w : World) (R : Value → World → Prop) : Prop :=
 ∀ (r : Nat) (wv : World), New w (.cells ⟨[(.bool r0), (.slice r1_p r1_n r1_c), (.int .i64 r2)]⟩ 60 (0, 0)) r wv →
 ∃ (t30 : Bool) (t31_p : Option Addr) (t31_n : Nat) (t31_c : Nat) (t32 : Int), (∀ wv_1, Ext wv.drew wv_1 → Loads P 60 ⟨r, 0, none⟩ (.agg #[(.bool t30), (.slice t31_p t31_n t31_c), (.int .i64 t32)]) wv_1) ∧ Calls P 88 ⟨[(.agg #[(.bool t30), (.slice t31_p t31_n t31_c), (.int .i64 t32)])]⟩ wv.drew fun e wv_2 =>
 ∃ (t4 : Bool), e = .returned (.bool t4) ∧
 (t4 = true →
 ∃ (t8 : Bool), (∀ wv_3, Ext wv_2 wv_3 → Loads P 4 (((⟨r, 0, none⟩ : Addr).add 0).add 0) (.bool t8) wv_3) ∧ ((!t8) = true →
 ∃ (t14_p : Option Addr) (t14_n : Nat) (t14_c : Nat), (∀ wv_4, Ext wv_2 wv_4 → Loads P 23 (((⟨r, 0, none⟩ : Addr).add 0).add 1) (.slice t14_p t14_n t14_c) wv_4) ∧ ((decide ((((t14_n : Nat) : Int) : Int) ≤ 1)) = true →
 ∃ (t190 : Bool) (t191_p : Option Addr) (t191_n : Nat) (t191_c : Nat) (t192 : Int), (∀ wv_5, Ext wv_2 wv_5 → Loads P 60 ⟨r, 0, none⟩ (.agg #[(.bool t190), (.slice t191_p t191_n t191_c), (.int .i64 t192)]) wv_5) ∧ Calls P 49 ⟨[(.int .i64 1)]⟩ wv_2 fun e_1 wv_6 =>
 ∃ (t200 : Bool) (t201_p : Option Addr) (t201_n : Nat) (t201_c : Nat), e_1 = .returned (.agg #[(.bool t200), (.slice t201_p t201_n t201_c)]) ∧
 Ext wv_2 wv_6 ∧ Calls P 112 ⟨[(.agg #[(.bool t190), (.slice t191_p t191_n t191_c), (.int .i64 t192)]), (.agg #[(.bool t200), (.slice t201_p t201_n t201_c), (.int .i64 0)])]⟩ wv_6 fun e_2 wv_7 =>
 ∃ (t22 : Int), e_2 = .returned (.int .i64 t22) ∧
 R (.bool (decide ((t22 : Int) ≤ 0))) wv_7) ∧
 ((decide ((((t14_n : Nat) : Int) : Int) ≤ 1)) = false →
 R (.bool false) wv_2)) ∧
 ((!t8) = false →
 (false = true →
 ∃ (t190_1 : Bool) (t191_p_1 : Option Addr) (t191_n_1 : Nat) (t191_c_1 : Nat) (t192_1 : Int), (∀ wv_8, Ext wv_2 wv_8 → Loads P 60 ⟨r, 0, none⟩ (.agg #[(.bool t190_1), (.slice t191_p_1 t191_n_1 t191_c_1), (.int .i64 t192_1)]) wv_8) ∧ Calls P 49 ⟨[(.int .i64 1)]⟩ wv_2 fun e_3 wv_9 =>
 ∃ (t200_1 : Bool) (t201_p_1 : Option Addr) (t201_n_1 : Nat) (t201_c_1 : Nat), e_3 = .returned (.agg #[(.bool t200_1), (.slice t201_p_1 t201_n_1 t201_c_1)]) ∧
 Ext wv_2 wv_9 ∧ Calls P 112 ⟨[(.agg #[(.bool t190_1), (.slice t191_p_1 t191_n_1 t191_c_1), (.int .i64 t192_1)]), (.agg #[(.bool t200_1), (.slice t201_p_1 t201_n_1 t201_c_1), (.int .i64 0)])]⟩ wv_9 fun e_4 wv_10 =>
 ∃ (t22_1 : Int), e_4 = .returned (.int .i64 t22_1) ∧
 R (.bool (decide ((t22_1 : Int) ≤ 0))) wv_10) ∧
 (false = false →
 R (.bool false) wv_2))) ∧
 (t4 = false →
 (false = true →
 ∃ (t14_p_1 : Option Addr) (t14_n_1 : Nat) (t14_c_1 : Nat), (∀ wv_11, Ext wv_2 wv_11 → Loads P 23 (((⟨r, 0, none⟩ : Addr).add 0).add 1) (.slice t14_p_1 t14_n_1 t14_c_1) wv_11) ∧ ((decide ((((t14_n_1 : Nat) : Int) : Int) ≤ 1)) = true →
 ∃ (t190_2 : Bool) (t191_p_2 : Option Addr) (t191_n_2 : Nat) (t191_c_2 : Nat) (t192_2 : Int), (∀ wv_12, Ext wv_2 wv_12 → Loads P 60 ⟨r, 0, none⟩ (.agg #[(.bool t190_2), (.slice t191_p_2 t191_n_2 t191_c_2), (.int .i64 t192_2)]) wv_12) ∧ Calls P 49 ⟨[(.int .i64 1)]⟩ wv_2 fun e_5 wv_13 =>
 ∃ (t200_2 : Bool) (t201_p_2 : Option Addr) (t201_n_2 : Nat) (t201_c_2 : Nat), e_5 = .returned (.agg #[(.bool t200_2), (.slice t201_p_2 t201_n_2 t201_c_2)]) ∧
 Ext wv_2 wv_13 ∧ Calls P 112 ⟨[(.agg #[(.bool t190_2), (.slice t191_p_2 t191_n_2 t191_c_2), (.int .i64 t192_2)]), (.agg #[(.bool t200_2), (.slice t201_p_2 t201_n_2 t201_c_2), (.int .i64 0)])]⟩ wv_13 fun e_6 wv_14 =>
 ∃ (t22_2 : Int), e_6 = .returned (.int .i64 t22_2) ∧
 R (.bool (decide ((t22_2 : Int) ≤ 0))) wv_14) ∧
 ((decide ((((t14_n_1 : Nat) : Int) : Int) ≤ 1)) = false →
 R (.bool false) wv_2)) ∧
 (false = false →
 (false = true →
 ∃ (t190_3 : Bool) (t191_p_3 : Option Addr) (t191_n_3 : Nat) (t191_c_3 : Nat) (t192_3 : Int), (∀ wv_15, Ext wv_2 wv_15 → Loads P 60 ⟨r, 0, none⟩ (.agg #[(.bool t190_3), (.slice t191_p_3 t191_n_3 t191_c_3), (.int .i64 t192_3)]) wv_15) ∧ Calls P 49 ⟨[(.int .i64 1)]⟩ wv_2 fun e_7 wv_16 =>
 ∃ (t200_3 : Bool) (t201_p_3 : Option Addr) (t201_n_3 : Nat) (t201_c_3 : Nat), e_7 = .returned (.agg #[(.bool t200_3), (.slice t201_p_3 t201_n_3 t201_c_3)]) ∧
 Ext wv_2 wv_16 ∧ Calls P 112 ⟨[(.agg #[(.bool t190_3), (.slice t191_p_3 t191_n_3 t191_c_3), (.int .i64 t192_3)]), (.agg #[(.bool t200_3), (.slice t201_p_3 t201_n_3 t201_c_3), (.int .i64 0)])]⟩ wv_16 fun e_8 wv_17 =>
 ∃ (t22_3 : Int), e_8 = .returned (.int .i64 t22_3) ∧
 R (.bool (decide ((t22_3 : Int) ≤ 0))) wv_17) ∧
 (false = false →
 R (.bool false) wv_2)))
theorem spec_TaxRateOk_ret {r0 : Bool} {r1_p : Option Addr} {r1_n : Nat} {r1_c : Nat} {r2 : Int} {w : World} {R : Value → World → Prop} (h : spec_TaxRateOk r0 r1_p r1_n r1_c r2 w R) : Ret P 77 [(.agg #[(.bool r0), (.slice r1_p r1_n r1_c), (.int .i64 r2)])] w R :=
  Ret.of_fsem Tryz.func77 rfl (Eq.mp (show _ = fsem P Tryz.f77 (fun k => []) _ R w from by kernel_rfl) h)
def spec_NatOk (a_p : Option Addr) (a_n : Nat) (a_c : Nat) (w : World) (R : Value → World → Prop) : Prop :=
 ∃ (Inv : Int → World → Prop) (mu : Int → World → Nat), Inv 0 w ∧
 ∀ (junk : Fr) (wv : World) (t7 : Int), Inv t7 wv →
 ((decide ((t7 : Int) < ((a_n : Nat) : Int))) = true →
 (0 ≤ (t7 : Int) ∧ (t7 : Int) < (a_n : Nat)) ∧ ptrS a_p fun ad => ∃ (t10 : Int), Loads P 3 (ad.add (t7.toNat * 1)) (.int .i64 t10) wv ∧ Calls P 76 ⟨[(.int .i64 t10), (.int .i64 0), (.int .i64 999999999)]⟩ wv fun e wv_1 =>
 ∃ (t12 : Bool), e = .returned (.bool t12) ∧
 ((!t12) = true →
 R (.bool false) wv_1) ∧
 ((!t12) = false →
 ∃ t14 : Int, t14 = IntKind.wrap .i64 (t7 + 1) ∧ Inv t14 wv_1 ∧ mu t14 wv_1 < mu t7 wv)) ∧
 ((decide ((t7 : Int) < ((a_n : Nat) : Int))) = false →
 ((decide ((((a_n : Nat) : Int) : Int) ≤ 50)) = true →
 ((decide ((((a_n : Nat) : Int) : Int) = 0)) = true →
 R (.bool true) wv) ∧
 ((decide ((((a_n : Nat) : Int) : Int) = 0)) = false →
 ∃ t26 : Int, t26 = IntKind.wrap .i64 (((a_n : Nat) : Int) - 1) ∧ (0 ≤ (t26 : Int) ∧ (t26 : Int) < (a_n : Nat)) ∧ ptrS a_p fun ad_1 => ∃ (t28 : Int), Loads P 3 (ad_1.add (t26.toNat * 1)) (.int .i64 t28) wv ∧ R (.bool (decide ((t28 : Int) ≠ 0))) wv)) ∧
 ((decide ((((a_n : Nat) : Int) : Int) ≤ 50)) = false →
 R (.bool false) wv))
theorem spec_NatOk_ret {a_p : Option Addr} {a_n : Nat} {a_c : Nat} {w : World} {R : Value → World → Prop} (h : spec_NatOk a_p a_n a_c w R) : Ret P 78 [(.slice a_p a_n a_c)] w R :=
  Ret.of_fsem Tryz.func78 rfl (Eq.mp (show _ = fsem P Tryz.f78 (fun k => cond (Nat.beq k 3) [(7, .one (.int .i64))] ([])) _ R w from by kernel_rfl) h)
def spec_l04Make (neg : Bool) (a_p : Option Addr) (a_n : Nat) (a_c : Nat) (w : World) (R : Value → World → Prop) : Prop :=
 ∀ (r : Nat) (wv : World), New w (.cells ⟨[(.bool false), (.slice none 0 0)]⟩ 30 (0, 0)) r wv →
 Calls P 113 ⟨[(.slice a_p a_n a_c)]⟩ wv fun e wv_1 =>
 ∃ (t7_p : Option Addr) (t7_n : Nat) (t7_c : Nat), e = .returned (.slice t7_p t7_n t7_c) ∧
 (neg = true →
 ∀ (r_1 : Nat) (wv_2 : World), New wv_1 (.cells ⟨[]⟩ 3 (0, 0)) r_1 wv_2 →
 ∃ (t16_p : Option Addr) (t16_n : Nat) (t16_c : Nat) (wv_3 : World), Appends P [23, 23] [(.slice (some ⟨r_1, 0, none⟩) 0 0), (.slice t7_p t7_n t7_c)] (.slice t16_p t16_n t16_c) wv_2 wv_3 ∧
 ∃ wv_4, Stores P 30 ⟨r, 0, none⟩ (.agg #[(.bool (decide ((0 : Int) < ((t7_n : Nat) : Int)))), (.slice t16_p t16_n t16_c)]) wv_3 wv_4 ∧
 ∃ (r0 : Bool) (r1_p : Option Addr) (r1_n : Nat) (r1_c : Nat), Loads P 30 ⟨r, 0, none⟩ (.agg #[(.bool r0), (.slice r1_p r1_n r1_c)]) wv_4 ∧ R (.agg #[(.bool r0), (.slice r1_p r1_n r1_c)]) wv_4) ∧
 (neg = false →
 ∀ (r_2 : Nat) (wv_5 : World), New wv_1 (.cells ⟨[]⟩ 3 (0, 0)) r_2 wv_5 →
 ∃ (t16_p_1 : Option Addr) (t16_n_1 : Nat) (t16_c_1 : Nat) (wv_6 : World), Appends P [23, 23] [(.slice (some ⟨r_2, 0, none⟩) 0 0), (.slice t7_p t7_n t7_c)] (.slice t16_p_1 t16_n_1 t16_c_1) wv_5 wv_6 ∧
 ∃ wv_7, Stores P 30 ⟨r, 0, none⟩ (.agg #[(.bool false), (.slice t16_p_1 t16_n_1 t16_c_1)]) wv_6 wv_7 ∧
 ∃ (r0_1 : Bool) (r1_p_1 : Option Addr) (r1_n_1 : Nat) (r1_c_1 : Nat), Loads P 30 ⟨r, 0, none⟩ (.agg #[(.bool r0_1), (.slice r1_p_1 r1_n_1 r1_c_1)]) wv_7 ∧ R (.agg #[(.bool r0_1), (.slice r1_p_1 r1_n_1 r1_c_1)]) wv_7)
theorem spec_l04Make_ret {neg : Bool} {a_p : Option Addr} {a_n : Nat} {a_c : Nat} {w : World} {R : Value → World → Prop} (h : spec_l04Make neg a_p a_n a_c w R) : Ret P 79 [(.bool neg), (.slice a_p a_n a_c)] w R :=
  Ret.of_fsem Tryz.func79 rfl (Eq.mp (show _ = fsem P Tryz.f79 (fun k => []) _ R w from by kernel_rfl) h)
def spec_IntCmp_j1 (r : Nat) (r_1 : Nat) (t14 : Bool) (W_1 : World) (R : Value → World → Prop) : Prop :=
 (t14 = true →
 R (.int .i64 (-1)) W_1) ∧
 (t14 = false →
 ∃ (t24 : Bool), Loads P 4 ((⟨r, 0, none⟩ : Addr).add 0) (.bool t24) W_1 ∧ ((!t24) = true →
 ∃ (t28 : Bool), Loads P 4 ((⟨r_1, 0, none⟩ : Addr).add 0) (.bool t28) W_1 ∧ (t28 = true →
 R (.int .i64 1) W_1) ∧
 (t28 = false →
 ∃ (t32 : Bool), Loads P 4 ((⟨r, 0, none⟩ : Addr).add 0) (.bool t32) W_1 ∧ (t32 = true →
 ∃ (t34_p : Option Addr) (t34_n : Nat) (t34_c : Nat), Loads P 23 ((⟨r_1, 0, none⟩ : Addr).add 1) (.slice t34_p t34_n t34_c) W_1 ∧ ∃ (t36_p : Option Addr) (t36_n : Nat) (t36_c : Nat), Loads P 23 ((⟨r, 0, none⟩ : Addr).add 1) (.slice t36_p t36_n t36_c) W_1 ∧ Calls P 114 ⟨[(.slice t34_p t34_n t34_c), (.slice t36_p t36_n t36_c)]⟩ W_1 fun e_1 wv_3 =>
 ∃ (t37 : Int), e_1 = .returned (.int .i64 t37) ∧
 R (.int .i64 t37) wv_3) ∧
 (t32 = false →
 ∃ (t39_p : Option Addr) (t39_n : Nat) (t39_c : Nat), Loads P 23 ((⟨r, 0, none⟩ : Addr).add 1) (.slice t39_p t39_n t39_c) W_1 ∧ ∃ (t41_p : Option Addr) (t41_n : Nat) (t41_c : Nat), Loads P 23 ((⟨r_1, 0, none⟩ : Addr).add 1) (.slice t41_p t41_n t41_c) W_1 ∧ Calls P 114 ⟨[(.slice t39_p t39_n t39_c), (.slice t41_p t41_n t41_c)]⟩ W_1 fun e_2 wv_4 =>
 ∃ (t42 : Int), e_2 = .returned (.int .i64 t42) ∧
 R (.int .i64 t42) wv_4))) ∧
 ((!t24) = false →
 (false = true →
 R (.int .i64 1) W_1) ∧
 (false = false →
 ∃ (t32_1 : Bool), Loads P 4 ((⟨r, 0, none⟩ : Addr).add 0) (.bool t32_1) W_1 ∧ (t32_1 = true →
 ∃ (t34_p_1 : Option Addr) (t34_n_1 : Nat) (t34_c_1 : Nat), Loads P 23 ((⟨r_1, 0, none⟩ : Addr).add 1) (.slice t34_p_1 t34_n_1 t34_c_1) W_1 ∧ ∃ (t36_p_1 : Option Addr) (t36_n_1 : Nat) (t36_c_1 : Nat), Loads P 23 ((⟨r, 0, none⟩ : Addr).add 1) (.slice t36_p_1 t36_n_1 t36_c_1) W_1 ∧ Calls P 114 ⟨[(.slice t34_p_1 t34_n_1 t34_c_1), (.slice t36_p_1 t36_n_1 t36_c_1)]⟩ W_1 fun e_3 wv_5 =>
 ∃ (t37_1 : Int), e_3 = .returned (.int .i64 t37_1) ∧
 R (.int .i64 t37_1) wv_5) ∧
 (t32_1 = false →
 ∃ (t39_p_1 : Option Addr) (t39_n_1 : Nat) (t39_c_1 : Nat), Loads P 23 ((⟨r, 0, none⟩ : Addr).add 1) (.slice t39_p_1 t39_n_1 t39_c_1) W_1 ∧ ∃ (t41_p_1 : Option Addr) (t41_n_1 : Nat) (t41_c_1 : Nat), Loads P 23 ((⟨r_1, 0, none⟩ : Addr).add 1) (.slice t41_p_1 t41_n_1 t41_c_1) W_1 ∧ Calls P 114 ⟨[(.slice t39_p_1 t39_n_1 t39_c_1), (.slice t41_p_1 t41_n_1 t41_c_1)]⟩ W_1 fun e_4 wv_6 =>
 ∃ (t42_1 : Int), e_4 = .returned (.int .i64 t42_1) ∧
 R (.int .i64 t42_1) wv_6))))
def spec_IntCmp_j0 (r : Nat) (r_1 : Nat) (t5 : Bool) (W : World) (R : Value → World → Prop) : Prop :=
 (t5 = true →
 R (.int .i64 0) W) ∧
 (t5 = false →
 ∃ (t16 : Bool), Loads P 4 ((⟨r, 0, none⟩ : Addr).add 0) (.bool t16) W ∧ (t16 = true →
 ∃ (t19 : Bool), Loads P 4 ((⟨r_1, 0, none⟩ : Addr).add 0) (.bool t19) W ∧ spec_IntCmp_j1 r r_1 (!t19) W R) ∧
 (t16 = false →
 spec_IntCmp_j1 r r_1 false W R))
def spec_IntCmp (x0 : Bool) (x1_p : Option Addr) (x1_n : Nat) (x1_c : Nat) (y0 : Bool) (y1_p : Option Addr) (y1_n : Nat) (y1_c : Nat) (w : World) (R : Value → World → Prop) : Prop :=
 ∀ (r : Nat) (wv : World), New w (.cells ⟨[(.bool x0), (.slice x1_p x1_n x1_c)]⟩ 30 (0, 0)) r wv →
 ∀ (r_1 : Nat) (wv_1 : World), New wv (.cells ⟨[(.bool y0), (.slice y1_p y1_n y1_c)]⟩ 30 (0, 0)) r_1 wv_1 →
 ∃ (t60 : Bool) (t61_p : Option Addr) (t61_n : Nat) (t61_c : Nat), Loads P 30 ⟨r, 0, none⟩ (.agg #[(.bool t60), (.slice t61_p t61_n t61_c)]) wv_1 ∧ Calls P 43 ⟨[(.agg #[(.bool t60), (.slice t61_p t61_n t61_c)])]⟩ wv_1 fun e wv_2 =>
 ∃ (t7 : Bool), e = .returned (.bool t7) ∧
 ((!t7) = true →
 spec_IntCmp_j0 r r_1 true wv_2 R) ∧
 ((!t7) = false →
 ∃ (t100 : Bool) (t101_p : Option Addr) (t101_n : Nat) (t101_c : Nat), Loads P 30 ⟨r_1, 0, none⟩ (.agg #[(.bool t100), (.slice t101_p t101_n t101_c)]) wv_2 ∧ Calls P 43 ⟨[(.agg #[(.bool t100), (.slice t101_p t101_n t101_c)])]⟩ wv_2 fun e_5 wv_7 =>
 ∃ (t11 : Bool), e_5 = .returned (.bool t11) ∧
 spec_IntCmp_j0 r r_1 (!t11) wv_7 R)
theorem spec_IntCmp_ret {x0 : Bool} {x1_p : Option Addr} {x1_n : Nat} {x1_c : Nat} {y0 : Bool} {y1_p : Option Addr} {y1_n : Nat} {y1_c : Nat} {w : World} {R : Value → World → Prop} (h : spec_IntCmp x0 x1_p x1_n x1_c y0 y1_p y1_n y1_c w R) : Ret P 80 [(.agg #[(.bool x0), (.slice x1_p x1_n x1_c)]), (.agg #[(.bool y0), (.slice y1_p y1_n y1_c)])] w R :=
  Ret.of_fsem Tryz.func80 rfl (Eq.mp (show _ = fsem P Tryz.f80 (fun k => []) _ R w from by kernel_rfl) h)
def spec_RatMake_j0 (r : Nat) (r_1 : Nat) (r_2 : Nat) (W : World) (R : Value → World → Prop) : Prop :=
 ∃ (t16 : Bool), Loads P 4 ((⟨r, 0, none⟩ : Addr).add 0) (.bool t16) W ∧ ∃ (t18 : Bool), Loads P 4 ((⟨r_1, 0, none⟩ : Addr).add 0) (.bool t18) W ∧ ∃ (t21_p : Option Addr) (t21_n : Nat) (t21_c : Nat), Loads P 23 ((⟨r, 0, none⟩ : Addr).add 1) (.slice t21_p t21_n t21_c) W ∧ ∃ (t23_p : Option Addr) (t23_n : Nat) (t23_c : Nat), Loads P 23 ((⟨r_1, 0, none⟩ : Addr).add 1) (.slice t23_p t23_n t23_c) W ∧ Calls P 86 ⟨[(.bool (!(t16 == t18))), (.slice t21_p t21_n t21_c), (.slice t23_p t23_n t23_c)]⟩ W fun e_1 wv_5 =>
 ∃ (t240 : Bool) (t241_p : Option Addr) (t241_n : Nat) (t241_c : Nat) (t242_p : Option Addr) (t242_n : Nat) (t242_c : Nat) (t24 : Bool), e_1 = .returned (.tuple #[(.agg #[(.bool t240), (.slice t241_p t241_n t241_c), (.slice t242_p t242_n t242_c)]), (.bool t24)]) ∧
 ∃ wv_6, Stores P 34 ⟨r_2, 0, none⟩ (.agg #[(.bool t240), (.slice t241_p t241_n t241_c), (.slice t242_p t242_n t242_c)]) wv_5 wv_6 ∧
 ∃ (r0_1 : Bool) (r1_p_1 : Option Addr) (r1_n_1 : Nat) (r1_c_1 : Nat) (r2_p_1 : Option Addr) (r2_n_1 : Nat) (r2_c_1 : Nat), Loads P 34 ⟨r_2, 0, none⟩ (.agg #[(.bool r0_1), (.slice r1_p_1 r1_n_1 r1_c_1), (.slice r2_p_1 r2_n_1 r2_c_1)]) wv_6 ∧ R (.tuple #[(.agg #[(.bool r0_1), (.slice r1_p_1 r1_n_1 r1_c_1), (.slice r2_p_1 r2_n_1 r2_c_1)]), (.bool t24)]) wv_6
def spec_RatMake (num0 : Bool) (num1_p : Option Addr) (num1_n : Nat) (num1_c : Nat) (den0 : Bool) (den1_p : Option Addr) (den1_n : Nat) (den1_c : Nat) (w : World) (R : Value → World → Prop) : Prop :=
 ∀ (r : Nat) (wv : World), New w (.cells ⟨[(.bool num0), (.slice num1_p num1_n num1_c)]⟩ 30 (0, 0)) r wv →
 ∀ (r_1 : Nat) (wv_1 : World), New wv (.cells ⟨[(.bool den0), (.slice den1_p den1_n den1_c)]⟩ 30 (0, 0)) r_1 wv_1 →
 ∀ (r_2 : Nat) (wv_2 : World), New wv_1 (.cells ⟨[(.bool false), (.slice none 0 0), (.slice none 0 0)]⟩ 34 (0, 0)) r_2 wv_2 →
 ∃ (t60 : Bool) (t61_p : Option Addr) (t61_n : Nat) (t61_c : Nat), Loads P 30 ⟨r, 0, none⟩ (.agg #[(.bool t60), (.slice t61_p t61_n t61_c)]) wv_2 ∧ Calls P 43 ⟨[(.agg #[(.bool t60), (.slice t61_p t61_n t61_c)])]⟩ wv_2 fun e wv_3 =>
 ∃ (t7 : Bool), e = .returned (.bool t7) ∧
 ((!t7) = true →
 (true = true →
 ∃ wv_4, Stores P 34 ⟨r_2, 0, none⟩ (.agg #[(.bool false), (.slice none 0 0), (.slice none 0 0)]) wv_3 wv_4 ∧
 ∃ (r0 : Bool) (r1_p : Option Addr) (r1_n : Nat) (r1_c : Nat) (r2_p : Option Addr) (r2_n : Nat) (r2_c : Nat), Loads P 34 ⟨r_2, 0, none⟩ (.agg #[(.bool r0), (.slice r1_p r1_n r1_c), (.slice r2_p r2_n r2_c)]) wv_4 ∧ R (.tuple #[(.agg #[(.bool r0), (.slice r1_p r1_n r1_c), (.slice r2_p r2_n r2_c)]), (.bool false)]) wv_4) ∧
 (true = false →
 spec_RatMake_j0 r r_1 r_2 wv_3 R)) ∧
 ((!t7) = false →
 ∃ (t100 : Bool) (t101_p : Option Addr) (t101_n : Nat) (t101_c : Nat), Loads P 30 ⟨r_1, 0, none⟩ (.agg #[(.bool t100), (.slice t101_p t101_n t101_c)]) wv_3 ∧ Calls P 43 ⟨[(.agg #[(.bool t100), (.slice t101_p t101_n t101_c)])]⟩ wv_3 fun e_2 wv_7 =>
 ∃ (t11 : Bool), e_2 = .returned (.bool t11) ∧
 ((!t11) = true →
 ∃ wv_8, Stores P 34 ⟨r_2, 0, none⟩ (.agg #[(.bool false), (.slice none 0 0), (.slice none 0 0)]) wv_7 wv_8 ∧
 ∃ (r0_2 : Bool) (r1_p_2 : Option Addr) (r1_n_2 : Nat) (r1_c_2 : Nat) (r2_p_2 : Option Addr) (r2_n_2 : Nat) (r2_c_2 : Nat), Loads P 34 ⟨r_2, 0, none⟩ (.agg #[(.bool r0_2), (.slice r1_p_2 r1_n_2 r1_c_2), (.slice r2_p_2 r2_n_2 r2_c_2)]) wv_8 ∧ R (.tuple #[(.agg #[(.bool r0_2), (.slice r1_p_2 r1_n_2 r1_c_2), (.slice r2_p_2 r2_n_2 r2_c_2)]), (.bool false)]) wv_8) ∧
 ((!t11) = false →
 spec_RatMake_j0 r r_1 r_2 wv_7 R))
theorem spec_RatMake_ret {num0 : Bool} {num1_p : Option Addr} {num1_n : Nat} {num1_c : Nat} {den0 : Bool} {den1_p : Option Addr} {den1_n : Nat} {den1_c : Nat} {w : World} {R : Value → World → Prop} (h : spec_RatMake num0 num1_p num1_n num1_c den0 den1_p den1_n den1_c w R) : Ret P 81 [(.agg #[(.bool num0), (.slice num1_p num1_n num1_c)]), (.agg #[(.bool den0), (.slice den1_p den1_n den1_c)])] w R :=
  Ret.of_fsem Tryz.func81 rfl (Eq.mp (show _ = fsem P Tryz.f81 (fun k => []) _ R w from by kernel_rfl) h)
def spec_l04Add (x0 : Bool) (x1_p : Option Addr) (x1_n : Nat) (x1_c : Nat) (y0 : Bool) (y1_p : Option Addr) (y1_n : Nat) (y1_c : Nat) (w : World) (R : Value → World → Prop) : Prop :=
 ∀ (r : Nat) (wv : World), New w (.cells ⟨[(.bool x0), (.slice x1_p x1_n x1_c)]⟩ 30 (0, 0)) r wv →
 ∀ (r_1 : Nat) (wv_1 : World), New wv (.cells ⟨[(.bool y0), (.slice y1_p y1_n y1_c)]⟩ 30 (0, 0)) r_1 wv_1 →
 ∀ (r_2 : Nat) (wv_2 : World), New wv_1 (.cells ⟨[(.bool false), (.slice none 0 0)]⟩ 30 (0, 0)) r_2 wv_2 →
 ∃ (t6 : Bool), Loads P 4 ((⟨r, 0, none⟩ : Addr).add 0) (.bool t6) wv_2 ∧ ∃ (t8 : Bool), Loads P 4 ((⟨r_1, 0, none⟩ : Addr).add 0) (.bool t8) wv_2 ∧ ((t6 == t8) = true →
 ∃ (t11 : Bool), (∀ wv_3, Ext wv_2.drew wv_3 → Loads P 4 ((⟨r, 0, none⟩ : Addr).add 0) (.bool t11) wv_3) ∧ ∃ (t13_p : Option Addr) (t13_n : Nat) (t13_c : Nat), (∀ wv_4, Ext wv_2.drew wv_4 → Loads P 23 ((⟨r, 0, none⟩ : Addr).add 1) (.slice t13_p t13_n t13_c) wv_4) ∧ ∃ (t15_p : Option Addr) (t15_n : Nat) (t15_c : Nat), (∀ wv_5, Ext wv_2.drew wv_5 → Loads P 23 ((⟨r_1, 0, none⟩ : Addr).add 1) (.slice t15_p t15_n t15_c) wv_5) ∧ Calls P 115 ⟨[(.slice t13_p t13_n t13_c), (.slice t15_p t15_n t15_c)]⟩ wv_2.drew fun e wv_6 =>
 ∃ (t16_p : Option Addr) (t16_n : Nat) (t16_c : Nat), e = .returned (.slice t16_p t16_n t16_c) ∧
 Ext wv_2.drew wv_6 ∧ Calls P 79 ⟨[(.bool t11), (.slice t16_p t16_n t16_c)]⟩ wv_6 fun e_1 wv_7 =>
 ∃ (t170 : Bool) (t171_p : Option Addr) (t171_n : Nat) (t171_c : Nat), e_1 = .returned (.agg #[(.bool t170), (.slice t171_p t171_n t171_c)]) ∧
 ∃ wv_8, Stores P 30 ⟨r_2, 0, none⟩ (.agg #[(.bool t170), (.slice t171_p t171_n t171_c)]) wv_7 wv_8 ∧
 ∃ (r0 : Bool) (r1_p : Option Addr) (r1_n : Nat) (r1_c : Nat), Loads P 30 ⟨r_2, 0, none⟩ (.agg #[(.bool r0), (.slice r1_p r1_n r1_c)]) wv_8 ∧ R (.agg #[(.bool r0), (.slice r1_p r1_n r1_c)]) wv_8) ∧
 ((t6 == t8) = false →
 ∃ (t19_p : Option Addr) (t19_n : Nat) (t19_c : Nat), Loads P 23 ((⟨r, 0, none⟩ : Addr).add 1) (.slice t19_p t19_n t19_c) wv_2 ∧ ∃ (t21_p : Option Addr) (t21_n : Nat) (t21_c : Nat), Loads P 23 ((⟨r_1, 0, none⟩ : Addr).add 1) (.slice t21_p t21_n t21_c) wv_2 ∧ Calls P 114 ⟨[(.slice t19_p t19_n t19_c), (.slice t21_p t21_n t21_c)]⟩ wv_2 fun e_2 wv_9 =>
 ∃ (t22 : Int), e_2 = .returned (.int .i64 t22) ∧
 ((decide ((0 : Int) ≤ t22)) = true →
 ∃ (t25 : Bool), (∀ wv_10, Ext wv_9.drew wv_10 → Loads P 4 ((⟨r, 0, none⟩ : Addr).add 0) (.bool t25) wv_10) ∧ ∃ (t27_p : Option Addr) (t27_n : Nat) (t27_c : Nat), (∀ wv_11, Ext wv_9.drew wv_11 → Loads P 23 ((⟨r, 0, none⟩ : Addr).add 1) (.slice t27_p t27_n t27_c) wv_11) ∧ ∃ (t29_p : Option Addr) (t29_n : Nat) (t29_c : Nat), (∀ wv_12, Ext wv_9.drew wv_12 → Loads P 23 ((⟨r_1, 0, none⟩ : Addr).add 1) (.slice t29_p t29_n t29_c) wv_12) ∧ Calls P 116 ⟨[(.slice t27_p t27_n t27_c), (.slice t29_p t29_n t29_c)]⟩ wv_9.drew fun e_3 wv_13 =>
 ∃ (t30_p : Option Addr) (t30_n : Nat) (t30_c : Nat), e_3 = .returned (.slice t30_p t30_n t30_c) ∧
 Ext wv_9.drew wv_13 ∧ Calls P 79 ⟨[(.bool t25), (.slice t30_p t30_n t30_c)]⟩ wv_13 fun e_4 wv_14 =>
 ∃ (t310 : Bool) (t311_p : Option Addr) (t311_n : Nat) (t311_c : Nat), e_4 = .returned (.agg #[(.bool t310), (.slice t311_p t311_n t311_c)]) ∧
 ∃ wv_15, Stores P 30 ⟨r_2, 0, none⟩ (.agg #[(.bool t310), (.slice t311_p t311_n t311_c)]) wv_14 wv_15 ∧
 ∃ (r0_1 : Bool) (r1_p_1 : Option Addr) (r1_n_1 : Nat) (r1_c_1 : Nat), Loads P 30 ⟨r_2, 0, none⟩ (.agg #[(.bool r0_1), (.slice r1_p_1 r1_n_1 r1_c_1)]) wv_15 ∧ R (.agg #[(.bool r0_1), (.slice r1_p_1 r1_n_1 r1_c_1)]) wv_15) ∧
 ((decide ((0 : Int) ≤ t22)) = false →
 ∃ (t33 : Bool), (∀ wv_16, Ext wv_9.drew wv_16 → Loads P 4 ((⟨r_1, 0, none⟩ : Addr).add 0) (.bool t33) wv_16) ∧ ∃ (t35_p : Option Addr) (t35_n : Nat) (t35_c : Nat), (∀ wv_17, Ext wv_9.drew wv_17 → Loads P 23 ((⟨r_1, 0, none⟩ : Addr).add 1) (.slice t35_p t35_n t35_c) wv_17) ∧ ∃ (t37_p : Option Addr) (t37_n : Nat) (t37_c : Nat), (∀ wv_18, Ext wv_9.drew wv_18 → Loads P 23 ((⟨r, 0, none⟩ : Addr).add 1) (.slice t37_p t37_n t37_c) wv_18) ∧ Calls P 116 ⟨[(.slice t35_p t35_n t35_c), (.slice t37_p t37_n t37_c)]⟩ wv_9.drew fun e_5 wv_19 =>
 ∃ (t38_p : Option Addr) (t38_n : Nat) (t38_c : Nat), e_5 = .returned (.slice t38_p t38_n t38_c) ∧
 Ext wv_9.drew wv_19 ∧ Calls P 79 ⟨[(.bool t33), (.slice t38_p t38_n t38_c)]⟩ wv_19 fun e_6 wv_20 =>
 ∃ (t390 : Bool) (t391_p : Option Addr) (t391_n : Nat) (t391_c : Nat), e_6 = .returned (.agg #[(.bool t390), (.slice t391_p t391_n t391_c)]) ∧
 ∃ wv_21, Stores P 30 ⟨r_2, 0, none⟩ (.agg #[(.bool t390), (.slice t391_p t391_n t391_c)]) wv_20 wv_21 ∧
 ∃ (r0_2 : Bool) (r1_p_2 : Option Addr) (r1_n_2 : Nat) (r1_c_2 : Nat), Loads P 30 ⟨r_2, 0, none⟩ (.agg #[(.bool r0_2), (.slice r1_p_2 r1_n_2 r1_c_2)]) wv_21 ∧ R (.agg #[(.bool r0_2), (.slice r1_p_2 r1_n_2 r1_c_2)]) wv_21))
theorem spec_l04Add_ret {x0 : Bool} {x1_p : Option Addr} {x1_n : Nat} {x1_c : Nat} {y0 : Bool} {y1_p : Option Addr} {y1_n : Nat} {y1_c : Nat} {w : World} {R : Value → World → Prop} (h : spec_l04Add x0 x1_p x1_n x1_c y0 y1_p y1_n y1_c w R) : Ret P 82 [(.agg #[(.bool x0), (.slice x1_p x1_n x1_c)]), (.agg #[(.bool y0), (.slice y1_p y1_n y1_c)])] w R :=
  Ret.of_fsem Tryz.func82 rfl (Eq.mp (show _ = fsem P Tryz.f82 (fun k => []) _ R w from by kernel_rfl) h)
def spec_IntNeg (x0 : Bool) (x1_p : Option Addr) (x1_n : Nat) (x1_c : Nat) (w : World) (R : Value → World → Prop) : Prop :=
 ∀ (r : Nat) (wv : World), New w (.cells ⟨[(.bool x0), (.slice x1_p x1_n x1_c)]⟩ 30 (0, 0)) r wv →
 ∀ (r_1 : Nat) (wv_1 : World), New wv (.cells ⟨[(.bool false), (.slice none 0 0)]⟩ 30 (0, 0)) r_1 wv_1 →
 ∃ (t30 : Bool) (t31_p : Option Addr) (t31_n : Nat) (t31_c : Nat), Loads P 30 ⟨r, 0, none⟩ (.agg #[(.bool t30), (.slice t31_p t31_n t31_c)]) wv_1 ∧ Calls P 43 ⟨[(.agg #[(.bool t30), (.slice t31_p t31_n t31_c)])]⟩ wv_1 fun e wv_2 =>
 ∃ (t4 : Bool), e = .returned (.bool t4) ∧
 ((!t4) = true →
 ∃ wv_3, Stores P 30 ⟨r_1, 0, none⟩ (.agg #[(.bool false), (.slice none 0 0)]) wv_2 wv_3 ∧
 ∃ (r0 : Bool) (r1_p : Option Addr) (r1_n : Nat) (r1_c : Nat), Loads P 30 ⟨r_1, 0, none⟩ (.agg #[(.bool r0), (.slice r1_p r1_n r1_c)]) wv_3 ∧ R (.agg #[(.bool r0), (.slice r1_p r1_n r1_c)]) wv_3) ∧
 ((!t4) = false →
 ∃ (t8 : Bool), Loads P 4 ((⟨r, 0, none⟩ : Addr).add 0) (.bool t8) wv_2 ∧ ∃ (t11_p : Option Addr) (t11_n : Nat) (t11_c : Nat), Loads P 23 ((⟨r, 0, none⟩ : Addr).add 1) (.slice t11_p t11_n t11_c) wv_2 ∧ Calls P 79 ⟨[(.bool (!t8)), (.slice t11_p t11_n t11_c)]⟩ wv_2 fun e_1 wv_4 =>
 ∃ (t120 : Bool) (t121_p : Option Addr) (t121_n : Nat) (t121_c : Nat), e_1 = .returned (.agg #[(.bool t120), (.slice t121_p t121_n t121_c)]) ∧
 ∃ wv_5, Stores P 30 ⟨r_1, 0, none⟩ (.agg #[(.bool t120), (.slice t121_p t121_n t121_c)]) wv_4 wv_5 ∧
 ∃ (r0_1 : Bool) (r1_p_1 : Option Addr) (r1_n_1 : Nat) (r1_c_1 : Nat), Loads P 30 ⟨r_1, 0, none⟩ (.agg #[(.bool r0_1), (.slice r1_p_1 r1_n_1 r1_c_1)]) wv_5 ∧ R (.agg #[(.bool r0_1), (.slice r1_p_1 r1_n_1 r1_c_1)]) wv_5)
theorem spec_IntNeg_ret {x0 : Bool} {x1_p : Option Addr} {x1_n : Nat} {x1_c : Nat} {w : World} {R : Value → World → Prop} (h : spec_IntNeg x0 x1_p x1_n x1_c w R) : Ret P 83 [(.agg #[(.bool x0), (.slice x1_p x1_n x1_c)])] w R :=
  Ret.of_fsem Tryz.func83 rfl (Eq.mp (show _ = fsem P Tryz.f83 (fun k => []) _ R w from by kernel_rfl) h)
def spec_NatOf (n : Int) (w : World) (R : Value → World → Prop) : Prop :=
 ∀ (r : Nat) (wv : World), New w (.cells ⟨[]⟩ 3 (0, 0)) r wv →
 ∃ (Inv : Int → Option Addr → Nat → Nat → World → Prop) (mu : Int → Option Addr → Nat → Nat → World → Nat), Inv n (some ⟨r, 0, none⟩) 0 0 wv ∧
 ∀ (junk : Fr) (wv_1 : World) (n_1 : Int) (out_p : Option Addr) (out_n : Nat) (out_c : Nat), Inv n_1 out_p out_n out_c wv_1 →
 ((decide ((0 : Int) < n_1)) = true →
 (1000000000 : Int) ≠ 0 ∧ ∃ t9 : Int, t9 = Int.tmod n_1 1000000000 ∧ ∀ (r_1 : Nat) (wv_2 : World), New wv_1 (.cells ⟨[(.int .i64 t9)]⟩ 3 (0, 0)) r_1 wv_2 →
 ∃ (t11_p : Option Addr) (t11_n : Nat) (t11_c : Nat) (wv_3 : World), Appends P [23, 23] [(.slice out_p out_n out_c), (.slice (some ⟨r_1, 0, none⟩) 1 1)] (.slice t11_p t11_n t11_c) wv_2 wv_3 ∧
 (1000000000 : Int) ≠ 0 ∧ ∃ t13 : Int, t13 = IntKind.wrap .i64 (Int.tdiv n_1 1000000000) ∧ Inv t13 t11_p t11_n t11_c wv_3 ∧ mu t13 t11_p t11_n t11_c wv_3 < mu n_1 out_p out_n out_c wv_1) ∧
 ((decide ((0 : Int) < n_1)) = false →
 R (.slice out_p out_n out_c) wv_1)
theorem spec_NatOf_ret {n : Int} {w : World} {R : Value → World → Prop} (h : spec_NatOf n w R) : Ret P 84 [(.int .i64 n)] w R :=
  Ret.of_fsem Tryz.func84 rfl (Eq.mp (show _ = fsem P Tryz.f84 (fun k => cond (Nat.beq k 3) [(0, .one (.int .i64)), (3, .one .slice)] ([])) _ R w from by kernel_rfl) h)
def spec_RatOk (r0 : Bool) (r1_p : Option Addr) (r1_n : Nat) (r1_c : Nat) (r2_p : Option Addr) (r2_n : Nat) (r2_c : Nat) (w : World) (R : Value → World → Prop) : Prop :=
 ∀ (r : Nat) (wv : World), New w (.cells ⟨[(.bool r0), (.slice r1_p r1_n r1_c), (.slice r2_p r2_n r2_c)]⟩ 34 (0, 0)) r wv →
 ∃ (t40 : Bool) (t41_p : Option Addr) (t41_n : Nat) (t41_c : Nat), Loads P 30 ((⟨r, 0, none⟩ : Addr).add 0) (.agg #[(.bool t40), (.slice t41_p t41_n t41_c)]) wv ∧ Calls P 43 ⟨[(.agg #[(.bool t40), (.slice t41_p t41_n t41_c)])]⟩ wv fun e wv_1 =>
 ∃ (t5 : Bool), e = .returned (.bool t5) ∧
 ((!t5) = true →
 (true = true →
 (true = true →
 (true = true →
 (true = true →
 R (.bool false) wv_1) ∧
 (true = false →
 ∃ (t34_p : Option Addr) (t34_n : Nat) (t34_c : Nat), Loads P 23 (((⟨r, 0, none⟩ : Addr).add 0).add 1) (.slice t34_p t34_n t34_c) wv_1 ∧ ∃ (t36_p : Option Addr) (t36_n : Nat) (t36_c : Nat), Loads P 23 ((⟨r, 0, none⟩ : Addr).add 2) (.slice t36_p t36_n t36_c) wv_1 ∧ Calls P 117 ⟨[(.slice t34_p t34_n t34_c), (.slice t36_p t36_n t36_c)]⟩ wv_1 fun e_1 wv_2 =>
 ∃ (t37_p : Option Addr) (t37_n : Nat) (t37_c : Nat), e_1 = .returned (.slice t37_p t37_n t37_c) ∧
 ∀ (r_1 : Nat) (wv_3 : World), New wv_2 (.cells ⟨[(.int .i64 1)]⟩ 3 (0, 0)) r_1 wv_3 →
 Calls P 114 ⟨[(.slice t37_p t37_n t37_c), (.slice (some ⟨r_1, 0, none⟩) 1 1)]⟩ wv_3 fun e_2 wv_4 =>
 ∃ (t39 : Int), e_2 = .returned (.int .i64 t39) ∧
 R (.bool (decide ((t39 : Int) = 0))) wv_4)) ∧
 (true = false →
 ∃ (t28_p : Option Addr) (t28_n : Nat) (t28_c : Nat), Loads P 23 (((⟨r, 0, none⟩ : Addr).add 0).add 1) (.slice t28_p t28_n t28_c) wv_1 ∧ ((decide ((18 : Int) < ((t28_n : Nat) : Int))) = true →
 R (.bool false) wv_1) ∧
 ((decide ((18 : Int) < ((t28_n : Nat) : Int))) = false →
 ∃ (t34_p_1 : Option Addr) (t34_n_1 : Nat) (t34_c_1 : Nat), Loads P 23 (((⟨r, 0, none⟩ : Addr).add 0).add 1) (.slice t34_p_1 t34_n_1 t34_c_1) wv_1 ∧ ∃ (t36_p_1 : Option Addr) (t36_n_1 : Nat) (t36_c_1 : Nat), Loads P 23 ((⟨r, 0, none⟩ : Addr).add 2) (.slice t36_p_1 t36_n_1 t36_c_1) wv_1 ∧ Calls P 117 ⟨[(.slice t34_p_1 t34_n_1 t34_c_1), (.slice t36_p_1 t36_n_1 t36_c_1)]⟩ wv_1 fun e_3 wv_5 =>
 ∃ (t37_p_1 : Option Addr) (t37_n_1 : Nat) (t37_c_1 : Nat), e_3 = .returned (.slice t37_p_1 t37_n_1 t37_c_1) ∧
 ∀ (r_2 : Nat) (wv_6 : World), New wv_5 (.cells ⟨[(.int .i64 1)]⟩ 3 (0, 0)) r_2 wv_6 →
 Calls P 114 ⟨[(.slice t37_p_1 t37_n_1 t37_c_1), (.slice (some ⟨r_2, 0, none⟩) 1 1)]⟩ wv_6 fun e_4 wv_7 =>
 ∃ (t39_1 : Int), e_4 = .returned (.int .i64 t39_1) ∧
 R (.bool (decide ((t39_1 : Int) = 0))) wv_7))) ∧
 (true = false →
 ∃ (t21_p : Option Addr) (t21_n : Nat) (t21_c : Nat), Loads P 23 ((⟨r, 0, none⟩ : Addr).add 2) (.slice t21_p t21_n t21_c) wv_1 ∧ ((decide ((18 : Int) < ((t21_n : Nat) : Int))) = true →
 (true = true →
 R (.bool false) wv_1) ∧
 (true = false →
 ∃ (t34_p_2 : Option Addr) (t34_n_2 : Nat) (t34_c_2 : Nat), Loads P 23 (((⟨r, 0, none⟩ : Addr).add 0).add 1) (.slice t34_p_2 t34_n_2 t34_c_2) wv_1 ∧ ∃ (t36_p_2 : Option Addr) (t36_n_2 : Nat) (t36_c_2 : Nat), Loads P 23 ((⟨r, 0, none⟩ : Addr).add 2) (.slice t36_p_2 t36_n_2 t36_c_2) wv_1 ∧ Calls P 117 ⟨[(.slice t34_p_2 t34_n_2 t34_c_2), (.slice t36_p_2 t36_n_2 t36_c_2)]⟩ wv_1 fun e_5 wv_8 =>
 ∃ (t37_p_2 : Option Addr) (t37_n_2 : Nat) (t37_c_2 : Nat), e_5 = .returned (.slice t37_p_2 t37_n_2 t37_c_2) ∧
 ∀ (r_3 : Nat) (wv_9 : World), New wv_8 (.cells ⟨[(.int .i64 1)]⟩ 3 (0, 0)) r_3 wv_9 →
 Calls P 114 ⟨[(.slice t37_p_2 t37_n_2 t37_c_2), (.slice (some ⟨r_3, 0, none⟩) 1 1)]⟩ wv_9 fun e_6 wv_10 =>
 ∃ (t39_2 : Int), e_6 = .returned (.int .i64 t39_2) ∧
 R (.bool (decide ((t39_2 : Int) = 0))) wv_10)) ∧
 ((decide ((18 : Int) < ((t21_n : Nat) : Int))) = false →
 ∃ (t28_p_1 : Option Addr) (t28_n_1 : Nat) (t28_c_1 : Nat), Loads P 23 (((⟨r, 0, none⟩ : Addr).add 0).add 1) (.slice t28_p_1 t28_n_1 t28_c_1) wv_1 ∧ ((decide ((18 : Int) < ((t28_n_1 : Nat) : Int))) = true →
 R (.bool false) wv_1) ∧
 ((decide ((18 : Int) < ((t28_n_1 : Nat) : Int))) = false →
 ∃ (t34_p_3 : Option Addr) (t34_n_3 : Nat) (t34_c_3 : Nat), Loads P 23 (((⟨r, 0, none⟩ : Addr).add 0).add 1) (.slice t34_p_3 t34_n_3 t34_c_3) wv_1 ∧ ∃ (t36_p_3 : Option Addr) (t36_n_3 : Nat) (t36_c_3 : Nat), Loads P 23 ((⟨r, 0, none⟩ : Addr).add 2) (.slice t36_p_3 t36_n_3 t36_c_3) wv_1 ∧ Calls P 117 ⟨[(.slice t34_p_3 t34_n_3 t34_c_3), (.slice t36_p_3 t36_n_3 t36_c_3)]⟩ wv_1 fun e_7 wv_11 =>
 ∃ (t37_p_3 : Option Addr) (t37_n_3 : Nat) (t37_c_3 : Nat), e_7 = .returned (.slice t37_p_3 t37_n_3 t37_c_3) ∧
 ∀ (r_4 : Nat) (wv_12 : World), New wv_11 (.cells ⟨[(.int .i64 1)]⟩ 3 (0, 0)) r_4 wv_12 →
 Calls P 114 ⟨[(.slice t37_p_3 t37_n_3 t37_c_3), (.slice (some ⟨r_4, 0, none⟩) 1 1)]⟩ wv_12 fun e_8 wv_13 =>
 ∃ (t39_3 : Int), e_8 = .returned (.int .i64 t39_3) ∧
 R (.bool (decide ((t39_3 : Int) = 0))) wv_13)))) ∧
 (true = false →
 ∃ (t15_p : Option Addr) (t15_n : Nat) (t15_c : Nat), Loads P 23 ((⟨r, 0, none⟩ : Addr).add 2) (.slice t15_p t15_n t15_c) wv_1 ∧ ((decide ((((t15_n : Nat) : Int) : Int) = 0)) = true →
 (true = true →
 (true = true →
 R (.bool false) wv_1) ∧
 (true = false →
 ∃ (t34_p_4 : Option Addr) (t34_n_4 : Nat) (t34_c_4 : Nat), Loads P 23 (((⟨r, 0, none⟩ : Addr).add 0).add 1) (.slice t34_p_4 t34_n_4 t34_c_4) wv_1 ∧ ∃ (t36_p_4 : Option Addr) (t36_n_4 : Nat) (t36_c_4 : Nat), Loads P 23 ((⟨r, 0, none⟩ : Addr).add 2) (.slice t36_p_4 t36_n_4 t36_c_4) wv_1 ∧ Calls P 117 ⟨[(.slice t34_p_4 t34_n_4 t34_c_4), (.slice t36_p_4 t36_n_4 t36_c_4)]⟩ wv_1 fun e_9 wv_14 =>
 ∃ (t37_p_4 : Option Addr) (t37_n_4 : Nat) (t37_c_4 : Nat), e_9 = .returned (.slice t37_p_4 t37_n_4 t37_c_4) ∧
 ∀ (r_5 : Nat) (wv_15 : World), New wv_14 (.cells ⟨[(.int .i64 1)]⟩ 3 (0, 0)) r_5 wv_15 →
 Calls P 114 ⟨[(.slice t37_p_4 t37_n_4 t37_c_4), (.slice (some ⟨r_5, 0, none⟩) 1 1)]⟩ wv_15 fun e_10 wv_16 =>
 ∃ (t39_4 : Int), e_10 = .returned (.int .i64 t39_4) ∧
 R (.bool (decide ((t39_4 : Int) = 0))) wv_16)) ∧
 (true = false →
 ∃ (t28_p_2 : Option Addr) (t28_n_2 : Nat) (t28_c_2 : Nat), Loads P 23 (((⟨r, 0, none⟩ : Addr).add 0).add 1) (.slice t28_p_2 t28_n_2 t28_c_2) wv_1 ∧ ((decide ((18 : Int) < ((t28_n_2 : Nat) : Int))) = true →
 R (.bool false) wv_1) ∧
 ((decide ((18 : Int) < ((t28_n_2 : Nat) : Int))) = false →
 ∃ (t34_p_5 : Option Addr) (t34_n_5 : Nat) (t34_c_5 : Nat), Loads P 23 (((⟨r, 0, none⟩ : Addr).add 0).add 1) (.slice t34_p_5 t34_n_5 t34_c_5) wv_1 ∧ ∃ (t36_p_5 : Option Addr) (t36_n_5 : Nat) (t36_c_5 : Nat), Loads P 23 ((⟨r, 0, none⟩ : Addr).add 2) (.slice t36_p_5 t36_n_5 t36_c_5) wv_1 ∧ Calls P 117 ⟨[(.slice t34_p_5 t34_n_5 t34_c_5), (.slice t36_p_5 t36_n_5 t36_c_5)]⟩ wv_1 fun e_11 wv_17 =>
 ∃ (t37_p_5 : Option Addr) (t37_n_5 : Nat) (t37_c_5 : Nat), e_11 = .returned (.slice t37_p_5 t37_n_5 t37_c_5) ∧
 ∀ (r_6 : Nat) (wv_18 : World), New wv_17 (.cells ⟨[(.int .i64 1)]⟩ 3 (0, 0)) r_6 wv_18 →
 Calls P 114 ⟨[(.slice t37_p_5 t37_n_5 t37_c_5), (.slice (some ⟨r_6, 0, none⟩) 1 1)]⟩ wv_18 fun e_12 wv_19 =>
 ∃ (t39_5 : Int), e_12 = .returned (.int .i64 t39_5) ∧
 R (.bool (decide ((t39_5 : Int) = 0))) wv_19))) ∧
 ((decide ((((t15_n : Nat) : Int) : Int) = 0)) = false →
 ∃ (t21_p_1 : Option Addr) (t21_n_1 : Nat) (t21_c_1 : Nat), Loads P 23 ((⟨r, 0, none⟩ : Addr).add 2) (.slice t21_p_1 t21_n_1 t21_c_1) wv_1 ∧ ((decide ((18 : Int) < ((t21_n_1 : Nat) : Int))) = true →
 (true = true →
 R (.bool false) wv_1) ∧
 (true = false →
 ∃ (t34_p_6 : Option Addr) (t34_n_6 : Nat) (t34_c_6 : Nat), Loads P 23 (((⟨r, 0, none⟩ : Addr).add 0).add 1) (.slice t34_p_6 t34_n_6 t34_c_6) wv_1 ∧ ∃ (t36_p_6 : Option Addr) (t36_n_6 : Nat) (t36_c_6 : Nat), Loads P 23 ((⟨r, 0, none⟩ : Addr).add 2) (.slice t36_p_6 t36_n_6 t36_c_6) wv_1 ∧ Calls P 117 ⟨[(.slice t34_p_6 t34_n_6 t34_c_6), (.slice t36_p_6 t36_n_6 t36_c_6)]⟩ wv_1 fun e_13 wv_20 =>
 ∃ (t37_p_6 : Option Addr) (t37_n_6 : Nat) (t37_c_6 : Nat), e_13 = .returned (.slice t37_p_6 t37_n_6 t37_c_6) ∧
 ∀ (r_7 : Nat) (wv_21 : World), New wv_20 (.cells ⟨[(.int .i64 1)]⟩ 3 (0, 0)) r_7 wv_21 →
 Calls P 114 ⟨[(.slice t37_p_6 t37_n_6 t37_c_6), (.slice (some ⟨r_7, 0, none⟩) 1 1)]⟩ wv_21 fun e_14 wv_22 =>
 ∃ (t39_6 : Int), e_14 = .returned (.int .i64 t39_6) ∧
 R (.bool (decide ((t39_6 : Int) = 0))) wv_22)) ∧
 ((decide ((18 : Int) < ((t21_n_1 : Nat) : Int))) = false →
 ∃ (t28_p_3 : Option Addr) (t28_n_3 : Nat) (t28_c_3 : Nat), Loads P 23 (((⟨r, 0, none⟩ : Addr).add 0).add 1) (.slice t28_p_3 t28_n_3 t28_c_3) wv_1 ∧ ((decide ((18 : Int) < ((t28_n_3 : Nat) : Int))) = true →
 R (.bool false) wv_1) ∧
 ((decide ((18 : Int) < ((t28_n_3 : Nat) : Int))) = false →
 ∃ (t34_p_7 : Option Addr) (t34_n_7 : Nat) (t34_c_7 : Nat), Loads P 23 (((⟨r, 0, none⟩ : Addr).add 0).add 1) (.slice t34_p_7 t34_n_7 t34_c_7) wv_1 ∧ ∃ (t36_p_7 : Option Addr) (t36_n_7 : Nat) (t36_c_7 : Nat), Loads P 23 ((⟨r, 0, none⟩ : Addr).add 2) (.slice t36_p_7 t36_n_7 t36_c_7) wv_1 ∧ Calls P 117 ⟨[(.slice t34_p_7 t34_n_7 t34_c_7), (.slice t36_p_7 t36_n_7 t36_c_7)]⟩ wv_1 fun e_15 wv_23 =>
 ∃ (t37_p_7 : Option Addr) (t37_n_7 : Nat) (t37_c_7 : Nat), e_15 = .returned (.slice t37_p_7 t37_n_7 t37_c_7) ∧
 ∀ (r_8 : Nat) (wv_24 : World), New wv_23 (.cells ⟨[(.int .i64 1)]⟩ 3 (0, 0)) r_8 wv_24 →
 Calls P 114 ⟨[(.slice t37_p_7 t37_n_7 t37_c_7), (.slice (some ⟨r_8, 0, none⟩) 1 1)]⟩ wv_24 fun e_16 wv_25 =>
 ∃ (t39_7 : Int), e_16 = .returned (.int .i64 t39_7) ∧
 R (.bool (decide ((t39_7 : Int) = 0))) wv_25))))) ∧
 ((!t5) = false →
 ∃ (t9_p : Option Addr) (t9_n : Nat) (t9_c : Nat), Loads P 23 ((⟨r, 0, none⟩ : Addr).add 2) (.slice t9_p t9_n t9_c) wv_1 ∧ Calls P 78 ⟨[(.slice t9_p t9_n t9_c)]⟩ wv_1 fun e_17 wv_26 =>
 ∃ (t10 : Bool), e_17 = .returned (.bool t10) ∧
 ((!t10) = true →
 (true = true →
 (true = true →
 (true = true →
 R (.bool false) wv_26) ∧
 (true = false →
 ∃ (t34_p_8 : Option Addr) (t34_n_8 : Nat) (t34_c_8 : Nat), Loads P 23 (((⟨r, 0, none⟩ : Addr).add 0).add 1) (.slice t34_p_8 t34_n_8 t34_c_8) wv_26 ∧ ∃ (t36_p_8 : Option Addr) (t36_n_8 : Nat) (t36_c_8 : Nat), Loads P 23 ((⟨r, 0, none⟩ : Addr).add 2) (.slice t36_p_8 t36_n_8 t36_c_8) wv_26 ∧ Calls P 117 ⟨[(.slice t34_p_8 t34_n_8 t34_c_8), (.slice t36_p_8 t36_n_8 t36_c_8)]⟩ wv_26 fun e_18 wv_27 =>
 ∃ (t37_p_8 : Option Addr) (t37_n_8 : Nat) (t37_c_8 : Nat), e_18 = .returned (.slice t37_p_8 t37_n_8 t37_c_8) ∧
 ∀ (r_9 : Nat) (wv_28 : World), New wv_27 (.cells ⟨[(.int .i64 1)]⟩ 3 (0, 0)) r_9 wv_28 →
 Calls P 114 ⟨[(.slice t37_p_8 t37_n_8 t37_c_8), (.slice (some ⟨r_9, 0, none⟩) 1 1)]⟩ wv_28 fun e_19 wv_29 =>
 ∃ (t39_8 : Int), e_19 = .returned (.int .i64 t39_8) ∧
 R (.bool (decide ((t39_8 : Int) = 0))) wv_29)) ∧
 (true = false →
 ∃ (t28_p_4 : Option Addr) (t28_n_4 : Nat) (t28_c_4 : Nat), Loads P 23 (((⟨r, 0, none⟩ : Addr).add 0).add 1) (.slice t28_p_4 t28_n_4 t28_c_4) wv_26 ∧ ((decide ((18 : Int) < ((t28_n_4 : Nat) : Int))) = true →
 R (.bool false) wv_26) ∧
 ((decide ((18 : Int) < ((t28_n_4 : Nat) : Int))) = false →
 ∃ (t34_p_9 : Option Addr) (t34_n_9 : Nat) (t34_c_9 : Nat), Loads P 23 (((⟨r, 0, none⟩ : Addr).add 0).add 1) (.slice t34_p_9 t34_n_9 t34_c_9) wv_26 ∧ ∃ (t36_p_9 : Option Addr) (t36_n_9 : Nat) (t36_c_9 : Nat), Loads P 23 ((⟨r, 0, none⟩ : Addr).add 2) (.slice t36_p_9 t36_n_9 t36_c_9) wv_26 ∧ Calls P 117 ⟨[(.slice t34_p_9 t34_n_9 t34_c_9), (.slice t36_p_9 t36_n_9 t36_c_9)]⟩ wv_26 fun e_20 wv_30 =>
 ∃ (t37_p_9 : Option Addr) (t37_n_9 : Nat) (t37_c_9 : Nat), e_20 = .returned (.slice t37_p_9 t37_n_9 t37_c_9) ∧
 ∀ (r_10 : Nat) (wv_31 : World), New wv_30 (.cells ⟨[(.int .i64 1)]⟩ 3 (0, 0)) r_10 wv_31 →
 Calls P 114 ⟨[(.slice t37_p_9 t37_n_9 t37_c_9), (.slice (some ⟨r_10, 0, none⟩) 1 1)]⟩ wv_31 fun e_21 wv_32 =>
 ∃ (t39_9 : Int), e_21 = .returned (.int .i64 t39_9) ∧
 R (.bool (decide ((t39_9 : Int) = 0))) wv_32))) ∧
 (true = false →
 ∃ (t21_p_2 : Option Addr) (t21_n_2 : Nat) (t21_c_2 : Nat), Loads P 23 ((⟨r, 0, none⟩ : Addr).add 2) (.slice t21_p_2 t21_n_2 t21_c_2) wv_26 ∧ ((decide ((18 : Int) < ((t21_n_2 : Nat) : Int))) = true →
 (true = true →
 R (.bool false) wv_26) ∧
 (true = false →
 ∃ (t34_p_10 : Option Addr) (t34_n_10 : Nat) (t34_c_10 : Nat), Loads P 23 (((⟨r, 0, none⟩ : Addr).add 0).add 1) (.slice t34_p_10 t34_n_10 t34_c_10) wv_26 ∧ ∃ (t36_p_10 : Option Addr) (t36_n_10 : Nat) (t36_c_10 : Nat), Loads P 23 ((⟨r, 0, none⟩ : Addr).add 2) (.slice t36_p_10 t36_n_10 t36_c_10) wv_26 ∧ Calls P 117 ⟨[(.slice t34_p_10 t34_n_10 t34_c_10), (.slice t36_p_10 t36_n_10 t36_c_10)]⟩ wv_26 fun e_22 wv_33 =>
 ∃ (t37_p_10 : Option Addr) (t37_n_10 : Nat) (t37_c_10 : Nat), e_22 = .returned (.slice t37_p_10 t37_n_10 t37_c_10) ∧
 ∀ (r_11 : Nat) (wv_34 : World), New wv_33 (.cells ⟨[(.int .i64 1)]⟩ 3 (0, 0)) r_11 wv_34 →
 Calls P 114 ⟨[(.slice t37_p_10 t37_n_10 t37_c_10), (.slice (some ⟨r_11, 0, none⟩) 1 1)]⟩ wv_34 fun e_23 wv_35 =>
 ∃ (t39_10 : Int), e_23 = .returned (.int .i64 t39_10) ∧
 R (.bool (decide ((t39_10 : Int) = 0))) wv_35)) ∧
 ((decide ((18 : Int) < ((t21_n_2 : Nat) : Int))) = false →
 ∃ (t28_p_5 : Option Addr) (t28_n_5 : Nat) (t28_c_5 : Nat), Loads P 23 (((⟨r, 0, none⟩ : Addr).add 0).add 1) (.slice t28_p_5 t28_n_5 t28_c_5) wv_26 ∧ ((decide ((18 : Int) < ((t28_n_5 : Nat) : Int))) = true →
 R (.bool false) wv_26) ∧
 ((decide ((18 : Int) < ((t28_n_5 : Nat) : Int))) = false →
 ∃ (t34_p_11 : Option Addr) (t34_n_11 : Nat) (t34_c_11 : Nat), Loads P 23 (((⟨r, 0, none⟩ : Addr).add 0).add 1) (.slice t34_p_11 t34_n_11 t34_c_11) wv_26 ∧ ∃ (t36_p_11 : Option Addr) (t36_n_11 : Nat) (t36_c_11 : Nat), Loads P 23 ((⟨r, 0, none⟩ : Addr).add 2) (.slice t36_p_11 t36_n_11 t36_c_11) wv_26 ∧ Calls P 117 ⟨[(.slice t34_p_11 t34_n_11 t34_c_11), (.slice t36_p_11 t36_n_11 t36_c_11)]⟩ wv_26 fun e_24 wv_36 =>
 ∃ (t37_p_11 : Option Addr) (t37_n_11 : Nat) (t37_c_11 : Nat), e_24 = .returned (.slice t37_p_11 t37_n_11 t37_c_11) ∧
 ∀ (r_12 : Nat) (wv_37 : World), New wv_36 (.cells ⟨[(.int .i64 1)]⟩ 3 (0, 0)) r_12 wv_37 →
 Calls P 114 ⟨[(.slice t37_p_11 t37_n_11 t37_c_11), (.slice (some ⟨r_12, 0, none⟩) 1 1)]⟩ wv_37 fun e_25 wv_38 =>
 ∃ (t39_11 : Int), e_25 = .returned (.int .i64 t39_11) ∧
 R (.bool (decide ((t39_11 : Int) = 0))) wv_38)))) ∧
 ((!t10) = false →
 ∃ (t15_p_1 : Option Addr) (t15_n_1 : Nat) (t15_c_1 : Nat), Loads P 23 ((⟨r, 0, none⟩ : Addr).add 2) (.slice t15_p_1 t15_n_1 t15_c_1) wv_26 ∧ ((decide ((((t15_n_1 : Nat) : Int) : Int) = 0)) = true →
 (true = true →
 (true = true →
 R (.bool false) wv_26) ∧
 (true = false →
 ∃ (t34_p_12 : Option Addr) (t34_n_12 : Nat) (t34_c_12 : Nat), Loads P 23 (((⟨r, 0, none⟩ : Addr).add 0).add 1) (.slice t34_p_12 t34_n_12 t34_c_12) wv_26 ∧ ∃ (t36_p_12 : Option Addr) (t36_n_12 : Nat) (t36_c_12 : Nat), Loads P 23 ((⟨r, 0, none⟩ : Addr).add 2) (.slice t36_p_12 t36_n_12 t36_c_12) wv_26 ∧ Calls P 117 ⟨[(.slice t34_p_12 t34_n_12 t34_c_12), (.slice t36_p_12 t36_n_12 t36_c_12)]⟩ wv_26 fun e_26 wv_39 =>
 ∃ (t37_p_12 : Option Addr) (t37_n_12 : Nat) (t37_c_12 : Nat), e_26 = .returned (.slice t37_p_12 t37_n_12 t37_c_12) ∧
 ∀ (r_13 : Nat) (wv_40 : World), New wv_39 (.cells ⟨[(.int .i64 1)]⟩ 3 (0, 0)) r_13 wv_40 →
 Calls P 114 ⟨[(.slice t37_p_12 t37_n_12 t37_c_12), (.slice (some ⟨r_13, 0, none⟩) 1 1)]⟩ wv_40 fun e_27 wv_41 =>
 ∃ (t39_12 : Int), e_27 = .returned (.int .i64 t39_12) ∧
 R (.bool (decide ((t39_12 : Int) = 0))) wv_41)) ∧
 (true = false →
 ∃ (t28_p_6 : Option Addr) (t28_n_6 : Nat) (t28_c_6 : Nat), Loads P 23 (((⟨r, 0, none⟩ : Addr).add 0).add 1) (.slice t28_p_6 t28_n_6 t28_c_6) wv_26 ∧ ((decide ((18 : Int) < ((t28_n_6 : Nat) : Int))) = true →
 R (.bool false) wv_26) ∧
 ((decide ((18 : Int) < ((t28_n_6 : Nat) : Int))) = false →
 ∃ (t34_p_13 : Option Addr) (t34_n_13 : Nat) (t34_c_13 : Nat), Loads P 23 (((⟨r, 0, none⟩ : Addr).add 0).add 1) (.slice t34_p_13 t34_n_13 t34_c_13) wv_26 ∧ ∃ (t36_p_13 : Option Addr) (t36_n_13 : Nat) (t36_c_13 : Nat), Loads P 23 ((⟨r, 0, none⟩ : Addr).add 2) (.slice t36_p_13 t36_n_13 t36_c_13) wv_26 ∧ Calls P 117 ⟨[(.slice t34_p_13 t34_n_13 t34_c_13), (.slice t36_p_13 t36_n_13 t36_c_13)]⟩ wv_26 fun e_28 wv_42 =>
 ∃ (t37_p_13 : Option Addr) (t37_n_13 : Nat) (t37_c_13 : Nat), e_28 = .returned (.slice t37_p_13 t37_n_13 t37_c_13) ∧
 ∀ (r_14 : Nat) (wv_43 : World), New wv_42 (.cells ⟨[(.int .i64 1)]⟩ 3 (0, 0)) r_14 wv_43 →
 Calls P 114 ⟨[(.slice t37_p_13 t37_n_13 t37_c_13), (.slice (some ⟨r_14, 0, none⟩) 1 1)]⟩ wv_43 fun e_29 wv_44 =>
 ∃ (t39_13 : Int), e_29 = .returned (.int .i64 t39_13) ∧
 R (.bool (decide ((t39_13 : Int) = 0))) wv_44))) ∧
 ((decide ((((t15_n_1 : Nat) : Int) : Int) = 0)) = false →
 ∃ (t21_p_3 : Option Addr) (t21_n_3 : Nat) (t21_c_3 : Nat), Loads P 23 ((⟨r, 0, none⟩ : Addr).add 2) (.slice t21_p_3 t21_n_3 t21_c_3) wv_26 ∧ ((decide ((18 : Int) < ((t21_n_3 : Nat) : Int))) = true →
 (true = true →
 R (.bool false) wv_26) ∧
 (true = false →
 ∃ (t34_p_14 : Option Addr) (t34_n_14 : Nat) (t34_c_14 : Nat), Loads P 23 (((⟨r, 0, none⟩ : Addr).add 0).add 1) (.slice t34_p_14 t34_n_14 t34_c_14) wv_26 ∧ ∃ (t36_p_14 : Option Addr) (t36_n_14 : Nat) (t36_c_14 : Nat), Loads P 23 ((⟨r, 0, none⟩ : Addr).add 2) (.slice t36_p_14 t36_n_14 t36_c_14) wv_26 ∧ Calls P 117 ⟨[(.slice t34_p_14 t34_n_14 t34_c_14), (.slice t36_p_14 t36_n_14 t36_c_14)]⟩ wv_26 fun e_30 wv_45 =>
 ∃ (t37_p_14 : Option Addr) (t37_n_14 : Nat) (t37_c_14 : Nat), e_30 = .returned (.slice t37_p_14 t37_n_14 t37_c_14) ∧
 ∀ (r_15 : Nat) (wv_46 : World), New wv_45 (.cells ⟨[(.int .i64 1)]⟩ 3 (0, 0)) r_15 wv_46 →
 Calls P 114 ⟨[(.slice t37_p_14 t37_n_14 t37_c_14), (.slice (some ⟨r_15, 0, none⟩) 1 1)]⟩ wv_46 fun e_31 wv_47 =>
 ∃ (t39_14 : Int), e_31 = .returned (.int .i64 t39_14) ∧
 R (.bool (decide ((t39_14 : Int) = 0))) wv_47)) ∧
 ((decide ((18 : Int) < ((t21_n_3 : Nat) : Int))) = false →
 ∃ (t28_p_7 : Option Addr) (t28_n_7 : Nat) (t28_c_7 : Nat), Loads P 23 (((⟨r, 0, none⟩ : Addr).add 0).add 1) (.slice t28_p_7 t28_n_7 t28_c_7) wv_26 ∧ ((decide ((18 : Int) < ((t28_n_7 : Nat) : Int))) = true →
 R (.bool false) wv_26) ∧
 ((decide ((18 : Int) < ((t28_n_7 : Nat) : Int))) = false →
 ∃ (t34_p_15 : Option Addr) (t34_n_15 : Nat) (t34_c_15 : Nat), Loads P 23 (((⟨r, 0, none⟩ : Addr).add 0).add 1) (.slice t34_p_15 t34_n_15 t34_c_15) wv_26 ∧ ∃ (t36_p_15 : Option Addr) (t36_n_15 : Nat) (t36_c_15 : Nat), Loads P 23 ((⟨r, 0, none⟩ : Addr).add 2) (.slice t36_p_15 t36_n_15 t36_c_15) wv_26 ∧ Calls P 117 ⟨[(.slice t34_p_15 t34_n_15 t34_c_15), (.slice t36_p_15 t36_n_15 t36_c_15)]⟩ wv_26 fun e_32 wv_48 =>
 ∃ (t37_p_15 : Option Addr) (t37_n_15 : Nat) (t37_c_15 : Nat), e_32 = .returned (.slice t37_p_15 t37_n_15 t37_c_15) ∧
 ∀ (r_16 : Nat) (wv_49 : World), New wv_48 (.cells ⟨[(.int .i64 1)]⟩ 3 (0, 0)) r_16 wv_49 →
 Calls P 114 ⟨[(.slice t37_p_15 t37_n_15 t37_c_15), (.slice (some ⟨r_16, 0, none⟩) 1 1)]⟩ wv_49 fun e_33 wv_50 =>
 ∃ (t39_15 : Int), e_33 = .returned (.int .i64 t39_15) ∧
 R (.bool (decide ((t39_15 : Int) = 0))) wv_50)))))
theorem spec_RatOk_ret {r0 : Bool} {r1_p : Option Addr} {r1_n : Nat} {r1_c : Nat} {r2_p : Option Addr} {r2_n : Nat} {r2_c : Nat} {w : World} {R : Value → World → Prop} (h : spec_RatOk r0 r1_p r1_n r1_c r2_p r2_n r2_c w R) : Ret P 85 [(.agg #[(.bool r0), (.slice r1_p r1_n r1_c), (.slice r2_p r2_n r2_c)])] w R :=
  Ret.of_fsem Tryz.func85 rfl (Eq.mp (show _ = fsem P Tryz.f85 (fun k => []) _ R w from by kernel_rfl) h)
def spec_l05Low (neg : Bool) (a_p : Option Addr) (a_n : Nat) (a_c : Nat) (b_p : Option Addr) (b_n : Nat) (b_c : Nat) (w : World) (R : Value → World → Prop) : Prop :=
 ∀ (r : Nat) (wv : World), New w (.cells ⟨[(.bool false), (.slice none 0 0), (.slice none 0 0)]⟩ 34 (0, 0)) r wv →
 Calls P 118 ⟨[(.slice a_p a_n a_c)]⟩ wv fun e wv_1 =>
 ∃ (t16_p : Option Addr) (t16_n : Nat) (t16_c : Nat), e = .returned (.slice t16_p t16_n t16_c) ∧
 Calls P 118 ⟨[(.slice b_p b_n b_c)]⟩ wv_1 fun e_1 wv_2 =>
 ∃ (t18_p : Option Addr) (t18_n : Nat) (t18_c : Nat), e_1 = .returned (.slice t18_p t18_n t18_c) ∧
 ((decide ((((t18_n : Nat) : Int) : Int) = 0)) = true →
 ∃ wv_3, Stores P 34 ⟨r, 0, none⟩ (.agg #[(.bool false), (.slice none 0 0), (.slice none 0 0)]) wv_2 wv_3 ∧
 ∃ (r0 : Bool) (r1_p : Option Addr) (r1_n : Nat) (r1_c : Nat) (r2_p : Option Addr) (r2_n : Nat) (r2_c : Nat), Loads P 34 ⟨r, 0, none⟩ (.agg #[(.bool r0), (.slice r1_p r1_n r1_c), (.slice r2_p r2_n r2_c)]) wv_3 ∧ R (.tuple #[(.agg #[(.bool r0), (.slice r1_p r1_n r1_c), (.slice r2_p r2_n r2_c)]), (.bool false)]) wv_3) ∧
 ((decide ((((t18_n : Nat) : Int) : Int) = 0)) = false →
 Calls P 119 ⟨[(.slice t16_p t16_n t16_c), (.slice t18_p t18_n t18_c)]⟩ wv_2 fun e_2 wv_4 =>
 ∃ (t25_p : Option Addr) (t25_n : Nat) (t25_c : Nat), e_2 = .returned (.slice t25_p t25_n t25_c) ∧
 Calls P 120 ⟨[(.slice t16_p t16_n t16_c), (.slice t25_p t25_n t25_c)]⟩ wv_4 fun e_3 wv_5 =>
 ∃ (t29_p : Option Addr) (t29_n : Nat) (t29_c : Nat) (t29_p_1 : Option Addr) (t29_n_1 : Nat) (t29_c_1 : Nat), e_3 = .returned (.tuple #[(.slice t29_p t29_n t29_c), (.slice t29_p_1 t29_n_1 t29_c_1)]) ∧
 Calls P 120 ⟨[(.slice t18_p t18_n t18_c), (.slice t25_p t25_n t25_c)]⟩ wv_5 fun e_4 wv_6 =>
 ∃ (t35_p : Option Addr) (t35_n : Nat) (t35_c : Nat) (t35_p_1 : Option Addr) (t35_n_1 : Nat) (t35_c_1 : Nat), e_4 = .returned (.tuple #[(.slice t35_p t35_n t35_c), (.slice t35_p_1 t35_n_1 t35_c_1)]) ∧
 ((decide ((18 : Int) < ((t29_n : Nat) : Int))) = true →
 (true = true →
 ∃ wv_7, Stores P 34 ⟨r, 0, none⟩ (.agg #[(.bool false), (.slice none 0 0), (.slice none 0 0)]) wv_6 wv_7 ∧
 ∃ (r0_1 : Bool) (r1_p_1 : Option Addr) (r1_n_1 : Nat) (r1_c_1 : Nat) (r2_p_1 : Option Addr) (r2_n_1 : Nat) (r2_c_1 : Nat), Loads P 34 ⟨r, 0, none⟩ (.agg #[(.bool r0_1), (.slice r1_p_1 r1_n_1 r1_c_1), (.slice r2_p_1 r2_n_1 r2_c_1)]) wv_7 ∧ R (.tuple #[(.agg #[(.bool r0_1), (.slice r1_p_1 r1_n_1 r1_c_1), (.slice r2_p_1 r2_n_1 r2_c_1)]), (.bool false)]) wv_7) ∧
 (true = false →
 Calls P 79 ⟨[(.bool neg), (.slice t29_p t29_n t29_c)]⟩ wv_6 fun e_5 wv_8 =>
 ∃ (t490 : Bool) (t491_p : Option Addr) (t491_n : Nat) (t491_c : Nat), e_5 = .returned (.agg #[(.bool t490), (.slice t491_p t491_n t491_c)]) ∧
 ∀ (r_1 : Nat) (wv_9 : World), New wv_8 (.cells ⟨[]⟩ 3 (0, 0)) r_1 wv_9 →
 ∃ (t52_p : Option Addr) (t52_n : Nat) (t52_c : Nat) (wv_10 : World), Appends P [23, 23] [(.slice (some ⟨r_1, 0, none⟩) 0 0), (.slice t35_p t35_n t35_c)] (.slice t52_p t52_n t52_c) wv_9 wv_10 ∧
 ∃ wv_11, Stores P 34 ⟨r, 0, none⟩ (.agg #[(.bool t490), (.slice t491_p t491_n t491_c), (.slice t52_p t52_n t52_c)]) wv_10 wv_11 ∧
 ∃ (r0_2 : Bool) (r1_p_2 : Option Addr) (r1_n_2 : Nat) (r1_c_2 : Nat) (r2_p_2 : Option Addr) (r2_n_2 : Nat) (r2_c_2 : Nat), Loads P 34 ⟨r, 0, none⟩ (.agg #[(.bool r0_2), (.slice r1_p_2 r1_n_2 r1_c_2), (.slice r2_p_2 r2_n_2 r2_c_2)]) wv_11 ∧ R (.tuple #[(.agg #[(.bool r0_2), (.slice r1_p_2 r1_n_2 r1_c_2), (.slice r2_p_2 r2_n_2 r2_c_2)]), (.bool true)]) wv_11)) ∧
 ((decide ((18 : Int) < ((t29_n : Nat) : Int))) = false →
 ((decide ((18 : Int) < ((t35_n : Nat) : Int))) = true →
 ∃ wv_12, Stores P 34 ⟨r, 0, none⟩ (.agg #[(.bool false), (.slice none 0 0), (.slice none 0 0)]) wv_6 wv_12 ∧
 ∃ (r0_3 : Bool) (r1_p_3 : Option Addr) (r1_n_3 : Nat) (r1_c_3 : Nat) (r2_p_3 : Option Addr) (r2_n_3 : Nat) (r2_c_3 : Nat), Loads P 34 ⟨r, 0, none⟩ (.agg #[(.bool r0_3), (.slice r1_p_3 r1_n_3 r1_c_3), (.slice r2_p_3 r2_n_3 r2_c_3)]) wv_12 ∧ R (.tuple #[(.agg #[(.bool r0_3), (.slice r1_p_3 r1_n_3 r1_c_3), (.slice r2_p_3 r2_n_3 r2_c_3)]), (.bool false)]) wv_12) ∧
 ((decide ((18 : Int) < ((t35_n : Nat) : Int))) = false →
 Calls P 79 ⟨[(.bool neg), (.slice t29_p t29_n t29_c)]⟩ wv_6 fun e_6 wv_13 =>
 ∃ (t490_1 : Bool) (t491_p_1 : Option Addr) (t491_n_1 : Nat) (t491_c_1 : Nat), e_6 = .returned (.agg #[(.bool t490_1), (.slice t491_p_1 t491_n_1 t491_c_1)]) ∧
 ∀ (r_2 : Nat) (wv_14 : World), New wv_13 (.cells ⟨[]⟩ 3 (0, 0)) r_2 wv_14 →
 ∃ (t52_p_1 : Option Addr) (t52_n_1 : Nat) (t52_c_1 : Nat) (wv_15 : World), Appends P [23, 23] [(.slice (some ⟨r_2, 0, none⟩) 0 0), (.slice t35_p t35_n t35_c)] (.slice t52_p_1 t52_n_1 t52_c_1) wv_14 wv_15 ∧
 ∃ wv_16, Stores P 34 ⟨r, 0, none⟩ (.agg #[(.bool t490_1), (.slice t491_p_1 t491_n_1 t491_c_1), (.slice t52_p_1 t52_n_1 t52_c_1)]) wv_15 wv_16 ∧
 ∃ (r0_4 : Bool) (r1_p_4 : Option Addr) (r1_n_4 : Nat) (r1_c_4 : Nat) (r2_p_4 : Option Addr) (r2_n_4 : Nat) (r2_c_4 : Nat), Loads P 34 ⟨r, 0, none⟩ (.agg #[(.bool r0_4), (.slice r1_p_4 r1_n_4 r1_c_4), (.slice r2_p_4 r2_n_4 r2_c_4)]) wv_16 ∧ R (.tuple #[(.agg #[(.bool r0_4), (.slice r1_p_4 r1_n_4 r1_c_4), (.slice r2_p_4 r2_n_4 r2_c_4)]), (.bool true)]) wv_16)))
theorem spec_l05Low_ret {neg : Bool} {a_p : Option Addr} {a_n : Nat} {a_c : Nat} {b_p : Option Addr} {b_n : Nat} {b_c : Nat} {w : World} {R : Value → World → Prop} (h : spec_l05Low neg a_p a_n a_c b_p b_n b_c w R) : Ret P 86 [(.bool neg), (.slice a_p a_n a_c), (.slice b_p b_n b_c)] w R :=
  Ret.of_fsem Tryz.func86 rfl (Eq.mp (show _ = fsem P Tryz.f86 (fun k => []) _ R w from by kernel_rfl) h)
def spec_l02Mul_j0 (a_p : Option Addr) (a_n : Nat) (b_p : Option Addr) (b_n : Nat) (W : World) (R : Value → World → Prop) : Prop :=
 ∃ t24 : Int, t24 = IntKind.wrap .i64 (((a_n : Nat) : Int) + ((b_n : Nat) : Int)) ∧ (0 ≤ (t24 : Int) ∧ (t24 : Int) ≤ t24 ∧ ((8 : Nat) : Int) * t24 ≤ 281474976710656) ∧
 ∀ (r : Nat) (wv : World), New W (.cells ⟨zeroRow (.int .i64 0) (t24.toNat * 1)⟩ 3 (0, 0)) r wv →
 ∃ (Inv : Int → World → Prop) (mu : Int → World → Nat), Inv 0 wv ∧
 ∀ (junk : Fr) (wv_1 : World) (t28 : Int), Inv t28 wv_1 →
 ((decide ((t28 : Int) < ((a_n : Nat) : Int))) = true →
 (0 ≤ (t28 : Int) ∧ (t28 : Int) < (a_n : Nat)) ∧ ptrS a_p fun ad => ∃ (t32 : Int), Loads P 3 (ad.add (t28.toNat * 1)) (.int .i64 t32) wv_1 ∧ ∃ (Inv_1 : Int → Int → World → Prop) (mu_1 : Int → Int → World → Nat), Inv_1 0 0 wv_1 ∧
 ∀ (junk_1 : Fr) (wv_2 : World) (carry : Int) (t35 : Int), Inv_1 carry t35 wv_2 →
 ((decide ((t35 : Int) < ((b_n : Nat) : Int))) = true →
 (0 ≤ (t35 : Int) ∧ (t35 : Int) < (b_n : Nat)) ∧ ptrS b_p fun ad_1 => ∃ (t39 : Int), Loads P 3 (ad_1.add (t35.toNat * 1)) (.int .i64 t39) wv_2 ∧ ∃ t43 : Int, t43 = IntKind.wrap .i64 (t28 + t35) ∧ (0 ≤ (t43 : Int) ∧ (t43 : Int) < (t24.toNat : Nat)) ∧ ∃ (t45 : Int), Loads P 3 ((⟨r, 0, none⟩ : Addr).add (t43.toNat * 1)) (.int .i64 t45) wv_2 ∧ ∃ t48 : Int, t48 = IntKind.wrap .i64 (t32 * t39) ∧ ∃ t49 : Int, t49 = IntKind.wrap .i64 (t45 + t48) ∧ ∃ t51 : Int, t51 = IntKind.wrap .i64 (t49 + carry) ∧ ∃ t55 : Int, t55 = IntKind.wrap .i64 (t28 + t35) ∧ (1000000000 : Int) ≠ 0 ∧ ∃ t57 : Int, t57 = Int.tmod t51 1000000000 ∧ (0 ≤ (t55 : Int) ∧ (t55 : Int) < (t24.toNat : Nat)) ∧ ∃ wv_3, Stores P 3 ((⟨r, 0, none⟩ : Addr).add (t55.toNat * 1)) (.int .i64 t57) wv_2 wv_3 ∧
 (1000000000 : Int) ≠ 0 ∧ ∃ t60 : Int, t60 = IntKind.wrap .i64 (Int.tdiv t51 1000000000) ∧ ∃ t61 : Int, t61 = IntKind.wrap .i64 (t35 + 1) ∧ Inv_1 t60 t61 wv_3 ∧ mu_1 t60 t61 wv_3 < mu_1 carry t35 wv_2) ∧
 ((decide ((t35 : Int) < ((b_n : Nat) : Int))) = false →
 ∃ t66 : Int, t66 = IntKind.wrap .i64 (t28 + ((b_n : Nat) : Int)) ∧ (0 ≤ (t66 : Int) ∧ (t66 : Int) < (t24.toNat : Nat)) ∧ ∃ wv_4, Stores P 3 ((⟨r, 0, none⟩ : Addr).add (t66.toNat * 1)) (.int .i64 carry) wv_2 wv_4 ∧
 ∃ t69 : Int, t69 = IntKind.wrap .i64 (t28 + 1) ∧ Inv t69 wv_4 ∧ mu t69 wv_4 < mu t28 wv_1)) ∧
 ((decide ((t28 : Int) < ((a_n : Nat) : Int))) = false →
 Calls P 118 ⟨[(.slice (some ⟨r, 0, none⟩) t24.toNat t24.toNat)]⟩ wv_1 fun e wv_5 =>
 ∃ (t71_p : Option Addr) (t71_n : Nat) (t71_c : Nat), e = .returned (.slice t71_p t71_n t71_c) ∧
 R (.slice t71_p t71_n t71_c) wv_5)
def spec_l02Mul (a_p : Option Addr) (a_n : Nat) (a_c : Nat) (b_p : Option Addr) (b_n : Nat) (b_c : Nat) (w : World) (R : Value → World → Prop) : Prop :=
 ((decide ((((a_n : Nat) : Int) : Int) = 0)) = true →
 (true = true →
 R (.slice none 0 0) w) ∧
 (true = false →
 spec_l02Mul_j0 a_p a_n b_p b_n w R)) ∧
 ((decide ((((a_n : Nat) : Int) : Int) = 0)) = false →
 ((decide ((((b_n : Nat) : Int) : Int) = 0)) = true →
 R (.slice none 0 0) w) ∧
 ((decide ((((b_n : Nat) : Int) : Int) = 0)) = false →
 spec_l02Mul_j0 a_p a_n b_p b_n w R))
theorem spec_l02Mul_ret {a_p : Option Addr} {a_n : Nat} {a_c : Nat} {b_p : Option Addr} {b_n : Nat} {b_c : Nat} {w : World} {R : Value → World → Prop} (h : spec_l02Mul a_p a_n a_c b_p b_n b_c w R) : Ret P 87 [(.slice a_p a_n a_c), (.slice b_p b_n b_c)] w R :=
  Ret.of_fsem Tryz.func87 rfl (Eq.mp (show _ = fsem P Tryz.f87 (fun k => cond (Nat.beq k 6) [(28, .one (.int .i64))] (cond (Nat.beq k 10) [(8, .one (.int .i64)), (35, .one (.int .i64))] ([]))) _ R w from by kernel_rfl) h)
def spec_DecOk (d0 : Bool) (d1_p : Option Addr) (d1_n : Nat) (d1_c : Nat) (d2 : Int) (w : World) (R : Value → World → Prop) : Prop :=
 ∀ (r : Nat) (wv : World), New w (.cells ⟨[(.bool d0), (.slice d1_p d1_n d1_c), (.int .i64 d2)]⟩ 60 (0, 0)) r wv →
 ∃ (t40 : Bool) (t41_p : Option Addr) (t41_n : Nat) (t41_c : Nat), Loads P 30 ((⟨r, 0, none⟩ : Addr).add 0) (.agg #[(.bool t40), (.slice t41_p t41_n t41_c)]) wv ∧ Calls P 43 ⟨[(.agg #[(.bool t40), (.slice t41_p t41_n t41_c)])]⟩ wv fun e wv_1 =>
 ∃ (t5 : Bool), e = .returned (.bool t5) ∧
 (t5 = true →
 ∃ (t9_p : Option Addr) (t9_n : Nat) (t9_c : Nat), Loads P 23 (((⟨r, 0, none⟩ : Addr).add 0).add 1) (.slice t9_p t9_n t9_c) wv_1 ∧ ((decide ((((t9_n : Nat) : Int) : Int) ≤ 6)) = true →
 ∃ (t15 : Int), Loads P 3 ((⟨r, 0, none⟩ : Addr).add 2) (.int .i64 t15) wv_1 ∧ Calls P 76 ⟨[(.int .i64 t15), (.int .i64 0), (.int .i64 30)]⟩ wv_1 fun e_1 wv_2 =>
 ∃ (t16 : Bool), e_1 = .returned (.bool t16) ∧
 R (.bool t16) wv_2) ∧
 ((decide ((((t9_n : Nat) : Int) : Int) ≤ 6)) = false →
 R (.bool false) wv_1)) ∧
 (t5 = false →
 (false = true →
 ∃ (t15_1 : Int), Loads P 3 ((⟨r, 0, none⟩ : Addr).add 2) (.int .i64 t15_1) wv_1 ∧ Calls P 76 ⟨[(.int .i64 t15_1), (.int .i64 0), (.int .i64 30)]⟩ wv_1 fun e_2 wv_3 =>
 ∃ (t16_1 : Bool), e_2 = .returned (.bool t16_1) ∧
 R (.bool t16_1) wv_3) ∧
 (false = false →
 R (.bool false) wv_1))
theorem spec_DecOk_ret {d0 : Bool} {d1_p : Option Addr} {d1_n : Nat} {d1_c : Nat} {d2 : Int} {w : World} {R : Value → World → Prop} (h : spec_DecOk d0 d1_p d1_n d1_c d2 w R) : Ret P 88 [(.agg #[(.bool d0), (.slice d1_p d1_n d1_c), (.int .i64 d2)])] w R :=
  Ret.of_fsem Tryz.func88 rfl (Eq.mp (show _ = fsem P Tryz.f88 (fun k => []) _ R w from by kernel_rfl) h)
def spec_l07Ten (k : Int) (w : World) (R : Value → World → Prop) : Prop :=
 ∀ (r : Nat) (wv : World), New w (.cells ⟨[(.bool false), (.slice none 0 0)]⟩ 30 (0, 0)) r wv →
 Calls P 121 ⟨[(.int .i64 k)]⟩ wv fun e wv_1 =>
 ∃ (t4_p : Option Addr) (t4_n : Nat) (t4_c : Nat), e = .returned (.slice t4_p t4_n t4_c) ∧
 ∃ wv_2, Stores P 30 ⟨r, 0, none⟩ (.agg #[(.bool false), (.slice t4_p t4_n t4_c)]) wv_1 wv_2 ∧
 ∃ (r0 : Bool) (r1_p : Option Addr) (r1_n : Nat) (r1_c : Nat), Loads P 30 ⟨r, 0, none⟩ (.agg #[(.bool r0), (.slice r1_p r1_n r1_c)]) wv_2 ∧ R (.agg #[(.bool r0), (.slice r1_p r1_n r1_c)]) wv_2
theorem spec_l07Ten_ret {k : Int} {w : World} {R : Value → World → Prop} (h : spec_l07Ten k w R) : Ret P 89 [(.int .i64 k)] w R :=
  Ret.of_fsem Tryz.func89 rfl (Eq.mp (show _ = fsem P Tryz.f89 (fun k => []) _ R w from by kernel_rfl) h)
def spec_l08Find (code : ByteArray) (w : World) (R : Value → World → Prop) : Prop :=
 ∀ (r : Nat) (wv : World), New w (.cells ⟨[(.string ByteArray.empty), (.string ByteArray.empty), (.int .i64 0), (.int .i64 0)]⟩ 104 (0, 0)) r wv →
 Calls P 122 ⟨[]⟩ wv fun e wv_1 =>
 ∃ (t5_p : Option Addr) (t5_n : Nat) (t5_c : Nat), e = .returned (.slice t5_p t5_n t5_c) ∧
 ∃ (Inv : Int → World → Prop) (mu : Int → World → Nat), Inv 0 wv_1 ∧
 ∀ (junk : Fr) (wv_2 : World) (t7 : Int), Inv t7 wv_2 →
 ((decide ((t7 : Int) < ((t5_n : Nat) : Int))) = true →
 (0 ≤ (t7 : Int) ∧ (t7 : Int) < (t5_n : Nat)) ∧ ptrS t5_p fun ad => ∃ (t100 : ByteArray) (t101 : ByteArray) (t102 : Int) (t103 : Int), Loads P 104 (ad.add (t7.toNat * 4)) (.agg #[(.string t100), (.string t101), (.int .i64 t102), (.int .i64 t103)]) wv_2 ∧ ∀ (r_1 : Nat) (wv_3 : World), New wv_2 (.cells ⟨[(.string ByteArray.empty), (.string ByteArray.empty), (.int .i64 0), (.int .i64 0)]⟩ 104 (0, 0)) r_1 wv_3 →
 ∃ wv_4, Stores P 104 ⟨r_1, 0, none⟩ (.agg #[(.string t100), (.string t101), (.int .i64 t102), (.int .i64 t103)]) wv_3 wv_4 ∧
 ∃ (t12 : ByteArray), Loads P 9 ((⟨r_1, 0, none⟩ : Addr).add 0) (.string t12) wv_4 ∧ ((decide (t12 = code)) = true →
 ∃ (t150 : ByteArray) (t151 : ByteArray) (t152 : Int) (t153 : Int), Loads P 104 ⟨r_1, 0, none⟩ (.agg #[(.string t150), (.string t151), (.int .i64 t152), (.int .i64 t153)]) wv_4 ∧ ∃ wv_5, Stores P 104 ⟨r, 0, none⟩ (.agg #[(.string t150), (.string t151), (.int .i64 t152), (.int .i64 t153)]) wv_4 wv_5 ∧
 ∃ (r0 : ByteArray) (r1 : ByteArray) (r2 : Int) (r3 : Int), Loads P 104 ⟨r, 0, none⟩ (.agg #[(.string r0), (.string r1), (.int .i64 r2), (.int .i64 r3)]) wv_5 ∧ R (.agg #[(.string r0), (.string r1), (.int .i64 r2), (.int .i64 r3)]) wv_5) ∧
 ((decide (t12 = code)) = false →
 ∃ t16 : Int, t16 = IntKind.wrap .i64 (t7 + 1) ∧ Inv t16 wv_4 ∧ mu t16 wv_4 < mu t7 wv_2)) ∧
 ((decide ((t7 : Int) < ((t5_n : Nat) : Int))) = false →
 ∃ wv_6, Stores P 104 ⟨r, 0, none⟩ (.agg #[(.string ByteArray.empty), (.string ByteArray.empty), (.int .i64 0), (.int .i64 0)]) wv_2 wv_6 ∧
 ∃ (r0_1 : ByteArray) (r1_1 : ByteArray) (r2_1 : Int) (r3_1 : Int), Loads P 104 ⟨r, 0, none⟩ (.agg #[(.string r0_1), (.string r1_1), (.int .i64 r2_1), (.int .i64 r3_1)]) wv_6 ∧ R (.agg #[(.string r0_1), (.string r1_1), (.int .i64 r2_1), (.int .i64 r3_1)]) wv_6)
theorem spec_l08Find_ret {code : ByteArray} {w : World} {R : Value → World → Prop} (h : spec_l08Find code w R) : Ret P 90 [(.string code)] w R :=
  Ret.of_fsem Tryz.func90 rfl (Eq.mp (show _ = fsem P Tryz.f90 (fun k => cond (Nat.beq k 3) [(7, .one (.int .i64))] ([])) _ R w from by kernel_rfl) h)
def spec_RatRound (r0 : Bool) (r1_p : Option Addr) (r1_n : Nat) (r1_c : Nat) (r2_p : Option Addr) (r2_n : Nat) (r2_c : Nat) (m : Int) (w : World) (R : Value → World → Prop) : Prop :=
 ∀ (r : Nat) (wv : World), New w (.cells ⟨[(.bool r0), (.slice r1_p r1_n r1_c), (.slice r2_p r2_n r2_c)]⟩ 34 (0, 0)) r wv →
 ∀ (r_1 : Nat) (wv_1 : World), New wv (.cells ⟨[(.bool false), (.slice none 0 0)]⟩ 30 (0, 0)) r_1 wv_1 →
 ∃ (t60 : Bool) (t61_p : Option Addr) (t61_n : Nat) (t61_c : Nat) (t62_p : Option Addr) (t62_n : Nat) (t62_c : Nat), Loads P 34 ⟨r, 0, none⟩ (.agg #[(.bool t60), (.slice t61_p t61_n t61_c), (.slice t62_p t62_n t62_c)]) wv_1 ∧ Calls P 85 ⟨[(.agg #[(.bool t60), (.slice t61_p t61_n t61_c), (.slice t62_p t62_n t62_c)])]⟩ wv_1 fun e wv_2 =>
 ∃ (t7 : Bool), e = .returned (.bool t7) ∧
 ((!t7) = true →
 (true = true →
 ∃ wv_3, Stores P 30 ⟨r_1, 0, none⟩ (.agg #[(.bool false), (.slice none 0 0)]) wv_2 wv_3 ∧
 ∃ (r0_1 : Bool) (r1_p_1 : Option Addr) (r1_n_1 : Nat) (r1_c_1 : Nat), Loads P 30 ⟨r_1, 0, none⟩ (.agg #[(.bool r0_1), (.slice r1_p_1 r1_n_1 r1_c_1)]) wv_3 ∧ R (.tuple #[(.agg #[(.bool r0_1), (.slice r1_p_1 r1_n_1 r1_c_1)]), (.bool false)]) wv_3) ∧
 (true = false →
 ∃ (t150 : Bool) (t151_p : Option Addr) (t151_n : Nat) (t151_c : Nat) (t152_p : Option Addr) (t152_n : Nat) (t152_c : Nat), Loads P 34 ⟨r, 0, none⟩ (.agg #[(.bool t150), (.slice t151_p t151_n t151_c), (.slice t152_p t152_n t152_c)]) wv_2 ∧ Calls P 124 ⟨[(.agg #[(.bool t150), (.slice t151_p t151_n t151_c), (.slice t152_p t152_n t152_c)]), (.int .i64 m)]⟩ wv_2 fun e_1 wv_4 =>
 ∃ (t170 : Bool) (t171_p : Option Addr) (t171_n : Nat) (t171_c : Nat), e_1 = .returned (.agg #[(.bool t170), (.slice t171_p t171_n t171_c)]) ∧
 ∃ wv_5, Stores P 30 ⟨r_1, 0, none⟩ (.agg #[(.bool t170), (.slice t171_p t171_n t171_c)]) wv_4 wv_5 ∧
 ∃ (r0_2 : Bool) (r1_p_2 : Option Addr) (r1_n_2 : Nat) (r1_c_2 : Nat), Loads P 30 ⟨r_1, 0, none⟩ (.agg #[(.bool r0_2), (.slice r1_p_2 r1_n_2 r1_c_2)]) wv_5 ∧ R (.tuple #[(.agg #[(.bool r0_2), (.slice r1_p_2 r1_n_2 r1_c_2)]), (.bool true)]) wv_5)) ∧
 ((!t7) = false →
 Calls P 123 ⟨[(.int .i64 m)]⟩ wv_2 fun e_2 wv_6 =>
 ∃ (t11 : Bool), e_2 = .returned (.bool t11) ∧
 ((!t11) = true →
 ∃ wv_7, Stores P 30 ⟨r_1, 0, none⟩ (.agg #[(.bool false), (.slice none 0 0)]) wv_6 wv_7 ∧
 ∃ (r0_3 : Bool) (r1_p_3 : Option Addr) (r1_n_3 : Nat) (r1_c_3 : Nat), Loads P 30 ⟨r_1, 0, none⟩ (.agg #[(.bool r0_3), (.slice r1_p_3 r1_n_3 r1_c_3)]) wv_7 ∧ R (.tuple #[(.agg #[(.bool r0_3), (.slice r1_p_3 r1_n_3 r1_c_3)]), (.bool false)]) wv_7) ∧
 ((!t11) = false →
 ∃ (t150_1 : Bool) (t151_p_1 : Option Addr) (t151_n_1 : Nat) (t151_c_1 : Nat) (t152_p_1 : Option Addr) (t152_n_1 : Nat) (t152_c_1 : Nat), Loads P 34 ⟨r, 0, none⟩ (.agg #[(.bool t150_1), (.slice t151_p_1 t151_n_1 t151_c_1), (.slice t152_p_1 t152_n_1 t152_c_1)]) wv_6 ∧ Calls P 124 ⟨[(.agg #[(.bool t150_1), (.slice t151_p_1 t151_n_1 t151_c_1), (.slice t152_p_1 t152_n_1 t152_c_1)]), (.int .i64 m)]⟩ wv_6 fun e_3 wv_8 =>
 ∃ (t170_1 : Bool) (t171_p_1 : Option Addr) (t171_n_1 : Nat) (t171_c_1 : Nat), e_3 = .returned (.agg #[(.bool t170_1), (.slice t171_p_1 t171_n_1 t171_c_1)]) ∧
 ∃ wv_9, Stores P 30 ⟨r_1, 0, none⟩ (.agg #[(.bool t170_1), (.slice t171_p_1 t171_n_1 t171_c_1)]) wv_8 wv_9 ∧
 ∃ (r0_4 : Bool) (r1_p_4 : Option Addr) (r1_n_4 : Nat) (r1_c_4 : Nat), Loads P 30 ⟨r_1, 0, none⟩ (.agg #[(.bool r0_4), (.slice r1_p_4 r1_n_4 r1_c_4)]) wv_9 ∧ R (.tuple #[(.agg #[(.bool r0_4), (.slice r1_p_4 r1_n_4 r1_c_4)]), (.bool true)]) wv_9))
theorem spec_RatRound_ret {r0 : Bool} {r1_p : Option Addr} {r1_n : Nat} {r1_c : Nat} {r2_p : Option Addr} {r2_n : Nat} {r2_c : Nat} {m : Int} {w : World} {R : Value → World → Prop} (h : spec_RatRound r0 r1_p r1_n r1_c r2_p r2_n r2_c m w R) : Ret P 91 [(.agg #[(.bool r0), (.slice r1_p r1_n r1_c), (.slice r2_p r2_n r2_c)]), (.int .i64 m)] w R :=
  Ret.of_fsem Tryz.func91 rfl (Eq.mp (show _ = fsem P Tryz.f91 (fun k => []) _ R w from by kernel_rfl) h)
def spec_RatSub (r0 : Bool) (r1_p : Option Addr) (r1_n : Nat) (r1_c : Nat) (r2_p : Option Addr) (r2_n : Nat) (r2_c : Nat) (s0 : Bool) (s1_p : Option Addr) (s1_n : Nat) (s1_c : Nat) (s2_p : Option Addr) (s2_n : Nat) (s2_c : Nat) (w : World) (R : Value → World → Prop) : Prop :=
 ∀ (r : Nat) (wv : World), New w (.cells ⟨[(.bool r0), (.slice r1_p r1_n r1_c), (.slice r2_p r2_n r2_c)]⟩ 34 (0, 0)) r wv →
 ∀ (r_1 : Nat) (wv_1 : World), New wv (.cells ⟨[(.bool s0), (.slice s1_p s1_n s1_c), (.slice s2_p s2_n s2_c)]⟩ 34 (0, 0)) r_1 wv_1 →
 ∀ (r_2 : Nat) (wv_2 : World), New wv_1 (.cells ⟨[(.bool false), (.slice none 0 0), (.slice none 0 0)]⟩ 34 (0, 0)) r_2 wv_2 →
 ∃ (t90 : Bool) (t91_p : Option Addr) (t91_n : Nat) (t91_c : Nat) (t92_p : Option Addr) (t92_n : Nat) (t92_c : Nat), Loads P 34 ⟨r_1, 0, none⟩ (.agg #[(.bool t90), (.slice t91_p t91_n t91_c), (.slice t92_p t92_n t92_c)]) wv_2 ∧ Calls P 125 ⟨[(.agg #[(.bool t90), (.slice t91_p t91_n t91_c), (.slice t92_p t92_n t92_c)])]⟩ wv_2 fun e wv_3 =>
 ∃ (t100 : Bool) (t101_p : Option Addr) (t101_n : Nat) (t101_c : Nat) (t102_p : Option Addr) (t102_n : Nat) (t102_c : Nat) (t10 : Bool), e = .returned (.tuple #[(.agg #[(.bool t100), (.slice t101_p t101_n t101_c), (.slice t102_p t102_n t102_c)]), (.bool t10)]) ∧
 ∀ (r_3 : Nat) (wv_4 : World), New wv_3 (.cells ⟨[(.bool false), (.slice none 0 0), (.slice none 0 0)]⟩ 34 (0, 0)) r_3 wv_4 →
 ∃ wv_5, Stores P 34 ⟨r_3, 0, none⟩ (.agg #[(.bool t100), (.slice t101_p t101_n t101_c), (.slice t102_p t102_n t102_c)]) wv_4 wv_5 ∧
 ((!t10) = true →
 ∃ wv_6, Stores P 34 ⟨r_2, 0, none⟩ (.agg #[(.bool false), (.slice none 0 0), (.slice none 0 0)]) wv_5 wv_6 ∧
 ∃ (r0_1 : Bool) (r1_p_1 : Option Addr) (r1_n_1 : Nat) (r1_c_1 : Nat) (r2_p_1 : Option Addr) (r2_n_1 : Nat) (r2_c_1 : Nat), Loads P 34 ⟨r_2, 0, none⟩ (.agg #[(.bool r0_1), (.slice r1_p_1 r1_n_1 r1_c_1), (.slice r2_p_1 r2_n_1 r2_c_1)]) wv_6 ∧ R (.tuple #[(.agg #[(.bool r0_1), (.slice r1_p_1 r1_n_1 r1_c_1), (.slice r2_p_1 r2_n_1 r2_c_1)]), (.bool false)]) wv_6) ∧
 ((!t10) = false →
 ∃ (t160 : Bool) (t161_p : Option Addr) (t161_n : Nat) (t161_c : Nat) (t162_p : Option Addr) (t162_n : Nat) (t162_c : Nat), Loads P 34 ⟨r, 0, none⟩ (.agg #[(.bool t160), (.slice t161_p t161_n t161_c), (.slice t162_p t162_n t162_c)]) wv_5 ∧ ∃ (t170 : Bool) (t171_p : Option Addr) (t171_n : Nat) (t171_c : Nat) (t172_p : Option Addr) (t172_n : Nat) (t172_c : Nat), Loads P 34 ⟨r_3, 0, none⟩ (.agg #[(.bool t170), (.slice t171_p t171_n t171_c), (.slice t172_p t172_n t172_c)]) wv_5 ∧ Calls P 52 ⟨[(.agg #[(.bool t160), (.slice t161_p t161_n t161_c), (.slice t162_p t162_n t162_c)]), (.agg #[(.bool t170), (.slice t171_p t171_n t171_c), (.slice t172_p t172_n t172_c)])]⟩ wv_5 fun e_1 wv_7 =>
 ∃ (t180 : Bool) (t181_p : Option Addr) (t181_n : Nat) (t181_c : Nat) (t182_p : Option Addr) (t182_n : Nat) (t182_c : Nat) (t18 : Bool), e_1 = .returned (.tuple #[(.agg #[(.bool t180), (.slice t181_p t181_n t181_c), (.slice t182_p t182_n t182_c)]), (.bool t18)]) ∧
 ∃ wv_8, Stores P 34 ⟨r_2, 0, none⟩ (.agg #[(.bool t180), (.slice t181_p t181_n t181_c), (.slice t182_p t182_n t182_c)]) wv_7 wv_8 ∧
 ∃ (r0_2 : Bool) (r1_p_2 : Option Addr) (r1_n_2 : Nat) (r1_c_2 : Nat) (r2_p_2 : Option Addr) (r2_n_2 : Nat) (r2_c_2 : Nat), Loads P 34 ⟨r_2, 0, none⟩ (.agg #[(.bool r0_2), (.slice r1_p_2 r1_n_2 r1_c_2), (.slice r2_p_2 r2_n_2 r2_c_2)]) wv_8 ∧ R (.tuple #[(.agg #[(.bool r0_2), (.slice r1_p_2 r1_n_2 r1_c_2), (.slice r2_p_2 r2_n_2 r2_c_2)]), (.bool t18)]) wv_8)
theorem spec_RatSub_ret {r0 : Bool} {r1_p : Option Addr} {r1_n : Nat} {r1_c : Nat} {r2_p : Option Addr} {r2_n : Nat} {r2_c : Nat} {s0 : Bool} {s1_p : Option Addr} {s1_n : Nat} {s1_c : Nat} {s2_p : Option Addr} {s2_n : Nat} {s2_c : Nat} {w : World} {R : Value → World → Prop} (h : spec_RatSub r0 r1_p r1_n r1_c r2_p r2_n r2_c s0 s1_p s1_n s1_c s2_p s2_n s2_c w R) : Ret P 92 [(.agg #[(.bool r0), (.slice r1_p r1_n r1_c), (.slice r2_p r2_n r2_c)]), (.agg #[(.bool s0), (.slice s1_p s1_n s1_c), (.slice s2_p s2_n s2_c)])] w R :=
  Ret.of_fsem Tryz.func92 rfl (Eq.mp (show _ = fsem P Tryz.f92 (fun k => []) _ R w from by kernel_rfl) h)
def impl_currencyOf (code : ByteArray) (w : World) (R : Value → World → Prop) : Prop :=
 ∀ (r : Nat) (wv : World), New w (.cells ⟨[(.string ByteArray.empty), (.string ByteArray.empty), (.int .i64 0), (.int .i64 0)]⟩ 109 (0, 0)) r wv →
 ∃ (t6 : Value), Loads P 125 ⟨0, 0, none⟩ t6 wv ∧ ∃ (Inv : Int → World → Prop) (mu : Int → World → Nat), Inv 0 wv ∧
 ∀ (junk : Fr) (wv_1 : World) (t7 : Int), Inv t7 wv_1 →
 ((decide ((t7 : Int) < 20)) = true →
 indexS P 125 t6 (.int .i64 t7) fun (el : Value) => ∀ (r_1 : Nat) (wv_2 : World), New wv_1 (.cells ⟨[(.string ByteArray.empty), (.string ByteArray.empty), (.int .i64 0), (.int .i64 0)]⟩ 109 (0, 0)) r_1 wv_2 →
 ∃ wv_3, Stores P 109 ⟨r_1, 0, none⟩ el wv_2 wv_3 ∧
 ∃ (t11 : ByteArray), Loads P 9 ((⟨r_1, 0, none⟩ : Addr).add 0) (.string t11) wv_3 ∧ ((decide (t11 = code)) = true →
 ∃ (t140 : ByteArray) (t141 : ByteArray) (t142 : Int) (t143 : Int), Loads P 109 ⟨r_1, 0, none⟩ (.agg #[(.string t140), (.string t141), (.int .i64 t142), (.int .i64 t143)]) wv_3 ∧ ∃ wv_4, Stores P 109 ⟨r, 0, none⟩ (.agg #[(.string t140), (.string t141), (.int .i64 t142), (.int .i64 t143)]) wv_3 wv_4 ∧
 ∃ (r0 : ByteArray) (r1 : ByteArray) (r2 : Int) (r3 : Int), Loads P 109 ⟨r, 0, none⟩ (.agg #[(.string r0), (.string r1), (.int .i64 r2), (.int .i64 r3)]) wv_4 ∧ R (.tuple #[(.agg #[(.string r0), (.string r1), (.int .i64 r2), (.int .i64 r3)]), (.bool true)]) wv_4) ∧
 ((decide (t11 = code)) = false →
 ∃ t15 : Int, t15 = IntKind.wrap .i64 (t7 + 1) ∧ Inv t15 wv_3 ∧ mu t15 wv_3 < mu t7 wv_1)) ∧
 ((decide ((t7 : Int) < 20)) = false →
 ∃ wv_5, Stores P 109 ⟨r, 0, none⟩ (.agg #[(.string ByteArray.empty), (.string ByteArray.empty), (.int .i64 0), (.int .i64 0)]) wv_1 wv_5 ∧
 ∃ (r0_1 : ByteArray) (r1_1 : ByteArray) (r2_1 : Int) (r3_1 : Int), Loads P 109 ⟨r, 0, none⟩ (.agg #[(.string r0_1), (.string r1_1), (.int .i64 r2_1), (.int .i64 r3_1)]) wv_5 ∧ R (.tuple #[(.agg #[(.string r0_1), (.string r1_1), (.int .i64 r2_1), (.int .i64 r3_1)]), (.bool false)]) wv_5)
theorem impl_currencyOf_ret {code : ByteArray} {w : World} {R : Value → World → Prop} (h : impl_currencyOf code w R) : Ret P 93 [(.string code)] w R :=
  Ret.of_fsem Tryz.func93 rfl (Eq.mp (show _ = fsem P Tryz.f93 (fun k => cond (Nat.beq k 3) [(7, .one (.int .i64))] ([])) _ R w from by kernel_rfl) h)
def impl_NatOk_j0 (a_p : Option Addr) (a_n : Nat) (W : World) (R : Value → World → Prop) : Prop :=
 ∃ (Inv : Int → World → Prop) (mu : Int → World → Nat), Inv 0 W ∧
 ∀ (junk : Fr) (wv : World) (t24 : Int), Inv t24 wv →
 ((decide ((t24 : Int) < ((a_n : Nat) : Int))) = true →
 (0 ≤ (t24 : Int) ∧ (t24 : Int) < (a_n : Nat)) ∧ ptrS a_p fun ad => ∃ (t27 : Int), Loads P 3 (ad.add (t24.toNat * 1)) (.int .i64 t27) wv ∧ ((decide ((t27 : Int) < 0)) = true →
 (true = true →
 R (.bool false) wv) ∧
 (true = false →
 ∃ t34 : Int, t34 = IntKind.wrap .i64 (t24 + 1) ∧ Inv t34 wv ∧ mu t34 wv < mu t24 wv)) ∧
 ((decide ((t27 : Int) < 0)) = false →
 ((decide ((1000000000 : Int) ≤ t27)) = true →
 R (.bool false) wv) ∧
 ((decide ((1000000000 : Int) ≤ t27)) = false →
 ∃ t34_1 : Int, t34_1 = IntKind.wrap .i64 (t24 + 1) ∧ Inv t34_1 wv ∧ mu t34_1 wv < mu t24 wv))) ∧
 ((decide ((t24 : Int) < ((a_n : Nat) : Int))) = false →
 R (.bool true) wv)
def impl_NatOk (a_p : Option Addr) (a_n : Nat) (a_c : Nat) (w : World) (R : Value → World → Prop) : Prop :=
 ((decide ((50 : Int) < ((a_n : Nat) : Int))) = true →
 (true = true →
 R (.bool false) w) ∧
 (true = false →
 impl_NatOk_j0 a_p a_n w R)) ∧
 ((decide ((50 : Int) < ((a_n : Nat) : Int))) = false →
 ((decide ((0 : Int) < ((a_n : Nat) : Int))) = true →
 ∃ t16 : Int, t16 = IntKind.wrap .i64 (((a_n : Nat) : Int) - 1) ∧ (0 ≤ (t16 : Int) ∧ (t16 : Int) < (a_n : Nat)) ∧ ptrS a_p fun ad_1 => ∃ (t18 : Int), Loads P 3 (ad_1.add (t16.toNat * 1)) (.int .i64 t18) w ∧ ((decide ((t18 : Int) = 0)) = true →
 R (.bool false) w) ∧
 ((decide ((t18 : Int) = 0)) = false →
 impl_NatOk_j0 a_p a_n w R)) ∧
 ((decide ((0 : Int) < ((a_n : Nat) : Int))) = false →
 (false = true →
 R (.bool false) w) ∧
 (false = false →
 impl_NatOk_j0 a_p a_n w R)))
theorem impl_NatOk_ret {a_p : Option Addr} {a_n : Nat} {a_c : Nat} {w : World} {R : Value → World → Prop} (h : impl_NatOk a_p a_n a_c w R) : Ret P 94 [(.slice a_p a_n a_c)] w R :=
  Ret.of_fsem Tryz.func94 rfl (Eq.mp (show _ = fsem P Tryz.f94 (fun k => cond (Nat.beq k 5) [(24, .one (.int .i64))] ([])) _ R w from by kernel_rfl) h)
end Go.Proofs.YtmajiilehdpdmaaGreatDoor

namespace Go.Proofs.YtmajiilehdpdmaaGreatDoor
open Go Go.Proofs.YtmajiilehdpdmaaGreatDoor.Sx
set_option linter.unusedVariables false
set_option maxRecDepth 100000
def impl_TaxRateOk (r0 : Bool) (r1_p : Option Addr) (r1_n : Nat) (r1_c : Nat) (r2 : Int) (w : World) (R : Value → World → Prop) : Prop :=
 ∀ (r : Nat) (wv : World), New w (.cells ⟨[(.bool r0), (.slice r1_p r1_n r1_c), (.int .i64 r2)]⟩ 60 (0, 0)) r wv →
 ∃ (t30 : Bool) (t31_p : Option Addr) (t31_n : Nat) (t31_c : Nat) (t32 : Int), (∀ wv_1, Ext wv.drew wv_1 → Loads P 60 ⟨r, 0, none⟩ (.agg #[(.bool t30), (.slice t31_p t31_n t31_c), (.int .i64 t32)]) wv_1) ∧ Calls P 103 ⟨[(.agg #[(.bool t30), (.slice t31_p t31_n t31_c), (.int .i64 t32)])]⟩ wv.drew fun e wv_2 =>
 ∃ (t4 : Bool), e = .returned (.bool t4) ∧
 (t4 = true →
 ∃ (t8_p : Option Addr) (t8_n : Nat) (t8_c : Nat), (∀ wv_3, Ext wv_2 wv_3 → Loads P 23 (((⟨r, 0, none⟩ : Addr).add 0).add 1) (.slice t8_p t8_n t8_c) wv_3) ∧ ((decide ((((t8_n : Nat) : Int) : Int) ≤ 1)) = true →
 ∃ (t15 : Bool), (∀ wv_4, Ext wv_2 wv_4 → Loads P 4 (((⟨r, 0, none⟩ : Addr).add 0).add 0) (.bool t15) wv_4) ∧ ((!t15) = true →
 ∃ (t190 : Bool) (t191_p : Option Addr) (t191_n : Nat) (t191_c : Nat) (t192 : Int), (∀ wv_5, Ext wv_2 wv_5 → Loads P 60 ⟨r, 0, none⟩ (.agg #[(.bool t190), (.slice t191_p t191_n t191_c), (.int .i64 t192)]) wv_5) ∧ Calls P 127 ⟨[(.int .i64 1)]⟩ wv_2 fun e_1 wv_6 =>
 ∃ (t200 : Bool) (t201_p : Option Addr) (t201_n : Nat) (t201_c : Nat), e_1 = .returned (.agg #[(.bool t200), (.slice t201_p t201_n t201_c)]) ∧
 Ext wv_2 wv_6 ∧ Calls P 126 ⟨[(.agg #[(.bool t190), (.slice t191_p t191_n t191_c), (.int .i64 t192)]), (.agg #[(.bool t200), (.slice t201_p t201_n t201_c), (.int .i64 0)])]⟩ wv_6 fun e_2 wv_7 =>
 ∃ (t22 : Int), e_2 = .returned (.int .i64 t22) ∧
 R (.bool (decide ((t22 : Int) ≤ 0))) wv_7) ∧
 ((!t15) = false →
 R (.bool false) wv_2)) ∧
 ((decide ((((t8_n : Nat) : Int) : Int) ≤ 1)) = false →
 (false = true →
 ∃ (t190_1 : Bool) (t191_p_1 : Option Addr) (t191_n_1 : Nat) (t191_c_1 : Nat) (t192_1 : Int), (∀ wv_8, Ext wv_2 wv_8 → Loads P 60 ⟨r, 0, none⟩ (.agg #[(.bool t190_1), (.slice t191_p_1 t191_n_1 t191_c_1), (.int .i64 t192_1)]) wv_8) ∧ Calls P 127 ⟨[(.int .i64 1)]⟩ wv_2 fun e_3 wv_9 =>
 ∃ (t200_1 : Bool) (t201_p_1 : Option Addr) (t201_n_1 : Nat) (t201_c_1 : Nat), e_3 = .returned (.agg #[(.bool t200_1), (.slice t201_p_1 t201_n_1 t201_c_1)]) ∧
 Ext wv_2 wv_9 ∧ Calls P 126 ⟨[(.agg #[(.bool t190_1), (.slice t191_p_1 t191_n_1 t191_c_1), (.int .i64 t192_1)]), (.agg #[(.bool t200_1), (.slice t201_p_1 t201_n_1 t201_c_1), (.int .i64 0)])]⟩ wv_9 fun e_4 wv_10 =>
 ∃ (t22_1 : Int), e_4 = .returned (.int .i64 t22_1) ∧
 R (.bool (decide ((t22_1 : Int) ≤ 0))) wv_10) ∧
 (false = false →
 R (.bool false) wv_2))) ∧
 (t4 = false →
 (false = true →
 ∃ (t15_1 : Bool), (∀ wv_11, Ext wv_2 wv_11 → Loads P 4 (((⟨r, 0, none⟩ : Addr).add 0).add 0) (.bool t15_1) wv_11) ∧ ((!t15_1) = true →
 ∃ (t190_2 : Bool) (t191_p_2 : Option Addr) (t191_n_2 : Nat) (t191_c_2 : Nat) (t192_2 : Int), (∀ wv_12, Ext wv_2 wv_12 → Loads P 60 ⟨r, 0, none⟩ (.agg #[(.bool t190_2), (.slice t191_p_2 t191_n_2 t191_c_2), (.int .i64 t192_2)]) wv_12) ∧ Calls P 127 ⟨[(.int .i64 1)]⟩ wv_2 fun e_5 wv_13 =>
 ∃ (t200_2 : Bool) (t201_p_2 : Option Addr) (t201_n_2 : Nat) (t201_c_2 : Nat), e_5 = .returned (.agg #[(.bool t200_2), (.slice t201_p_2 t201_n_2 t201_c_2)]) ∧
 Ext wv_2 wv_13 ∧ Calls P 126 ⟨[(.agg #[(.bool t190_2), (.slice t191_p_2 t191_n_2 t191_c_2), (.int .i64 t192_2)]), (.agg #[(.bool t200_2), (.slice t201_p_2 t201_n_2 t201_c_2), (.int .i64 0)])]⟩ wv_13 fun e_6 wv_14 =>
 ∃ (t22_2 : Int), e_6 = .returned (.int .i64 t22_2) ∧
 R (.bool (decide ((t22_2 : Int) ≤ 0))) wv_14) ∧
 ((!t15_1) = false →
 R (.bool false) wv_2)) ∧
 (false = false →
 (false = true →
 ∃ (t190_3 : Bool) (t191_p_3 : Option Addr) (t191_n_3 : Nat) (t191_c_3 : Nat) (t192_3 : Int), (∀ wv_15, Ext wv_2 wv_15 → Loads P 60 ⟨r, 0, none⟩ (.agg #[(.bool t190_3), (.slice t191_p_3 t191_n_3 t191_c_3), (.int .i64 t192_3)]) wv_15) ∧ Calls P 127 ⟨[(.int .i64 1)]⟩ wv_2 fun e_7 wv_16 =>
 ∃ (t200_3 : Bool) (t201_p_3 : Option Addr) (t201_n_3 : Nat) (t201_c_3 : Nat), e_7 = .returned (.agg #[(.bool t200_3), (.slice t201_p_3 t201_n_3 t201_c_3)]) ∧
 Ext wv_2 wv_16 ∧ Calls P 126 ⟨[(.agg #[(.bool t190_3), (.slice t191_p_3 t191_n_3 t191_c_3), (.int .i64 t192_3)]), (.agg #[(.bool t200_3), (.slice t201_p_3 t201_n_3 t201_c_3), (.int .i64 0)])]⟩ wv_16 fun e_8 wv_17 =>
 ∃ (t22_3 : Int), e_8 = .returned (.int .i64 t22_3) ∧
 R (.bool (decide ((t22_3 : Int) ≤ 0))) wv_17) ∧
 (false = false →
 R (.bool false) wv_2)))
theorem impl_TaxRateOk_ret {r0 : Bool} {r1_p : Option Addr} {r1_n : Nat} {r1_c : Nat} {r2 : Int} {w : World} {R : Value → World → Prop} (h : impl_TaxRateOk r0 r1_p r1_n r1_c r2 w R) : Ret P 95 [(.agg #[(.bool r0), (.slice r1_p r1_n r1_c), (.int .i64 r2)])] w R :=
  Ret.of_fsem Tryz.func95 rfl (Eq.mp (show _ = fsem P Tryz.f95 (fun k => []) _ R w from by kernel_rfl) h)
def impl_natOf (n : Int) (w : World) (R : Value → World → Prop) : Prop :=
 ∀ (r : Nat) (wv : World), New w (.cells ⟨[]⟩ 3 (0, 0)) r wv →
 ∃ (Inv : Int → Option Addr → Nat → Nat → World → Prop) (mu : Int → Option Addr → Nat → Nat → World → Nat), Inv n (some ⟨r, 0, none⟩) 0 0 wv ∧
 ∀ (junk : Fr) (wv_1 : World) (n_1 : Int) (a_p : Option Addr) (a_n : Nat) (a_c : Nat), Inv n_1 a_p a_n a_c wv_1 →
 ((decide ((0 : Int) < n_1)) = true →
 (1000000000 : Int) ≠ 0 ∧ ∃ t9 : Int, t9 = Int.tmod n_1 1000000000 ∧ ∃ t10 : Int, t10 = IntKind.wrap .i64 t9 ∧ ∀ (r_1 : Nat) (wv_2 : World), New wv_1 (.cells ⟨[(.int .i64 t10)]⟩ 3 (0, 0)) r_1 wv_2 →
 ∃ (t12_p : Option Addr) (t12_n : Nat) (t12_c : Nat) (wv_3 : World), Appends P [23, 23] [(.slice a_p a_n a_c), (.slice (some ⟨r_1, 0, none⟩) 1 1)] (.slice t12_p t12_n t12_c) wv_2 wv_3 ∧
 (1000000000 : Int) ≠ 0 ∧ ∃ t14 : Int, t14 = IntKind.wrap .u64 (Int.tdiv n_1 1000000000) ∧ Inv t14 t12_p t12_n t12_c wv_3 ∧ mu t14 t12_p t12_n t12_c wv_3 < mu n_1 a_p a_n a_c wv_1) ∧
 ((decide ((0 : Int) < n_1)) = false →
 R (.slice a_p a_n a_c) wv_1)
theorem impl_natOf_ret {n : Int} {w : World} {R : Value → World → Prop} (h : impl_natOf n w R) : Ret P 97 [(.int .u64 n)] w R :=
  Ret.of_fsem Tryz.func97 rfl (Eq.mp (show _ = fsem P Tryz.f97 (fun k => cond (Nat.beq k 3) [(0, .one (.int .u64)), (3, .one .slice)] ([])) _ R w from by kernel_rfl) h)
def impl_trim (a_p : Option Addr) (a_n : Nat) (a_c : Nat) (w : World) (R : Value → World → Prop) : Prop :=
 ∃ (Inv : Option Addr → Nat → Nat → World → Prop) (mu : Option Addr → Nat → Nat → World → Nat), Inv a_p a_n a_c w ∧
 ∀ (junk : Fr) (wv : World) (a_p_1 : Option Addr) (a_n_1 : Nat) (a_c_1 : Nat), Inv a_p_1 a_n_1 a_c_1 wv →
 ((decide ((0 : Int) < ((a_n_1 : Nat) : Int))) = true →
 ∃ t10 : Int, t10 = IntKind.wrap .i64 (((a_n_1 : Nat) : Int) - 1) ∧ (0 ≤ (t10 : Int) ∧ (t10 : Int) < (a_n_1 : Nat)) ∧ ptrS a_p_1 fun ad => ∃ (t12 : Int), Loads P 3 (ad.add (t10.toNat * 1)) (.int .i64 t12) wv ∧ ((decide ((t12 : Int) = 0)) = true →
 ∃ t18 : Int, t18 = IntKind.wrap .i64 (((a_n_1 : Nat) : Int) - 1) ∧ (0 ≤ (t18 : Int) ∧ (t18 : Int) ≤ (a_c_1 : Nat)) ∧ Inv (sub a_p_1 0 a_c_1 1) (t18.toNat - 0) (a_c_1 - 0) wv ∧ mu (sub a_p_1 0 a_c_1 1) (t18.toNat - 0) (a_c_1 - 0) wv < mu a_p_1 a_n_1 a_c_1 wv) ∧
 ((decide ((t12 : Int) = 0)) = false →
 R (.slice a_p_1 a_n_1 a_c_1) wv)) ∧
 ((decide ((0 : Int) < ((a_n_1 : Nat) : Int))) = false →
 (false = true →
 ∃ t18_1 : Int, t18_1 = IntKind.wrap .i64 (((a_n_1 : Nat) : Int) - 1) ∧ (0 ≤ (t18_1 : Int) ∧ (t18_1 : Int) ≤ (a_c_1 : Nat)) ∧ Inv (sub a_p_1 0 a_c_1 1) (t18_1.toNat - 0) (a_c_1 - 0) wv ∧ mu (sub a_p_1 0 a_c_1 1) (t18_1.toNat - 0) (a_c_1 - 0) wv < mu a_p_1 a_n_1 a_c_1 wv) ∧
 (false = false →
 R (.slice a_p_1 a_n_1 a_c_1) wv))
theorem impl_trim_ret {a_p : Option Addr} {a_n : Nat} {a_c : Nat} {w : World} {R : Value → World → Prop} (h : impl_trim a_p a_n a_c w R) : Ret P 98 [(.slice a_p a_n a_c)] w R :=
  Ret.of_fsem Tryz.func98 rfl (Eq.mp (show _ = fsem P Tryz.f98 (fun k => cond (Nat.beq k 2) [(0, .one .slice)] ([])) _ R w from by kernel_rfl) h)
def impl_ratsOk (r0 : Bool) (r1_p : Option Addr) (r1_n : Nat) (r1_c : Nat) (r2_p : Option Addr) (r2_n : Nat) (r2_c : Nat) (s0 : Bool) (s1_p : Option Addr) (s1_n : Nat) (s1_c : Nat) (s2_p : Option Addr) (s2_n : Nat) (s2_c : Nat) (w : World) (R : Value → World → Prop) : Prop :=
 ∀ (r : Nat) (wv : World), New w (.cells ⟨[(.bool r0), (.slice r1_p r1_n r1_c), (.slice r2_p r2_n r2_c)]⟩ 34 (0, 0)) r wv →
 ∀ (r_1 : Nat) (wv_1 : World), New wv (.cells ⟨[(.bool s0), (.slice s1_p s1_n s1_c), (.slice s2_p s2_n s2_c)]⟩ 34 (0, 0)) r_1 wv_1 →
 ∃ (t50 : Bool) (t51_p : Option Addr) (t51_n : Nat) (t51_c : Nat) (t52_p : Option Addr) (t52_n : Nat) (t52_c : Nat), Loads P 34 ⟨r, 0, none⟩ (.agg #[(.bool t50), (.slice t51_p t51_n t51_c), (.slice t52_p t52_n t52_c)]) wv_1 ∧ Calls P 128 ⟨[(.agg #[(.bool t50), (.slice t51_p t51_n t51_c), (.slice t52_p t52_n t52_c)])]⟩ wv_1 fun e wv_2 =>
 ∃ (t6 : Bool), e = .returned (.bool t6) ∧
 (t6 = true →
 ∃ (t80 : Bool) (t81_p : Option Addr) (t81_n : Nat) (t81_c : Nat) (t82_p : Option Addr) (t82_n : Nat) (t82_c : Nat), Loads P 34 ⟨r_1, 0, none⟩ (.agg #[(.bool t80), (.slice t81_p t81_n t81_c), (.slice t82_p t82_n t82_c)]) wv_2 ∧ Calls P 128 ⟨[(.agg #[(.bool t80), (.slice t81_p t81_n t81_c), (.slice t82_p t82_n t82_c)])]⟩ wv_2 fun e_1 wv_3 =>
 ∃ (t9 : Bool), e_1 = .returned (.bool t9) ∧
 R (.bool t9) wv_3) ∧
 (t6 = false →
 R (.bool false) wv_2)
theorem impl_ratsOk_ret {r0 : Bool} {r1_p : Option Addr} {r1_n : Nat} {r1_c : Nat} {r2_p : Option Addr} {r2_n : Nat} {r2_c : Nat} {s0 : Bool} {s1_p : Option Addr} {s1_n : Nat} {s1_c : Nat} {s2_p : Option Addr} {s2_n : Nat} {s2_c : Nat} {w : World} {R : Value → World → Prop} (h : impl_ratsOk r0 r1_p r1_n r1_c r2_p r2_n r2_c s0 s1_p s1_n s1_c s2_p s2_n s2_c w R) : Ret P 99 [(.agg #[(.bool r0), (.slice r1_p r1_n r1_c), (.slice r2_p r2_n r2_c)]), (.agg #[(.bool s0), (.slice s1_p s1_n s1_c), (.slice s2_p s2_n s2_c)])] w R :=
  Ret.of_fsem Tryz.func99 rfl (Eq.mp (show _ = fsem P Tryz.f99 (fun k => []) _ R w from by kernel_rfl) h)
def impl_reduce (num0 : Bool) (num1_p : Option Addr) (num1_n : Nat) (num1_c : Nat) (den_p : Option Addr) (den_n : Nat) (den_c : Nat) (w : World) (R : Value → World → Prop) : Prop :=
 ∀ (r : Nat) (wv : World), New w (.cells ⟨[(.bool num0), (.slice num1_p num1_n num1_c)]⟩ 30 (0, 0)) r wv →
 ∀ (r_1 : Nat) (wv_1 : World), New wv (.cells ⟨[(.bool false), (.slice none 0 0), (.slice none 0 0)]⟩ 34 (0, 0)) r_1 wv_1 →
 ∃ (t12_p : Option Addr) (t12_n : Nat) (t12_c : Nat), Loads P 23 ((⟨r, 0, none⟩ : Addr).add 1) (.slice t12_p t12_n t12_c) wv_1 ∧ Calls P 129 ⟨[(.slice t12_p t12_n t12_c), (.slice den_p den_n den_c)]⟩ wv_1 fun e wv_2 =>
 ∃ (t14_p : Option Addr) (t14_n : Nat) (t14_c : Nat), e = .returned (.slice t14_p t14_n t14_c) ∧
 ∃ (t17_p : Option Addr) (t17_n : Nat) (t17_c : Nat), Loads P 23 ((⟨r, 0, none⟩ : Addr).add 1) (.slice t17_p t17_n t17_c) wv_2 ∧ Calls P 130 ⟨[(.slice t17_p t17_n t17_c), (.slice t14_p t14_n t14_c)]⟩ wv_2 fun e_1 wv_3 =>
 ∃ (t19_p : Option Addr) (t19_n : Nat) (t19_c : Nat) (t19_p_1 : Option Addr) (t19_n_1 : Nat) (t19_c_1 : Nat), e_1 = .returned (.tuple #[(.slice t19_p t19_n t19_c), (.slice t19_p_1 t19_n_1 t19_c_1)]) ∧
 Calls P 130 ⟨[(.slice den_p den_n den_c), (.slice t14_p t14_n t14_c)]⟩ wv_3 fun e_2 wv_4 =>
 ∃ (t25_p : Option Addr) (t25_n : Nat) (t25_c : Nat) (t25_p_1 : Option Addr) (t25_n_1 : Nat) (t25_c_1 : Nat), e_2 = .returned (.tuple #[(.slice t25_p t25_n t25_c), (.slice t25_p_1 t25_n_1 t25_c_1)]) ∧
 ((decide ((18 : Int) < ((t19_n : Nat) : Int))) = true →
 (true = true →
 ∃ wv_5, Stores P 34 ⟨r_1, 0, none⟩ (.agg #[(.bool false), (.slice none 0 0), (.slice none 0 0)]) wv_4 wv_5 ∧
 ∃ (r0 : Bool) (r1_p : Option Addr) (r1_n : Nat) (r1_c : Nat) (r2_p : Option Addr) (r2_n : Nat) (r2_c : Nat), Loads P 34 ⟨r_1, 0, none⟩ (.agg #[(.bool r0), (.slice r1_p r1_n r1_c), (.slice r2_p r2_n r2_c)]) wv_5 ∧ R (.tuple #[(.agg #[(.bool r0), (.slice r1_p r1_n r1_c), (.slice r2_p r2_n r2_c)]), (.bool false)]) wv_5) ∧
 (true = false →
 ∃ (t38 : Bool), Loads P 4 ((⟨r, 0, none⟩ : Addr).add 0) (.bool t38) wv_4 ∧ Calls P 109 ⟨[(.bool t38), (.slice t19_p t19_n t19_c)]⟩ wv_4 fun e_3 wv_6 =>
 ∃ (t400 : Bool) (t401_p : Option Addr) (t401_n : Nat) (t401_c : Nat), e_3 = .returned (.agg #[(.bool t400), (.slice t401_p t401_n t401_c)]) ∧
 ∃ wv_7, Stores P 34 ⟨r_1, 0, none⟩ (.agg #[(.bool t400), (.slice t401_p t401_n t401_c), (.slice t25_p t25_n t25_c)]) wv_6 wv_7 ∧
 ∃ (r0_1 : Bool) (r1_p_1 : Option Addr) (r1_n_1 : Nat) (r1_c_1 : Nat) (r2_p_1 : Option Addr) (r2_n_1 : Nat) (r2_c_1 : Nat), Loads P 34 ⟨r_1, 0, none⟩ (.agg #[(.bool r0_1), (.slice r1_p_1 r1_n_1 r1_c_1), (.slice r2_p_1 r2_n_1 r2_c_1)]) wv_7 ∧ R (.tuple #[(.agg #[(.bool r0_1), (.slice r1_p_1 r1_n_1 r1_c_1), (.slice r2_p_1 r2_n_1 r2_c_1)]), (.bool true)]) wv_7)) ∧
 ((decide ((18 : Int) < ((t19_n : Nat) : Int))) = false →
 ((decide ((18 : Int) < ((t25_n : Nat) : Int))) = true →
 ∃ wv_8, Stores P 34 ⟨r_1, 0, none⟩ (.agg #[(.bool false), (.slice none 0 0), (.slice none 0 0)]) wv_4 wv_8 ∧
 ∃ (r0_2 : Bool) (r1_p_2 : Option Addr) (r1_n_2 : Nat) (r1_c_2 : Nat) (r2_p_2 : Option Addr) (r2_n_2 : Nat) (r2_c_2 : Nat), Loads P 34 ⟨r_1, 0, none⟩ (.agg #[(.bool r0_2), (.slice r1_p_2 r1_n_2 r1_c_2), (.slice r2_p_2 r2_n_2 r2_c_2)]) wv_8 ∧ R (.tuple #[(.agg #[(.bool r0_2), (.slice r1_p_2 r1_n_2 r1_c_2), (.slice r2_p_2 r2_n_2 r2_c_2)]), (.bool false)]) wv_8) ∧
 ((decide ((18 : Int) < ((t25_n : Nat) : Int))) = false →
 ∃ (t38_1 : Bool), Loads P 4 ((⟨r, 0, none⟩ : Addr).add 0) (.bool t38_1) wv_4 ∧ Calls P 109 ⟨[(.bool t38_1), (.slice t19_p t19_n t19_c)]⟩ wv_4 fun e_4 wv_9 =>
 ∃ (t400_1 : Bool) (t401_p_1 : Option Addr) (t401_n_1 : Nat) (t401_c_1 : Nat), e_4 = .returned (.agg #[(.bool t400_1), (.slice t401_p_1 t401_n_1 t401_c_1)]) ∧
 ∃ wv_10, Stores P 34 ⟨r_1, 0, none⟩ (.agg #[(.bool t400_1), (.slice t401_p_1 t401_n_1 t401_c_1), (.slice t25_p t25_n t25_c)]) wv_9 wv_10 ∧
 ∃ (r0_3 : Bool) (r1_p_3 : Option Addr) (r1_n_3 : Nat) (r1_c_3 : Nat) (r2_p_3 : Option Addr) (r2_n_3 : Nat) (r2_c_3 : Nat), Loads P 34 ⟨r_1, 0, none⟩ (.agg #[(.bool r0_3), (.slice r1_p_3 r1_n_3 r1_c_3), (.slice r2_p_3 r2_n_3 r2_c_3)]) wv_10 ∧ R (.tuple #[(.agg #[(.bool r0_3), (.slice r1_p_3 r1_n_3 r1_c_3), (.slice r2_p_3 r2_n_3 r2_c_3)]), (.bool true)]) wv_10))
theorem impl_reduce_ret {num0 : Bool} {num1_p : Option Addr} {num1_n : Nat} {num1_c : Nat} {den_p : Option Addr} {den_n : Nat} {den_c : Nat} {w : World} {R : Value → World → Prop} (h : impl_reduce num0 num1_p num1_n num1_c den_p den_n den_c w R) : Ret P 100 [(.agg #[(.bool num0), (.slice num1_p num1_n num1_c)]), (.slice den_p den_n den_c)] w R :=
  Ret.of_fsem Tryz.func100 rfl (Eq.mp (show _ = fsem P Tryz.f100 (fun k => []) _ R w from by kernel_rfl) h)
def impl_intMul (x0 : Bool) (x1_p : Option Addr) (x1_n : Nat) (x1_c : Nat) (y0 : Bool) (y1_p : Option Addr) (y1_n : Nat) (y1_c : Nat) (w : World) (R : Value → World → Prop) : Prop :=
 ∀ (r : Nat) (wv : World), New w (.cells ⟨[(.bool x0), (.slice x1_p x1_n x1_c)]⟩ 30 (0, 0)) r wv →
 ∀ (r_1 : Nat) (wv_1 : World), New wv (.cells ⟨[(.bool y0), (.slice y1_p y1_n y1_c)]⟩ 30 (0, 0)) r_1 wv_1 →
 ∀ (r_2 : Nat) (wv_2 : World), New wv_1 (.cells ⟨[(.bool false), (.slice none 0 0)]⟩ 30 (0, 0)) r_2 wv_2 →
 ∃ (t6 : Bool), (∀ wv_3, Ext wv_2.drew wv_3 → Loads P 4 ((⟨r, 0, none⟩ : Addr).add 0) (.bool t6) wv_3) ∧ ∃ (t8 : Bool), (∀ wv_4, Ext wv_2.drew wv_4 → Loads P 4 ((⟨r_1, 0, none⟩ : Addr).add 0) (.bool t8) wv_4) ∧ ∃ (t11_p : Option Addr) (t11_n : Nat) (t11_c : Nat), (∀ wv_5, Ext wv_2.drew wv_5 → Loads P 23 ((⟨r, 0, none⟩ : Addr).add 1) (.slice t11_p t11_n t11_c) wv_5) ∧ ∃ (t13_p : Option Addr) (t13_n : Nat) (t13_c : Nat), (∀ wv_6, Ext wv_2.drew wv_6 → Loads P 23 ((⟨r_1, 0, none⟩ : Addr).add 1) (.slice t13_p t13_n t13_c) wv_6) ∧ Calls P 102 ⟨[(.slice t11_p t11_n t11_c), (.slice t13_p t13_n t13_c)]⟩ wv_2.drew fun e wv_7 =>
 ∃ (t14_p : Option Addr) (t14_n : Nat) (t14_c : Nat), e = .returned (.slice t14_p t14_n t14_c) ∧
 Ext wv_2.drew wv_7 ∧ Calls P 109 ⟨[(.bool (!(t6 == t8))), (.slice t14_p t14_n t14_c)]⟩ wv_7 fun e_1 wv_8 =>
 ∃ (t150 : Bool) (t151_p : Option Addr) (t151_n : Nat) (t151_c : Nat), e_1 = .returned (.agg #[(.bool t150), (.slice t151_p t151_n t151_c)]) ∧
 ∃ wv_9, Stores P 30 ⟨r_2, 0, none⟩ (.agg #[(.bool t150), (.slice t151_p t151_n t151_c)]) wv_8 wv_9 ∧
 ∃ (r0 : Bool) (r1_p : Option Addr) (r1_n : Nat) (r1_c : Nat), Loads P 30 ⟨r_2, 0, none⟩ (.agg #[(.bool r0), (.slice r1_p r1_n r1_c)]) wv_9 ∧ R (.agg #[(.bool r0), (.slice r1_p r1_n r1_c)]) wv_9
theorem impl_intMul_ret {x0 : Bool} {x1_p : Option Addr} {x1_n : Nat} {x1_c : Nat} {y0 : Bool} {y1_p : Option Addr} {y1_n : Nat} {y1_c : Nat} {w : World} {R : Value → World → Prop} (h : impl_intMul x0 x1_p x1_n x1_c y0 y1_p y1_n y1_c w R) : Ret P 101 [(.agg #[(.bool x0), (.slice x1_p x1_n x1_c)]), (.agg #[(.bool y0), (.slice y1_p y1_n y1_c)])] w R :=
  Ret.of_fsem Tryz.func101 rfl (Eq.mp (show _ = fsem P Tryz.f101 (fun k => []) _ R w from by kernel_rfl) h)
def impl_natMul (a_p : Option Addr) (a_n : Nat) (a_c : Nat) (b_p : Option Addr) (b_n : Nat) (b_c : Nat) (w : World) (R : Value → World → Prop) : Prop :=
 ∃ t16 : Int, t16 = IntKind.wrap .i64 (((a_n : Nat) : Int) + ((b_n : Nat) : Int)) ∧ ∃ t17 : Int, t17 = IntKind.wrap .i64 (t16 + 1) ∧ (0 ≤ (t17 : Int) ∧ (t17 : Int) ≤ t17 ∧ ((8 : Nat) : Int) * t17 ≤ 281474976710656) ∧
 ∀ (r : Nat) (wv : World), New w (.cells ⟨zeroRow (.int .i64 0) (t17.toNat * 1)⟩ 3 (0, 0)) r wv →
 ∃ (Inv : Int → World → Prop) (mu : Int → World → Nat), Inv 0 wv ∧
 ∀ (junk : Fr) (wv_1 : World) (t21 : Int), Inv t21 wv_1 →
 ((decide ((t21 : Int) < ((a_n : Nat) : Int))) = true →
 (0 ≤ (t21 : Int) ∧ (t21 : Int) < (a_n : Nat)) ∧ ptrS a_p fun ad => ∃ (t25 : Int), Loads P 3 (ad.add (t21.toNat * 1)) (.int .i64 t25) wv_1 ∧ ∃ (Inv_1 : Int → Int → World → Prop) (mu_1 : Int → Int → World → Nat), Inv_1 0 0 wv_1 ∧
 ∀ (junk_1 : Fr) (wv_2 : World) (carry : Int) (t28 : Int), Inv_1 carry t28 wv_2 →
 ((decide ((t28 : Int) < ((b_n : Nat) : Int))) = true →
 (0 ≤ (t28 : Int) ∧ (t28 : Int) < (b_n : Nat)) ∧ ptrS b_p fun ad_1 => ∃ (t32 : Int), Loads P 3 (ad_1.add (t28.toNat * 1)) (.int .i64 t32) wv_2 ∧ ∃ t37 : Int, t37 = IntKind.wrap .i64 (t21 + t28) ∧ (0 ≤ (t37 : Int) ∧ (t37 : Int) < (t17.toNat : Nat)) ∧ ∃ (t39 : Int), Loads P 3 ((⟨r, 0, none⟩ : Addr).add (t37.toNat * 1)) (.int .i64 t39) wv_2 ∧ ∃ t42 : Int, t42 = IntKind.wrap .i64 (t25 * t32) ∧ ∃ t43 : Int, t43 = IntKind.wrap .i64 (t39 + t42) ∧ ∃ t44 : Int, t44 = IntKind.wrap .i64 (carry + t43) ∧ ∃ t48 : Int, t48 = IntKind.wrap .i64 (t21 + t28) ∧ (1000000000 : Int) ≠ 0 ∧ ∃ t50 : Int, t50 = Int.tmod t44 1000000000 ∧ (0 ≤ (t48 : Int) ∧ (t48 : Int) < (t17.toNat : Nat)) ∧ ∃ wv_3, Stores P 3 ((⟨r, 0, none⟩ : Addr).add (t48.toNat * 1)) (.int .i64 t50) wv_2 wv_3 ∧
 (1000000000 : Int) ≠ 0 ∧ ∃ t53 : Int, t53 = IntKind.wrap .i64 (Int.tdiv t44 1000000000) ∧ ∃ t54 : Int, t54 = IntKind.wrap .i64 (t28 + 1) ∧ Inv_1 t53 t54 wv_3 ∧ mu_1 t53 t54 wv_3 < mu_1 carry t28 wv_2) ∧
 ((decide ((t28 : Int) < ((b_n : Nat) : Int))) = false →
 ∃ t58 : Int, t58 = IntKind.wrap .i64 (t21 + ((b_n : Nat) : Int)) ∧ ∃ (Inv_2 : Int → Int → World → Prop) (mu_2 : Int → Int → World → Nat), Inv_2 carry t58 wv_2 ∧
 ∀ (junk_2 : Fr) (wv_4 : World) (carry_1 : Int) (k : Int), Inv_2 carry_1 k wv_4 →
 ((decide ((0 : Int) < carry_1)) = true →
 (0 ≤ (k : Int) ∧ (k : Int) < (t17.toNat : Nat)) ∧ ∃ (t67 : Int), Loads P 3 ((⟨r, 0, none⟩ : Addr).add (k.toNat * 1)) (.int .i64 t67) wv_4 ∧ ∃ t68 : Int, t68 = IntKind.wrap .i64 (carry_1 + t67) ∧ (1000000000 : Int) ≠ 0 ∧ ∃ t72 : Int, t72 = Int.tmod t68 1000000000 ∧ (0 ≤ (k : Int) ∧ (k : Int) < (t17.toNat : Nat)) ∧ ∃ wv_5, Stores P 3 ((⟨r, 0, none⟩ : Addr).add (k.toNat * 1)) (.int .i64 t72) wv_4 wv_5 ∧
 (1000000000 : Int) ≠ 0 ∧ ∃ t75 : Int, t75 = IntKind.wrap .i64 (Int.tdiv t68 1000000000) ∧ ∃ t62 : Int, t62 = IntKind.wrap .i64 (k + 1) ∧ Inv_2 t75 t62 wv_5 ∧ mu_2 t75 t62 wv_5 < mu_2 carry_1 k wv_4) ∧
 ((decide ((0 : Int) < carry_1)) = false →
 ∃ t76 : Int, t76 = IntKind.wrap .i64 (t21 + 1) ∧ Inv t76 wv_4 ∧ mu t76 wv_4 < mu t21 wv_1))) ∧
 ((decide ((t21 : Int) < ((a_n : Nat) : Int))) = false →
 Calls P 98 ⟨[(.slice (some ⟨r, 0, none⟩) t17.toNat t17.toNat)]⟩ wv_1 fun e wv_6 =>
 ∃ (t78_p : Option Addr) (t78_n : Nat) (t78_c : Nat), e = .returned (.slice t78_p t78_n t78_c) ∧
 R (.slice t78_p t78_n t78_c) wv_6)
theorem impl_natMul_ret {a_p : Option Addr} {a_n : Nat} {a_c : Nat} {b_p : Option Addr} {b_n : Nat} {b_c : Nat} {w : World} {R : Value → World → Prop} (h : impl_natMul a_p a_n a_c b_p b_n b_c w R) : Ret P 102 [(.slice a_p a_n a_c), (.slice b_p b_n b_c)] w R :=
  Ret.of_fsem Tryz.func102 rfl (Eq.mp (show _ = fsem P Tryz.f102 (fun k => cond (Nat.beq k 4) [(21, .one (.int .i64))] (cond (Nat.beq k 8) [(8, .one (.int .i64)), (28, .one (.int .i64))] (cond (Nat.beq k 15) [(8, .one (.int .i64)), (11, .one (.int .i64))] ([])))) _ R w from by kernel_rfl) h)
def impl_DecOk (d0 : Bool) (d1_p : Option Addr) (d1_n : Nat) (d1_c : Nat) (d2 : Int) (w : World) (R : Value → World → Prop) : Prop :=
 ∀ (r : Nat) (wv : World), New w (.cells ⟨[(.bool d0), (.slice d1_p d1_n d1_c), (.int .i64 d2)]⟩ 60 (0, 0)) r wv →
 ∃ (t40 : Bool) (t41_p : Option Addr) (t41_n : Nat) (t41_c : Nat), Loads P 30 ((⟨r, 0, none⟩ : Addr).add 0) (.agg #[(.bool t40), (.slice t41_p t41_n t41_c)]) wv ∧ Calls P 59 ⟨[(.agg #[(.bool t40), (.slice t41_p t41_n t41_c)])]⟩ wv fun e wv_1 =>
 ∃ (t5 : Bool), e = .returned (.bool t5) ∧
 (t5 = true →
 ∃ (t9_p : Option Addr) (t9_n : Nat) (t9_c : Nat), Loads P 23 (((⟨r, 0, none⟩ : Addr).add 0).add 1) (.slice t9_p t9_n t9_c) wv_1 ∧ ((decide ((((t9_n : Nat) : Int) : Int) ≤ 6)) = true →
 ∃ (t15 : Int), Loads P 3 ((⟨r, 0, none⟩ : Addr).add 2) (.int .i64 t15) wv_1 ∧ Calls P 131 ⟨[(.int .i64 t15)]⟩ wv_1 fun e_1 wv_2 =>
 ∃ (t16 : Bool), e_1 = .returned (.bool t16) ∧
 R (.bool t16) wv_2) ∧
 ((decide ((((t9_n : Nat) : Int) : Int) ≤ 6)) = false →
 R (.bool false) wv_1)) ∧
 (t5 = false →
 (false = true →
 ∃ (t15_1 : Int), Loads P 3 ((⟨r, 0, none⟩ : Addr).add 2) (.int .i64 t15_1) wv_1 ∧ Calls P 131 ⟨[(.int .i64 t15_1)]⟩ wv_1 fun e_2 wv_3 =>
 ∃ (t16_1 : Bool), e_2 = .returned (.bool t16_1) ∧
 R (.bool t16_1) wv_3) ∧
 (false = false →
 R (.bool false) wv_1))
theorem impl_DecOk_ret {d0 : Bool} {d1_p : Option Addr} {d1_n : Nat} {d1_c : Nat} {d2 : Int} {w : World} {R : Value → World → Prop} (h : impl_DecOk d0 d1_p d1_n d1_c d2 w R) : Ret P 103 [(.agg #[(.bool d0), (.slice d1_p d1_n d1_c), (.int .i64 d2)])] w R :=
  Ret.of_fsem Tryz.func103 rfl (Eq.mp (show _ = fsem P Tryz.f103 (fun k => []) _ R w from by kernel_rfl) h)
def impl_natTen (k : Int) (w : World) (R : Value → World → Prop) : Prop :=
 (9 : Int) ≠ 0 ∧ ∃ t6 : Int, t6 = IntKind.wrap .i64 (Int.tdiv k 9) ∧ (9 : Int) ≠ 0 ∧ ∃ t8 : Int, t8 = IntKind.wrap .i64 (Int.tdiv k 9) ∧ ∃ t9 : Int, t9 = IntKind.wrap .i64 (t8 + 1) ∧ (0 ≤ (t6 : Int) ∧ (t6 : Int) ≤ t9 ∧ ((8 : Nat) : Int) * t9 ≤ 281474976710656) ∧
 ∀ (r : Nat) (wv : World), New w (.cells ⟨zeroRow (.int .i64 0) (t9.toNat * 1)⟩ 3 (0, 0)) r wv →
 (9 : Int) ≠ 0 ∧ ∃ t12 : Int, t12 = Int.tmod k 9 ∧ ∃ (Inv : Int → Int → World → Prop) (mu : Int → Int → World → Nat), Inv 1 0 wv ∧
 ∀ (junk : Fr) (wv_1 : World) (top : Int) (t13 : Int), Inv top t13 wv_1 →
 ((decide ((t13 : Int) < t12)) = true →
 ∃ t16 : Int, t16 = IntKind.wrap .i64 (top * 10) ∧ ∃ t17 : Int, t17 = IntKind.wrap .i64 (t13 + 1) ∧ Inv t16 t17 wv_1 ∧ mu t16 t17 wv_1 < mu top t13 wv_1) ∧
 ((decide ((t13 : Int) < t12)) = false →
 ∀ (r_1 : Nat) (wv_2 : World), New wv_1 (.cells ⟨[(.int .i64 top)]⟩ 3 (0, 0)) r_1 wv_2 →
 ∃ (t21_p : Option Addr) (t21_n : Nat) (t21_c : Nat) (wv_3 : World), Appends P [23, 23] [(.slice (some ⟨r, 0, none⟩) t6.toNat t9.toNat), (.slice (some ⟨r_1, 0, none⟩) 1 1)] (.slice t21_p t21_n t21_c) wv_2 wv_3 ∧
 R (.slice t21_p t21_n t21_c) wv_3)
theorem impl_natTen_ret {k : Int} {w : World} {R : Value → World → Prop} (h : impl_natTen k w R) : Ret P 104 [(.int .i64 k)] w R :=
  Ret.of_fsem Tryz.func104 rfl (Eq.mp (show _ = fsem P Tryz.f104 (fun k => cond (Nat.beq k 5) [(4, .one (.int .i64)), (13, .one (.int .i64))] ([])) _ R w from by kernel_rfl) h)
def impl_Rat_num (r0 : Bool) (r1_p : Option Addr) (r1_n : Nat) (r1_c : Nat) (r2_p : Option Addr) (r2_n : Nat) (r2_c : Nat) (by_p : Option Addr) (by_n : Nat) (by_c : Nat) (w : World) (R : Value → World → Prop) : Prop :=
 ∀ (r : Nat) (wv : World), New w (.cells ⟨[(.bool r0), (.slice r1_p r1_n r1_c), (.slice r2_p r2_n r2_c)]⟩ 34 (0, 0)) r wv →
 ∀ (r_1 : Nat) (wv_1 : World), New wv (.cells ⟨[(.bool false), (.slice none 0 0)]⟩ 30 (0, 0)) r_1 wv_1 →
 ∃ (t7 : Bool), (∀ wv_2, Ext wv_1.drew wv_2 → Loads P 4 (((⟨r, 0, none⟩ : Addr).add 0).add 0) (.bool t7) wv_2) ∧ ∃ (t10_p : Option Addr) (t10_n : Nat) (t10_c : Nat), (∀ wv_3, Ext wv_1.drew wv_3 → Loads P 23 (((⟨r, 0, none⟩ : Addr).add 0).add 1) (.slice t10_p t10_n t10_c) wv_3) ∧ Calls P 102 ⟨[(.slice t10_p t10_n t10_c), (.slice by_p by_n by_c)]⟩ wv_1.drew fun e wv_4 =>
 ∃ (t12_p : Option Addr) (t12_n : Nat) (t12_c : Nat), e = .returned (.slice t12_p t12_n t12_c) ∧
 Ext wv_1.drew wv_4 ∧ Calls P 109 ⟨[(.bool t7), (.slice t12_p t12_n t12_c)]⟩ wv_4 fun e_1 wv_5 =>
 ∃ (t130 : Bool) (t131_p : Option Addr) (t131_n : Nat) (t131_c : Nat), e_1 = .returned (.agg #[(.bool t130), (.slice t131_p t131_n t131_c)]) ∧
 ∃ wv_6, Stores P 30 ⟨r_1, 0, none⟩ (.agg #[(.bool t130), (.slice t131_p t131_n t131_c)]) wv_5 wv_6 ∧
 ∃ (r0_1 : Bool) (r1_p_1 : Option Addr) (r1_n_1 : Nat) (r1_c_1 : Nat), Loads P 30 ⟨r_1, 0, none⟩ (.agg #[(.bool r0_1), (.slice r1_p_1 r1_n_1 r1_c_1)]) wv_6 ∧ R (.agg #[(.bool r0_1), (.slice r1_p_1 r1_n_1 r1_c_1)]) wv_6
theorem impl_Rat_num_ret {r0 : Bool} {r1_p : Option Addr} {r1_n : Nat} {r1_c : Nat} {r2_p : Option Addr} {r2_n : Nat} {r2_c : Nat} {by_p : Option Addr} {by_n : Nat} {by_c : Nat} {w : World} {R : Value → World → Prop} (h : impl_Rat_num r0 r1_p r1_n r1_c r2_p r2_n r2_c by_p by_n by_c w R) : Ret P 105 [(.agg #[(.bool r0), (.slice r1_p r1_n r1_c), (.slice r2_p r2_n r2_c)]), (.slice by_p by_n by_c)] w R :=
  Ret.of_fsem Tryz.func105 rfl (Eq.mp (show _ = fsem P Tryz.f105 (fun k => []) _ R w from by kernel_rfl) h)
def impl_RatRound (r0 : Bool) (r1_p : Option Addr) (r1_n : Nat) (r1_c : Nat) (r2_p : Option Addr) (r2_n : Nat) (r2_c : Nat) (m : Int) (w : World) (R : Value → World → Prop) : Prop :=
 ∀ (r : Nat) (wv : World), New w (.cells ⟨[(.bool r0), (.slice r1_p r1_n r1_c), (.slice r2_p r2_n r2_c)]⟩ 34 (0, 0)) r wv →
 ∀ (r_1 : Nat) (wv_1 : World), New wv (.cells ⟨[(.bool false), (.slice none 0 0)]⟩ 30 (0, 0)) r_1 wv_1 →
 ∃ (t60 : Bool) (t61_p : Option Addr) (t61_n : Nat) (t61_c : Nat) (t62_p : Option Addr) (t62_n : Nat) (t62_c : Nat), Loads P 34 ⟨r, 0, none⟩ (.agg #[(.bool t60), (.slice t61_p t61_n t61_c), (.slice t62_p t62_n t62_c)]) wv_1 ∧ Calls P 128 ⟨[(.agg #[(.bool t60), (.slice t61_p t61_n t61_c), (.slice t62_p t62_n t62_c)])]⟩ wv_1 fun e wv_2 =>
 ∃ (t7 : Bool), e = .returned (.bool t7) ∧
 ((!t7) = true →
 (true = true →
 ∃ wv_3, Stores P 30 ⟨r_1, 0, none⟩ (.agg #[(.bool false), (.slice none 0 0)]) wv_2 wv_3 ∧
 ∃ (r0_1 : Bool) (r1_p_1 : Option Addr) (r1_n_1 : Nat) (r1_c_1 : Nat), Loads P 30 ⟨r_1, 0, none⟩ (.agg #[(.bool r0_1), (.slice r1_p_1 r1_n_1 r1_c_1)]) wv_3 ∧ R (.tuple #[(.agg #[(.bool r0_1), (.slice r1_p_1 r1_n_1 r1_c_1)]), (.bool false)]) wv_3) ∧
 (true = false →
 ∃ (t160 : Bool) (t161_p : Option Addr) (t161_n : Nat) (t161_c : Nat), Loads P 30 ((⟨r, 0, none⟩ : Addr).add 0) (.agg #[(.bool t160), (.slice t161_p t161_n t161_c)]) wv_2 ∧ ∃ (t18_p : Option Addr) (t18_n : Nat) (t18_c : Nat), Loads P 23 ((⟨r, 0, none⟩ : Addr).add 2) (.slice t18_p t18_n t18_c) wv_2 ∧ Calls P 133 ⟨[(.agg #[(.bool t160), (.slice t161_p t161_n t161_c)]), (.slice t18_p t18_n t18_c), (.int .i64 m)]⟩ wv_2 fun e_1 wv_4 =>
 ∃ (t200 : Bool) (t201_p : Option Addr) (t201_n : Nat) (t201_c : Nat), e_1 = .returned (.agg #[(.bool t200), (.slice t201_p t201_n t201_c)]) ∧
 ∃ wv_5, Stores P 30 ⟨r_1, 0, none⟩ (.agg #[(.bool t200), (.slice t201_p t201_n t201_c)]) wv_4 wv_5 ∧
 ∃ (r0_2 : Bool) (r1_p_2 : Option Addr) (r1_n_2 : Nat) (r1_c_2 : Nat), Loads P 30 ⟨r_1, 0, none⟩ (.agg #[(.bool r0_2), (.slice r1_p_2 r1_n_2 r1_c_2)]) wv_5 ∧ R (.tuple #[(.agg #[(.bool r0_2), (.slice r1_p_2 r1_n_2 r1_c_2)]), (.bool true)]) wv_5)) ∧
 ((!t7) = false →
 Calls P 132 ⟨[(.int .i64 m)]⟩ wv_2 fun e_2 wv_6 =>
 ∃ (t11 : Bool), e_2 = .returned (.bool t11) ∧
 ((!t11) = true →
 ∃ wv_7, Stores P 30 ⟨r_1, 0, none⟩ (.agg #[(.bool false), (.slice none 0 0)]) wv_6 wv_7 ∧
 ∃ (r0_3 : Bool) (r1_p_3 : Option Addr) (r1_n_3 : Nat) (r1_c_3 : Nat), Loads P 30 ⟨r_1, 0, none⟩ (.agg #[(.bool r0_3), (.slice r1_p_3 r1_n_3 r1_c_3)]) wv_7 ∧ R (.tuple #[(.agg #[(.bool r0_3), (.slice r1_p_3 r1_n_3 r1_c_3)]), (.bool false)]) wv_7) ∧
 ((!t11) = false →
 ∃ (t160_1 : Bool) (t161_p_1 : Option Addr) (t161_n_1 : Nat) (t161_c_1 : Nat), Loads P 30 ((⟨r, 0, none⟩ : Addr).add 0) (.agg #[(.bool t160_1), (.slice t161_p_1 t161_n_1 t161_c_1)]) wv_6 ∧ ∃ (t18_p_1 : Option Addr) (t18_n_1 : Nat) (t18_c_1 : Nat), Loads P 23 ((⟨r, 0, none⟩ : Addr).add 2) (.slice t18_p_1 t18_n_1 t18_c_1) wv_6 ∧ Calls P 133 ⟨[(.agg #[(.bool t160_1), (.slice t161_p_1 t161_n_1 t161_c_1)]), (.slice t18_p_1 t18_n_1 t18_c_1), (.int .i64 m)]⟩ wv_6 fun e_3 wv_8 =>
 ∃ (t200_1 : Bool) (t201_p_1 : Option Addr) (t201_n_1 : Nat) (t201_c_1 : Nat), e_3 = .returned (.agg #[(.bool t200_1), (.slice t201_p_1 t201_n_1 t201_c_1)]) ∧
 ∃ wv_9, Stores P 30 ⟨r_1, 0, none⟩ (.agg #[(.bool t200_1), (.slice t201_p_1 t201_n_1 t201_c_1)]) wv_8 wv_9 ∧
 ∃ (r0_4 : Bool) (r1_p_4 : Option Addr) (r1_n_4 : Nat) (r1_c_4 : Nat), Loads P 30 ⟨r_1, 0, none⟩ (.agg #[(.bool r0_4), (.slice r1_p_4 r1_n_4 r1_c_4)]) wv_9 ∧ R (.tuple #[(.agg #[(.bool r0_4), (.slice r1_p_4 r1_n_4 r1_c_4)]), (.bool true)]) wv_9))
theorem impl_RatRound_ret {r0 : Bool} {r1_p : Option Addr} {r1_n : Nat} {r1_c : Nat} {r2_p : Option Addr} {r2_n : Nat} {r2_c : Nat} {m : Int} {w : World} {R : Value → World → Prop} (h : impl_RatRound r0 r1_p r1_n r1_c r2_p r2_n r2_c m w R) : Ret P 106 [(.agg #[(.bool r0), (.slice r1_p r1_n r1_c), (.slice r2_p r2_n r2_c)]), (.int .i64 m)] w R :=
  Ret.of_fsem Tryz.func106 rfl (Eq.mp (show _ = fsem P Tryz.f106 (fun k => []) _ R w from by kernel_rfl) h)
def impl_RatInt (x0 : Bool) (x1_p : Option Addr) (x1_n : Nat) (x1_c : Nat) (w : World) (R : Value → World → Prop) : Prop :=
 ∀ (r : Nat) (wv : World), New w (.cells ⟨[(.bool x0), (.slice x1_p x1_n x1_c)]⟩ 30 (0, 0)) r wv →
 ∀ (r_1 : Nat) (wv_1 : World), New wv (.cells ⟨[(.bool false), (.slice none 0 0), (.slice none 0 0)]⟩ 34 (0, 0)) r_1 wv_1 →
 ∃ (t40 : Bool) (t41_p : Option Addr) (t41_n : Nat) (t41_c : Nat), (∀ wv_2, Ext wv_1.drew wv_2 → Loads P 30 ⟨r, 0, none⟩ (.agg #[(.bool t40), (.slice t41_p t41_n t41_c)]) wv_2) ∧ Calls P 127 ⟨[(.int .i64 1)]⟩ wv_1.drew fun e wv_3 =>
 ∃ (t50 : Bool) (t51_p : Option Addr) (t51_n : Nat) (t51_c : Nat), e = .returned (.agg #[(.bool t50), (.slice t51_p t51_n t51_c)]) ∧
 Ext wv_1.drew wv_3 ∧ Calls P 134 ⟨[(.agg #[(.bool t40), (.slice t41_p t41_n t41_c)]), (.agg #[(.bool t50), (.slice t51_p t51_n t51_c)])]⟩ wv_3 fun e_1 wv_4 =>
 ∃ (t60 : Bool) (t61_p : Option Addr) (t61_n : Nat) (t61_c : Nat) (t62_p : Option Addr) (t62_n : Nat) (t62_c : Nat) (t6 : Bool), e_1 = .returned (.tuple #[(.agg #[(.bool t60), (.slice t61_p t61_n t61_c), (.slice t62_p t62_n t62_c)]), (.bool t6)]) ∧
 ∃ wv_5, Stores P 34 ⟨r_1, 0, none⟩ (.agg #[(.bool t60), (.slice t61_p t61_n t61_c), (.slice t62_p t62_n t62_c)]) wv_4 wv_5 ∧
 ∃ (r0 : Bool) (r1_p : Option Addr) (r1_n : Nat) (r1_c : Nat) (r2_p : Option Addr) (r2_n : Nat) (r2_c : Nat), Loads P 34 ⟨r_1, 0, none⟩ (.agg #[(.bool r0), (.slice r1_p r1_n r1_c), (.slice r2_p r2_n r2_c)]) wv_5 ∧ R (.tuple #[(.agg #[(.bool r0), (.slice r1_p r1_n r1_c), (.slice r2_p r2_n r2_c)]), (.bool t6)]) wv_5
theorem impl_RatInt_ret {x0 : Bool} {x1_p : Option Addr} {x1_n : Nat} {x1_c : Nat} {w : World} {R : Value → World → Prop} (h : impl_RatInt x0 x1_p x1_n x1_c w R) : Ret P 107 [(.agg #[(.bool x0), (.slice x1_p x1_n x1_c)])] w R :=
  Ret.of_fsem Tryz.func107 rfl (Eq.mp (show _ = fsem P Tryz.f107 (fun k => []) _ R w from by kernel_rfl) h)
def impl_RatSub (r0 : Bool) (r1_p : Option Addr) (r1_n : Nat) (r1_c : Nat) (r2_p : Option Addr) (r2_n : Nat) (r2_c : Nat) (s0 : Bool) (s1_p : Option Addr) (s1_n : Nat) (s1_c : Nat) (s2_p : Option Addr) (s2_n : Nat) (s2_c : Nat) (w : World) (R : Value → World → Prop) : Prop :=
 ∀ (r : Nat) (wv : World), New w (.cells ⟨[(.bool r0), (.slice r1_p r1_n r1_c), (.slice r2_p r2_n r2_c)]⟩ 34 (0, 0)) r wv →
 ∀ (r_1 : Nat) (wv_1 : World), New wv (.cells ⟨[(.bool s0), (.slice s1_p s1_n s1_c), (.slice s2_p s2_n s2_c)]⟩ 34 (0, 0)) r_1 wv_1 →
 ∀ (r_2 : Nat) (wv_2 : World), New wv_1 (.cells ⟨[(.bool false), (.slice none 0 0), (.slice none 0 0)]⟩ 34 (0, 0)) r_2 wv_2 →
 ∃ (t60 : Bool) (t61_p : Option Addr) (t61_n : Nat) (t61_c : Nat) (t62_p : Option Addr) (t62_n : Nat) (t62_c : Nat), Loads P 34 ⟨r, 0, none⟩ (.agg #[(.bool t60), (.slice t61_p t61_n t61_c), (.slice t62_p t62_n t62_c)]) wv_2 ∧ ∃ (t70 : Bool) (t71_p : Option Addr) (t71_n : Nat) (t71_c : Nat) (t72_p : Option Addr) (t72_n : Nat) (t72_c : Nat), Loads P 34 ⟨r_1, 0, none⟩ (.agg #[(.bool t70), (.slice t71_p t71_n t71_c), (.slice t72_p t72_n t72_c)]) wv_2 ∧ Calls P 99 ⟨[(.agg #[(.bool t60), (.slice t61_p t61_n t61_c), (.slice t62_p t62_n t62_c)]), (.agg #[(.bool t70), (.slice t71_p t71_n t71_c), (.slice t72_p t72_n t72_c)])]⟩ wv_2 fun e wv_3 =>
 ∃ (t8 : Bool), e = .returned (.bool t8) ∧
 ((!t8) = true →
 ∃ wv_4, Stores P 34 ⟨r_2, 0, none⟩ (.agg #[(.bool false), (.slice none 0 0), (.slice none 0 0)]) wv_3 wv_4 ∧
 ∃ (r0_1 : Bool) (r1_p_1 : Option Addr) (r1_n_1 : Nat) (r1_c_1 : Nat) (r2_p_1 : Option Addr) (r2_n_1 : Nat) (r2_c_1 : Nat), Loads P 34 ⟨r_2, 0, none⟩ (.agg #[(.bool r0_1), (.slice r1_p_1 r1_n_1 r1_c_1), (.slice r2_p_1 r2_n_1 r2_c_1)]) wv_4 ∧ R (.tuple #[(.agg #[(.bool r0_1), (.slice r1_p_1 r1_n_1 r1_c_1), (.slice r2_p_1 r2_n_1 r2_c_1)]), (.bool false)]) wv_4) ∧
 ((!t8) = false →
 ∃ (t110 : Bool) (t111_p : Option Addr) (t111_n : Nat) (t111_c : Nat) (t112_p : Option Addr) (t112_n : Nat) (t112_c : Nat), (∀ wv_5, Ext wv_3.drew wv_5 → Loads P 34 ⟨r, 0, none⟩ (.agg #[(.bool t110), (.slice t111_p t111_n t111_c), (.slice t112_p t112_n t112_c)]) wv_5) ∧ ∃ (t120 : Bool) (t121_p : Option Addr) (t121_n : Nat) (t121_c : Nat) (t122_p : Option Addr) (t122_n : Nat) (t122_c : Nat), (∀ wv_6, Ext wv_3.drew wv_6 → Loads P 34 ⟨r_1, 0, none⟩ (.agg #[(.bool t120), (.slice t121_p t121_n t121_c), (.slice t122_p t122_n t122_c)]) wv_6) ∧ Calls P 135 ⟨[(.agg #[(.bool t120), (.slice t121_p t121_n t121_c), (.slice t122_p t122_n t122_c)])]⟩ wv_3.drew fun e_1 wv_7 =>
 ∃ (t130 : Bool) (t131_p : Option Addr) (t131_n : Nat) (t131_c : Nat) (t132_p : Option Addr) (t132_n : Nat) (t132_c : Nat), e_1 = .returned (.agg #[(.bool t130), (.slice t131_p t131_n t131_c), (.slice t132_p t132_n t132_c)]) ∧
 Ext wv_3.drew wv_7 ∧ Calls P 68 ⟨[(.agg #[(.bool t110), (.slice t111_p t111_n t111_c), (.slice t112_p t112_n t112_c)]), (.agg #[(.bool t130), (.slice t131_p t131_n t131_c), (.slice t132_p t132_n t132_c)])]⟩ wv_7 fun e_2 wv_8 =>
 ∃ (t140 : Bool) (t141_p : Option Addr) (t141_n : Nat) (t141_c : Nat) (t142_p : Option Addr) (t142_n : Nat) (t142_c : Nat) (t14 : Bool), e_2 = .returned (.tuple #[(.agg #[(.bool t140), (.slice t141_p t141_n t141_c), (.slice t142_p t142_n t142_c)]), (.bool t14)]) ∧
 ∃ wv_9, Stores P 34 ⟨r_2, 0, none⟩ (.agg #[(.bool t140), (.slice t141_p t141_n t141_c), (.slice t142_p t142_n t142_c)]) wv_8 wv_9 ∧
 ∃ (r0_2 : Bool) (r1_p_2 : Option Addr) (r1_n_2 : Nat) (r1_c_2 : Nat) (r2_p_2 : Option Addr) (r2_n_2 : Nat) (r2_c_2 : Nat), Loads P 34 ⟨r_2, 0, none⟩ (.agg #[(.bool r0_2), (.slice r1_p_2 r1_n_2 r1_c_2), (.slice r2_p_2 r2_n_2 r2_c_2)]) wv_9 ∧ R (.tuple #[(.agg #[(.bool r0_2), (.slice r1_p_2 r1_n_2 r1_c_2), (.slice r2_p_2 r2_n_2 r2_c_2)]), (.bool t14)]) wv_9)
theorem impl_RatSub_ret {r0 : Bool} {r1_p : Option Addr} {r1_n : Nat} {r1_c : Nat} {r2_p : Option Addr} {r2_n : Nat} {r2_c : Nat} {s0 : Bool} {s1_p : Option Addr} {s1_n : Nat} {s1_c : Nat} {s2_p : Option Addr} {s2_n : Nat} {s2_c : Nat} {w : World} {R : Value → World → Prop} (h : impl_RatSub r0 r1_p r1_n r1_c r2_p r2_n r2_c s0 s1_p s1_n s1_c s2_p s2_n s2_c w R) : Ret P 108 [(.agg #[(.bool r0), (.slice r1_p r1_n r1_c), (.slice r2_p r2_n r2_c)]), (.agg #[(.bool s0), (.slice s1_p s1_n s1_c), (.slice s2_p s2_n s2_c)])] w R :=
  Ret.of_fsem Tryz.func108 rfl (Eq.mp (show _ = fsem P Tryz.f108 (fun k => []) _ R w from by kernel_rfl) h)
def impl_signed (neg : Bool) (mag_p : Option Addr) (mag_n : Nat) (mag_c : Nat) (w : World) (R : Value → World → Prop) : Prop :=
 ∀ (r : Nat) (wv : World), New w (.cells ⟨[(.bool false), (.slice none 0 0)]⟩ 30 (0, 0)) r wv →
 (neg = true →
 ∃ wv_1, Stores P 30 ⟨r, 0, none⟩ (.agg #[(.bool (decide ((0 : Int) < ((mag_n : Nat) : Int)))), (.slice mag_p mag_n mag_c)]) wv wv_1 ∧
 ∃ (r0 : Bool) (r1_p : Option Addr) (r1_n : Nat) (r1_c : Nat), Loads P 30 ⟨r, 0, none⟩ (.agg #[(.bool r0), (.slice r1_p r1_n r1_c)]) wv_1 ∧ R (.agg #[(.bool r0), (.slice r1_p r1_n r1_c)]) wv_1) ∧
 (neg = false →
 ∃ wv_2, Stores P 30 ⟨r, 0, none⟩ (.agg #[(.bool false), (.slice mag_p mag_n mag_c)]) wv wv_2 ∧
 ∃ (r0_1 : Bool) (r1_p_1 : Option Addr) (r1_n_1 : Nat) (r1_c_1 : Nat), Loads P 30 ⟨r, 0, none⟩ (.agg #[(.bool r0_1), (.slice r1_p_1 r1_n_1 r1_c_1)]) wv_2 ∧ R (.agg #[(.bool r0_1), (.slice r1_p_1 r1_n_1 r1_c_1)]) wv_2)
theorem impl_signed_ret {neg : Bool} {mag_p : Option Addr} {mag_n : Nat} {mag_c : Nat} {w : World} {R : Value → World → Prop} (h : impl_signed neg mag_p mag_n mag_c w R) : Ret P 109 [(.bool neg), (.slice mag_p mag_n mag_c)] w R :=
  Ret.of_fsem Tryz.func109 rfl (Eq.mp (show _ = fsem P Tryz.f109 (fun k => []) _ R w from by kernel_rfl) h)
def impl_natAdd_j1 (wv_1 : World) (Inv : Option Addr → Nat → Nat → Int → Int → World → Prop) (mu : Option Addr → Nat → Nat → Int → Int → World → Nat) (out_p : Option Addr) (out_n : Nat) (out_c : Nat) (carry : Int) (i : Int) (carry_2 : Int) (W_1 : World) (R : Value → World → Prop) : Prop :=
 (1000000000 : Int) ≠ 0 ∧ ∃ t46 : Int, t46 = Int.tmod carry_2 1000000000 ∧ ∀ (r_1 : Nat) (wv_2 : World), New W_1 (.cells ⟨[(.int .i64 t46)]⟩ 3 (0, 0)) r_1 wv_2 →
 ∃ (t48_p : Option Addr) (t48_n : Nat) (t48_c : Nat) (wv_3 : World), Appends P [23, 23] [(.slice out_p out_n out_c), (.slice (some ⟨r_1, 0, none⟩) 1 1)] (.slice t48_p t48_n t48_c) wv_2 wv_3 ∧
 (1000000000 : Int) ≠ 0 ∧ ∃ t50 : Int, t50 = IntKind.wrap .i64 (Int.tdiv carry_2 1000000000) ∧ ∃ t23 : Int, t23 = IntKind.wrap .i64 (i + 1) ∧ Inv t48_p t48_n t48_c t50 t23 wv_3 ∧ mu t48_p t48_n t48_c t50 t23 wv_3 < mu out_p out_n out_c carry i wv_1
def impl_natAdd_j0 (b_p : Option Addr) (b_n : Nat) (wv_1 : World) (Inv : Option Addr → Nat → Nat → Int → Int → World → Prop) (mu : Option Addr → Nat → Nat → Int → Int → World → Nat) (out_p : Option Addr) (out_n : Nat) (out_c : Nat) (carry : Int) (i : Int) (carry_1 : Int) (W : World) (R : Value → World → Prop) : Prop :=
 ((decide ((i : Int) < ((b_n : Nat) : Int))) = true →
 (0 ≤ (i : Int) ∧ (i : Int) < (b_n : Nat)) ∧ ptrS b_p fun ad_1 => ∃ (t42 : Int), Loads P 3 (ad_1.add (i.toNat * 1)) (.int .i64 t42) W ∧ ∃ t43 : Int, t43 = IntKind.wrap .i64 (carry_1 + t42) ∧ impl_natAdd_j1 wv_1 Inv mu out_p out_n out_c carry i t43 W R) ∧
 ((decide ((i : Int) < ((b_n : Nat) : Int))) = false →
 impl_natAdd_j1 wv_1 Inv mu out_p out_n out_c carry i carry_1 W R)
def impl_natAdd (a_p : Option Addr) (a_n : Nat) (a_c : Nat) (b_p : Option Addr) (b_n : Nat) (b_c : Nat) (w : World) (R : Value → World → Prop) : Prop :=
 ∃ t12 : Int, t12 = (if ((b_n : Nat) : Int) > ((a_n : Nat) : Int) then ((b_n : Nat) : Int) else ((a_n : Nat) : Int)) ∧ ∃ t13 : Int, t13 = IntKind.wrap .i64 (t12 + 1) ∧ (0 ≤ (0 : Int) ∧ (0 : Int) ≤ t13 ∧ ((8 : Nat) : Int) * t13 ≤ 281474976710656) ∧
 ∀ (r : Nat) (wv : World), New w (.cells ⟨zeroRow (.int .i64 0) (t13.toNat * 1)⟩ 3 (0, 0)) r wv →
 ∃ (Inv : Option Addr → Nat → Nat → Int → Int → World → Prop) (mu : Option Addr → Nat → Nat → Int → Int → World → Nat), Inv (some ⟨r, 0, none⟩) 0 t13.toNat 0 0 wv ∧
 ∀ (junk : Fr) (wv_1 : World) (out_p : Option Addr) (out_n : Nat) (out_c : Nat) (carry : Int) (i : Int), Inv out_p out_n out_c carry i wv_1 →
 ∃ t20 : Int, t20 = (if ((b_n : Nat) : Int) > ((a_n : Nat) : Int) then ((b_n : Nat) : Int) else ((a_n : Nat) : Int)) ∧ ((decide ((i : Int) < t20)) = true →
 ((decide ((i : Int) < ((a_n : Nat) : Int))) = true →
 (0 ≤ (i : Int) ∧ (i : Int) < (a_n : Nat)) ∧ ptrS a_p fun ad => ∃ (t32 : Int), Loads P 3 (ad.add (i.toNat * 1)) (.int .i64 t32) wv_1 ∧ ∃ t33 : Int, t33 = IntKind.wrap .i64 (carry + t32) ∧ impl_natAdd_j0 b_p b_n wv_1 Inv mu out_p out_n out_c carry i t33 wv_1 R) ∧
 ((decide ((i : Int) < ((a_n : Nat) : Int))) = false →
 impl_natAdd_j0 b_p b_n wv_1 Inv mu out_p out_n out_c carry i carry wv_1 R)) ∧
 ((decide ((i : Int) < t20)) = false →
 ∀ (r_2 : Nat) (wv_4 : World), New wv_1 (.cells ⟨[(.int .i64 carry)]⟩ 3 (0, 0)) r_2 wv_4 →
 ∃ (t54_p : Option Addr) (t54_n : Nat) (t54_c : Nat) (wv_5 : World), Appends P [23, 23] [(.slice out_p out_n out_c), (.slice (some ⟨r_2, 0, none⟩) 1 1)] (.slice t54_p t54_n t54_c) wv_4 wv_5 ∧
 Calls P 98 ⟨[(.slice t54_p t54_n t54_c)]⟩ wv_5 fun e wv_6 =>
 ∃ (t55_p : Option Addr) (t55_n : Nat) (t55_c : Nat), e = .returned (.slice t55_p t55_n t55_c) ∧
 R (.slice t55_p t55_n t55_c) wv_6)
theorem impl_natAdd_ret {a_p : Option Addr} {a_n : Nat} {a_c : Nat} {b_p : Option Addr} {b_n : Nat} {b_c : Nat} {w : World} {R : Value → World → Prop} (h : impl_natAdd a_p a_n a_c b_p b_n b_c w R) : Ret P 110 [(.slice a_p a_n a_c), (.slice b_p b_n b_c)] w R :=
  Ret.of_fsem Tryz.func110 rfl (Eq.mp (show _ = fsem P Tryz.f110 (fun k => cond (Nat.beq k 5) [(5, .one .slice), (6, .one (.int .i64)), (7, .one (.int .i64))] ([])) _ R w from by kernel_rfl) h)
def impl_natCopy (a_p : Option Addr) (a_n : Nat) (a_c : Nat) (w : World) (R : Value → World → Prop) : Prop :=
 ∀ (r : Nat) (wv : World), New w (.cells ⟨[]⟩ 3 (0, 0)) r wv →
 ∃ (t5_p : Option Addr) (t5_n : Nat) (t5_c : Nat) (wv_1 : World), Appends P [23, 23] [(.slice (some ⟨r, 0, none⟩) 0 0), (.slice a_p a_n a_c)] (.slice t5_p t5_n t5_c) wv wv_1 ∧
 R (.slice t5_p t5_n t5_c) wv_1
theorem impl_natCopy_ret {a_p : Option Addr} {a_n : Nat} {a_c : Nat} {w : World} {R : Value → World → Prop} (h : impl_natCopy a_p a_n a_c w R) : Ret P 111 [(.slice a_p a_n a_c)] w R :=
  Ret.of_fsem Tryz.func111 rfl (Eq.mp (show _ = fsem P Tryz.f111 (fun k => []) _ R w from by kernel_rfl) h)
def spec_DecCmp_j0 (r : Nat) (r_1 : Nat) (W : World) (R : Value → World → Prop) : Prop :=
 ∃ (t170 : Bool) (t171_p : Option Addr) (t171_n : Nat) (t171_c : Nat) (t172 : Int), Loads P 60 ⟨r, 0, none⟩ (.agg #[(.bool t170), (.slice t171_p t171_n t171_c), (.int .i64 t172)]) W ∧ ∃ (t180 : Bool) (t181_p : Option Addr) (t181_n : Nat) (t181_c : Nat) (t182 : Int), Loads P 60 ⟨r_1, 0, none⟩ (.agg #[(.bool t180), (.slice t181_p t181_n t181_c), (.int .i64 t182)]) W ∧ Calls P 136 ⟨[(.agg #[(.bool t170), (.slice t171_p t171_n t171_c), (.int .i64 t172)]), (.agg #[(.bool t180), (.slice t181_p t181_n t181_c), (.int .i64 t182)])]⟩ W fun e_1 wv_3 =>
 ∃ (t190 : Bool) (t191_p : Option Addr) (t191_n : Nat) (t191_c : Nat) (t190_1 : Bool) (t191_p_1 : Option Addr) (t191_n_1 : Nat) (t191_c_1 : Nat) (t19 : Int), e_1 = .returned (.tuple #[(.agg #[(.bool t190), (.slice t191_p t191_n t191_c)]), (.agg #[(.bool t190_1), (.slice t191_p_1 t191_n_1 t191_c_1)]), (.int .i64 t19)]) ∧
 ∀ (r_2 : Nat) (wv_4 : World), New wv_3 (.cells ⟨[(.bool false), (.slice none 0 0)]⟩ 30 (0, 0)) r_2 wv_4 →
 ∀ (r_3 : Nat) (wv_5 : World), New wv_4 (.cells ⟨[(.bool false), (.slice none 0 0)]⟩ 30 (0, 0)) r_3 wv_5 →
 ∃ wv_6, Stores P 30 ⟨r_2, 0, none⟩ (.agg #[(.bool t190), (.slice t191_p t191_n t191_c)]) wv_5 wv_6 ∧
 ∃ wv_7, Stores P 30 ⟨r_3, 0, none⟩ (.agg #[(.bool t190_1), (.slice t191_p_1 t191_n_1 t191_c_1)]) wv_6 wv_7 ∧
 ∃ (t230 : Bool) (t231_p : Option Addr) (t231_n : Nat) (t231_c : Nat), Loads P 30 ⟨r_2, 0, none⟩ (.agg #[(.bool t230), (.slice t231_p t231_n t231_c)]) wv_7 ∧ ∃ (t240 : Bool) (t241_p : Option Addr) (t241_n : Nat) (t241_c : Nat), Loads P 30 ⟨r_3, 0, none⟩ (.agg #[(.bool t240), (.slice t241_p t241_n t241_c)]) wv_7 ∧ Calls P 80 ⟨[(.agg #[(.bool t230), (.slice t231_p t231_n t231_c)]), (.agg #[(.bool t240), (.slice t241_p t241_n t241_c)])]⟩ wv_7 fun e_2 wv_8 =>
 ∃ (t25 : Int), e_2 = .returned (.int .i64 t25) ∧
 R (.int .i64 t25) wv_8
def spec_DecCmp (d0 : Bool) (d1_p : Option Addr) (d1_n : Nat) (d1_c : Nat) (d2 : Int) (e0 : Bool) (e1_p : Option Addr) (e1_n : Nat) (e1_c : Nat) (e2 : Int) (w : World) (R : Value → World → Prop) : Prop :=
 ∀ (r : Nat) (wv : World), New w (.cells ⟨[(.bool d0), (.slice d1_p d1_n d1_c), (.int .i64 d2)]⟩ 60 (0, 0)) r wv →
 ∀ (r_1 : Nat) (wv_1 : World), New wv (.cells ⟨[(.bool e0), (.slice e1_p e1_n e1_c), (.int .i64 e2)]⟩ 60 (0, 0)) r_1 wv_1 →
 ∃ (t80 : Bool) (t81_p : Option Addr) (t81_n : Nat) (t81_c : Nat) (t82 : Int), Loads P 60 ⟨r, 0, none⟩ (.agg #[(.bool t80), (.slice t81_p t81_n t81_c), (.int .i64 t82)]) wv_1 ∧ Calls P 88 ⟨[(.agg #[(.bool t80), (.slice t81_p t81_n t81_c), (.int .i64 t82)])]⟩ wv_1 fun e wv_2 =>
 ∃ (t9 : Bool), e = .returned (.bool t9) ∧
 ((!t9) = true →
 (true = true →
 R (.int .i64 0) wv_2) ∧
 (true = false →
 spec_DecCmp_j0 r r_1 wv_2 R)) ∧
 ((!t9) = false →
 ∃ (t120 : Bool) (t121_p : Option Addr) (t121_n : Nat) (t121_c : Nat) (t122 : Int), Loads P 60 ⟨r_1, 0, none⟩ (.agg #[(.bool t120), (.slice t121_p t121_n t121_c), (.int .i64 t122)]) wv_2 ∧ Calls P 88 ⟨[(.agg #[(.bool t120), (.slice t121_p t121_n t121_c), (.int .i64 t122)])]⟩ wv_2 fun e_3 wv_9 =>
 ∃ (t13 : Bool), e_3 = .returned (.bool t13) ∧
 ((!t13) = true →
 R (.int .i64 0) wv_9) ∧
 ((!t13) = false →
 spec_DecCmp_j0 r r_1 wv_9 R))
theorem spec_DecCmp_ret {d0 : Bool} {d1_p : Option Addr} {d1_n : Nat} {d1_c : Nat} {d2 : Int} {e0 : Bool} {e1_p : Option Addr} {e1_n : Nat} {e1_c : Nat} {e2 : Int} {w : World} {R : Value → World → Prop} (h : spec_DecCmp d0 d1_p d1_n d1_c d2 e0 e1_p e1_n e1_c e2 w R) : Ret P 112 [(.agg #[(.bool d0), (.slice d1_p d1_n d1_c), (.int .i64 d2)]), (.agg #[(.bool e0), (.slice e1_p e1_n e1_c), (.int .i64 e2)])] w R :=
  Ret.of_fsem Tryz.func112 rfl (Eq.mp (show _ = fsem P Tryz.f112 (fun k => []) _ R w from by kernel_rfl) h)
def spec_l02Cap (a_p : Option Addr) (a_n : Nat) (a_c : Nat) (w : World) (R : Value → World → Prop) : Prop :=
 Calls P 118 ⟨[(.slice a_p a_n a_c)]⟩ w fun e wv =>
 ∃ (t5_p : Option Addr) (t5_n : Nat) (t5_c : Nat), e = .returned (.slice t5_p t5_n t5_c) ∧
 ((decide ((50 : Int) < ((t5_n : Nat) : Int))) = true →
 R (.slice none 0 0) wv) ∧
 ((decide ((50 : Int) < ((t5_n : Nat) : Int))) = false →
 R (.slice t5_p t5_n t5_c) wv)
theorem spec_l02Cap_ret {a_p : Option Addr} {a_n : Nat} {a_c : Nat} {w : World} {R : Value → World → Prop} (h : spec_l02Cap a_p a_n a_c w R) : Ret P 113 [(.slice a_p a_n a_c)] w R :=
  Ret.of_fsem Tryz.func113 rfl (Eq.mp (show _ = fsem P Tryz.f113 (fun k => []) _ R w from by kernel_rfl) h)
def spec_l02Cmp (a_p : Option Addr) (a_n : Nat) (a_c : Nat) (b_p : Option Addr) (b_n : Nat) (b_c : Nat) (w : World) (R : Value → World → Prop) : Prop :=
 ((decide ((((a_n : Nat) : Int) : Int) ≠ ((b_n : Nat) : Int))) = true →
 ((decide ((((a_n : Nat) : Int) : Int) < ((b_n : Nat) : Int))) = true →
 R (.int .i64 (-1)) w) ∧
 ((decide ((((a_n : Nat) : Int) : Int) < ((b_n : Nat) : Int))) = false →
 R (.int .i64 1) w)) ∧
 ((decide ((((a_n : Nat) : Int) : Int) ≠ ((b_n : Nat) : Int))) = false →
 ∃ t18 : Int, t18 = IntKind.wrap .i64 (((a_n : Nat) : Int) - 1) ∧ ∃ (Inv : Int → World → Prop) (mu : Int → World → Nat), Inv t18 w ∧
 ∀ (junk : Fr) (wv : World) (i : Int), Inv i wv →
 ((decide ((0 : Int) ≤ i)) = true →
 (0 ≤ (i : Int) ∧ (i : Int) < (a_n : Nat)) ∧ ptrS a_p fun ad => ∃ (t26 : Int), (∀ wv_1, Ext wv.drew wv_1 → Loads P 3 (ad.add (i.toNat * 1)) (.int .i64 t26) wv_1) ∧ (0 ≤ (i : Int) ∧ (i : Int) < (b_n : Nat)) ∧ ptrS b_p fun ad_1 => ∃ (t30 : Int), (∀ wv_2, Ext wv.drew wv_2 → Loads P 3 (ad_1.add (i.toNat * 1)) (.int .i64 t30) wv_2) ∧ ((decide ((t26 : Int) < t30)) = true →
 R (.int .i64 (-1)) wv.drew) ∧
 ((decide ((t26 : Int) < t30)) = false →
 (0 ≤ (i : Int) ∧ (i : Int) < (a_n : Nat)) ∧ ptrS a_p fun ad_2 => ∃ (t35 : Int), (∀ wv_3, Ext wv.drew.drew wv_3 → Loads P 3 (ad_2.add (i.toNat * 1)) (.int .i64 t35) wv_3) ∧ (0 ≤ (i : Int) ∧ (i : Int) < (b_n : Nat)) ∧ ptrS b_p fun ad_3 => ∃ (t39 : Int), (∀ wv_4, Ext wv.drew.drew wv_4 → Loads P 3 (ad_3.add (i.toNat * 1)) (.int .i64 t39) wv_4) ∧ ((decide ((t39 : Int) < t35)) = true →
 R (.int .i64 1) wv.drew.drew) ∧
 ((decide ((t39 : Int) < t35)) = false →
 ∃ t22 : Int, t22 = IntKind.wrap .i64 (i - 1) ∧ Inv t22 wv.drew.drew ∧ mu t22 wv.drew.drew < mu i wv))) ∧
 ((decide ((0 : Int) ≤ i)) = false →
 R (.int .i64 0) wv))
theorem spec_l02Cmp_ret {a_p : Option Addr} {a_n : Nat} {a_c : Nat} {b_p : Option Addr} {b_n : Nat} {b_c : Nat} {w : World} {R : Value → World → Prop} (h : spec_l02Cmp a_p a_n a_c b_p b_n b_c w R) : Ret P 114 [(.slice a_p a_n a_c), (.slice b_p b_n b_c)] w R :=
  Ret.of_fsem Tryz.func114 rfl (Eq.mp (show _ = fsem P Tryz.f114 (fun k => cond (Nat.beq k 7) [(5, .one (.int .i64))] ([])) _ R w from by kernel_rfl) h)
def spec_l02Add_j2 (wv_1 : World) (Inv : Option Addr → Nat → Nat → Int → Int → World → Prop) (mu : Option Addr → Nat → Nat → Int → Int → World → Nat) (out_p : Option Addr) (out_n : Nat) (out_c : Nat) (carry : Int) (i : Int) (n_1 : Int) (W_2 : World) (R : Value → World → Prop) : Prop :=
 (1000000000 : Int) ≠ 0 ∧ ∃ t49 : Int, t49 = Int.tmod n_1 1000000000 ∧ ∀ (r_1 : Nat) (wv_2 : World), New W_2 (.cells ⟨[(.int .i64 t49)]⟩ 3 (0, 0)) r_1 wv_2 →
 ∃ (t51_p : Option Addr) (t51_n : Nat) (t51_c : Nat) (wv_3 : World), Appends P [23, 23] [(.slice out_p out_n out_c), (.slice (some ⟨r_1, 0, none⟩) 1 1)] (.slice t51_p t51_n t51_c) wv_2 wv_3 ∧
 (1000000000 : Int) ≠ 0 ∧ ∃ t53 : Int, t53 = IntKind.wrap .i64 (Int.tdiv n_1 1000000000) ∧ ∃ t25 : Int, t25 = IntKind.wrap .i64 (i + 1) ∧ Inv t51_p t51_n t51_c t53 t25 wv_3 ∧ mu t51_p t51_n t51_c t53 t25 wv_3 < mu out_p out_n out_c carry i wv_1
def spec_l02Add_j1 (b_p : Option Addr) (b_n : Nat) (wv_1 : World) (Inv : Option Addr → Nat → Nat → Int → Int → World → Prop) (mu : Option Addr → Nat → Nat → Int → Int → World → Nat) (out_p : Option Addr) (out_n : Nat) (out_c : Nat) (carry : Int) (i : Int) (n : Int) (W_1 : World) (R : Value → World → Prop) : Prop :=
 ((decide ((i : Int) < ((b_n : Nat) : Int))) = true →
 (0 ≤ (i : Int) ∧ (i : Int) < (b_n : Nat)) ∧ ptrS b_p fun ad_1 => ∃ (t45 : Int), Loads P 3 (ad_1.add (i.toNat * 1)) (.int .i64 t45) W_1 ∧ ∃ t46 : Int, t46 = IntKind.wrap .i64 (n + t45) ∧ spec_l02Add_j2 wv_1 Inv mu out_p out_n out_c carry i t46 W_1 R) ∧
 ((decide ((i : Int) < ((b_n : Nat) : Int))) = false →
 spec_l02Add_j2 wv_1 Inv mu out_p out_n out_c carry i n W_1 R)
def spec_l02Add_j0 (a_p : Option Addr) (a_n : Nat) (b_p : Option Addr) (b_n : Nat) (wv_1 : World) (Inv : Option Addr → Nat → Nat → Int → Int → World → Prop) (mu : Option Addr → Nat → Nat → Int → Int → World → Nat) (out_p : Option Addr) (out_n : Nat) (out_c : Nat) (carry : Int) (i : Int) (W : World) (R : Value → World → Prop) : Prop :=
 ((decide ((i : Int) < ((a_n : Nat) : Int))) = true →
 (0 ≤ (i : Int) ∧ (i : Int) < (a_n : Nat)) ∧ ptrS a_p fun ad => ∃ (t35 : Int), Loads P 3 (ad.add (i.toNat * 1)) (.int .i64 t35) W ∧ ∃ t36 : Int, t36 = IntKind.wrap .i64 (carry + t35) ∧ spec_l02Add_j1 b_p b_n wv_1 Inv mu out_p out_n out_c carry i t36 W R) ∧
 ((decide ((i : Int) < ((a_n : Nat) : Int))) = false →
 spec_l02Add_j1 b_p b_n wv_1 Inv mu out_p out_n out_c carry i carry W R)
def spec_l02Add (a_p : Option Addr) (a_n : Nat) (a_c : Nat) (b_p : Option Addr) (b_n : Nat) (b_c : Nat) (w : World) (R : Value → World → Prop) : Prop :=
 ∀ (r : Nat) (wv : World), New w (.cells ⟨[]⟩ 3 (0, 0)) r wv →
 ∃ (Inv : Option Addr → Nat → Nat → Int → Int → World → Prop) (mu : Option Addr → Nat → Nat → Int → Int → World → Nat), Inv (some ⟨r, 0, none⟩) 0 0 0 0 wv ∧
 ∀ (junk : Fr) (wv_1 : World) (out_p : Option Addr) (out_n : Nat) (out_c : Nat) (carry : Int) (i : Int), Inv out_p out_n out_c carry i wv_1 →
 ((decide ((i : Int) < ((a_n : Nat) : Int))) = true →
 (true = true →
 (true = true →
 spec_l02Add_j0 a_p a_n b_p b_n wv_1 Inv mu out_p out_n out_c carry i wv_1 R) ∧
 (true = false →
 R (.slice out_p out_n out_c) wv_1)) ∧
 (true = false →
 ((decide ((0 : Int) < carry)) = true →
 spec_l02Add_j0 a_p a_n b_p b_n wv_1 Inv mu out_p out_n out_c carry i wv_1 R) ∧
 ((decide ((0 : Int) < carry)) = false →
 R (.slice out_p out_n out_c) wv_1))) ∧
 ((decide ((i : Int) < ((a_n : Nat) : Int))) = false →
 ((decide ((i : Int) < ((b_n : Nat) : Int))) = true →
 (true = true →
 spec_l02Add_j0 a_p a_n b_p b_n wv_1 Inv mu out_p out_n out_c carry i wv_1 R) ∧
 (true = false →
 R (.slice out_p out_n out_c) wv_1)) ∧
 ((decide ((i : Int) < ((b_n : Nat) : Int))) = false →
 ((decide ((0 : Int) < carry)) = true →
 spec_l02Add_j0 a_p a_n b_p b_n wv_1 Inv mu out_p out_n out_c carry i wv_1 R) ∧
 ((decide ((0 : Int) < carry)) = false →
 R (.slice out_p out_n out_c) wv_1)))
theorem spec_l02Add_ret {a_p : Option Addr} {a_n : Nat} {a_c : Nat} {b_p : Option Addr} {b_n : Nat} {b_c : Nat} {w : World} {R : Value → World → Prop} (h : spec_l02Add a_p a_n a_c b_p b_n b_c w R) : Ret P 115 [(.slice a_p a_n a_c), (.slice b_p b_n b_c)] w R :=
  Ret.of_fsem Tryz.func115 rfl (Eq.mp (show _ = fsem P Tryz.f115 (fun k => cond (Nat.beq k 5) [(5, .one .slice), (6, .one (.int .i64)), (7, .one (.int .i64))] ([])) _ R w from by kernel_rfl) h)
def spec_l02Sub_j1 (wv_1 : World) (Inv : Option Addr → Nat → Nat → Int → Int → World → Prop) (mu : Option Addr → Nat → Nat → Int → Int → World → Nat) (out_p : Option Addr) (out_n : Nat) (out_c : Nat) (less : Int) (t12 : Int) (less_1 : Int) (n_1 : Int) (W_1 : World) (R : Value → World → Prop) : Prop :=
 ∀ (r_1 : Nat) (wv_2 : World), New W_1 (.cells ⟨[(.int .i64 n_1)]⟩ 3 (0, 0)) r_1 wv_2 →
 ∃ (t38_p : Option Addr) (t38_n : Nat) (t38_c : Nat) (wv_3 : World), Appends P [23, 23] [(.slice out_p out_n out_c), (.slice (some ⟨r_1, 0, none⟩) 1 1)] (.slice t38_p t38_n t38_c) wv_2 wv_3 ∧
 ∃ t39 : Int, t39 = IntKind.wrap .i64 (t12 + 1) ∧ Inv t38_p t38_n t38_c less_1 t39 wv_3 ∧ mu t38_p t38_n t38_c less_1 t39 wv_3 < mu out_p out_n out_c less t12 wv_1
def spec_l02Sub_j0 (wv_1 : World) (Inv : Option Addr → Nat → Nat → Int → Int → World → Prop) (mu : Option Addr → Nat → Nat → Int → Int → World → Nat) (out_p : Option Addr) (out_n : Nat) (out_c : Nat) (less : Int) (t12 : Int) (n : Int) (W : World) (R : Value → World → Prop) : Prop :=
 ((decide ((n : Int) < 0)) = true →
 ∃ t34 : Int, t34 = IntKind.wrap .i64 (n + 1000000000) ∧ spec_l02Sub_j1 wv_1 Inv mu out_p out_n out_c less t12 1 t34 W R) ∧
 ((decide ((n : Int) < 0)) = false →
 spec_l02Sub_j1 wv_1 Inv mu out_p out_n out_c less t12 0 n W R)
def spec_l02Sub (a_p : Option Addr) (a_n : Nat) (a_c : Nat) (b_p : Option Addr) (b_n : Nat) (b_c : Nat) (w : World) (R : Value → World → Prop) : Prop :=
 ∀ (r : Nat) (wv : World), New w (.cells ⟨[]⟩ 3 (0, 0)) r wv →
 ∃ (Inv : Option Addr → Nat → Nat → Int → Int → World → Prop) (mu : Option Addr → Nat → Nat → Int → Int → World → Nat), Inv (some ⟨r, 0, none⟩) 0 0 0 0 wv ∧
 ∀ (junk : Fr) (wv_1 : World) (out_p : Option Addr) (out_n : Nat) (out_c : Nat) (less : Int) (t12 : Int), Inv out_p out_n out_c less t12 wv_1 →
 ((decide ((t12 : Int) < ((a_n : Nat) : Int))) = true →
 (0 ≤ (t12 : Int) ∧ (t12 : Int) < (a_n : Nat)) ∧ ptrS a_p fun ad => ∃ (t18 : Int), Loads P 3 (ad.add (t12.toNat * 1)) (.int .i64 t18) wv_1 ∧ ∃ t20 : Int, t20 = IntKind.wrap .i64 (t18 - less) ∧ ((decide ((t12 : Int) < ((b_n : Nat) : Int))) = true →
 (0 ≤ (t12 : Int) ∧ (t12 : Int) < (b_n : Nat)) ∧ ptrS b_p fun ad_1 => ∃ (t29 : Int), Loads P 3 (ad_1.add (t12.toNat * 1)) (.int .i64 t29) wv_1 ∧ ∃ t30 : Int, t30 = IntKind.wrap .i64 (t20 - t29) ∧ spec_l02Sub_j0 wv_1 Inv mu out_p out_n out_c less t12 t30 wv_1 R) ∧
 ((decide ((t12 : Int) < ((b_n : Nat) : Int))) = false →
 spec_l02Sub_j0 wv_1 Inv mu out_p out_n out_c less t12 t20 wv_1 R)) ∧
 ((decide ((t12 : Int) < ((a_n : Nat) : Int))) = false →
 Calls P 118 ⟨[(.slice out_p out_n out_c)]⟩ wv_1 fun e wv_4 =>
 ∃ (t41_p : Option Addr) (t41_n : Nat) (t41_c : Nat), e = .returned (.slice t41_p t41_n t41_c) ∧
 R (.slice t41_p t41_n t41_c) wv_4)
theorem spec_l02Sub_ret {a_p : Option Addr} {a_n : Nat} {a_c : Nat} {b_p : Option Addr} {b_n : Nat} {b_c : Nat} {w : World} {R : Value → World → Prop} (h : spec_l02Sub a_p a_n a_c b_p b_n b_c w R) : Ret P 116 [(.slice a_p a_n a_c), (.slice b_p b_n b_c)] w R :=
  Ret.of_fsem Tryz.func116 rfl (Eq.mp (show _ = fsem P Tryz.f116 (fun k => cond (Nat.beq k 5) [(5, .one .slice), (6, .one (.int .i64)), (12, .one (.int .i64))] ([])) _ R w from by kernel_rfl) h)
def spec_NatGcd_j0 (a_p : Option Addr) (a_n : Nat) (a_c : Nat) (b_p : Option Addr) (b_n : Nat) (b_c : Nat) (W : World) (R : Value → World → Prop) : Prop :=
 ∀ (r : Nat) (wv_1 : World), New W (.cells ⟨[]⟩ 3 (0, 0)) r wv_1 →
 ∃ (t19_p : Option Addr) (t19_n : Nat) (t19_c : Nat) (wv_2 : World), Appends P [23, 23] [(.slice (some ⟨r, 0, none⟩) 0 0), (.slice a_p a_n a_c)] (.slice t19_p t19_n t19_c) wv_1 wv_2 ∧
 ∀ (r_1 : Nat) (wv_3 : World), New wv_2 (.cells ⟨[]⟩ 3 (0, 0)) r_1 wv_3 →
 ∃ (t22_p : Option Addr) (t22_n : Nat) (t22_c : Nat) (wv_4 : World), Appends P [23, 23] [(.slice (some ⟨r_1, 0, none⟩) 0 0), (.slice b_p b_n b_c)] (.slice t22_p t22_n t22_c) wv_3 wv_4 ∧
 ∃ (Inv : Option Addr → Nat → Nat → Option Addr → Nat → Nat → World → Prop) (mu : Option Addr → Nat → Nat → Option Addr → Nat → Nat → World → Nat), Inv t19_p t19_n t19_c t22_p t22_n t22_c wv_4 ∧
 ∀ (junk : Fr) (wv_5 : World) (x_p : Option Addr) (x_n : Nat) (x_c : Nat) (y_p : Option Addr) (y_n : Nat) (y_c : Nat), Inv x_p x_n x_c y_p y_n y_c wv_5 →
 ((decide ((0 : Int) < ((y_n : Nat) : Int))) = true →
 Calls P 120 ⟨[(.slice x_p x_n x_c), (.slice y_p y_n y_c)]⟩ wv_5 fun e_1 wv_6 =>
 ∃ (t29_p : Option Addr) (t29_n : Nat) (t29_c : Nat) (t29_p_1 : Option Addr) (t29_n_1 : Nat) (t29_c_1 : Nat), e_1 = .returned (.tuple #[(.slice t29_p t29_n t29_c), (.slice t29_p_1 t29_n_1 t29_c_1)]) ∧
 Inv y_p y_n y_c t29_p_1 t29_n_1 t29_c_1 wv_6 ∧ mu y_p y_n y_c t29_p_1 t29_n_1 t29_c_1 wv_6 < mu x_p x_n x_c y_p y_n y_c wv_5) ∧
 ((decide ((0 : Int) < ((y_n : Nat) : Int))) = false →
 R (.slice x_p x_n x_c) wv_5)
def spec_NatGcd (a_p : Option Addr) (a_n : Nat) (a_c : Nat) (b_p : Option Addr) (b_n : Nat) (b_c : Nat) (w : World) (R : Value → World → Prop) : Prop :=
 Calls P 78 ⟨[(.slice a_p a_n a_c)]⟩ w fun e wv =>
 ∃ (t10 : Bool), e = .returned (.bool t10) ∧
 ((!t10) = true →
 (true = true →
 R (.slice none 0 0) wv) ∧
 (true = false →
 spec_NatGcd_j0 a_p a_n a_c b_p b_n b_c wv R)) ∧
 ((!t10) = false →
 Calls P 78 ⟨[(.slice b_p b_n b_c)]⟩ wv fun e_2 wv_7 =>
 ∃ (t14 : Bool), e_2 = .returned (.bool t14) ∧
 ((!t14) = true →
 R (.slice none 0 0) wv_7) ∧
 ((!t14) = false →
 spec_NatGcd_j0 a_p a_n a_c b_p b_n b_c wv_7 R))
theorem spec_NatGcd_ret {a_p : Option Addr} {a_n : Nat} {a_c : Nat} {b_p : Option Addr} {b_n : Nat} {b_c : Nat} {w : World} {R : Value → World → Prop} (h : spec_NatGcd a_p a_n a_c b_p b_n b_c w R) : Ret P 117 [(.slice a_p a_n a_c), (.slice b_p b_n b_c)] w R :=
  Ret.of_fsem Tryz.func117 rfl (Eq.mp (show _ = fsem P Tryz.f117 (fun k => cond (Nat.beq k 6) [(5, .one .slice), (6, .one .slice)] ([])) _ R w from by kernel_rfl) h)
def spec_l02Trim (a_p : Option Addr) (a_n : Nat) (a_c : Nat) (w : World) (R : Value → World → Prop) : Prop :=
 ∃ (Inv : Int → World → Prop) (mu : Int → World → Nat), Inv ((a_n : Nat) : Int) w ∧
 ∀ (junk : Fr) (wv : World) (n : Int), Inv n wv →
 ((decide ((0 : Int) < n)) = true →
 ∃ t11 : Int, t11 = IntKind.wrap .i64 (n - 1) ∧ (0 ≤ (t11 : Int) ∧ (t11 : Int) < (a_n : Nat)) ∧ ptrS a_p fun ad => ∃ (t13 : Int), Loads P 3 (ad.add (t11.toNat * 1)) (.int .i64 t13) wv ∧ ((decide ((t13 : Int) = 0)) = true →
 ∃ t17 : Int, t17 = IntKind.wrap .i64 (n - 1) ∧ Inv t17 wv ∧ mu t17 wv < mu n wv) ∧
 ((decide ((t13 : Int) = 0)) = false →
 (0 ≤ (n : Int) ∧ (n : Int) ≤ (a_c : Nat)) ∧ R (.slice (sub a_p 0 a_c 1) (n.toNat - 0) (a_c - 0)) wv)) ∧
 ((decide ((0 : Int) < n)) = false →
 (false = true →
 ∃ t17_1 : Int, t17_1 = IntKind.wrap .i64 (n - 1) ∧ Inv t17_1 wv ∧ mu t17_1 wv < mu n wv) ∧
 (false = false →
 (0 ≤ (n : Int) ∧ (n : Int) ≤ (a_c : Nat)) ∧ R (.slice (sub a_p 0 a_c 1) (n.toNat - 0) (a_c - 0)) wv))
theorem spec_l02Trim_ret {a_p : Option Addr} {a_n : Nat} {a_c : Nat} {w : World} {R : Value → World → Prop} (h : spec_l02Trim a_p a_n a_c w R) : Ret P 118 [(.slice a_p a_n a_c)] w R :=
  Ret.of_fsem Tryz.func118 rfl (Eq.mp (show _ = fsem P Tryz.f118 (fun k => cond (Nat.beq k 3) [(3, .one (.int .i64))] ([])) _ R w from by kernel_rfl) h)
def spec_l05Gcd (a_p : Option Addr) (a_n : Nat) (a_c : Nat) (b_p : Option Addr) (b_n : Nat) (b_c : Nat) (w : World) (R : Value → World → Prop) : Prop :=
 ∃ (Inv : Option Addr → Nat → Nat → Option Addr → Nat → Nat → World → Prop) (mu : Option Addr → Nat → Nat → Option Addr → Nat → Nat → World → Nat), Inv a_p a_n a_c b_p b_n b_c w ∧
 ∀ (junk : Fr) (wv : World) (x_p : Option Addr) (x_n : Nat) (x_c : Nat) (y_p : Option Addr) (y_n : Nat) (y_c : Nat), Inv x_p x_n x_c y_p y_n y_c wv →
 ((decide ((0 : Int) < ((y_n : Nat) : Int))) = true →
 Calls P 120 ⟨[(.slice x_p x_n x_c), (.slice y_p y_n y_c)]⟩ wv fun e wv_1 =>
 ∃ (t17_p : Option Addr) (t17_n : Nat) (t17_c : Nat) (t17_p_1 : Option Addr) (t17_n_1 : Nat) (t17_c_1 : Nat), e = .returned (.tuple #[(.slice t17_p t17_n t17_c), (.slice t17_p_1 t17_n_1 t17_c_1)]) ∧
 Inv y_p y_n y_c t17_p_1 t17_n_1 t17_c_1 wv_1 ∧ mu y_p y_n y_c t17_p_1 t17_n_1 t17_c_1 wv_1 < mu x_p x_n x_c y_p y_n y_c wv) ∧
 ((decide ((0 : Int) < ((y_n : Nat) : Int))) = false →
 R (.slice x_p x_n x_c) wv)
theorem spec_l05Gcd_ret {a_p : Option Addr} {a_n : Nat} {a_c : Nat} {b_p : Option Addr} {b_n : Nat} {b_c : Nat} {w : World} {R : Value → World → Prop} (h : spec_l05Gcd a_p a_n a_c b_p b_n b_c w R) : Ret P 119 [(.slice a_p a_n a_c), (.slice b_p b_n b_c)] w R :=
  Ret.of_fsem Tryz.func119 rfl (Eq.mp (show _ = fsem P Tryz.f119 (fun k => cond (Nat.beq k 4) [(5, .one .slice), (6, .one .slice)] ([])) _ R w from by kernel_rfl) h)
def spec_l03Div_j0 (wv_4 : World) (Inv : Option Addr → Nat → Nat → Int → World → Prop) (mu : Option Addr → Nat → Nat → Int → World → Nat) (rest_p : Option Addr) (rest_n : Nat) (rest_c : Nat) (i : Int) (rest_p_1 : Option Addr) (rest_n_1 : Nat) (rest_c_1 : Nat) (W : World) (R : Value → World → Prop) : Prop :=
 ∃ t36 : Int, t36 = IntKind.wrap .i64 (i - 1) ∧ Inv rest_p_1 rest_n_1 rest_c_1 t36 W ∧ mu rest_p_1 rest_n_1 rest_c_1 t36 W < mu rest_p rest_n rest_c i wv_4
def spec_l03Div (a_p : Option Addr) (a_n : Nat) (a_c : Nat) (b_p : Option Addr) (b_n : Nat) (b_c : Nat) (w : World) (R : Value → World → Prop) : Prop :=
 ((decide ((((b_n : Nat) : Int) : Int) = 1)) = true →
 (0 ≤ (0 : Int) ∧ (0 : Int) < (b_n : Nat)) ∧ ptrS b_p fun ad => ∃ (t19 : Int), Loads P 3 (ad.add (0 * 1)) (.int .i64 t19) w ∧ Calls P 137 ⟨[(.slice a_p a_n a_c), (.int .i64 t19)]⟩ w fun e wv =>
 ∃ (t20_p : Option Addr) (t20_n : Nat) (t20_c : Nat) (t20 : Int), e = .returned (.tuple #[(.slice t20_p t20_n t20_c), (.int .i64 t20)]) ∧
 Calls P 84 ⟨[(.int .i64 t20)]⟩ wv fun e_1 wv_1 =>
 ∃ (t25_p : Option Addr) (t25_n : Nat) (t25_c : Nat), e_1 = .returned (.slice t25_p t25_n t25_c) ∧
 R (.tuple #[(.slice t20_p t20_n t20_c), (.slice t25_p t25_n t25_c)]) wv_1) ∧
 ((decide ((((b_n : Nat) : Int) : Int) = 1)) = false →
 (0 ≤ (((a_n : Nat) : Int) : Int) ∧ (((a_n : Nat) : Int) : Int) ≤ ((a_n : Nat) : Int) ∧ ((8 : Nat) : Int) * ((a_n : Nat) : Int) ≤ 281474976710656) ∧
 ∀ (r : Nat) (wv_2 : World), New w (.cells ⟨zeroRow (.int .i64 0) (a_n * 1)⟩ 3 (0, 0)) r wv_2 →
 ∀ (r_1 : Nat) (wv_3 : World), New wv_2 (.cells ⟨[]⟩ 3 (0, 0)) r_1 wv_3 →
 ∃ t32 : Int, t32 = IntKind.wrap .i64 (((a_n : Nat) : Int) - 1) ∧ ∃ (Inv : Option Addr → Nat → Nat → Int → World → Prop) (mu : Option Addr → Nat → Nat → Int → World → Nat), Inv (some ⟨r_1, 0, none⟩) 0 0 t32 wv_3 ∧
 ∀ (junk : Fr) (wv_4 : World) (rest_p : Option Addr) (rest_n : Nat) (rest_c : Nat) (i : Int), Inv rest_p rest_n rest_c i wv_4 →
 ((decide ((0 : Int) ≤ i)) = true →
 (0 ≤ (i : Int) ∧ (i : Int) < (a_n : Nat)) ∧ ptrS a_p fun ad_1 => ∃ (t40 : Int), Loads P 3 (ad_1.add (i.toNat * 1)) (.int .i64 t40) wv_4 ∧ ∀ (r_2 : Nat) (wv_5 : World), New wv_4 (.cells ⟨[(.int .i64 t40)]⟩ 3 (0, 0)) r_2 wv_5 →
 ∃ (t43_p : Option Addr) (t43_n : Nat) (t43_c : Nat) (wv_6 : World), Appends P [23, 23] [(.slice (some ⟨r_2, 0, none⟩) 1 1), (.slice rest_p rest_n rest_c)] (.slice t43_p t43_n t43_c) wv_5 wv_6 ∧
 Calls P 118 ⟨[(.slice t43_p t43_n t43_c)]⟩ wv_6 fun e_2 wv_7 =>
 ∃ (t44_p : Option Addr) (t44_n : Nat) (t44_c : Nat), e_2 = .returned (.slice t44_p t44_n t44_c) ∧
 Calls P 114 ⟨[(.slice t44_p t44_n t44_c), (.slice b_p b_n b_c)]⟩ wv_7 fun e_3 wv_8 =>
 ∃ (t47 : Int), e_3 = .returned (.int .i64 t47) ∧
 ((decide ((t47 : Int) < 0)) = true →
 spec_l03Div_j0 wv_4 Inv mu rest_p rest_n rest_c i t44_p t44_n t44_c wv_8 R) ∧
 ((decide ((t47 : Int) < 0)) = false →
 Calls P 138 ⟨[(.slice t44_p t44_n t44_c), (.slice b_p b_n b_c)]⟩ wv_8 fun e_4 wv_9 =>
 ∃ (t51 : Int), e_4 = .returned (.int .i64 t51) ∧
 (0 ≤ (i : Int) ∧ (i : Int) < (a_n : Nat)) ∧ ∃ wv_10, Stores P 3 ((⟨r, 0, none⟩ : Addr).add (i.toNat * 1)) (.int .i64 t51) wv_9 wv_10 ∧
 Calls P 84 ⟨[(.int .i64 t51)]⟩ wv_10 fun e_5 wv_11 =>
 ∃ (t59_p : Option Addr) (t59_n : Nat) (t59_c : Nat), e_5 = .returned (.slice t59_p t59_n t59_c) ∧
 Calls P 87 ⟨[(.slice b_p b_n b_c), (.slice t59_p t59_n t59_c)]⟩ wv_11 fun e_6 wv_12 =>
 ∃ (t60_p : Option Addr) (t60_n : Nat) (t60_c : Nat), e_6 = .returned (.slice t60_p t60_n t60_c) ∧
 Calls P 116 ⟨[(.slice t44_p t44_n t44_c), (.slice t60_p t60_n t60_c)]⟩ wv_12 fun e_7 wv_13 =>
 ∃ (t61_p : Option Addr) (t61_n : Nat) (t61_c : Nat), e_7 = .returned (.slice t61_p t61_n t61_c) ∧
 spec_l03Div_j0 wv_4 Inv mu rest_p rest_n rest_c i t61_p t61_n t61_c wv_13 R)) ∧
 ((decide ((0 : Int) ≤ i)) = false →
 Calls P 118 ⟨[(.slice (some ⟨r, 0, none⟩) a_n a_n)]⟩ wv_4 fun e_8 wv_14 =>
 ∃ (t63_p : Option Addr) (t63_n : Nat) (t63_c : Nat), e_8 = .returned (.slice t63_p t63_n t63_c) ∧
 R (.tuple #[(.slice t63_p t63_n t63_c), (.slice rest_p rest_n rest_c)]) wv_14))
theorem spec_l03Div_ret {a_p : Option Addr} {a_n : Nat} {a_c : Nat} {b_p : Option Addr} {b_n : Nat} {b_c : Nat} {w : World} {R : Value → World → Prop} (h : spec_l03Div a_p a_n a_c b_p b_n b_c w R) : Ret P 120 [(.slice a_p a_n a_c), (.slice b_p b_n b_c)] w R :=
  Ret.of_fsem Tryz.func120 rfl (Eq.mp (show _ = fsem P Tryz.f120 (fun k => cond (Nat.beq k 8) [(9, .one .slice), (10, .one (.int .i64))] ([])) _ R w from by kernel_rfl) h)
def spec_NatTen (k : Int) (w : World) (R : Value → World → Prop) : Prop :=
 Calls P 76 ⟨[(.int .i64 k), (.int .i64 0), (.int .i64 449)]⟩ w fun e wv =>
 ∃ (t7 : Bool), e = .returned (.bool t7) ∧
 ((!t7) = true →
 R (.slice none 0 0) wv) ∧
 ((!t7) = false →
 (9 : Int) ≠ 0 ∧ ∃ t10 : Int, t10 = IntKind.wrap .i64 (Int.tdiv k 9) ∧ (0 ≤ (t10 : Int) ∧ (t10 : Int) ≤ t10 ∧ ((8 : Nat) : Int) * t10 ≤ 281474976710656) ∧
 ∀ (r : Nat) (wv_1 : World), New wv (.cells ⟨zeroRow (.int .i64 0) (t10.toNat * 1)⟩ 3 (0, 0)) r wv_1 →
 ∃ (Inv : Int → Int → World → Prop) (mu : Int → Int → World → Nat), Inv 1 0 wv_1 ∧
 ∀ (junk : Fr) (wv_2 : World) (f : Int) (i : Int), Inv f i wv_2 →
 (9 : Int) ≠ 0 ∧ ∃ t14 : Int, t14 = Int.tmod k 9 ∧ ((decide ((i : Int) < t14)) = true →
 ∃ t19 : Int, t19 = IntKind.wrap .i64 (f * 10) ∧ ∃ t17 : Int, t17 = IntKind.wrap .i64 (i + 1) ∧ Inv t19 t17 wv_2 ∧ mu t19 t17 wv_2 < mu f i wv_2) ∧
 ((decide ((i : Int) < t14)) = false →
 ∀ (r_1 : Nat) (wv_3 : World), New wv_2 (.cells ⟨[(.int .i64 f)]⟩ 3 (0, 0)) r_1 wv_3 →
 ∃ (t23_p : Option Addr) (t23_n : Nat) (t23_c : Nat) (wv_4 : World), Appends P [23, 23] [(.slice (some ⟨r, 0, none⟩) t10.toNat t10.toNat), (.slice (some ⟨r_1, 0, none⟩) 1 1)] (.slice t23_p t23_n t23_c) wv_3 wv_4 ∧
 R (.slice t23_p t23_n t23_c) wv_4))
theorem spec_NatTen_ret {k : Int} {w : World} {R : Value → World → Prop} (h : spec_NatTen k w R) : Ret P 121 [(.int .i64 k)] w R :=
  Ret.of_fsem Tryz.func121 rfl (Eq.mp (show _ = fsem P Tryz.f121 (fun k => cond (Nat.beq k 7) [(4, .one (.int .i64)), (5, .one (.int .i64))] ([])) _ R w from by kernel_rfl) h)
def spec_l08Table (w : World) (R : Value → World → Prop) : Prop :=
 ∀ (r : Nat) (wv : World), New w (.cells ⟨[(.string (S [65, 85, 68])), (.string (S [48, 51, 54])), (.int .i64 2), (.int .i64 5), (.string (S [66, 72, 68])), (.string (S [48, 52, 56])), (.int .i64 3), (.int .i64 5), (.string (S [67, 65, 68])), (.string (S [49, 50, 52])), (.int .i64 2), (.int .i64 5), (.string (S [67, 72, 70])), (.string (S [55, 53, 54])), (.int .i64 2), (.int .i64 5), (.string (S [67, 76, 70])), (.string (S [57, 57, 48])), (.int .i64 4), (.int .i64 1), (.string (S [67, 90, 75])), (.string (S [50, 48, 51])), (.int .i64 2), (.int .i64 100), (.string (S [68, 75, 75])), (.string (S [50, 48, 56])), (.int .i64 2), (.int .i64 50), (.string (S [69, 85, 82])), (.string (S [57, 55, 56])), (.int .i64 2), (.int .i64 1), (.string (S [71, 66, 80])), (.string (S [56, 50, 54])), (.int .i64 2), (.int .i64 1), (.string (S [72, 85, 70])), (.string (S [51, 52, 56])), (.int .i64 2), (.int .i64 500), (.string (S [73, 83, 75])), (.string (S [51, 53, 50])), (.int .i64 0), (.int .i64 1), (.string (S [74, 80, 89])), (.string (S [51, 57, 50])), (.int .i64 0), (.int .i64 1), (.string (S [75, 82, 87])), (.string (S [52, 49, 48])), (.int .i64 0), (.int .i64 10), (.string (S [75, 87, 68])), (.string (S [52, 49, 52])), (.int .i64 3), (.int .i64 5), (.string (S [78, 79, 75])), (.string (S [53, 55, 56])), (.int .i64 2), (.int .i64 100), (.string (S [78, 90, 68])), (.string (S [53, 53, 52])), (.int .i64 2), (.int .i64 10), (.string (S [80, 76, 78])), (.string (S [57, 56, 53])), (.int .i64 2), (.int .i64 1), (.string (S [83, 69, 75])), (.string (S [55, 53, 50])), (.int .i64 2), (.int .i64 100), (.string (S [84, 78, 68])), (.string (S [55, 56, 56])), (.int .i64 3), (.int .i64 10), (.string (S [85, 83, 68])), (.string (S [56, 52, 48])), (.int .i64 2), (.int .i64 1)]⟩ 104 (0, 0)) r wv →
 R (.slice (some ⟨r, 0, none⟩) 20 20) wv
theorem spec_l08Table_ret {w : World} {R : Value → World → Prop} (h : spec_l08Table w R) : Ret P 122 [] w R :=
  Ret.of_fsem Tryz.func122 rfl (Eq.mp (show _ = fsem P Tryz.f122 (fun k => []) _ R w from by kernel_rfl) h)
def spec_l06Mode (m : Int) (w : World) (R : Value → World → Prop) : Prop :=
 Calls P 76 ⟨[(.int .i64 m), (.int .i64 0), (.int .i64 6)]⟩ w fun e wv =>
 ∃ (t4 : Bool), e = .returned (.bool t4) ∧
 R (.bool t4) wv
theorem spec_l06Mode_ret {m : Int} {w : World} {R : Value → World → Prop} (h : spec_l06Mode m w R) : Ret P 123 [(.int .i64 m)] w R :=
  Ret.of_fsem Tryz.func123 rfl (Eq.mp (show _ = fsem P Tryz.f123 (fun k => []) _ R w from by kernel_rfl) h)
def spec_l06Round_j0 (r : Nat) (r_1 : Nat) (q_p : Option Addr) (q_n : Nat) (q_c : Nat) (W : World) (R : Value → World → Prop) : Prop :=
 ∃ (t35 : Bool), Loads P 4 (((⟨r, 0, none⟩ : Addr).add 0).add 0) (.bool t35) W ∧ Calls P 79 ⟨[(.bool t35), (.slice q_p q_n q_c)]⟩ W fun e_3 wv_6 =>
 ∃ (t370 : Bool) (t371_p : Option Addr) (t371_n : Nat) (t371_c : Nat), e_3 = .returned (.agg #[(.bool t370), (.slice t371_p t371_n t371_c)]) ∧
 ∃ wv_7, Stores P 30 ⟨r_1, 0, none⟩ (.agg #[(.bool t370), (.slice t371_p t371_n t371_c)]) wv_6 wv_7 ∧
 ∃ (r0_1 : Bool) (r1_p_1 : Option Addr) (r1_n_1 : Nat) (r1_c_1 : Nat), Loads P 30 ⟨r_1, 0, none⟩ (.agg #[(.bool r0_1), (.slice r1_p_1 r1_n_1 r1_c_1)]) wv_7 ∧ R (.agg #[(.bool r0_1), (.slice r1_p_1 r1_n_1 r1_c_1)]) wv_7
def spec_l06Round (r0 : Bool) (r1_p : Option Addr) (r1_n : Nat) (r1_c : Nat) (r2_p : Option Addr) (r2_n : Nat) (r2_c : Nat) (m : Int) (w : World) (R : Value → World → Prop) : Prop :=
 ∀ (r : Nat) (wv : World), New w (.cells ⟨[(.bool r0), (.slice r1_p r1_n r1_c), (.slice r2_p r2_n r2_c)]⟩ 34 (0, 0)) r wv →
 ∀ (r_1 : Nat) (wv_1 : World), New wv (.cells ⟨[(.bool false), (.slice none 0 0)]⟩ 30 (0, 0)) r_1 wv_1 →
 ∃ (t10_p : Option Addr) (t10_n : Nat) (t10_c : Nat), Loads P 23 (((⟨r, 0, none⟩ : Addr).add 0).add 1) (.slice t10_p t10_n t10_c) wv_1 ∧ ∃ (t12_p : Option Addr) (t12_n : Nat) (t12_c : Nat), Loads P 23 ((⟨r, 0, none⟩ : Addr).add 2) (.slice t12_p t12_n t12_c) wv_1 ∧ Calls P 120 ⟨[(.slice t10_p t10_n t10_c), (.slice t12_p t12_n t12_c)]⟩ wv_1 fun e wv_2 =>
 ∃ (t13_p : Option Addr) (t13_n : Nat) (t13_c : Nat) (t13_p_1 : Option Addr) (t13_n_1 : Nat) (t13_c_1 : Nat), e = .returned (.tuple #[(.slice t13_p t13_n t13_c), (.slice t13_p_1 t13_n_1 t13_c_1)]) ∧
 ((decide ((0 : Int) < ((t13_n_1 : Nat) : Int))) = true →
 ∃ (t22 : Bool), Loads P 4 (((⟨r, 0, none⟩ : Addr).add 0).add 0) (.bool t22) wv_2 ∧ ∃ (t26_p : Option Addr) (t26_n : Nat) (t26_c : Nat), Loads P 23 ((⟨r, 0, none⟩ : Addr).add 2) (.slice t26_p t26_n t26_c) wv_2 ∧ Calls P 139 ⟨[(.bool t22), (.slice t13_p t13_n t13_c), (.slice t13_p_1 t13_n_1 t13_c_1), (.slice t26_p t26_n t26_c), (.int .i64 m)]⟩ wv_2 fun e_1 wv_3 =>
 ∃ (t28 : Bool), e_1 = .returned (.bool t28) ∧
 (t28 = true →
 ∀ (r_2 : Nat) (wv_4 : World), New wv_3 (.cells ⟨[(.int .i64 1)]⟩ 3 (0, 0)) r_2 wv_4 →
 Calls P 115 ⟨[(.slice t13_p t13_n t13_c), (.slice (some ⟨r_2, 0, none⟩) 1 1)]⟩ wv_4 fun e_2 wv_5 =>
 ∃ (t32_p : Option Addr) (t32_n : Nat) (t32_c : Nat), e_2 = .returned (.slice t32_p t32_n t32_c) ∧
 spec_l06Round_j0 r r_1 t32_p t32_n t32_c wv_5 R) ∧
 (t28 = false →
 spec_l06Round_j0 r r_1 t13_p t13_n t13_c wv_3 R)) ∧
 ((decide ((0 : Int) < ((t13_n_1 : Nat) : Int))) = false →
 (false = true →
 ∀ (r_3 : Nat) (wv_8 : World), New wv_2 (.cells ⟨[(.int .i64 1)]⟩ 3 (0, 0)) r_3 wv_8 →
 Calls P 115 ⟨[(.slice t13_p t13_n t13_c), (.slice (some ⟨r_3, 0, none⟩) 1 1)]⟩ wv_8 fun e_4 wv_9 =>
 ∃ (t32_p_1 : Option Addr) (t32_n_1 : Nat) (t32_c_1 : Nat), e_4 = .returned (.slice t32_p_1 t32_n_1 t32_c_1) ∧
 spec_l06Round_j0 r r_1 t32_p_1 t32_n_1 t32_c_1 wv_9 R) ∧
 (false = false →
 spec_l06Round_j0 r r_1 t13_p t13_n t13_c wv_2 R))
theorem spec_l06Round_ret {r0 : Bool} {r1_p : Option Addr} {r1_n : Nat} {r1_c : Nat} {r2_p : Option Addr} {r2_n : Nat} {r2_c : Nat} {m : Int} {w : World} {R : Value → World → Prop} (h : spec_l06Round r0 r1_p r1_n r1_c r2_p r2_n r2_c m w R) : Ret P 124 [(.agg #[(.bool r0), (.slice r1_p r1_n r1_c), (.slice r2_p r2_n r2_c)]), (.int .i64 m)] w R :=
  Ret.of_fsem Tryz.func124 rfl (Eq.mp (show _ = fsem P Tryz.f124 (fun k => []) _ R w from by kernel_rfl) h)
def spec_RatNeg (r0 : Bool) (r1_p : Option Addr) (r1_n : Nat) (r1_c : Nat) (r2_p : Option Addr) (r2_n : Nat) (r2_c : Nat) (w : World) (R : Value → World → Prop) : Prop :=
 ∀ (r : Nat) (wv : World), New w (.cells ⟨[(.bool r0), (.slice r1_p r1_n r1_c), (.slice r2_p r2_n r2_c)]⟩ 34 (0, 0)) r wv →
 ∀ (r_1 : Nat) (wv_1 : World), New wv (.cells ⟨[(.bool false), (.slice none 0 0), (.slice none 0 0)]⟩ 34 (0, 0)) r_1 wv_1 →
 ∃ (t40 : Bool) (t41_p : Option Addr) (t41_n : Nat) (t41_c : Nat) (t42_p : Option Addr) (t42_n : Nat) (t42_c : Nat), Loads P 34 ⟨r, 0, none⟩ (.agg #[(.bool t40), (.slice t41_p t41_n t41_c), (.slice t42_p t42_n t42_c)]) wv_1 ∧ Calls P 85 ⟨[(.agg #[(.bool t40), (.slice t41_p t41_n t41_c), (.slice t42_p t42_n t42_c)])]⟩ wv_1 fun e wv_2 =>
 ∃ (t5 : Bool), e = .returned (.bool t5) ∧
 ((!t5) = true →
 ∃ wv_3, Stores P 34 ⟨r_1, 0, none⟩ (.agg #[(.bool false), (.slice none 0 0), (.slice none 0 0)]) wv_2 wv_3 ∧
 ∃ (r0_1 : Bool) (r1_p_1 : Option Addr) (r1_n_1 : Nat) (r1_c_1 : Nat) (r2_p_1 : Option Addr) (r2_n_1 : Nat) (r2_c_1 : Nat), Loads P 34 ⟨r_1, 0, none⟩ (.agg #[(.bool r0_1), (.slice r1_p_1 r1_n_1 r1_c_1), (.slice r2_p_1 r2_n_1 r2_c_1)]) wv_3 ∧ R (.tuple #[(.agg #[(.bool r0_1), (.slice r1_p_1 r1_n_1 r1_c_1), (.slice r2_p_1 r2_n_1 r2_c_1)]), (.bool false)]) wv_3) ∧
 ((!t5) = false →
 ∃ (t90 : Bool) (t91_p : Option Addr) (t91_n : Nat) (t91_c : Nat), (∀ wv_4, Ext wv_2.drew wv_4 → Loads P 30 ((⟨r, 0, none⟩ : Addr).add 0) (.agg #[(.bool t90), (.slice t91_p t91_n t91_c)]) wv_4) ∧ ∀ (ss : List (Option Nat)) (wv_5 : World), Fl [.cells ⟨[]⟩ 3 (0, 0)] [none] wv_2.drew ss wv_5 →
 Calls P 83 ⟨[(.agg #[(.bool t90), (.slice t91_p t91_n t91_c)])]⟩ wv_5 fun e_1 wv_6 =>
 ∃ (t100 : Bool) (t101_p : Option Addr) (t101_n : Nat) (t101_c : Nat), e_1 = .returned (.agg #[(.bool t100), (.slice t101_p t101_n t101_c)]) ∧
 Ext wv_5 wv_6 ∧ ∃ (t13_p : Option Addr) (t13_n : Nat) (t13_c : Nat), (∀ wv_7, Ext wv_2.drew wv_7 → Loads P 23 ((⟨r, 0, none⟩ : Addr).add 2) (.slice t13_p t13_n t13_c) wv_7) ∧ ∀ (ss_1 : List (Option Nat)) (wv_8 : World) (r_2 : Nat), Fl [.cells ⟨[]⟩ 3 (0, 0)] ss wv_6 ss_1 wv_8 → ss_1[0]? = some (some r_2) →
 ∃ (t14_p : Option Addr) (t14_n : Nat) (t14_c : Nat) (wv_9 : World), Appends P [23, 23] [(.slice (some ⟨r_2, 0, none⟩) 0 0), (.slice t13_p t13_n t13_c)] (.slice t14_p t14_n t14_c) wv_8 wv_9 ∧
 ∃ wv_10, Stores P 34 ⟨r_1, 0, none⟩ (.agg #[(.bool t100), (.slice t101_p t101_n t101_c), (.slice t14_p t14_n t14_c)]) wv_9 wv_10 ∧
 ∃ (r0_2 : Bool) (r1_p_2 : Option Addr) (r1_n_2 : Nat) (r1_c_2 : Nat) (r2_p_2 : Option Addr) (r2_n_2 : Nat) (r2_c_2 : Nat), Loads P 34 ⟨r_1, 0, none⟩ (.agg #[(.bool r0_2), (.slice r1_p_2 r1_n_2 r1_c_2), (.slice r2_p_2 r2_n_2 r2_c_2)]) wv_10 ∧ R (.tuple #[(.agg #[(.bool r0_2), (.slice r1_p_2 r1_n_2 r1_c_2), (.slice r2_p_2 r2_n_2 r2_c_2)]), (.bool true)]) wv_10)
theorem spec_RatNeg_ret {r0 : Bool} {r1_p : Option Addr} {r1_n : Nat} {r1_c : Nat} {r2_p : Option Addr} {r2_n : Nat} {r2_c : Nat} {w : World} {R : Value → World → Prop} (h : spec_RatNeg r0 r1_p r1_n r1_c r2_p r2_n r2_c w R) : Ret P 125 [(.agg #[(.bool r0), (.slice r1_p r1_n r1_c), (.slice r2_p r2_n r2_c)])] w R :=
  Ret.of_fsem Tryz.func125 rfl (Eq.mp (show _ = fsem P Tryz.f125 (fun k => []) _ R w from by kernel_rfl) h)
def impl_DecCmp_j0 (r : Nat) (r_1 : Nat) (W : World) (R : Value → World → Prop) : Prop :=
 ∃ (t15 : Int), Loads P 3 ((⟨r, 0, none⟩ : Addr).add 2) (.int .i64 t15) W ∧ ∃ (t17 : Int), Loads P 3 ((⟨r_1, 0, none⟩ : Addr).add 2) (.int .i64 t17) W ∧ ∃ t18 : Int, t18 = (if t17 > t15 then t17 else t15) ∧ Calls P 140 ⟨[(.int .i64 t18)]⟩ W fun e_1 wv_3 =>
 ∃ (t19 : Value), e_1 = .returned t19 ∧
 ∃ (t210 : Bool) (t211_p : Option Addr) (t211_n : Nat) (t211_c : Nat) (t212 : Int), (∀ wv_4, Ext wv_3.drew wv_4 → Loads P 60 ⟨r, 0, none⟩ (.agg #[(.bool t210), (.slice t211_p t211_n t211_c), (.int .i64 t212)]) wv_4) ∧ CallW P t19 [(.agg #[(.bool t210), (.slice t211_p t211_n t211_c), (.int .i64 t212)])] wv_3.drew fun e_2 wv_5 =>
 ∃ (t220 : Bool) (t221_p : Option Addr) (t221_n : Nat) (t221_c : Nat), e_2 = .returned (.agg #[(.bool t220), (.slice t221_p t221_n t221_c)]) ∧
 Ext wv_3.drew wv_5 ∧ ∃ (t240 : Bool) (t241_p : Option Addr) (t241_n : Nat) (t241_c : Nat) (t242 : Int), (∀ wv_6, Ext wv_3.drew wv_6 → Loads P 60 ⟨r_1, 0, none⟩ (.agg #[(.bool t240), (.slice t241_p t241_n t241_c), (.int .i64 t242)]) wv_6) ∧ CallW P t19 [(.agg #[(.bool t240), (.slice t241_p t241_n t241_c), (.int .i64 t242)])] wv_5 fun e_3 wv_7 =>
 ∃ (t250 : Bool) (t251_p : Option Addr) (t251_n : Nat) (t251_c : Nat), e_3 = .returned (.agg #[(.bool t250), (.slice t251_p t251_n t251_c)]) ∧
 Calls P 141 ⟨[(.agg #[(.bool t220), (.slice t221_p t221_n t221_c)]), (.agg #[(.bool t250), (.slice t251_p t251_n t251_c)])]⟩ wv_7 fun e_4 wv_8 =>
 ∃ (t26 : Int), e_4 = .returned (.int .i64 t26) ∧
 R (.int .i64 t26) wv_8
def impl_DecCmp (d0 : Bool) (d1_p : Option Addr) (d1_n : Nat) (d1_c : Nat) (d2 : Int) (e0 : Bool) (e1_p : Option Addr) (e1_n : Nat) (e1_c : Nat) (e2 : Int) (w : World) (R : Value → World → Prop) : Prop :=
 ∀ (r : Nat) (wv : World), New w (.cells ⟨[(.bool d0), (.slice d1_p d1_n d1_c), (.int .i64 d2)]⟩ 60 (0, 0)) r wv →
 ∀ (r_1 : Nat) (wv_1 : World), New wv (.cells ⟨[(.bool e0), (.slice e1_p e1_n e1_c), (.int .i64 e2)]⟩ 60 (0, 0)) r_1 wv_1 →
 ∃ (t60 : Bool) (t61_p : Option Addr) (t61_n : Nat) (t61_c : Nat) (t62 : Int), Loads P 60 ⟨r, 0, none⟩ (.agg #[(.bool t60), (.slice t61_p t61_n t61_c), (.int .i64 t62)]) wv_1 ∧ Calls P 103 ⟨[(.agg #[(.bool t60), (.slice t61_p t61_n t61_c), (.int .i64 t62)])]⟩ wv_1 fun e wv_2 =>
 ∃ (t7 : Bool), e = .returned (.bool t7) ∧
 ((!t7) = true →
 (true = true →
 R (.int .i64 0) wv_2) ∧
 (true = false →
 impl_DecCmp_j0 r r_1 wv_2 R)) ∧
 ((!t7) = false →
 ∃ (t100 : Bool) (t101_p : Option Addr) (t101_n : Nat) (t101_c : Nat) (t102 : Int), Loads P 60 ⟨r_1, 0, none⟩ (.agg #[(.bool t100), (.slice t101_p t101_n t101_c), (.int .i64 t102)]) wv_2 ∧ Calls P 103 ⟨[(.agg #[(.bool t100), (.slice t101_p t101_n t101_c), (.int .i64 t102)])]⟩ wv_2 fun e_5 wv_9 =>
 ∃ (t11 : Bool), e_5 = .returned (.bool t11) ∧
 ((!t11) = true →
 R (.int .i64 0) wv_9) ∧
 ((!t11) = false →
 impl_DecCmp_j0 r r_1 wv_9 R))
theorem impl_DecCmp_ret {d0 : Bool} {d1_p : Option Addr} {d1_n : Nat} {d1_c : Nat} {d2 : Int} {e0 : Bool} {e1_p : Option Addr} {e1_n : Nat} {e1_c : Nat} {e2 : Int} {w : World} {R : Value → World → Prop} (h : impl_DecCmp d0 d1_p d1_n d1_c d2 e0 e1_p e1_n e1_c e2 w R) : Ret P 126 [(.agg #[(.bool d0), (.slice d1_p d1_n d1_c), (.int .i64 d2)]), (.agg #[(.bool e0), (.slice e1_p e1_n e1_c), (.int .i64 e2)])] w R :=
  Ret.of_fsem Tryz.func126 rfl (Eq.mp (show _ = fsem P Tryz.f126 (fun k => []) _ R w from by kernel_rfl) h)
def impl_IntOf (n : Int) (w : World) (R : Value → World → Prop) : Prop :=
 ∀ (r : Nat) (wv : World), New w (.cells ⟨[(.bool false), (.slice none 0 0)]⟩ 30 (0, 0)) r wv →
 ((decide ((n : Int) < 0)) = true →
 ∃ t6 : Int, t6 = IntKind.wrap .u64 n ∧ ∃ t7 : Int, t7 = IntKind.wrap .u64 (0 - t6) ∧ Calls P 97 ⟨[(.int .u64 t7)]⟩ wv fun e wv_1 =>
 ∃ (t8_p : Option Addr) (t8_n : Nat) (t8_c : Nat), e = .returned (.slice t8_p t8_n t8_c) ∧
 ∃ wv_2, Stores P 30 ⟨r, 0, none⟩ (.agg #[(.bool true), (.slice t8_p t8_n t8_c)]) wv_1 wv_2 ∧
 ∃ (r0 : Bool) (r1_p : Option Addr) (r1_n : Nat) (r1_c : Nat), Loads P 30 ⟨r, 0, none⟩ (.agg #[(.bool r0), (.slice r1_p r1_n r1_c)]) wv_2 ∧ R (.agg #[(.bool r0), (.slice r1_p r1_n r1_c)]) wv_2) ∧
 ((decide ((n : Int) < 0)) = false →
 ∃ t11 : Int, t11 = IntKind.wrap .u64 n ∧ Calls P 97 ⟨[(.int .u64 t11)]⟩ wv fun e_1 wv_3 =>
 ∃ (t12_p : Option Addr) (t12_n : Nat) (t12_c : Nat), e_1 = .returned (.slice t12_p t12_n t12_c) ∧
 ∃ wv_4, Stores P 30 ⟨r, 0, none⟩ (.agg #[(.bool false), (.slice t12_p t12_n t12_c)]) wv_3 wv_4 ∧
 ∃ (r0_1 : Bool) (r1_p_1 : Option Addr) (r1_n_1 : Nat) (r1_c_1 : Nat), Loads P 30 ⟨r, 0, none⟩ (.agg #[(.bool r0_1), (.slice r1_p_1 r1_n_1 r1_c_1)]) wv_4 ∧ R (.agg #[(.bool r0_1), (.slice r1_p_1 r1_n_1 r1_c_1)]) wv_4)
theorem impl_IntOf_ret {n : Int} {w : World} {R : Value → World → Prop} (h : impl_IntOf n w R) : Ret P 127 [(.int .i64 n)] w R :=
  Ret.of_fsem Tryz.func127 rfl (Eq.mp (show _ = fsem P Tryz.f127 (fun k => []) _ R w from by kernel_rfl) h)
def impl_RatOk_j0 (r : Nat) (W : World) (R : Value → World → Prop) : Prop :=
 ∃ (t35_p : Option Addr) (t35_n : Nat) (t35_c : Nat), Loads P 23 (((⟨r, 0, none⟩ : Addr).add 0).add 1) (.slice t35_p t35_n t35_c) W ∧ ∃ (t37_p : Option Addr) (t37_n : Nat) (t37_c : Nat), Loads P 23 ((⟨r, 0, none⟩ : Addr).add 2) (.slice t37_p t37_n t37_c) W ∧ Calls P 129 ⟨[(.slice t35_p t35_n t35_c), (.slice t37_p t37_n t37_c)]⟩ W fun e_1 wv_2 =>
 ∃ (t38_p : Option Addr) (t38_n : Nat) (t38_c : Nat), e_1 = .returned (.slice t38_p t38_n t38_c) ∧
 ((decide ((((t38_n : Nat) : Int) : Int) = 1)) = true →
 (0 ≤ (0 : Int) ∧ (0 : Int) < (t38_n : Nat)) ∧ ptrS t38_p fun ad => ∃ (t45 : Int), Loads P 3 (ad.add (0 * 1)) (.int .i64 t45) wv_2 ∧ R (.bool (decide ((t45 : Int) = 1))) wv_2) ∧
 ((decide ((((t38_n : Nat) : Int) : Int) = 1)) = false →
 R (.bool false) wv_2)
def impl_RatOk (r0 : Bool) (r1_p : Option Addr) (r1_n : Nat) (r1_c : Nat) (r2_p : Option Addr) (r2_n : Nat) (r2_c : Nat) (w : World) (R : Value → World → Prop) : Prop :=
 ∀ (r : Nat) (wv : World), New w (.cells ⟨[(.bool r0), (.slice r1_p r1_n r1_c), (.slice r2_p r2_n r2_c)]⟩ 34 (0, 0)) r wv →
 ∃ (t50 : Bool) (t51_p : Option Addr) (t51_n : Nat) (t51_c : Nat), Loads P 30 ((⟨r, 0, none⟩ : Addr).add 0) (.agg #[(.bool t50), (.slice t51_p t51_n t51_c)]) wv ∧ Calls P 59 ⟨[(.agg #[(.bool t50), (.slice t51_p t51_n t51_c)])]⟩ wv fun e wv_1 =>
 ∃ (t6 : Bool), e = .returned (.bool t6) ∧
 ((!t6) = true →
 (true = true →
 (true = true →
 (true = true →
 (true = true →
 R (.bool false) wv_1) ∧
 (true = false →
 impl_RatOk_j0 r wv_1 R)) ∧
 (true = false →
 ∃ (t29_p : Option Addr) (t29_n : Nat) (t29_c : Nat), Loads P 23 (((⟨r, 0, none⟩ : Addr).add 0).add 1) (.slice t29_p t29_n t29_c) wv_1 ∧ ((decide ((18 : Int) < ((t29_n : Nat) : Int))) = true →
 R (.bool false) wv_1) ∧
 ((decide ((18 : Int) < ((t29_n : Nat) : Int))) = false →
 impl_RatOk_j0 r wv_1 R))) ∧
 (true = false →
 ∃ (t22_p : Option Addr) (t22_n : Nat) (t22_c : Nat), Loads P 23 ((⟨r, 0, none⟩ : Addr).add 2) (.slice t22_p t22_n t22_c) wv_1 ∧ ((decide ((18 : Int) < ((t22_n : Nat) : Int))) = true →
 (true = true →
 R (.bool false) wv_1) ∧
 (true = false →
 impl_RatOk_j0 r wv_1 R)) ∧
 ((decide ((18 : Int) < ((t22_n : Nat) : Int))) = false →
 ∃ (t29_p_1 : Option Addr) (t29_n_1 : Nat) (t29_c_1 : Nat), Loads P 23 (((⟨r, 0, none⟩ : Addr).add 0).add 1) (.slice t29_p_1 t29_n_1 t29_c_1) wv_1 ∧ ((decide ((18 : Int) < ((t29_n_1 : Nat) : Int))) = true →
 R (.bool false) wv_1) ∧
 ((decide ((18 : Int) < ((t29_n_1 : Nat) : Int))) = false →
 impl_RatOk_j0 r wv_1 R)))) ∧
 (true = false →
 ∃ (t16_p : Option Addr) (t16_n : Nat) (t16_c : Nat), Loads P 23 ((⟨r, 0, none⟩ : Addr).add 2) (.slice t16_p t16_n t16_c) wv_1 ∧ ((decide ((((t16_n : Nat) : Int) : Int) = 0)) = true →
 (true = true →
 (true = true →
 R (.bool false) wv_1) ∧
 (true = false →
 impl_RatOk_j0 r wv_1 R)) ∧
 (true = false →
 ∃ (t29_p_2 : Option Addr) (t29_n_2 : Nat) (t29_c_2 : Nat), Loads P 23 (((⟨r, 0, none⟩ : Addr).add 0).add 1) (.slice t29_p_2 t29_n_2 t29_c_2) wv_1 ∧ ((decide ((18 : Int) < ((t29_n_2 : Nat) : Int))) = true →
 R (.bool false) wv_1) ∧
 ((decide ((18 : Int) < ((t29_n_2 : Nat) : Int))) = false →
 impl_RatOk_j0 r wv_1 R))) ∧
 ((decide ((((t16_n : Nat) : Int) : Int) = 0)) = false →
 ∃ (t22_p_1 : Option Addr) (t22_n_1 : Nat) (t22_c_1 : Nat), Loads P 23 ((⟨r, 0, none⟩ : Addr).add 2) (.slice t22_p_1 t22_n_1 t22_c_1) wv_1 ∧ ((decide ((18 : Int) < ((t22_n_1 : Nat) : Int))) = true →
 (true = true →
 R (.bool false) wv_1) ∧
 (true = false →
 impl_RatOk_j0 r wv_1 R)) ∧
 ((decide ((18 : Int) < ((t22_n_1 : Nat) : Int))) = false →
 ∃ (t29_p_3 : Option Addr) (t29_n_3 : Nat) (t29_c_3 : Nat), Loads P 23 (((⟨r, 0, none⟩ : Addr).add 0).add 1) (.slice t29_p_3 t29_n_3 t29_c_3) wv_1 ∧ ((decide ((18 : Int) < ((t29_n_3 : Nat) : Int))) = true →
 R (.bool false) wv_1) ∧
 ((decide ((18 : Int) < ((t29_n_3 : Nat) : Int))) = false →
 impl_RatOk_j0 r wv_1 R))))) ∧
 ((!t6) = false →
 ∃ (t10_p : Option Addr) (t10_n : Nat) (t10_c : Nat), Loads P 23 ((⟨r, 0, none⟩ : Addr).add 2) (.slice t10_p t10_n t10_c) wv_1 ∧ Calls P 94 ⟨[(.slice t10_p t10_n t10_c)]⟩ wv_1 fun e_2 wv_3 =>
 ∃ (t11 : Bool), e_2 = .returned (.bool t11) ∧
 ((!t11) = true →
 (true = true →
 (true = true →
 (true = true →
 R (.bool false) wv_3) ∧
 (true = false →
 impl_RatOk_j0 r wv_3 R)) ∧
 (true = false →
 ∃ (t29_p_4 : Option Addr) (t29_n_4 : Nat) (t29_c_4 : Nat), Loads P 23 (((⟨r, 0, none⟩ : Addr).add 0).add 1) (.slice t29_p_4 t29_n_4 t29_c_4) wv_3 ∧ ((decide ((18 : Int) < ((t29_n_4 : Nat) : Int))) = true →
 R (.bool false) wv_3) ∧
 ((decide ((18 : Int) < ((t29_n_4 : Nat) : Int))) = false →
 impl_RatOk_j0 r wv_3 R))) ∧
 (true = false →
 ∃ (t22_p_2 : Option Addr) (t22_n_2 : Nat) (t22_c_2 : Nat), Loads P 23 ((⟨r, 0, none⟩ : Addr).add 2) (.slice t22_p_2 t22_n_2 t22_c_2) wv_3 ∧ ((decide ((18 : Int) < ((t22_n_2 : Nat) : Int))) = true →
 (true = true →
 R (.bool false) wv_3) ∧
 (true = false →
 impl_RatOk_j0 r wv_3 R)) ∧
 ((decide ((18 : Int) < ((t22_n_2 : Nat) : Int))) = false →
 ∃ (t29_p_5 : Option Addr) (t29_n_5 : Nat) (t29_c_5 : Nat), Loads P 23 (((⟨r, 0, none⟩ : Addr).add 0).add 1) (.slice t29_p_5 t29_n_5 t29_c_5) wv_3 ∧ ((decide ((18 : Int) < ((t29_n_5 : Nat) : Int))) = true →
 R (.bool false) wv_3) ∧
 ((decide ((18 : Int) < ((t29_n_5 : Nat) : Int))) = false →
 impl_RatOk_j0 r wv_3 R)))) ∧
 ((!t11) = false →
 ∃ (t16_p_1 : Option Addr) (t16_n_1 : Nat) (t16_c_1 : Nat), Loads P 23 ((⟨r, 0, none⟩ : Addr).add 2) (.slice t16_p_1 t16_n_1 t16_c_1) wv_3 ∧ ((decide ((((t16_n_1 : Nat) : Int) : Int) = 0)) = true →
 (true = true →
 (true = true →
 R (.bool false) wv_3) ∧
 (true = false →
 impl_RatOk_j0 r wv_3 R)) ∧
 (true = false →
 ∃ (t29_p_6 : Option Addr) (t29_n_6 : Nat) (t29_c_6 : Nat), Loads P 23 (((⟨r, 0, none⟩ : Addr).add 0).add 1) (.slice t29_p_6 t29_n_6 t29_c_6) wv_3 ∧ ((decide ((18 : Int) < ((t29_n_6 : Nat) : Int))) = true →
 R (.bool false) wv_3) ∧
 ((decide ((18 : Int) < ((t29_n_6 : Nat) : Int))) = false →
 impl_RatOk_j0 r wv_3 R))) ∧
 ((decide ((((t16_n_1 : Nat) : Int) : Int) = 0)) = false →
 ∃ (t22_p_3 : Option Addr) (t22_n_3 : Nat) (t22_c_3 : Nat), Loads P 23 ((⟨r, 0, none⟩ : Addr).add 2) (.slice t22_p_3 t22_n_3 t22_c_3) wv_3 ∧ ((decide ((18 : Int) < ((t22_n_3 : Nat) : Int))) = true →
 (true = true →
 R (.bool false) wv_3) ∧
 (true = false →
 impl_RatOk_j0 r wv_3 R)) ∧
 ((decide ((18 : Int) < ((t22_n_3 : Nat) : Int))) = false →
 ∃ (t29_p_7 : Option Addr) (t29_n_7 : Nat) (t29_c_7 : Nat), Loads P 23 (((⟨r, 0, none⟩ : Addr).add 0).add 1) (.slice t29_p_7 t29_n_7 t29_c_7) wv_3 ∧ ((decide ((18 : Int) < ((t29_n_7 : Nat) : Int))) = true →
 R (.bool false) wv_3) ∧
 ((decide ((18 : Int) < ((t29_n_7 : Nat) : Int))) = false →
 impl_RatOk_j0 r wv_3 R)))))
theorem impl_RatOk_ret {r0 : Bool} {r1_p : Option Addr} {r1_n : Nat} {r1_c : Nat} {r2_p : Option Addr} {r2_n : Nat} {r2_c : Nat} {w : World} {R : Value → World → Prop} (h : impl_RatOk r0 r1_p r1_n r1_c r2_p r2_n r2_c w R) : Ret P 128 [(.agg #[(.bool r0), (.slice r1_p r1_n r1_c), (.slice r2_p r2_n r2_c)])] w R :=
  Ret.of_fsem Tryz.func128 rfl (Eq.mp (show _ = fsem P Tryz.f128 (fun k => []) _ R w from by kernel_rfl) h)
end Go.Proofs.YtmajiilehdpdmaaGreatDoor
