/-
  Parts of the proof of restsAdd_holds: G4, G5, G6, G7, G8, G9, G10.
  Conditions: none.
-/
import Derived.Test.YtfehpaekbbmkcaaGreatDoorRs1

namespace Go.Proofs.YtfehpaekbbmkcaaGreatDoor
open Go Go.Proofs.YtfehpaekbbmkcaaGreatDoor.Sx
set_option linter.unusedVariables false
set_option maxRecDepth 100000
def spec_RatAdd_j0 (r : Nat) (r_1 : Nat) (r_2 : Nat) (W : World) (R : Value → World → Prop) : Prop :=
  ∃ (t20 : Bool), (∀ wv_5, Ext W.drew wv_5 → Loads P 4 (((⟨r, 0, none⟩ : Addr).add 0).add 0) (.bool t20) wv_5) ∧ ∃ (t23_p : Option Addr) (t23_n : Nat) (t23_c : Nat), (∀ wv_6, Ext W.drew wv_6 → Loads P 22 (((⟨r, 0, none⟩ : Addr).add 0).add 1) (.slice t23_p t23_n t23_c) wv_6) ∧ ∃ (t25_p : Option Addr) (t25_n : Nat) (t25_c : Nat), (∀ wv_7, Ext W.drew wv_7 → Loads P 22 ((⟨r_1, 0, none⟩ : Addr).add 2) (.slice t25_p t25_n t25_c) wv_7) ∧ ∀ (ss : List (Option Nat)) (wv_8 : World), Fl [.cells ⟨[(.bool false), (.slice none 0 0)]⟩ 31 (0, 0)] [none] W.drew ss wv_8 →
  Calls P 175 ⟨[(.slice t23_p t23_n t23_c), (.slice t25_p t25_n t25_c)]⟩ wv_8 fun e_1 wv_9 =>
  ∃ (t26_p : Option Addr) (t26_n : Nat) (t26_c : Nat), e_1 = .returned (.slice t26_p t26_n t26_c) ∧
  Ext wv_8 wv_9 ∧ ∀ (ss_1 : List (Option Nat)) (wv_10 : World), Fl [.cells ⟨[(.bool false), (.slice none 0 0)]⟩ 31 (0, 0)] ss wv_9 ss_1 wv_10 →
  Calls P 113 ⟨[(.bool t20), (.slice t26_p t26_n t26_c)]⟩ wv_10 fun e_2 wv_11 =>
  ∃ (t270 : Bool) (t271_p : Option Addr) (t271_n : Nat) (t271_c : Nat), e_2 = .returned (.agg #[(.bool t270), (.slice t271_p t271_n t271_c)]) ∧
  ∀ (ss_2 : List (Option Nat)) (wv_12 : World) (r_3 : Nat), Fl [.cells ⟨[(.bool false), (.slice none 0 0)]⟩ 31 (0, 0)] ss_1 wv_11 ss_2 wv_12 → ss_2[0]? = some (some r_3) →
  ∃ wv_13, Stores P 31 ⟨r_3, 0, none⟩ (.agg #[(.bool t270), (.slice t271_p t271_n t271_c)]) wv_12 wv_13 ∧
  ∃ (t30 : Bool), (∀ wv_14, Ext wv_13.drew wv_14 → Loads P 4 (((⟨r_1, 0, none⟩ : Addr).add 0).add 0) (.bool t30) wv_14) ∧ ∃ (t33_p : Option Addr) (t33_n : Nat) (t33_c : Nat), (∀ wv_15, Ext wv_13.drew wv_15 → Loads P 22 (((⟨r_1, 0, none⟩ : Addr).add 0).add 1) (.slice t33_p t33_n t33_c) wv_15) ∧ ∃ (t35_p : Option Addr) (t35_n : Nat) (t35_c : Nat), (∀ wv_16, Ext wv_13.drew wv_16 → Loads P 22 ((⟨r, 0, none⟩ : Addr).add 2) (.slice t35_p t35_n t35_c) wv_16) ∧ ∀ (ss_3 : List (Option Nat)) (wv_17 : World), Fl [.cells ⟨[(.bool false), (.slice none 0 0)]⟩ 31 (0, 0)] [none] wv_13.drew ss_3 wv_17 →
  Calls P 175 ⟨[(.slice t33_p t33_n t33_c), (.slice t35_p t35_n t35_c)]⟩ wv_17 fun e_3 wv_18 =>
  ∃ (t36_p : Option Addr) (t36_n : Nat) (t36_c : Nat), e_3 = .returned (.slice t36_p t36_n t36_c) ∧
  Ext wv_17 wv_18 ∧ ∀ (ss_4 : List (Option Nat)) (wv_19 : World), Fl [.cells ⟨[(.bool false), (.slice none 0 0)]⟩ 31 (0, 0)] ss_3 wv_18 ss_4 wv_19 →
  Calls P 113 ⟨[(.bool t30), (.slice t36_p t36_n t36_c)]⟩ wv_19 fun e_4 wv_20 =>
  ∃ (t370 : Bool) (t371_p : Option Addr) (t371_n : Nat) (t371_c : Nat), e_4 = .returned (.agg #[(.bool t370), (.slice t371_p t371_n t371_c)]) ∧
  ∀ (ss_5 : List (Option Nat)) (wv_21 : World) (r_4 : Nat), Fl [.cells ⟨[(.bool false), (.slice none 0 0)]⟩ 31 (0, 0)] ss_4 wv_20 ss_5 wv_21 → ss_5[0]? = some (some r_4) →
  ∃ wv_22, Stores P 31 ⟨r_4, 0, none⟩ (.agg #[(.bool t370), (.slice t371_p t371_n t371_c)]) wv_21 wv_22 ∧
  ∃ (t380 : Bool) (t381_p : Option Addr) (t381_n : Nat) (t381_c : Nat), Loads P 31 ⟨r_3, 0, none⟩ (.agg #[(.bool t380), (.slice t381_p t381_n t381_c)]) wv_22 ∧ ∃ (t390 : Bool) (t391_p : Option Addr) (t391_n : Nat) (t391_c : Nat), Loads P 31 ⟨r_4, 0, none⟩ (.agg #[(.bool t390), (.slice t391_p t391_n t391_c)]) wv_22 ∧ Calls P 176 ⟨[(.agg #[(.bool t380), (.slice t381_p t381_n t381_c)]), (.agg #[(.bool t390), (.slice t391_p t391_n t391_c)])]⟩ wv_22 fun e_5 wv_23 =>
  ∃ (t400 : Bool) (t401_p : Option Addr) (t401_n : Nat) (t401_c : Nat), e_5 = .returned (.agg #[(.bool t400), (.slice t401_p t401_n t401_c)]) ∧
  ∀ (r_5 : Nat) (wv_24 : World), New wv_23 (.cells ⟨[(.bool false), (.slice none 0 0)]⟩ 31 (0, 0)) r_5 wv_24 →
  ∃ wv_25, Stores P 31 ⟨r_5, 0, none⟩ (.agg #[(.bool t400), (.slice t401_p t401_n t401_c)]) wv_24 wv_25 ∧
  ∃ (t42 : Bool), (∀ wv_26, Ext wv_25.drew wv_26 → Loads P 4 ((⟨r_5, 0, none⟩ : Addr).add 0) (.bool t42) wv_26) ∧ ∃ (t44_p : Option Addr) (t44_n : Nat) (t44_c : Nat), (∀ wv_27, Ext wv_25.drew wv_27 → Loads P 22 ((⟨r_5, 0, none⟩ : Addr).add 1) (.slice t44_p t44_n t44_c) wv_27) ∧ ∃ (t46_p : Option Addr) (t46_n : Nat) (t46_c : Nat), (∀ wv_28, Ext wv_25.drew wv_28 → Loads P 22 ((⟨r, 0, none⟩ : Addr).add 2) (.slice t46_p t46_n t46_c) wv_28) ∧ ∃ (t48_p : Option Addr) (t48_n : Nat) (t48_c : Nat), (∀ wv_29, Ext wv_25.drew wv_29 → Loads P 22 ((⟨r_1, 0, none⟩ : Addr).add 2) (.slice t48_p t48_n t48_c) wv_29) ∧ Calls P 175 ⟨[(.slice t46_p t46_n t46_c), (.slice t48_p t48_n t48_c)]⟩ wv_25.drew fun e_6 wv_30 =>
  ∃ (t49_p : Option Addr) (t49_n : Nat) (t49_c : Nat), e_6 = .returned (.slice t49_p t49_n t49_c) ∧
  Ext wv_25.drew wv_30 ∧ Calls P 177 ⟨[(.bool t42), (.slice t44_p t44_n t44_c), (.slice t49_p t49_n t49_c)]⟩ wv_30 fun e_7 wv_31 =>
  ∃ (t500 : Bool) (t501_p : Option Addr) (t501_n : Nat) (t501_c : Nat) (t502_p : Option Addr) (t502_n : Nat) (t502_c : Nat) (t50 : Bool), e_7 = .returned (.tuple #[(.agg #[(.bool t500), (.slice t501_p t501_n t501_c), (.slice t502_p t502_n t502_c)]), (.bool t50)]) ∧
  ∃ wv_32, Stores P 53 ⟨r_2, 0, none⟩ (.agg #[(.bool t500), (.slice t501_p t501_n t501_c), (.slice t502_p t502_n t502_c)]) wv_31 wv_32 ∧
  ∃ (r0_2 : Bool) (r1_p_2 : Option Addr) (r1_n_2 : Nat) (r1_c_2 : Nat) (r2_p_2 : Option Addr) (r2_n_2 : Nat) (r2_c_2 : Nat), Loads P 53 ⟨r_2, 0, none⟩ (.agg #[(.bool r0_2), (.slice r1_p_2 r1_n_2 r1_c_2), (.slice r2_p_2 r2_n_2 r2_c_2)]) wv_32 ∧ R (.tuple #[(.agg #[(.bool r0_2), (.slice r1_p_2 r1_n_2 r1_c_2), (.slice r2_p_2 r2_n_2 r2_c_2)]), (.bool t50)]) wv_32
def spec_RatAdd (r0 : Bool) (r1_p : Option Addr) (r1_n : Nat) (r1_c : Nat) (r2_p : Option Addr) (r2_n : Nat) (r2_c : Nat) (s0 : Bool) (s1_p : Option Addr) (s1_n : Nat) (s1_c : Nat) (s2_p : Option Addr) (s2_n : Nat) (s2_c : Nat) (w : World) (R : Value → World → Prop) : Prop :=
  ∀ (r : Nat) (wv : World), New w (.cells ⟨[(.bool r0), (.slice r1_p r1_n r1_c), (.slice r2_p r2_n r2_c)]⟩ 53 (0, 0)) r wv →
  ∀ (r_1 : Nat) (wv_1 : World), New wv (.cells ⟨[(.bool s0), (.slice s1_p s1_n s1_c), (.slice s2_p s2_n s2_c)]⟩ 53 (0, 0)) r_1 wv_1 →
  ∀ (r_2 : Nat) (wv_2 : World), New wv_1 (.cells ⟨[(.bool false), (.slice none 0 0), (.slice none 0 0)]⟩ 53 (0, 0)) r_2 wv_2 →
  ∃ (t90 : Bool) (t91_p : Option Addr) (t91_n : Nat) (t91_c : Nat) (t92_p : Option Addr) (t92_n : Nat) (t92_c : Nat), Loads P 53 ⟨r, 0, none⟩ (.agg #[(.bool t90), (.slice t91_p t91_n t91_c), (.slice t92_p t92_n t92_c)]) wv_2 ∧ Calls P 174 ⟨[(.agg #[(.bool t90), (.slice t91_p t91_n t91_c), (.slice t92_p t92_n t92_c)])]⟩ wv_2 fun e wv_3 =>
  ∃ (t10 : Bool), e = .returned (.bool t10) ∧
  ((!t10) = true →
    (true = true →
      ∃ wv_4, Stores P 53 ⟨r_2, 0, none⟩ (.agg #[(.bool false), (.slice none 0 0), (.slice none 0 0)]) wv_3 wv_4 ∧
      ∃ (r0_1 : Bool) (r1_p_1 : Option Addr) (r1_n_1 : Nat) (r1_c_1 : Nat) (r2_p_1 : Option Addr) (r2_n_1 : Nat) (r2_c_1 : Nat), Loads P 53 ⟨r_2, 0, none⟩ (.agg #[(.bool r0_1), (.slice r1_p_1 r1_n_1 r1_c_1), (.slice r2_p_1 r2_n_1 r2_c_1)]) wv_4 ∧ R (.tuple #[(.agg #[(.bool r0_1), (.slice r1_p_1 r1_n_1 r1_c_1), (.slice r2_p_1 r2_n_1 r2_c_1)]), (.bool false)]) wv_4) ∧
    (true = false →
      spec_RatAdd_j0 r r_1 r_2 wv_3 R)) ∧
  ((!t10) = false →
    ∃ (t130 : Bool) (t131_p : Option Addr) (t131_n : Nat) (t131_c : Nat) (t132_p : Option Addr) (t132_n : Nat) (t132_c : Nat), Loads P 53 ⟨r_1, 0, none⟩ (.agg #[(.bool t130), (.slice t131_p t131_n t131_c), (.slice t132_p t132_n t132_c)]) wv_3 ∧ Calls P 174 ⟨[(.agg #[(.bool t130), (.slice t131_p t131_n t131_c), (.slice t132_p t132_n t132_c)])]⟩ wv_3 fun e_8 wv_33 =>
    ∃ (t14 : Bool), e_8 = .returned (.bool t14) ∧
    ((!t14) = true →
      ∃ wv_34, Stores P 53 ⟨r_2, 0, none⟩ (.agg #[(.bool false), (.slice none 0 0), (.slice none 0 0)]) wv_33 wv_34 ∧
      ∃ (r0_3 : Bool) (r1_p_3 : Option Addr) (r1_n_3 : Nat) (r1_c_3 : Nat) (r2_p_3 : Option Addr) (r2_n_3 : Nat) (r2_c_3 : Nat), Loads P 53 ⟨r_2, 0, none⟩ (.agg #[(.bool r0_3), (.slice r1_p_3 r1_n_3 r1_c_3), (.slice r2_p_3 r2_n_3 r2_c_3)]) wv_34 ∧ R (.tuple #[(.agg #[(.bool r0_3), (.slice r1_p_3 r1_n_3 r1_c_3), (.slice r2_p_3 r2_n_3 r2_c_3)]), (.bool false)]) wv_34) ∧
    ((!t14) = false →
      spec_RatAdd_j0 r r_1 r_2 wv_33 R))
theorem spec_RatAdd_eq (r0 : Bool) (r1_p : Option Addr) (r1_n : Nat) (r1_c : Nat) (r2_p : Option Addr) (r2_n : Nat) (r2_c : Nat) (s0 : Bool) (s1_p : Option Addr) (s1_n : Nat) (s1_c : Nat) (s2_p : Option Addr) (s2_n : Nat) (s2_c : Nat) (w : World) (R : Value → World → Prop) : spec_RatAdd r0 r1_p r1_n r1_c r2_p r2_n r2_c s0 s1_p s1_n s1_c s2_p s2_n s2_c w R = fsem P Tryz.f77 (fun k => []) [(.agg #[(.bool r0), (.slice r1_p r1_n r1_c), (.slice r2_p r2_n r2_c)]), (.agg #[(.bool s0), (.slice s1_p s1_n s1_c), (.slice s2_p s2_n s2_c)])] R w := by kernel_rfl
theorem spec_RatAdd_ret {r0 : Bool} {r1_p : Option Addr} {r1_n : Nat} {r1_c : Nat} {r2_p : Option Addr} {r2_n : Nat} {r2_c : Nat} {s0 : Bool} {s1_p : Option Addr} {s1_n : Nat} {s1_c : Nat} {s2_p : Option Addr} {s2_n : Nat} {s2_c : Nat} {w : World} {R : Value → World → Prop} (h : spec_RatAdd r0 r1_p r1_n r1_c r2_p r2_n r2_c s0 s1_p s1_n s1_c s2_p s2_n s2_c w R) : Ret P 77 [(.agg #[(.bool r0), (.slice r1_p r1_n r1_c), (.slice r2_p r2_n r2_c)]), (.agg #[(.bool s0), (.slice s1_p s1_n s1_c), (.slice s2_p s2_n s2_c)])] w R :=
  Ret.of_fsem Tryz.func77 rfl (Eq.mp (spec_RatAdd_eq r0 r1_p r1_n r1_c r2_p r2_n r2_c s0 s1_p s1_n s1_c s2_p s2_n s2_c w R) h)
def spec_RestOf (l_p : Option Addr) (l_n : Nat) (l_c : Nat) (cur : ByteArray) (w : World) (R : Value → World → Prop) : Prop :=
  ∀ (r : Nat) (wv : World), New w (.cells ⟨[(.bool false), (.slice none 0 0), (.slice none 0 0)]⟩ 53 (0, 0)) r wv →
  ∃ (Inv : Int → World → Prop) (mu : Int → World → Nat), Inv 0 wv ∧
  ∀ (junk : Fr) (wv_1 : World) (t9 : Int), Inv t9 wv_1 →
    ((decide ((t9 : Int) < ((l_n : Nat) : Int))) = true →
      (0 ≤ (t9 : Int) ∧ (t9 : Int) < (l_n : Nat)) ∧ ptrS l_p fun ad => ∃ (t120 : ByteArray) (t121 : Bool) (t122_p : Option Addr) (t122_n : Nat) (t122_c : Nat) (t123_p : Option Addr) (t123_n : Nat) (t123_c : Nat), Loads P 117 (ad.add (t9.toNat * 4)) (.agg #[(.string t120), (.bool t121), (.slice t122_p t122_n t122_c), (.slice t123_p t123_n t123_c)]) wv_1 ∧ ∀ (r_1 : Nat) (wv_2 : World), New wv_1 (.cells ⟨[(.string ByteArray.empty), (.bool false), (.slice none 0 0), (.slice none 0 0)]⟩ 117 (0, 0)) r_1 wv_2 →
      ∃ wv_3, Stores P 117 ⟨r_1, 0, none⟩ (.agg #[(.string t120), (.bool t121), (.slice t122_p t122_n t122_c), (.slice t123_p t123_n t123_c)]) wv_2 wv_3 ∧
      ∃ (t14 : ByteArray), Loads P 9 ((⟨r_1, 0, none⟩ : Addr).add 0) (.string t14) wv_3 ∧ ((decide (t14 = cur)) = true →
        ∃ (t180 : Bool) (t181_p : Option Addr) (t181_n : Nat) (t181_c : Nat) (t182_p : Option Addr) (t182_n : Nat) (t182_c : Nat), Loads P 53 ((⟨r_1, 0, none⟩ : Addr).add 1) (.agg #[(.bool t180), (.slice t181_p t181_n t181_c), (.slice t182_p t182_n t182_c)]) wv_3 ∧ Calls P 178 ⟨[(.agg #[(.bool t180), (.slice t181_p t181_n t181_c), (.slice t182_p t182_n t182_c)])]⟩ wv_3 fun e wv_4 =>
        ∃ (t190 : Bool) (t191_p : Option Addr) (t191_n : Nat) (t191_c : Nat) (t192_p : Option Addr) (t192_n : Nat) (t192_c : Nat), e = .returned (.agg #[(.bool t190), (.slice t191_p t191_n t191_c), (.slice t192_p t192_n t192_c)]) ∧
        ∃ wv_5, Stores P 53 ⟨r, 0, none⟩ (.agg #[(.bool t190), (.slice t191_p t191_n t191_c), (.slice t192_p t192_n t192_c)]) wv_4 wv_5 ∧
        ∃ (r0 : Bool) (r1_p : Option Addr) (r1_n : Nat) (r1_c : Nat) (r2_p : Option Addr) (r2_n : Nat) (r2_c : Nat), Loads P 53 ⟨r, 0, none⟩ (.agg #[(.bool r0), (.slice r1_p r1_n r1_c), (.slice r2_p r2_n r2_c)]) wv_5 ∧ R (.agg #[(.bool r0), (.slice r1_p r1_n r1_c), (.slice r2_p r2_n r2_c)]) wv_5) ∧
      ((decide (t14 = cur)) = false →
        ∃ t20 : Int, t20 = IntKind.wrap .i64 (t9 + 1) ∧ Inv t20 wv_3 ∧ mu t20 wv_3 < mu t9 wv_1)) ∧
    ((decide ((t9 : Int) < ((l_n : Nat) : Int))) = false →
      Calls P 157 ⟨[]⟩ wv_1 fun e_1 wv_6 =>
      ∃ (t210 : Bool) (t211_p : Option Addr) (t211_n : Nat) (t211_c : Nat) (t212_p : Option Addr) (t212_n : Nat) (t212_c : Nat), e_1 = .returned (.agg #[(.bool t210), (.slice t211_p t211_n t211_c), (.slice t212_p t212_n t212_c)]) ∧
      ∃ wv_7, Stores P 53 ⟨r, 0, none⟩ (.agg #[(.bool t210), (.slice t211_p t211_n t211_c), (.slice t212_p t212_n t212_c)]) wv_6 wv_7 ∧
      ∃ (r0_1 : Bool) (r1_p_1 : Option Addr) (r1_n_1 : Nat) (r1_c_1 : Nat) (r2_p_1 : Option Addr) (r2_n_1 : Nat) (r2_c_1 : Nat), Loads P 53 ⟨r, 0, none⟩ (.agg #[(.bool r0_1), (.slice r1_p_1 r1_n_1 r1_c_1), (.slice r2_p_1 r2_n_1 r2_c_1)]) wv_7 ∧ R (.agg #[(.bool r0_1), (.slice r1_p_1 r1_n_1 r1_c_1), (.slice r2_p_1 r2_n_1 r2_c_1)]) wv_7)
theorem spec_RestOf_eq (l_p : Option Addr) (l_n : Nat) (l_c : Nat) (cur : ByteArray) (w : World) (R : Value → World → Prop) : spec_RestOf l_p l_n l_c cur w R = fsem P Tryz.f78 (fun k => cond (Nat.beq k 3) [(9, .one (.int .i64))] ([])) [(.slice l_p l_n l_c), (.string cur)] R w := by kernel_rfl
theorem spec_RestOf_ret {l_p : Option Addr} {l_n : Nat} {l_c : Nat} {cur : ByteArray} {w : World} {R : Value → World → Prop} (h : spec_RestOf l_p l_n l_c cur w R) : Ret P 78 [(.slice l_p l_n l_c), (.string cur)] w R :=
  Ret.of_fsem Tryz.func78 rfl (Eq.mp (spec_RestOf_eq l_p l_n l_c cur w R) h)
def spec_RestsOk (l_p : Option Addr) (l_n : Nat) (l_c : Nat) (w : World) (R : Value → World → Prop) : Prop :=
  ∃ (Inv : Int → World → Prop) (mu : Int → World → Nat), Inv 0 w ∧
  ∀ (junk : Fr) (wv : World) (t7 : Int), Inv t7 wv →
    ((decide ((t7 : Int) < ((l_n : Nat) : Int))) = true →
      (0 ≤ (t7 : Int) ∧ (t7 : Int) < (l_n : Nat)) ∧ ptrS l_p fun ad => ∃ (t110 : ByteArray) (t111 : Bool) (t112_p : Option Addr) (t112_n : Nat) (t112_c : Nat) (t113_p : Option Addr) (t113_n : Nat) (t113_c : Nat), Loads P 117 (ad.add (t7.toNat * 4)) (.agg #[(.string t110), (.bool t111), (.slice t112_p t112_n t112_c), (.slice t113_p t113_n t113_c)]) wv ∧ ∀ (r : Nat) (wv_1 : World), New wv (.cells ⟨[(.string ByteArray.empty), (.bool false), (.slice none 0 0), (.slice none 0 0)]⟩ 117 (0, 0)) r wv_1 →
      ∃ wv_2, Stores P 117 ⟨r, 0, none⟩ (.agg #[(.string t110), (.bool t111), (.slice t112_p t112_n t112_c), (.slice t113_p t113_n t113_c)]) wv_1 wv_2 ∧
      ∃ (t13 : ByteArray), (∀ wv_3, Ext wv_2.drew wv_3 → Loads P 9 ((⟨r, 0, none⟩ : Addr).add 0) (.string t13) wv_3) ∧ Calls P 80 ⟨[(.string t13)]⟩ wv_2.drew fun e wv_4 =>
      ∃ (t14 : Bool), e = .returned (.bool t14) ∧
      ((!t14) = true →
        (true = true →
          (true = true →
            (true = true →
              R (.bool false) wv_4) ∧
            (true = false →
              ∃ t43 : Int, t43 = IntKind.wrap .i64 (t7 + 1) ∧ Inv t43 wv_4 ∧ mu t43 wv_4 < mu t7 wv)) ∧
          (true = false →
            ((decide ((0 : Int) < t7)) = true →
              ∃ t34 : Int, t34 = IntKind.wrap .i64 (t7 - 1) ∧ (0 ≤ (t34 : Int) ∧ (t34 : Int) < (l_n : Nat)) ∧ ptrS l_p fun ad_1 => ∃ (t37 : ByteArray), (∀ wv_5, Ext wv_4 wv_5 → Loads P 9 ((ad_1.add (t34.toNat * 4)).add 0) (.string t37) wv_5) ∧ ∃ (t39 : ByteArray), (∀ wv_6, Ext wv_4 wv_6 → Loads P 9 ((⟨r, 0, none⟩ : Addr).add 0) (.string t39) wv_6) ∧ ((!(Op.bytesLess t37.toList t39.toList)) = true →
                R (.bool false) wv_4) ∧
              ((!(Op.bytesLess t37.toList t39.toList)) = false →
                ∃ t43_1 : Int, t43_1 = IntKind.wrap .i64 (t7 + 1) ∧ Inv t43_1 wv_4 ∧ mu t43_1 wv_4 < mu t7 wv)) ∧
            ((decide ((0 : Int) < t7)) = false →
              (false = true →
                R (.bool false) wv_4) ∧
              (false = false →
                ∃ t43_2 : Int, t43_2 = IntKind.wrap .i64 (t7 + 1) ∧ Inv t43_2 wv_4 ∧ mu t43_2 wv_4 < mu t7 wv)))) ∧
        (true = false →
          ∃ (t240 : Bool) (t241_p : Option Addr) (t241_n : Nat) (t241_c : Nat) (t242_p : Option Addr) (t242_n : Nat) (t242_c : Nat), (∀ wv_7, Ext wv_4 wv_7 → Loads P 53 ((⟨r, 0, none⟩ : Addr).add 1) (.agg #[(.bool t240), (.slice t241_p t241_n t241_c), (.slice t242_p t242_n t242_c)]) wv_7) ∧ Calls P 82 ⟨[(.agg #[(.bool t240), (.slice t241_p t241_n t241_c), (.slice t242_p t242_n t242_c)])]⟩ wv_4 fun e_1 wv_8 =>
          ∃ (t25 : Int), e_1 = .returned (.int .i64 t25) ∧
          ((decide ((t25 : Int) = 0)) = true →
            (true = true →
              R (.bool false) wv_8) ∧
            (true = false →
              ∃ t43_3 : Int, t43_3 = IntKind.wrap .i64 (t7 + 1) ∧ Inv t43_3 wv_8 ∧ mu t43_3 wv_8 < mu t7 wv)) ∧
          ((decide ((t25 : Int) = 0)) = false →
            ((decide ((0 : Int) < t7)) = true →
              ∃ t34_1 : Int, t34_1 = IntKind.wrap .i64 (t7 - 1) ∧ (0 ≤ (t34_1 : Int) ∧ (t34_1 : Int) < (l_n : Nat)) ∧ ptrS l_p fun ad_2 => ∃ (t37_1 : ByteArray), (∀ wv_9, Ext wv_8 wv_9 → Loads P 9 ((ad_2.add (t34_1.toNat * 4)).add 0) (.string t37_1) wv_9) ∧ ∃ (t39_1 : ByteArray), (∀ wv_10, Ext wv_8 wv_10 → Loads P 9 ((⟨r, 0, none⟩ : Addr).add 0) (.string t39_1) wv_10) ∧ ((!(Op.bytesLess t37_1.toList t39_1.toList)) = true →
                R (.bool false) wv_8) ∧
              ((!(Op.bytesLess t37_1.toList t39_1.toList)) = false →
                ∃ t43_4 : Int, t43_4 = IntKind.wrap .i64 (t7 + 1) ∧ Inv t43_4 wv_8 ∧ mu t43_4 wv_8 < mu t7 wv)) ∧
            ((decide ((0 : Int) < t7)) = false →
              (false = true →
                R (.bool false) wv_8) ∧
              (false = false →
                ∃ t43_5 : Int, t43_5 = IntKind.wrap .i64 (t7 + 1) ∧ Inv t43_5 wv_8 ∧ mu t43_5 wv_8 < mu t7 wv))))) ∧
      ((!t14) = false →
        ∃ (t180 : Bool) (t181_p : Option Addr) (t181_n : Nat) (t181_c : Nat) (t182_p : Option Addr) (t182_n : Nat) (t182_c : Nat), (∀ wv_11, Ext wv_4 wv_11 → Loads P 53 ((⟨r, 0, none⟩ : Addr).add 1) (.agg #[(.bool t180), (.slice t181_p t181_n t181_c), (.slice t182_p t182_n t182_c)]) wv_11) ∧ Calls P 174 ⟨[(.agg #[(.bool t180), (.slice t181_p t181_n t181_c), (.slice t182_p t182_n t182_c)])]⟩ wv_4 fun e_2 wv_12 =>
        ∃ (t19 : Bool), e_2 = .returned (.bool t19) ∧
        ((!t19) = true →
          (true = true →
            (true = true →
              R (.bool false) wv_12) ∧
            (true = false →
              ∃ t43_6 : Int, t43_6 = IntKind.wrap .i64 (t7 + 1) ∧ Inv t43_6 wv_12 ∧ mu t43_6 wv_12 < mu t7 wv)) ∧
          (true = false →
            ((decide ((0 : Int) < t7)) = true →
              ∃ t34_2 : Int, t34_2 = IntKind.wrap .i64 (t7 - 1) ∧ (0 ≤ (t34_2 : Int) ∧ (t34_2 : Int) < (l_n : Nat)) ∧ ptrS l_p fun ad_3 => ∃ (t37_2 : ByteArray), (∀ wv_13, Ext wv_12 wv_13 → Loads P 9 ((ad_3.add (t34_2.toNat * 4)).add 0) (.string t37_2) wv_13) ∧ ∃ (t39_2 : ByteArray), (∀ wv_14, Ext wv_12 wv_14 → Loads P 9 ((⟨r, 0, none⟩ : Addr).add 0) (.string t39_2) wv_14) ∧ ((!(Op.bytesLess t37_2.toList t39_2.toList)) = true →
                R (.bool false) wv_12) ∧
              ((!(Op.bytesLess t37_2.toList t39_2.toList)) = false →
                ∃ t43_7 : Int, t43_7 = IntKind.wrap .i64 (t7 + 1) ∧ Inv t43_7 wv_12 ∧ mu t43_7 wv_12 < mu t7 wv)) ∧
            ((decide ((0 : Int) < t7)) = false →
              (false = true →
                R (.bool false) wv_12) ∧
              (false = false →
                ∃ t43_8 : Int, t43_8 = IntKind.wrap .i64 (t7 + 1) ∧ Inv t43_8 wv_12 ∧ mu t43_8 wv_12 < mu t7 wv)))) ∧
        ((!t19) = false →
          ∃ (t240_1 : Bool) (t241_p_1 : Option Addr) (t241_n_1 : Nat) (t241_c_1 : Nat) (t242_p_1 : Option Addr) (t242_n_1 : Nat) (t242_c_1 : Nat), (∀ wv_15, Ext wv_12 wv_15 → Loads P 53 ((⟨r, 0, none⟩ : Addr).add 1) (.agg #[(.bool t240_1), (.slice t241_p_1 t241_n_1 t241_c_1), (.slice t242_p_1 t242_n_1 t242_c_1)]) wv_15) ∧ Calls P 82 ⟨[(.agg #[(.bool t240_1), (.slice t241_p_1 t241_n_1 t241_c_1), (.slice t242_p_1 t242_n_1 t242_c_1)])]⟩ wv_12 fun e_3 wv_16 =>
          ∃ (t25_1 : Int), e_3 = .returned (.int .i64 t25_1) ∧
          ((decide ((t25_1 : Int) = 0)) = true →
            (true = true →
              R (.bool false) wv_16) ∧
            (true = false →
              ∃ t43_9 : Int, t43_9 = IntKind.wrap .i64 (t7 + 1) ∧ Inv t43_9 wv_16 ∧ mu t43_9 wv_16 < mu t7 wv)) ∧
          ((decide ((t25_1 : Int) = 0)) = false →
            ((decide ((0 : Int) < t7)) = true →
              ∃ t34_3 : Int, t34_3 = IntKind.wrap .i64 (t7 - 1) ∧ (0 ≤ (t34_3 : Int) ∧ (t34_3 : Int) < (l_n : Nat)) ∧ ptrS l_p fun ad_4 => ∃ (t37_3 : ByteArray), (∀ wv_17, Ext wv_16 wv_17 → Loads P 9 ((ad_4.add (t34_3.toNat * 4)).add 0) (.string t37_3) wv_17) ∧ ∃ (t39_3 : ByteArray), (∀ wv_18, Ext wv_16 wv_18 → Loads P 9 ((⟨r, 0, none⟩ : Addr).add 0) (.string t39_3) wv_18) ∧ ((!(Op.bytesLess t37_3.toList t39_3.toList)) = true →
                R (.bool false) wv_16) ∧
              ((!(Op.bytesLess t37_3.toList t39_3.toList)) = false →
                ∃ t43_10 : Int, t43_10 = IntKind.wrap .i64 (t7 + 1) ∧ Inv t43_10 wv_16 ∧ mu t43_10 wv_16 < mu t7 wv)) ∧
            ((decide ((0 : Int) < t7)) = false →
              (false = true →
                R (.bool false) wv_16) ∧
              (false = false →
                ∃ t43_11 : Int, t43_11 = IntKind.wrap .i64 (t7 + 1) ∧ Inv t43_11 wv_16 ∧ mu t43_11 wv_16 < mu t7 wv)))))) ∧
    ((decide ((t7 : Int) < ((l_n : Nat) : Int))) = false →
      R (.bool true) wv)
theorem spec_RestsOk_eq (l_p : Option Addr) (l_n : Nat) (l_c : Nat) (w : World) (R : Value → World → Prop) : spec_RestsOk l_p l_n l_c w R = fsem P Tryz.f79 (fun k => cond (Nat.beq k 3) [(7, .one (.int .i64))] ([])) [(.slice l_p l_n l_c)] R w := by kernel_rfl
theorem spec_RestsOk_ret {l_p : Option Addr} {l_n : Nat} {l_c : Nat} {w : World} {R : Value → World → Prop} (h : spec_RestsOk l_p l_n l_c w R) : Ret P 79 [(.slice l_p l_n l_c)] w R :=
  Ret.of_fsem Tryz.func79 rfl (Eq.mp (spec_RestsOk_eq l_p l_n l_c w R) h)
def spec_CurKnown (code : ByteArray) (w : World) (R : Value → World → Prop) : Prop :=
  Calls P 179 ⟨[(.string code)]⟩ w fun e wv =>
  ∃ (t40 : ByteArray) (t41 : ByteArray) (t42 : Int) (t43 : Int), e = .returned (.agg #[(.string t40), (.string t41), (.int .i64 t42), (.int .i64 t43)]) ∧
  R (.bool (decide (t40 ≠ (S [])))) wv
theorem spec_CurKnown_eq (code : ByteArray) (w : World) (R : Value → World → Prop) : spec_CurKnown code w R = fsem P Tryz.f80 (fun k => []) [(.string code)] R w := by kernel_rfl
theorem spec_CurKnown_ret {code : ByteArray} {w : World} {R : Value → World → Prop} (h : spec_CurKnown code w R) : Ret P 80 [(.string code)] w R :=
  Ret.of_fsem Tryz.func80 rfl (Eq.mp (spec_CurKnown_eq code w R) h)
def spec_l19Copy (l_p : Option Addr) (l_n : Nat) (l_c : Nat) (w : World) (R : Value → World → Prop) : Prop :=
  ∀ (r : Nat) (wv : World), New w (.cells ⟨[]⟩ 117 (0, 0)) r wv →
  ∃ (Inv : Option Addr → Nat → Nat → Int → World → Prop) (mu : Option Addr → Nat → Nat → Int → World → Nat), Inv (some ⟨r, 0, none⟩) 0 0 0 wv ∧
  ∀ (junk : Fr) (wv_1 : World) (out_p : Option Addr) (out_n : Nat) (out_c : Nat) (t9 : Int), Inv out_p out_n out_c t9 wv_1 →
    ((decide ((t9 : Int) < ((l_n : Nat) : Int))) = true →
      (0 ≤ (t9 : Int) ∧ (t9 : Int) < (l_n : Nat)) ∧ ptrS l_p fun ad => ∃ (t120 : ByteArray) (t121 : Bool) (t122_p : Option Addr) (t122_n : Nat) (t122_c : Nat) (t123_p : Option Addr) (t123_n : Nat) (t123_c : Nat), Loads P 117 (ad.add (t9.toNat * 4)) (.agg #[(.string t120), (.bool t121), (.slice t122_p t122_n t122_c), (.slice t123_p t123_n t123_c)]) wv_1 ∧ ∀ (r_1 : Nat) (wv_2 : World), New wv_1 (.cells ⟨[(.string ByteArray.empty), (.bool false), (.slice none 0 0), (.slice none 0 0)]⟩ 117 (0, 0)) r_1 wv_2 →
      ∃ wv_3, Stores P 117 ⟨r_1, 0, none⟩ (.agg #[(.string t120), (.bool t121), (.slice t122_p t122_n t122_c), (.slice t123_p t123_n t123_c)]) wv_2 wv_3 ∧
      ∃ (t15 : ByteArray), (∀ wv_4, Ext wv_3.drew wv_4 → Loads P 9 ((⟨r_1, 0, none⟩ : Addr).add 0) (.string t15) wv_4) ∧ ∃ (t170 : Bool) (t171_p : Option Addr) (t171_n : Nat) (t171_c : Nat) (t172_p : Option Addr) (t172_n : Nat) (t172_c : Nat), (∀ wv_5, Ext wv_3.drew wv_5 → Loads P 53 ((⟨r_1, 0, none⟩ : Addr).add 1) (.agg #[(.bool t170), (.slice t171_p t171_n t171_c), (.slice t172_p t172_n t172_c)]) wv_5) ∧ Calls P 178 ⟨[(.agg #[(.bool t170), (.slice t171_p t171_n t171_c), (.slice t172_p t172_n t172_c)])]⟩ wv_3.drew fun e wv_6 =>
      ∃ (t180 : Bool) (t181_p : Option Addr) (t181_n : Nat) (t181_c : Nat) (t182_p : Option Addr) (t182_n : Nat) (t182_c : Nat), e = .returned (.agg #[(.bool t180), (.slice t181_p t181_n t181_c), (.slice t182_p t182_n t182_c)]) ∧
      Ext wv_3.drew wv_6 ∧ ∀ (r_2 : Nat) (wv_7 : World), New wv_6 (.cells ⟨[(.string t15), (.bool t180), (.slice t181_p t181_n t181_c), (.slice t182_p t182_n t182_c)]⟩ 117 (0, 0)) r_2 wv_7 →
      ∃ (t21_p : Option Addr) (t21_n : Nat) (t21_c : Nat) (wv_8 : World), Appends P [48, 48] [(.slice out_p out_n out_c), (.slice (some ⟨r_2, 0, none⟩) 1 1)] (.slice t21_p t21_n t21_c) wv_7 wv_8 ∧
      ∃ t22 : Int, t22 = IntKind.wrap .i64 (t9 + 1) ∧ Inv t21_p t21_n t21_c t22 wv_8 ∧ mu t21_p t21_n t21_c t22 wv_8 < mu out_p out_n out_c t9 wv_1) ∧
    ((decide ((t9 : Int) < ((l_n : Nat) : Int))) = false →
      R (.slice out_p out_n out_c) wv_1)
theorem spec_l19Copy_eq (l_p : Option Addr) (l_n : Nat) (l_c : Nat) (w : World) (R : Value → World → Prop) : spec_l19Copy l_p l_n l_c w R = fsem P Tryz.f81 (fun k => cond (Nat.beq k 4) [(3, .one .slice), (9, .one (.int .i64))] ([])) [(.slice l_p l_n l_c)] R w := by kernel_rfl
theorem spec_l19Copy_ret {l_p : Option Addr} {l_n : Nat} {l_c : Nat} {w : World} {R : Value → World → Prop} (h : spec_l19Copy l_p l_n l_c w R) : Ret P 81 [(.slice l_p l_n l_c)] w R :=
  Ret.of_fsem Tryz.func81 rfl (Eq.mp (spec_l19Copy_eq l_p l_n l_c w R) h)
def spec_RatSign (r0 : Bool) (r1_p : Option Addr) (r1_n : Nat) (r1_c : Nat) (r2_p : Option Addr) (r2_n : Nat) (r2_c : Nat) (w : World) (R : Value → World → Prop) : Prop :=
  ∀ (r : Nat) (wv : World), New w (.cells ⟨[(.bool r0), (.slice r1_p r1_n r1_c), (.slice r2_p r2_n r2_c)]⟩ 53 (0, 0)) r wv →
  ∃ (t30 : Bool) (t31_p : Option Addr) (t31_n : Nat) (t31_c : Nat) (t32_p : Option Addr) (t32_n : Nat) (t32_c : Nat), (∀ wv_1, Ext wv.drew wv_1 → Loads P 53 ⟨r, 0, none⟩ (.agg #[(.bool t30), (.slice t31_p t31_n t31_c), (.slice t32_p t32_n t32_c)]) wv_1) ∧ Calls P 157 ⟨[]⟩ wv.drew fun e wv_2 =>
  ∃ (t40 : Bool) (t41_p : Option Addr) (t41_n : Nat) (t41_c : Nat) (t42_p : Option Addr) (t42_n : Nat) (t42_c : Nat), e = .returned (.agg #[(.bool t40), (.slice t41_p t41_n t41_c), (.slice t42_p t42_n t42_c)]) ∧
  Ext wv.drew wv_2 ∧ Calls P 156 ⟨[(.agg #[(.bool t30), (.slice t31_p t31_n t31_c), (.slice t32_p t32_n t32_c)]), (.agg #[(.bool t40), (.slice t41_p t41_n t41_c), (.slice t42_p t42_n t42_c)])]⟩ wv_2 fun e_1 wv_3 =>
  ∃ (t5 : Int), e_1 = .returned (.int .i64 t5) ∧
  R (.int .i64 t5) wv_3
theorem spec_RatSign_eq (r0 : Bool) (r1_p : Option Addr) (r1_n : Nat) (r1_c : Nat) (r2_p : Option Addr) (r2_n : Nat) (r2_c : Nat) (w : World) (R : Value → World → Prop) : spec_RatSign r0 r1_p r1_n r1_c r2_p r2_n r2_c w R = fsem P Tryz.f82 (fun k => []) [(.agg #[(.bool r0), (.slice r1_p r1_n r1_c), (.slice r2_p r2_n r2_c)])] R w := by kernel_rfl
theorem spec_RatSign_ret {r0 : Bool} {r1_p : Option Addr} {r1_n : Nat} {r1_c : Nat} {r2_p : Option Addr} {r2_n : Nat} {r2_c : Nat} {w : World} {R : Value → World → Prop} (h : spec_RatSign r0 r1_p r1_n r1_c r2_p r2_n r2_c w R) : Ret P 82 [(.agg #[(.bool r0), (.slice r1_p r1_n r1_c), (.slice r2_p r2_n r2_c)])] w R :=
  Ret.of_fsem Tryz.func82 rfl (Eq.mp (spec_RatSign_eq r0 r1_p r1_n r1_c r2_p r2_n r2_c w R) h)
def impl_RestsOk (l_p : Option Addr) (l_n : Nat) (l_c : Nat) (w : World) (R : Value → World → Prop) : Prop :=
  ∃ (Inv : Int → World → Prop) (mu : Int → World → Nat), Inv 0 w ∧
  ∀ (junk : Fr) (wv : World) (t7 : Int), Inv t7 wv →
    ((decide ((t7 : Int) < ((l_n : Nat) : Int))) = true →
      (0 ≤ (t7 : Int) ∧ (t7 : Int) < (l_n : Nat)) ∧ ptrS l_p fun ad => ∃ (t110 : ByteArray) (t111 : Bool) (t112_p : Option Addr) (t112_n : Nat) (t112_c : Nat) (t113_p : Option Addr) (t113_n : Nat) (t113_c : Nat), Loads P 117 (ad.add (t7.toNat * 4)) (.agg #[(.string t110), (.bool t111), (.slice t112_p t112_n t112_c), (.slice t113_p t113_n t113_c)]) wv ∧ ∀ (r : Nat) (wv_1 : World), New wv (.cells ⟨[(.string ByteArray.empty), (.bool false), (.slice none 0 0), (.slice none 0 0)]⟩ 117 (0, 0)) r wv_1 →
      ∃ wv_2, Stores P 117 ⟨r, 0, none⟩ (.agg #[(.string t110), (.bool t111), (.slice t112_p t112_n t112_c), (.slice t113_p t113_n t113_c)]) wv_1 wv_2 ∧
      ∃ (t13 : ByteArray), (∀ wv_3, Ext wv_2.drew wv_3 → Loads P 9 ((⟨r, 0, none⟩ : Addr).add 0) (.string t13) wv_3) ∧ Calls P 86 ⟨[(.string t13)]⟩ wv_2.drew fun e wv_4 =>
      ∃ (t14 : Bool), e = .returned (.bool t14) ∧
      ((!t14) = true →
        (true = true →
          (true = true →
            (true = true →
              R (.bool false) wv_4) ∧
            (true = false →
              ∃ t43 : Int, t43 = IntKind.wrap .i64 (t7 + 1) ∧ Inv t43 wv_4 ∧ mu t43 wv_4 < mu t7 wv)) ∧
          (true = false →
            ((decide ((0 : Int) < t7)) = true →
              ∃ t34 : Int, t34 = IntKind.wrap .i64 (t7 - 1) ∧ (0 ≤ (t34 : Int) ∧ (t34 : Int) < (l_n : Nat)) ∧ ptrS l_p fun ad_1 => ∃ (t37 : ByteArray), (∀ wv_5, Ext wv_4 wv_5 → Loads P 9 ((ad_1.add (t34.toNat * 4)).add 0) (.string t37) wv_5) ∧ ∃ (t39 : ByteArray), (∀ wv_6, Ext wv_4 wv_6 → Loads P 9 ((⟨r, 0, none⟩ : Addr).add 0) (.string t39) wv_6) ∧ ((!(Op.bytesLess t37.toList t39.toList)) = true →
                R (.bool false) wv_4) ∧
              ((!(Op.bytesLess t37.toList t39.toList)) = false →
                ∃ t43_1 : Int, t43_1 = IntKind.wrap .i64 (t7 + 1) ∧ Inv t43_1 wv_4 ∧ mu t43_1 wv_4 < mu t7 wv)) ∧
            ((decide ((0 : Int) < t7)) = false →
              (false = true →
                R (.bool false) wv_4) ∧
              (false = false →
                ∃ t43_2 : Int, t43_2 = IntKind.wrap .i64 (t7 + 1) ∧ Inv t43_2 wv_4 ∧ mu t43_2 wv_4 < mu t7 wv)))) ∧
        (true = false →
          ∃ (t240 : Bool) (t241_p : Option Addr) (t241_n : Nat) (t241_c : Nat) (t242_p : Option Addr) (t242_n : Nat) (t242_c : Nat), (∀ wv_7, Ext wv_4 wv_7 → Loads P 53 ((⟨r, 0, none⟩ : Addr).add 1) (.agg #[(.bool t240), (.slice t241_p t241_n t241_c), (.slice t242_p t242_n t242_c)]) wv_7) ∧ Calls P 90 ⟨[(.agg #[(.bool t240), (.slice t241_p t241_n t241_c), (.slice t242_p t242_n t242_c)])]⟩ wv_4 fun e_1 wv_8 =>
          ∃ (t25 : Int), e_1 = .returned (.int .i64 t25) ∧
          ((decide ((t25 : Int) = 0)) = true →
            (true = true →
              R (.bool false) wv_8) ∧
            (true = false →
              ∃ t43_3 : Int, t43_3 = IntKind.wrap .i64 (t7 + 1) ∧ Inv t43_3 wv_8 ∧ mu t43_3 wv_8 < mu t7 wv)) ∧
          ((decide ((t25 : Int) = 0)) = false →
            ((decide ((0 : Int) < t7)) = true →
              ∃ t34_1 : Int, t34_1 = IntKind.wrap .i64 (t7 - 1) ∧ (0 ≤ (t34_1 : Int) ∧ (t34_1 : Int) < (l_n : Nat)) ∧ ptrS l_p fun ad_2 => ∃ (t37_1 : ByteArray), (∀ wv_9, Ext wv_8 wv_9 → Loads P 9 ((ad_2.add (t34_1.toNat * 4)).add 0) (.string t37_1) wv_9) ∧ ∃ (t39_1 : ByteArray), (∀ wv_10, Ext wv_8 wv_10 → Loads P 9 ((⟨r, 0, none⟩ : Addr).add 0) (.string t39_1) wv_10) ∧ ((!(Op.bytesLess t37_1.toList t39_1.toList)) = true →
                R (.bool false) wv_8) ∧
              ((!(Op.bytesLess t37_1.toList t39_1.toList)) = false →
                ∃ t43_4 : Int, t43_4 = IntKind.wrap .i64 (t7 + 1) ∧ Inv t43_4 wv_8 ∧ mu t43_4 wv_8 < mu t7 wv)) ∧
            ((decide ((0 : Int) < t7)) = false →
              (false = true →
                R (.bool false) wv_8) ∧
              (false = false →
                ∃ t43_5 : Int, t43_5 = IntKind.wrap .i64 (t7 + 1) ∧ Inv t43_5 wv_8 ∧ mu t43_5 wv_8 < mu t7 wv))))) ∧
      ((!t14) = false →
        ∃ (t180 : Bool) (t181_p : Option Addr) (t181_n : Nat) (t181_c : Nat) (t182_p : Option Addr) (t182_n : Nat) (t182_c : Nat), (∀ wv_11, Ext wv_4 wv_11 → Loads P 53 ((⟨r, 0, none⟩ : Addr).add 1) (.agg #[(.bool t180), (.slice t181_p t181_n t181_c), (.slice t182_p t182_n t182_c)]) wv_11) ∧ Calls P 85 ⟨[(.agg #[(.bool t180), (.slice t181_p t181_n t181_c), (.slice t182_p t182_n t182_c)])]⟩ wv_4 fun e_2 wv_12 =>
        ∃ (t19 : Bool), e_2 = .returned (.bool t19) ∧
        ((!t19) = true →
          (true = true →
            (true = true →
              R (.bool false) wv_12) ∧
            (true = false →
              ∃ t43_6 : Int, t43_6 = IntKind.wrap .i64 (t7 + 1) ∧ Inv t43_6 wv_12 ∧ mu t43_6 wv_12 < mu t7 wv)) ∧
          (true = false →
            ((decide ((0 : Int) < t7)) = true →
              ∃ t34_2 : Int, t34_2 = IntKind.wrap .i64 (t7 - 1) ∧ (0 ≤ (t34_2 : Int) ∧ (t34_2 : Int) < (l_n : Nat)) ∧ ptrS l_p fun ad_3 => ∃ (t37_2 : ByteArray), (∀ wv_13, Ext wv_12 wv_13 → Loads P 9 ((ad_3.add (t34_2.toNat * 4)).add 0) (.string t37_2) wv_13) ∧ ∃ (t39_2 : ByteArray), (∀ wv_14, Ext wv_12 wv_14 → Loads P 9 ((⟨r, 0, none⟩ : Addr).add 0) (.string t39_2) wv_14) ∧ ((!(Op.bytesLess t37_2.toList t39_2.toList)) = true →
                R (.bool false) wv_12) ∧
              ((!(Op.bytesLess t37_2.toList t39_2.toList)) = false →
                ∃ t43_7 : Int, t43_7 = IntKind.wrap .i64 (t7 + 1) ∧ Inv t43_7 wv_12 ∧ mu t43_7 wv_12 < mu t7 wv)) ∧
            ((decide ((0 : Int) < t7)) = false →
              (false = true →
                R (.bool false) wv_12) ∧
              (false = false →
                ∃ t43_8 : Int, t43_8 = IntKind.wrap .i64 (t7 + 1) ∧ Inv t43_8 wv_12 ∧ mu t43_8 wv_12 < mu t7 wv)))) ∧
        ((!t19) = false →
          ∃ (t240_1 : Bool) (t241_p_1 : Option Addr) (t241_n_1 : Nat) (t241_c_1 : Nat) (t242_p_1 : Option Addr) (t242_n_1 : Nat) (t242_c_1 : Nat), (∀ wv_15, Ext wv_12 wv_15 → Loads P 53 ((⟨r, 0, none⟩ : Addr).add 1) (.agg #[(.bool t240_1), (.slice t241_p_1 t241_n_1 t241_c_1), (.slice t242_p_1 t242_n_1 t242_c_1)]) wv_15) ∧ Calls P 90 ⟨[(.agg #[(.bool t240_1), (.slice t241_p_1 t241_n_1 t241_c_1), (.slice t242_p_1 t242_n_1 t242_c_1)])]⟩ wv_12 fun e_3 wv_16 =>
          ∃ (t25_1 : Int), e_3 = .returned (.int .i64 t25_1) ∧
          ((decide ((t25_1 : Int) = 0)) = true →
            (true = true →
              R (.bool false) wv_16) ∧
            (true = false →
              ∃ t43_9 : Int, t43_9 = IntKind.wrap .i64 (t7 + 1) ∧ Inv t43_9 wv_16 ∧ mu t43_9 wv_16 < mu t7 wv)) ∧
          ((decide ((t25_1 : Int) = 0)) = false →
            ((decide ((0 : Int) < t7)) = true →
              ∃ t34_3 : Int, t34_3 = IntKind.wrap .i64 (t7 - 1) ∧ (0 ≤ (t34_3 : Int) ∧ (t34_3 : Int) < (l_n : Nat)) ∧ ptrS l_p fun ad_4 => ∃ (t37_3 : ByteArray), (∀ wv_17, Ext wv_16 wv_17 → Loads P 9 ((ad_4.add (t34_3.toNat * 4)).add 0) (.string t37_3) wv_17) ∧ ∃ (t39_3 : ByteArray), (∀ wv_18, Ext wv_16 wv_18 → Loads P 9 ((⟨r, 0, none⟩ : Addr).add 0) (.string t39_3) wv_18) ∧ ((!(Op.bytesLess t37_3.toList t39_3.toList)) = true →
                R (.bool false) wv_16) ∧
              ((!(Op.bytesLess t37_3.toList t39_3.toList)) = false →
                ∃ t43_10 : Int, t43_10 = IntKind.wrap .i64 (t7 + 1) ∧ Inv t43_10 wv_16 ∧ mu t43_10 wv_16 < mu t7 wv)) ∧
            ((decide ((0 : Int) < t7)) = false →
              (false = true →
                R (.bool false) wv_16) ∧
              (false = false →
                ∃ t43_11 : Int, t43_11 = IntKind.wrap .i64 (t7 + 1) ∧ Inv t43_11 wv_16 ∧ mu t43_11 wv_16 < mu t7 wv)))))) ∧
    ((decide ((t7 : Int) < ((l_n : Nat) : Int))) = false →
      R (.bool true) wv)
theorem impl_RestsOk_eq (l_p : Option Addr) (l_n : Nat) (l_c : Nat) (w : World) (R : Value → World → Prop) : impl_RestsOk l_p l_n l_c w R = fsem P Tryz.f84 (fun k => cond (Nat.beq k 3) [(7, .one (.int .i64))] ([])) [(.slice l_p l_n l_c)] R w := by kernel_rfl
theorem impl_RestsOk_ret {l_p : Option Addr} {l_n : Nat} {l_c : Nat} {w : World} {R : Value → World → Prop} (h : impl_RestsOk l_p l_n l_c w R) : Ret P 84 [(.slice l_p l_n l_c)] w R :=
  Ret.of_fsem Tryz.func84 rfl (Eq.mp (impl_RestsOk_eq l_p l_n l_c w R) h)
def impl_RatOk_j0 (r : Nat) (W : World) (R : Value → World → Prop) : Prop :=
  ∃ (t35_p : Option Addr) (t35_n : Nat) (t35_c : Nat), Loads P 22 (((⟨r, 0, none⟩ : Addr).add 0).add 1) (.slice t35_p t35_n t35_c) W ∧ ∃ (t37_p : Option Addr) (t37_n : Nat) (t37_c : Nat), Loads P 22 ((⟨r, 0, none⟩ : Addr).add 2) (.slice t37_p t37_n t37_c) W ∧ Calls P 181 ⟨[(.slice t35_p t35_n t35_c), (.slice t37_p t37_n t37_c)]⟩ W fun e_1 wv_2 =>
  ∃ (t38_p : Option Addr) (t38_n : Nat) (t38_c : Nat), e_1 = .returned (.slice t38_p t38_n t38_c) ∧
  ((decide ((((t38_n : Nat) : Int) : Int) = 1)) = true →
    (0 ≤ (0 : Int) ∧ (0 : Int) < (t38_n : Nat)) ∧ ptrS t38_p fun ad => ∃ (t45 : Int), Loads P 3 (ad.add (0 * 1)) (.int .i64 t45) wv_2 ∧ R (.bool (decide ((t45 : Int) = 1))) wv_2) ∧
  ((decide ((((t38_n : Nat) : Int) : Int) = 1)) = false →
    R (.bool false) wv_2)
def impl_RatOk (r0 : Bool) (r1_p : Option Addr) (r1_n : Nat) (r1_c : Nat) (r2_p : Option Addr) (r2_n : Nat) (r2_c : Nat) (w : World) (R : Value → World → Prop) : Prop :=
  ∀ (r : Nat) (wv : World), New w (.cells ⟨[(.bool r0), (.slice r1_p r1_n r1_c), (.slice r2_p r2_n r2_c)]⟩ 53 (0, 0)) r wv →
  ∃ (t50 : Bool) (t51_p : Option Addr) (t51_n : Nat) (t51_c : Nat), Loads P 31 ((⟨r, 0, none⟩ : Addr).add 0) (.agg #[(.bool t50), (.slice t51_p t51_n t51_c)]) wv ∧ Calls P 158 ⟨[(.agg #[(.bool t50), (.slice t51_p t51_n t51_c)])]⟩ wv fun e wv_1 =>
  ∃ (t6 : Bool), e = .returned (.bool t6) ∧
  ((!t6) = true →
    (true = true →
      (true = true →
        (true = true →
          (true = true →
            R (.bool false) wv_1) ∧
          (true = false →
            impl_RatOk_j0 r wv_1 R)) ∧
        (true = false →
          ∃ (t29_p : Option Addr) (t29_n : Nat) (t29_c : Nat), Loads P 22 (((⟨r, 0, none⟩ : Addr).add 0).add 1) (.slice t29_p t29_n t29_c) wv_1 ∧ ((decide ((18 : Int) < ((t29_n : Nat) : Int))) = true →
            R (.bool false) wv_1) ∧
          ((decide ((18 : Int) < ((t29_n : Nat) : Int))) = false →
            impl_RatOk_j0 r wv_1 R))) ∧
      (true = false →
        ∃ (t22_p : Option Addr) (t22_n : Nat) (t22_c : Nat), Loads P 22 ((⟨r, 0, none⟩ : Addr).add 2) (.slice t22_p t22_n t22_c) wv_1 ∧ ((decide ((18 : Int) < ((t22_n : Nat) : Int))) = true →
          (true = true →
            R (.bool false) wv_1) ∧
          (true = false →
            impl_RatOk_j0 r wv_1 R)) ∧
        ((decide ((18 : Int) < ((t22_n : Nat) : Int))) = false →
          ∃ (t29_p_1 : Option Addr) (t29_n_1 : Nat) (t29_c_1 : Nat), Loads P 22 (((⟨r, 0, none⟩ : Addr).add 0).add 1) (.slice t29_p_1 t29_n_1 t29_c_1) wv_1 ∧ ((decide ((18 : Int) < ((t29_n_1 : Nat) : Int))) = true →
            R (.bool false) wv_1) ∧
          ((decide ((18 : Int) < ((t29_n_1 : Nat) : Int))) = false →
            impl_RatOk_j0 r wv_1 R)))) ∧
    (true = false →
      ∃ (t16_p : Option Addr) (t16_n : Nat) (t16_c : Nat), Loads P 22 ((⟨r, 0, none⟩ : Addr).add 2) (.slice t16_p t16_n t16_c) wv_1 ∧ ((decide ((((t16_n : Nat) : Int) : Int) = 0)) = true →
        (true = true →
          (true = true →
            R (.bool false) wv_1) ∧
          (true = false →
            impl_RatOk_j0 r wv_1 R)) ∧
        (true = false →
          ∃ (t29_p_2 : Option Addr) (t29_n_2 : Nat) (t29_c_2 : Nat), Loads P 22 (((⟨r, 0, none⟩ : Addr).add 0).add 1) (.slice t29_p_2 t29_n_2 t29_c_2) wv_1 ∧ ((decide ((18 : Int) < ((t29_n_2 : Nat) : Int))) = true →
            R (.bool false) wv_1) ∧
          ((decide ((18 : Int) < ((t29_n_2 : Nat) : Int))) = false →
            impl_RatOk_j0 r wv_1 R))) ∧
      ((decide ((((t16_n : Nat) : Int) : Int) = 0)) = false →
        ∃ (t22_p_1 : Option Addr) (t22_n_1 : Nat) (t22_c_1 : Nat), Loads P 22 ((⟨r, 0, none⟩ : Addr).add 2) (.slice t22_p_1 t22_n_1 t22_c_1) wv_1 ∧ ((decide ((18 : Int) < ((t22_n_1 : Nat) : Int))) = true →
          (true = true →
            R (.bool false) wv_1) ∧
          (true = false →
            impl_RatOk_j0 r wv_1 R)) ∧
        ((decide ((18 : Int) < ((t22_n_1 : Nat) : Int))) = false →
          ∃ (t29_p_3 : Option Addr) (t29_n_3 : Nat) (t29_c_3 : Nat), Loads P 22 (((⟨r, 0, none⟩ : Addr).add 0).add 1) (.slice t29_p_3 t29_n_3 t29_c_3) wv_1 ∧ ((decide ((18 : Int) < ((t29_n_3 : Nat) : Int))) = true →
            R (.bool false) wv_1) ∧
          ((decide ((18 : Int) < ((t29_n_3 : Nat) : Int))) = false →
            impl_RatOk_j0 r wv_1 R))))) ∧
  ((!t6) = false →
    ∃ (t10_p : Option Addr) (t10_n : Nat) (t10_c : Nat), Loads P 22 ((⟨r, 0, none⟩ : Addr).add 2) (.slice t10_p t10_n t10_c) wv_1 ∧ Calls P 180 ⟨[(.slice t10_p t10_n t10_c)]⟩ wv_1 fun e_2 wv_3 =>
    ∃ (t11 : Bool), e_2 = .returned (.bool t11) ∧
    ((!t11) = true →
      (true = true →
        (true = true →
          (true = true →
            R (.bool false) wv_3) ∧
          (true = false →
            impl_RatOk_j0 r wv_3 R)) ∧
        (true = false →
          ∃ (t29_p_4 : Option Addr) (t29_n_4 : Nat) (t29_c_4 : Nat), Loads P 22 (((⟨r, 0, none⟩ : Addr).add 0).add 1) (.slice t29_p_4 t29_n_4 t29_c_4) wv_3 ∧ ((decide ((18 : Int) < ((t29_n_4 : Nat) : Int))) = true →
            R (.bool false) wv_3) ∧
          ((decide ((18 : Int) < ((t29_n_4 : Nat) : Int))) = false →
            impl_RatOk_j0 r wv_3 R))) ∧
      (true = false →
        ∃ (t22_p_2 : Option Addr) (t22_n_2 : Nat) (t22_c_2 : Nat), Loads P 22 ((⟨r, 0, none⟩ : Addr).add 2) (.slice t22_p_2 t22_n_2 t22_c_2) wv_3 ∧ ((decide ((18 : Int) < ((t22_n_2 : Nat) : Int))) = true →
          (true = true →
            R (.bool false) wv_3) ∧
          (true = false →
            impl_RatOk_j0 r wv_3 R)) ∧
        ((decide ((18 : Int) < ((t22_n_2 : Nat) : Int))) = false →
          ∃ (t29_p_5 : Option Addr) (t29_n_5 : Nat) (t29_c_5 : Nat), Loads P 22 (((⟨r, 0, none⟩ : Addr).add 0).add 1) (.slice t29_p_5 t29_n_5 t29_c_5) wv_3 ∧ ((decide ((18 : Int) < ((t29_n_5 : Nat) : Int))) = true →
            R (.bool false) wv_3) ∧
          ((decide ((18 : Int) < ((t29_n_5 : Nat) : Int))) = false →
            impl_RatOk_j0 r wv_3 R)))) ∧
    ((!t11) = false →
      ∃ (t16_p_1 : Option Addr) (t16_n_1 : Nat) (t16_c_1 : Nat), Loads P 22 ((⟨r, 0, none⟩ : Addr).add 2) (.slice t16_p_1 t16_n_1 t16_c_1) wv_3 ∧ ((decide ((((t16_n_1 : Nat) : Int) : Int) = 0)) = true →
        (true = true →
          (true = true →
            R (.bool false) wv_3) ∧
          (true = false →
            impl_RatOk_j0 r wv_3 R)) ∧
        (true = false →
          ∃ (t29_p_6 : Option Addr) (t29_n_6 : Nat) (t29_c_6 : Nat), Loads P 22 (((⟨r, 0, none⟩ : Addr).add 0).add 1) (.slice t29_p_6 t29_n_6 t29_c_6) wv_3 ∧ ((decide ((18 : Int) < ((t29_n_6 : Nat) : Int))) = true →
            R (.bool false) wv_3) ∧
          ((decide ((18 : Int) < ((t29_n_6 : Nat) : Int))) = false →
            impl_RatOk_j0 r wv_3 R))) ∧
      ((decide ((((t16_n_1 : Nat) : Int) : Int) = 0)) = false →
        ∃ (t22_p_3 : Option Addr) (t22_n_3 : Nat) (t22_c_3 : Nat), Loads P 22 ((⟨r, 0, none⟩ : Addr).add 2) (.slice t22_p_3 t22_n_3 t22_c_3) wv_3 ∧ ((decide ((18 : Int) < ((t22_n_3 : Nat) : Int))) = true →
          (true = true →
            R (.bool false) wv_3) ∧
          (true = false →
            impl_RatOk_j0 r wv_3 R)) ∧
        ((decide ((18 : Int) < ((t22_n_3 : Nat) : Int))) = false →
          ∃ (t29_p_7 : Option Addr) (t29_n_7 : Nat) (t29_c_7 : Nat), Loads P 22 (((⟨r, 0, none⟩ : Addr).add 0).add 1) (.slice t29_p_7 t29_n_7 t29_c_7) wv_3 ∧ ((decide ((18 : Int) < ((t29_n_7 : Nat) : Int))) = true →
            R (.bool false) wv_3) ∧
          ((decide ((18 : Int) < ((t29_n_7 : Nat) : Int))) = false →
            impl_RatOk_j0 r wv_3 R)))))
theorem impl_RatOk_eq (r0 : Bool) (r1_p : Option Addr) (r1_n : Nat) (r1_c : Nat) (r2_p : Option Addr) (r2_n : Nat) (r2_c : Nat) (w : World) (R : Value → World → Prop) : impl_RatOk r0 r1_p r1_n r1_c r2_p r2_n r2_c w R = fsem P Tryz.f85 (fun k => []) [(.agg #[(.bool r0), (.slice r1_p r1_n r1_c), (.slice r2_p r2_n r2_c)])] R w := by kernel_rfl
theorem impl_RatOk_ret {r0 : Bool} {r1_p : Option Addr} {r1_n : Nat} {r1_c : Nat} {r2_p : Option Addr} {r2_n : Nat} {r2_c : Nat} {w : World} {R : Value → World → Prop} (h : impl_RatOk r0 r1_p r1_n r1_c r2_p r2_n r2_c w R) : Ret P 85 [(.agg #[(.bool r0), (.slice r1_p r1_n r1_c), (.slice r2_p r2_n r2_c)])] w R :=
  Ret.of_fsem Tryz.func85 rfl (Eq.mp (impl_RatOk_eq r0 r1_p r1_n r1_c r2_p r2_n r2_c w R) h)
def impl_CurKnown (code : ByteArray) (w : World) (R : Value → World → Prop) : Prop :=
  Calls P 182 ⟨[(.string code)]⟩ w fun e wv =>
  ∃ (t70 : ByteArray) (t71 : ByteArray) (t72 : Int) (t73 : Int) (t7 : Bool), e = .returned (.tuple #[(.agg #[(.string t70), (.string t71), (.int .i64 t72), (.int .i64 t73)]), (.bool t7)]) ∧
  ∀ (r : Nat) (wv_1 : World), New wv (.cells ⟨[(.string ByteArray.empty), (.string ByteArray.empty), (.int .i64 0), (.int .i64 0)]⟩ 210 (0, 0)) r wv_1 →
  ∃ wv_2, Stores P 210 ⟨r, 0, none⟩ (.agg #[(.string t70), (.string t71), (.int .i64 t72), (.int .i64 t73)]) wv_1 wv_2 ∧
  R (.bool t7) wv_2
theorem impl_CurKnown_eq (code : ByteArray) (w : World) (R : Value → World → Prop) : impl_CurKnown code w R = fsem P Tryz.f86 (fun k => []) [(.string code)] R w := by kernel_rfl
theorem impl_CurKnown_ret {code : ByteArray} {w : World} {R : Value → World → Prop} (h : impl_CurKnown code w R) : Ret P 86 [(.string code)] w R :=
  Ret.of_fsem Tryz.func86 rfl (Eq.mp (impl_CurKnown_eq code w R) h)
def impl_RatAdd (r0 : Bool) (r1_p : Option Addr) (r1_n : Nat) (r1_c : Nat) (r2_p : Option Addr) (r2_n : Nat) (r2_c : Nat) (s0 : Bool) (s1_p : Option Addr) (s1_n : Nat) (s1_c : Nat) (s2_p : Option Addr) (s2_n : Nat) (s2_c : Nat) (w : World) (R : Value → World → Prop) : Prop :=
  ∀ (r : Nat) (wv : World), New w (.cells ⟨[(.bool r0), (.slice r1_p r1_n r1_c), (.slice r2_p r2_n r2_c)]⟩ 53 (0, 0)) r wv →
  ∀ (r_1 : Nat) (wv_1 : World), New wv (.cells ⟨[(.bool s0), (.slice s1_p s1_n s1_c), (.slice s2_p s2_n s2_c)]⟩ 53 (0, 0)) r_1 wv_1 →
  ∀ (r_2 : Nat) (wv_2 : World), New wv_1 (.cells ⟨[(.bool false), (.slice none 0 0), (.slice none 0 0)]⟩ 53 (0, 0)) r_2 wv_2 →
  ∃ (t80 : Bool) (t81_p : Option Addr) (t81_n : Nat) (t81_c : Nat) (t82_p : Option Addr) (t82_n : Nat) (t82_c : Nat), Loads P 53 ⟨r, 0, none⟩ (.agg #[(.bool t80), (.slice t81_p t81_n t81_c), (.slice t82_p t82_n t82_c)]) wv_2 ∧ ∃ (t90 : Bool) (t91_p : Option Addr) (t91_n : Nat) (t91_c : Nat) (t92_p : Option Addr) (t92_n : Nat) (t92_c : Nat), Loads P 53 ⟨r_1, 0, none⟩ (.agg #[(.bool t90), (.slice t91_p t91_n t91_c), (.slice t92_p t92_n t92_c)]) wv_2 ∧ Calls P 183 ⟨[(.agg #[(.bool t80), (.slice t81_p t81_n t81_c), (.slice t82_p t82_n t82_c)]), (.agg #[(.bool t90), (.slice t91_p t91_n t91_c), (.slice t92_p t92_n t92_c)])]⟩ wv_2 fun e wv_3 =>
  ∃ (t10 : Bool), e = .returned (.bool t10) ∧
  ((!t10) = true →
    ∃ wv_4, Stores P 53 ⟨r_2, 0, none⟩ (.agg #[(.bool false), (.slice none 0 0), (.slice none 0 0)]) wv_3 wv_4 ∧
    ∃ (r0_1 : Bool) (r1_p_1 : Option Addr) (r1_n_1 : Nat) (r1_c_1 : Nat) (r2_p_1 : Option Addr) (r2_n_1 : Nat) (r2_c_1 : Nat), Loads P 53 ⟨r_2, 0, none⟩ (.agg #[(.bool r0_1), (.slice r1_p_1 r1_n_1 r1_c_1), (.slice r2_p_1 r2_n_1 r2_c_1)]) wv_4 ∧ R (.tuple #[(.agg #[(.bool r0_1), (.slice r1_p_1 r1_n_1 r1_c_1), (.slice r2_p_1 r2_n_1 r2_c_1)]), (.bool false)]) wv_4) ∧
  ((!t10) = false →
    ∃ (t130 : Bool) (t131_p : Option Addr) (t131_n : Nat) (t131_c : Nat) (t132_p : Option Addr) (t132_n : Nat) (t132_c : Nat), (∀ wv_5, Ext wv_3.drew wv_5 → Loads P 53 ⟨r, 0, none⟩ (.agg #[(.bool t130), (.slice t131_p t131_n t131_c), (.slice t132_p t132_n t132_c)]) wv_5) ∧ ∃ (t150 : Bool) (t151_p : Option Addr) (t151_n : Nat) (t151_c : Nat) (t152_p : Option Addr) (t152_n : Nat) (t152_c : Nat), (∀ wv_6, Ext wv_3.drew wv_6 → Loads P 53 ⟨r_1, 0, none⟩ (.agg #[(.bool t150), (.slice t151_p t151_n t151_c), (.slice t152_p t152_n t152_c)]) wv_6) ∧ ∃ (t19_p : Option Addr) (t19_n : Nat) (t19_c : Nat), (∀ wv_7, Ext wv_3.drew.drew wv_7 → Loads P 22 ((⟨r_1, 0, none⟩ : Addr).add 2) (.slice t19_p t19_n t19_c) wv_7) ∧ CallW P (.func (.func 184) #[(.agg #[(.bool t130), (.slice t131_p t131_n t131_c), (.slice t132_p t132_n t132_c)])] #[]) [(.slice t19_p t19_n t19_c)] wv_3.drew.drew fun e_1 wv_8 =>
    ∃ (t200 : Bool) (t201_p : Option Addr) (t201_n : Nat) (t201_c : Nat), e_1 = .returned (.agg #[(.bool t200), (.slice t201_p t201_n t201_c)]) ∧
    Ext wv_3.drew.drew wv_8 ∧ ∃ (t23_p : Option Addr) (t23_n : Nat) (t23_c : Nat), (∀ wv_9, Ext wv_3.drew.drew wv_9 → Loads P 22 ((⟨r, 0, none⟩ : Addr).add 2) (.slice t23_p t23_n t23_c) wv_9) ∧ CallW P (.func (.func 184) #[(.agg #[(.bool t150), (.slice t151_p t151_n t151_c), (.slice t152_p t152_n t152_c)])] #[]) [(.slice t23_p t23_n t23_c)] wv_8 fun e_2 wv_10 =>
    ∃ (t240 : Bool) (t241_p : Option Addr) (t241_n : Nat) (t241_c : Nat), e_2 = .returned (.agg #[(.bool t240), (.slice t241_p t241_n t241_c)]) ∧
    Ext wv_8 wv_10 ∧ Calls P 121 ⟨[(.agg #[(.bool t200), (.slice t201_p t201_n t201_c)]), (.agg #[(.bool t240), (.slice t241_p t241_n t241_c)])]⟩ wv_10 fun e_3 wv_11 =>
    ∃ (t250 : Bool) (t251_p : Option Addr) (t251_n : Nat) (t251_c : Nat), e_3 = .returned (.agg #[(.bool t250), (.slice t251_p t251_n t251_c)]) ∧
    Ext wv_10 wv_11 ∧ ∃ (t27_p : Option Addr) (t27_n : Nat) (t27_c : Nat), (∀ wv_12, Ext wv_3.drew.drew wv_12 → Loads P 22 ((⟨r, 0, none⟩ : Addr).add 2) (.slice t27_p t27_n t27_c) wv_12) ∧ ∃ (t29_p : Option Addr) (t29_n : Nat) (t29_c : Nat), (∀ wv_13, Ext wv_3.drew.drew wv_13 → Loads P 22 ((⟨r_1, 0, none⟩ : Addr).add 2) (.slice t29_p t29_n t29_c) wv_13) ∧ Calls P 165 ⟨[(.slice t27_p t27_n t27_c), (.slice t29_p t29_n t29_c)]⟩ wv_11 fun e_4 wv_14 =>
    ∃ (t30_p : Option Addr) (t30_n : Nat) (t30_c : Nat), e_4 = .returned (.slice t30_p t30_n t30_c) ∧
    Calls P 185 ⟨[(.agg #[(.bool t250), (.slice t251_p t251_n t251_c)]), (.slice t30_p t30_n t30_c)]⟩ wv_14 fun e_5 wv_15 =>
    ∃ (t310 : Bool) (t311_p : Option Addr) (t311_n : Nat) (t311_c : Nat) (t312_p : Option Addr) (t312_n : Nat) (t312_c : Nat) (t31 : Bool), e_5 = .returned (.tuple #[(.agg #[(.bool t310), (.slice t311_p t311_n t311_c), (.slice t312_p t312_n t312_c)]), (.bool t31)]) ∧
    ∃ wv_16, Stores P 53 ⟨r_2, 0, none⟩ (.agg #[(.bool t310), (.slice t311_p t311_n t311_c), (.slice t312_p t312_n t312_c)]) wv_15 wv_16 ∧
    ∃ (r0_2 : Bool) (r1_p_2 : Option Addr) (r1_n_2 : Nat) (r1_c_2 : Nat) (r2_p_2 : Option Addr) (r2_n_2 : Nat) (r2_c_2 : Nat), Loads P 53 ⟨r_2, 0, none⟩ (.agg #[(.bool r0_2), (.slice r1_p_2 r1_n_2 r1_c_2), (.slice r2_p_2 r2_n_2 r2_c_2)]) wv_16 ∧ R (.tuple #[(.agg #[(.bool r0_2), (.slice r1_p_2 r1_n_2 r1_c_2), (.slice r2_p_2 r2_n_2 r2_c_2)]), (.bool t31)]) wv_16)
theorem impl_RatAdd_eq (r0 : Bool) (r1_p : Option Addr) (r1_n : Nat) (r1_c : Nat) (r2_p : Option Addr) (r2_n : Nat) (r2_c : Nat) (s0 : Bool) (s1_p : Option Addr) (s1_n : Nat) (s1_c : Nat) (s2_p : Option Addr) (s2_n : Nat) (s2_c : Nat) (w : World) (R : Value → World → Prop) : impl_RatAdd r0 r1_p r1_n r1_c r2_p r2_n r2_c s0 s1_p s1_n s1_c s2_p s2_n s2_c w R = fsem P Tryz.f87 (fun k => []) [(.agg #[(.bool r0), (.slice r1_p r1_n r1_c), (.slice r2_p r2_n r2_c)]), (.agg #[(.bool s0), (.slice s1_p s1_n s1_c), (.slice s2_p s2_n s2_c)])] R w := by kernel_rfl
theorem impl_RatAdd_ret {r0 : Bool} {r1_p : Option Addr} {r1_n : Nat} {r1_c : Nat} {r2_p : Option Addr} {r2_n : Nat} {r2_c : Nat} {s0 : Bool} {s1_p : Option Addr} {s1_n : Nat} {s1_c : Nat} {s2_p : Option Addr} {s2_n : Nat} {s2_c : Nat} {w : World} {R : Value → World → Prop} (h : impl_RatAdd r0 r1_p r1_n r1_c r2_p r2_n r2_c s0 s1_p s1_n s1_c s2_p s2_n s2_c w R) : Ret P 87 [(.agg #[(.bool r0), (.slice r1_p r1_n r1_c), (.slice r2_p r2_n r2_c)]), (.agg #[(.bool s0), (.slice s1_p s1_n s1_c), (.slice s2_p s2_n s2_c)])] w R :=
  Ret.of_fsem Tryz.func87 rfl (Eq.mp (impl_RatAdd_eq r0 r1_p r1_n r1_c r2_p r2_n r2_c s0 s1_p s1_n s1_c s2_p s2_n s2_c w R) h)
def impl_RestOf (l_p : Option Addr) (l_n : Nat) (l_c : Nat) (cur : ByteArray) (w : World) (R : Value → World → Prop) : Prop :=
  ∀ (r : Nat) (wv : World), New w (.cells ⟨[(.bool false), (.slice none 0 0), (.slice none 0 0)]⟩ 53 (0, 0)) r wv →
  ∃ (Inv : Int → World → Prop) (mu : Int → World → Nat), Inv 0 wv ∧
  ∀ (junk : Fr) (wv_1 : World) (t9 : Int), Inv t9 wv_1 →
    ((decide ((t9 : Int) < ((l_n : Nat) : Int))) = true →
      (0 ≤ (t9 : Int) ∧ (t9 : Int) < (l_n : Nat)) ∧ ptrS l_p fun ad => ∃ (t120 : ByteArray) (t121 : Bool) (t122_p : Option Addr) (t122_n : Nat) (t122_c : Nat) (t123_p : Option Addr) (t123_n : Nat) (t123_c : Nat), Loads P 117 (ad.add (t9.toNat * 4)) (.agg #[(.string t120), (.bool t121), (.slice t122_p t122_n t122_c), (.slice t123_p t123_n t123_c)]) wv_1 ∧ ∀ (r_1 : Nat) (wv_2 : World), New wv_1 (.cells ⟨[(.string ByteArray.empty), (.bool false), (.slice none 0 0), (.slice none 0 0)]⟩ 117 (0, 0)) r_1 wv_2 →
      ∃ wv_3, Stores P 117 ⟨r_1, 0, none⟩ (.agg #[(.string t120), (.bool t121), (.slice t122_p t122_n t122_c), (.slice t123_p t123_n t123_c)]) wv_2 wv_3 ∧
      ∃ (t14 : ByteArray), Loads P 9 ((⟨r_1, 0, none⟩ : Addr).add 0) (.string t14) wv_3 ∧ ((decide (t14 = cur)) = true →
        ∃ (t180 : Bool) (t181_p : Option Addr) (t181_n : Nat) (t181_c : Nat) (t182_p : Option Addr) (t182_n : Nat) (t182_c : Nat), Loads P 53 ((⟨r_1, 0, none⟩ : Addr).add 1) (.agg #[(.bool t180), (.slice t181_p t181_n t181_c), (.slice t182_p t182_n t182_c)]) wv_3 ∧ Calls P 89 ⟨[(.agg #[(.bool t180), (.slice t181_p t181_n t181_c), (.slice t182_p t182_n t182_c)])]⟩ wv_3 fun e wv_4 =>
        ∃ (t190 : Bool) (t191_p : Option Addr) (t191_n : Nat) (t191_c : Nat) (t192_p : Option Addr) (t192_n : Nat) (t192_c : Nat), e = .returned (.agg #[(.bool t190), (.slice t191_p t191_n t191_c), (.slice t192_p t192_n t192_c)]) ∧
        ∃ wv_5, Stores P 53 ⟨r, 0, none⟩ (.agg #[(.bool t190), (.slice t191_p t191_n t191_c), (.slice t192_p t192_n t192_c)]) wv_4 wv_5 ∧
        ∃ (r0 : Bool) (r1_p : Option Addr) (r1_n : Nat) (r1_c : Nat) (r2_p : Option Addr) (r2_n : Nat) (r2_c : Nat), Loads P 53 ⟨r, 0, none⟩ (.agg #[(.bool r0), (.slice r1_p r1_n r1_c), (.slice r2_p r2_n r2_c)]) wv_5 ∧ R (.agg #[(.bool r0), (.slice r1_p r1_n r1_c), (.slice r2_p r2_n r2_c)]) wv_5) ∧
      ((decide (t14 = cur)) = false →
        ∃ t20 : Int, t20 = IntKind.wrap .i64 (t9 + 1) ∧ Inv t20 wv_3 ∧ mu t20 wv_3 < mu t9 wv_1)) ∧
    ((decide ((t9 : Int) < ((l_n : Nat) : Int))) = false →
      Calls P 186 ⟨[]⟩ wv_1 fun e_1 wv_6 =>
      ∃ (t210 : Bool) (t211_p : Option Addr) (t211_n : Nat) (t211_c : Nat) (t212_p : Option Addr) (t212_n : Nat) (t212_c : Nat), e_1 = .returned (.agg #[(.bool t210), (.slice t211_p t211_n t211_c), (.slice t212_p t212_n t212_c)]) ∧
      ∃ wv_7, Stores P 53 ⟨r, 0, none⟩ (.agg #[(.bool t210), (.slice t211_p t211_n t211_c), (.slice t212_p t212_n t212_c)]) wv_6 wv_7 ∧
      ∃ (r0_1 : Bool) (r1_p_1 : Option Addr) (r1_n_1 : Nat) (r1_c_1 : Nat) (r2_p_1 : Option Addr) (r2_n_1 : Nat) (r2_c_1 : Nat), Loads P 53 ⟨r, 0, none⟩ (.agg #[(.bool r0_1), (.slice r1_p_1 r1_n_1 r1_c_1), (.slice r2_p_1 r2_n_1 r2_c_1)]) wv_7 ∧ R (.agg #[(.bool r0_1), (.slice r1_p_1 r1_n_1 r1_c_1), (.slice r2_p_1 r2_n_1 r2_c_1)]) wv_7)
theorem impl_RestOf_eq (l_p : Option Addr) (l_n : Nat) (l_c : Nat) (cur : ByteArray) (w : World) (R : Value → World → Prop) : impl_RestOf l_p l_n l_c cur w R = fsem P Tryz.f88 (fun k => cond (Nat.beq k 3) [(9, .one (.int .i64))] ([])) [(.slice l_p l_n l_c), (.string cur)] R w := by kernel_rfl
theorem impl_RestOf_ret {l_p : Option Addr} {l_n : Nat} {l_c : Nat} {cur : ByteArray} {w : World} {R : Value → World → Prop} (h : impl_RestOf l_p l_n l_c cur w R) : Ret P 88 [(.slice l_p l_n l_c), (.string cur)] w R :=
  Ret.of_fsem Tryz.func88 rfl (Eq.mp (impl_RestOf_eq l_p l_n l_c cur w R) h)
def impl_ratCopy (r0 : Bool) (r1_p : Option Addr) (r1_n : Nat) (r1_c : Nat) (r2_p : Option Addr) (r2_n : Nat) (r2_c : Nat) (w : World) (R : Value → World → Prop) : Prop :=
  ∀ (r : Nat) (wv : World), New w (.cells ⟨[(.bool r0), (.slice r1_p r1_n r1_c), (.slice r2_p r2_n r2_c)]⟩ 53 (0, 0)) r wv →
  ∀ (r_1 : Nat) (wv_1 : World), New wv (.cells ⟨[(.bool false), (.slice none 0 0), (.slice none 0 0)]⟩ 53 (0, 0)) r_1 wv_1 →
  ∃ (t40 : Bool) (t41_p : Option Addr) (t41_n : Nat) (t41_c : Nat), (∀ wv_2, Ext wv_1.drew wv_2 → Loads P 31 ((⟨r, 0, none⟩ : Addr).add 0) (.agg #[(.bool t40), (.slice t41_p t41_n t41_c)]) wv_2) ∧ Calls P 187 ⟨[(.agg #[(.bool t40), (.slice t41_p t41_n t41_c)])]⟩ wv_1.drew fun e wv_3 =>
  ∃ (t50 : Bool) (t51_p : Option Addr) (t51_n : Nat) (t51_c : Nat), e = .returned (.agg #[(.bool t50), (.slice t51_p t51_n t51_c)]) ∧
  Ext wv_1.drew wv_3 ∧ ∃ (t7_p : Option Addr) (t7_n : Nat) (t7_c : Nat), (∀ wv_4, Ext wv_1.drew wv_4 → Loads P 22 ((⟨r, 0, none⟩ : Addr).add 2) (.slice t7_p t7_n t7_c) wv_4) ∧ Calls P 162 ⟨[(.slice t7_p t7_n t7_c)]⟩ wv_3 fun e_1 wv_5 =>
  ∃ (t8_p : Option Addr) (t8_n : Nat) (t8_c : Nat), e_1 = .returned (.slice t8_p t8_n t8_c) ∧
  ∃ wv_6, Stores P 53 ⟨r_1, 0, none⟩ (.agg #[(.bool t50), (.slice t51_p t51_n t51_c), (.slice t8_p t8_n t8_c)]) wv_5 wv_6 ∧
  ∃ (r0_1 : Bool) (r1_p_1 : Option Addr) (r1_n_1 : Nat) (r1_c_1 : Nat) (r2_p_1 : Option Addr) (r2_n_1 : Nat) (r2_c_1 : Nat), Loads P 53 ⟨r_1, 0, none⟩ (.agg #[(.bool r0_1), (.slice r1_p_1 r1_n_1 r1_c_1), (.slice r2_p_1 r2_n_1 r2_c_1)]) wv_6 ∧ R (.agg #[(.bool r0_1), (.slice r1_p_1 r1_n_1 r1_c_1), (.slice r2_p_1 r2_n_1 r2_c_1)]) wv_6
theorem impl_ratCopy_eq (r0 : Bool) (r1_p : Option Addr) (r1_n : Nat) (r1_c : Nat) (r2_p : Option Addr) (r2_n : Nat) (r2_c : Nat) (w : World) (R : Value → World → Prop) : impl_ratCopy r0 r1_p r1_n r1_c r2_p r2_n r2_c w R = fsem P Tryz.f89 (fun k => []) [(.agg #[(.bool r0), (.slice r1_p r1_n r1_c), (.slice r2_p r2_n r2_c)])] R w := by kernel_rfl
theorem impl_ratCopy_ret {r0 : Bool} {r1_p : Option Addr} {r1_n : Nat} {r1_c : Nat} {r2_p : Option Addr} {r2_n : Nat} {r2_c : Nat} {w : World} {R : Value → World → Prop} (h : impl_ratCopy r0 r1_p r1_n r1_c r2_p r2_n r2_c w R) : Ret P 89 [(.agg #[(.bool r0), (.slice r1_p r1_n r1_c), (.slice r2_p r2_n r2_c)])] w R :=
  Ret.of_fsem Tryz.func89 rfl (Eq.mp (impl_ratCopy_eq r0 r1_p r1_n r1_c r2_p r2_n r2_c w R) h)
def impl_RatSign (r0 : Bool) (r1_p : Option Addr) (r1_n : Nat) (r1_c : Nat) (r2_p : Option Addr) (r2_n : Nat) (r2_c : Nat) (w : World) (R : Value → World → Prop) : Prop :=
  ∀ (r : Nat) (wv : World), New w (.cells ⟨[(.bool r0), (.slice r1_p r1_n r1_c), (.slice r2_p r2_n r2_c)]⟩ 53 (0, 0)) r wv →
  ∃ (t30 : Bool) (t31_p : Option Addr) (t31_n : Nat) (t31_c : Nat) (t32_p : Option Addr) (t32_n : Nat) (t32_c : Nat), Loads P 53 ⟨r, 0, none⟩ (.agg #[(.bool t30), (.slice t31_p t31_n t31_c), (.slice t32_p t32_n t32_c)]) wv ∧ Calls P 85 ⟨[(.agg #[(.bool t30), (.slice t31_p t31_n t31_c), (.slice t32_p t32_n t32_c)])]⟩ wv fun e wv_1 =>
  ∃ (t4 : Bool), e = .returned (.bool t4) ∧
  ((!t4) = true →
    R (.int .i64 0) wv_1) ∧
  ((!t4) = false →
    ∃ (t70 : Bool) (t71_p : Option Addr) (t71_n : Nat) (t71_c : Nat), Loads P 31 ((⟨r, 0, none⟩ : Addr).add 0) (.agg #[(.bool t70), (.slice t71_p t71_n t71_c)]) wv_1 ∧ Calls P 188 ⟨[(.agg #[(.bool t70), (.slice t71_p t71_n t71_c)])]⟩ wv_1 fun e_1 wv_2 =>
    ∃ (t8 : Int), e_1 = .returned (.int .i64 t8) ∧
    R (.int .i64 t8) wv_2)
theorem impl_RatSign_eq (r0 : Bool) (r1_p : Option Addr) (r1_n : Nat) (r1_c : Nat) (r2_p : Option Addr) (r2_n : Nat) (r2_c : Nat) (w : World) (R : Value → World → Prop) : impl_RatSign r0 r1_p r1_n r1_c r2_p r2_n r2_c w R = fsem P Tryz.f90 (fun k => []) [(.agg #[(.bool r0), (.slice r1_p r1_n r1_c), (.slice r2_p r2_n r2_c)])] R w := by kernel_rfl
theorem impl_RatSign_ret {r0 : Bool} {r1_p : Option Addr} {r1_n : Nat} {r1_c : Nat} {r2_p : Option Addr} {r2_n : Nat} {r2_c : Nat} {w : World} {R : Value → World → Prop} (h : impl_RatSign r0 r1_p r1_n r1_c r2_p r2_n r2_c w R) : Ret P 90 [(.agg #[(.bool r0), (.slice r1_p r1_n r1_c), (.slice r2_p r2_n r2_c)])] w R :=
  Ret.of_fsem Tryz.func90 rfl (Eq.mp (impl_RatSign_eq r0 r1_p r1_n r1_c r2_p r2_n r2_c w R) h)
def impl_Curs (w : World) (R : Value → World → Prop) : Prop :=
  ∀ (r : Nat) (wv : World), New w (.cells ⟨[]⟩ 9 (0, 0)) r wv →
  ∃ (t5 : Value), Loads P 215 ⟨0, 0, none⟩ t5 wv ∧ ∃ (Inv : Option Addr → Nat → Nat → Int → World → Prop) (mu : Option Addr → Nat → Nat → Int → World → Nat), Inv (some ⟨r, 0, none⟩) 0 0 0 wv ∧
  ∀ (junk : Fr) (wv_1 : World) (codes_p : Option Addr) (codes_n : Nat) (codes_c : Nat) (t6 : Int), Inv codes_p codes_n codes_c t6 wv_1 →
    ((decide ((t6 : Int) < 20)) = true →
      indexS P 215 t5 (.int .i64 t6) fun (el : Value) => ∀ (r_1 : Nat) (wv_2 : World), New wv_1 (.cells ⟨[(.string ByteArray.empty), (.string ByteArray.empty), (.int .i64 0), (.int .i64 0)]⟩ 210 (0, 0)) r_1 wv_2 →
      ∃ wv_3, Stores P 210 ⟨r_1, 0, none⟩ el wv_2 wv_3 ∧
      ∃ (t11 : ByteArray), Loads P 9 ((⟨r_1, 0, none⟩ : Addr).add 0) (.string t11) wv_3 ∧ ∀ (r_2 : Nat) (wv_4 : World), New wv_3 (.cells ⟨[(.string t11)]⟩ 9 (0, 0)) r_2 wv_4 →
      ∃ (t13_p : Option Addr) (t13_n : Nat) (t13_c : Nat) (wv_5 : World), Appends P [123, 123] [(.slice codes_p codes_n codes_c), (.slice (some ⟨r_2, 0, none⟩) 1 1)] (.slice t13_p t13_n t13_c) wv_4 wv_5 ∧
      ∃ t14 : Int, t14 = IntKind.wrap .i64 (t6 + 1) ∧ Inv t13_p t13_n t13_c t14 wv_5 ∧ mu t13_p t13_n t13_c t14 wv_5 < mu codes_p codes_n codes_c t6 wv_1) ∧
    ((decide ((t6 : Int) < 20)) = false →
      Calls P 189 ⟨[(.slice codes_p codes_n codes_c)]⟩ wv_1 fun e wv_6 =>
      e = .returned (.tuple #[]) ∧
      R (.slice codes_p codes_n codes_c) wv_6)
theorem impl_Curs_eq (w : World) (R : Value → World → Prop) : impl_Curs w R = fsem P Tryz.f91 (fun k => cond (Nat.beq k 4) [(1, .one .slice), (6, .one (.int .i64))] ([])) [] R w := by kernel_rfl
theorem impl_Curs_ret {w : World} {R : Value → World → Prop} (h : impl_Curs w R) : Ret P 91 [] w R :=
  Ret.of_fsem Tryz.func91 rfl (Eq.mp (impl_Curs_eq w R) h)
def impl_restsCopy (l_p : Option Addr) (l_n : Nat) (l_c : Nat) (w : World) (R : Value → World → Prop) : Prop :=
  ∀ (r : Nat) (wv : World), New w (.cells ⟨[]⟩ 117 (0, 0)) r wv →
  ∃ (Inv : Option Addr → Nat → Nat → Int → World → Prop) (mu : Option Addr → Nat → Nat → Int → World → Nat), Inv (some ⟨r, 0, none⟩) 0 0 0 wv ∧
  ∀ (junk : Fr) (wv_1 : World) (out_p : Option Addr) (out_n : Nat) (out_c : Nat) (t9 : Int), Inv out_p out_n out_c t9 wv_1 →
    ((decide ((t9 : Int) < ((l_n : Nat) : Int))) = true →
      (0 ≤ (t9 : Int) ∧ (t9 : Int) < (l_n : Nat)) ∧ ptrS l_p fun ad => ∃ (t120 : ByteArray) (t121 : Bool) (t122_p : Option Addr) (t122_n : Nat) (t122_c : Nat) (t123_p : Option Addr) (t123_n : Nat) (t123_c : Nat), Loads P 117 (ad.add (t9.toNat * 4)) (.agg #[(.string t120), (.bool t121), (.slice t122_p t122_n t122_c), (.slice t123_p t123_n t123_c)]) wv_1 ∧ ∀ (r_1 : Nat) (wv_2 : World), New wv_1 (.cells ⟨[(.string ByteArray.empty), (.bool false), (.slice none 0 0), (.slice none 0 0)]⟩ 117 (0, 0)) r_1 wv_2 →
      ∃ wv_3, Stores P 117 ⟨r_1, 0, none⟩ (.agg #[(.string t120), (.bool t121), (.slice t122_p t122_n t122_c), (.slice t123_p t123_n t123_c)]) wv_2 wv_3 ∧
      ∃ (t15 : ByteArray), (∀ wv_4, Ext wv_3.drew wv_4 → Loads P 9 ((⟨r_1, 0, none⟩ : Addr).add 0) (.string t15) wv_4) ∧ ∃ (t170 : Bool) (t171_p : Option Addr) (t171_n : Nat) (t171_c : Nat) (t172_p : Option Addr) (t172_n : Nat) (t172_c : Nat), (∀ wv_5, Ext wv_3.drew wv_5 → Loads P 53 ((⟨r_1, 0, none⟩ : Addr).add 1) (.agg #[(.bool t170), (.slice t171_p t171_n t171_c), (.slice t172_p t172_n t172_c)]) wv_5) ∧ Calls P 89 ⟨[(.agg #[(.bool t170), (.slice t171_p t171_n t171_c), (.slice t172_p t172_n t172_c)])]⟩ wv_3.drew fun e wv_6 =>
      ∃ (t180 : Bool) (t181_p : Option Addr) (t181_n : Nat) (t181_c : Nat) (t182_p : Option Addr) (t182_n : Nat) (t182_c : Nat), e = .returned (.agg #[(.bool t180), (.slice t181_p t181_n t181_c), (.slice t182_p t182_n t182_c)]) ∧
      Ext wv_3.drew wv_6 ∧ ∀ (r_2 : Nat) (wv_7 : World), New wv_6 (.cells ⟨[(.string t15), (.bool t180), (.slice t181_p t181_n t181_c), (.slice t182_p t182_n t182_c)]⟩ 117 (0, 0)) r_2 wv_7 →
      ∃ (t21_p : Option Addr) (t21_n : Nat) (t21_c : Nat) (wv_8 : World), Appends P [48, 48] [(.slice out_p out_n out_c), (.slice (some ⟨r_2, 0, none⟩) 1 1)] (.slice t21_p t21_n t21_c) wv_7 wv_8 ∧
      ∃ t22 : Int, t22 = IntKind.wrap .i64 (t9 + 1) ∧ Inv t21_p t21_n t21_c t22 wv_8 ∧ mu t21_p t21_n t21_c t22 wv_8 < mu out_p out_n out_c t9 wv_1) ∧
    ((decide ((t9 : Int) < ((l_n : Nat) : Int))) = false →
      R (.slice out_p out_n out_c) wv_1)
theorem impl_restsCopy_eq (l_p : Option Addr) (l_n : Nat) (l_c : Nat) (w : World) (R : Value → World → Prop) : impl_restsCopy l_p l_n l_c w R = fsem P Tryz.f93 (fun k => cond (Nat.beq k 4) [(3, .one .slice), (9, .one (.int .i64))] ([])) [(.slice l_p l_n l_c)] R w := by kernel_rfl
theorem impl_restsCopy_ret {l_p : Option Addr} {l_n : Nat} {l_c : Nat} {w : World} {R : Value → World → Prop} (h : impl_restsCopy l_p l_n l_c w R) : Ret P 93 [(.slice l_p l_n l_c)] w R :=
  Ret.of_fsem Tryz.func93 rfl (Eq.mp (impl_restsCopy_eq l_p l_n l_c w R) h)
end Go.Proofs.YtfehpaekbbmkcaaGreatDoor

namespace Go.Proofs.YtfehpaekbbmkcaaGreatDoor
open Go Go.Proofs.YtfehpaekbbmkcaaGreatDoor.Sx
set_option linter.unusedVariables false
set_option maxRecDepth 100000
def spec_l04Make (neg : Bool) (a_p : Option Addr) (a_n : Nat) (a_c : Nat) (w : World) (R : Value → World → Prop) : Prop :=
  ∀ (r : Nat) (wv : World), New w (.cells ⟨[(.bool false), (.slice none 0 0)]⟩ 31 (0, 0)) r wv →
  Calls P 207 ⟨[(.slice a_p a_n a_c)]⟩ wv fun e wv_1 =>
  ∃ (t7_p : Option Addr) (t7_n : Nat) (t7_c : Nat), e = .returned (.slice t7_p t7_n t7_c) ∧
  (neg = true →
    ∀ (r_1 : Nat) (wv_2 : World), New wv_1 (.cells ⟨[]⟩ 3 (0, 0)) r_1 wv_2 →
    ∃ (t16_p : Option Addr) (t16_n : Nat) (t16_c : Nat) (wv_3 : World), Appends P [22, 22] [(.slice (some ⟨r_1, 0, none⟩) 0 0), (.slice t7_p t7_n t7_c)] (.slice t16_p t16_n t16_c) wv_2 wv_3 ∧
    ∃ wv_4, Stores P 31 ⟨r, 0, none⟩ (.agg #[(.bool (decide ((0 : Int) < ((t7_n : Nat) : Int)))), (.slice t16_p t16_n t16_c)]) wv_3 wv_4 ∧
    ∃ (r0 : Bool) (r1_p : Option Addr) (r1_n : Nat) (r1_c : Nat), Loads P 31 ⟨r, 0, none⟩ (.agg #[(.bool r0), (.slice r1_p r1_n r1_c)]) wv_4 ∧ R (.agg #[(.bool r0), (.slice r1_p r1_n r1_c)]) wv_4) ∧
  (neg = false →
    ∀ (r_2 : Nat) (wv_5 : World), New wv_1 (.cells ⟨[]⟩ 3 (0, 0)) r_2 wv_5 →
    ∃ (t16_p_1 : Option Addr) (t16_n_1 : Nat) (t16_c_1 : Nat) (wv_6 : World), Appends P [22, 22] [(.slice (some ⟨r_2, 0, none⟩) 0 0), (.slice t7_p t7_n t7_c)] (.slice t16_p_1 t16_n_1 t16_c_1) wv_5 wv_6 ∧
    ∃ wv_7, Stores P 31 ⟨r, 0, none⟩ (.agg #[(.bool false), (.slice t16_p_1 t16_n_1 t16_c_1)]) wv_6 wv_7 ∧
    ∃ (r0_1 : Bool) (r1_p_1 : Option Addr) (r1_n_1 : Nat) (r1_c_1 : Nat), Loads P 31 ⟨r, 0, none⟩ (.agg #[(.bool r0_1), (.slice r1_p_1 r1_n_1 r1_c_1)]) wv_7 ∧ R (.agg #[(.bool r0_1), (.slice r1_p_1 r1_n_1 r1_c_1)]) wv_7)
theorem spec_l04Make_eq (neg : Bool) (a_p : Option Addr) (a_n : Nat) (a_c : Nat) (w : World) (R : Value → World → Prop) : spec_l04Make neg a_p a_n a_c w R = fsem P Tryz.f113 (fun k => []) [(.bool neg), (.slice a_p a_n a_c)] R w := by kernel_rfl
theorem spec_l04Make_ret {neg : Bool} {a_p : Option Addr} {a_n : Nat} {a_c : Nat} {w : World} {R : Value → World → Prop} (h : spec_l04Make neg a_p a_n a_c w R) : Ret P 113 [(.bool neg), (.slice a_p a_n a_c)] w R :=
  Ret.of_fsem Tryz.func113 rfl (Eq.mp (spec_l04Make_eq neg a_p a_n a_c w R) h)
end Go.Proofs.YtfehpaekbbmkcaaGreatDoor

namespace Go.Proofs.YtfehpaekbbmkcaaGreatDoor
open Go Go.Proofs.YtfehpaekbbmkcaaGreatDoor.Sx
set_option linter.unusedVariables false
set_option maxRecDepth 100000
def impl_intAdd_j0 (r : Nat) (r_1 : Nat) (r_2 : Nat) (W : World) (R : Value → World → Prop) : Prop :=
  ∃ (t27 : Bool), (∀ wv_12, Ext W.drew wv_12 → Loads P 4 ((⟨r, 0, none⟩ : Addr).add 0) (.bool t27) wv_12) ∧ ∃ (t29_p : Option Addr) (t29_n : Nat) (t29_c : Nat), (∀ wv_13, Ext W.drew wv_13 → Loads P 22 ((⟨r, 0, none⟩ : Addr).add 1) (.slice t29_p t29_n t29_c) wv_13) ∧ ∃ (t31_p : Option Addr) (t31_n : Nat) (t31_c : Nat), (∀ wv_14, Ext W.drew wv_14 → Loads P 22 ((⟨r_1, 0, none⟩ : Addr).add 1) (.slice t31_p t31_n t31_c) wv_14) ∧ Calls P 166 ⟨[(.slice t29_p t29_n t29_c), (.slice t31_p t31_n t31_c)]⟩ W.drew fun e_3 wv_15 =>
  ∃ (t32_p : Option Addr) (t32_n : Nat) (t32_c : Nat), e_3 = .returned (.slice t32_p t32_n t32_c) ∧
  Ext W.drew wv_15 ∧ Calls P 173 ⟨[(.bool t27), (.slice t32_p t32_n t32_c)]⟩ wv_15 fun e_4 wv_16 =>
  ∃ (t330 : Bool) (t331_p : Option Addr) (t331_n : Nat) (t331_c : Nat), e_4 = .returned (.agg #[(.bool t330), (.slice t331_p t331_n t331_c)]) ∧
  ∃ wv_17, Stores P 31 ⟨r_2, 0, none⟩ (.agg #[(.bool t330), (.slice t331_p t331_n t331_c)]) wv_16 wv_17 ∧
  ∃ (r0_1 : Bool) (r1_p_1 : Option Addr) (r1_n_1 : Nat) (r1_c_1 : Nat), Loads P 31 ⟨r_2, 0, none⟩ (.agg #[(.bool r0_1), (.slice r1_p_1 r1_n_1 r1_c_1)]) wv_17 ∧ R (.agg #[(.bool r0_1), (.slice r1_p_1 r1_n_1 r1_c_1)]) wv_17
def impl_intAdd (x0 : Bool) (x1_p : Option Addr) (x1_n : Nat) (x1_c : Nat) (y0 : Bool) (y1_p : Option Addr) (y1_n : Nat) (y1_c : Nat) (w : World) (R : Value → World → Prop) : Prop :=
  ∀ (r : Nat) (wv : World), New w (.cells ⟨[(.bool x0), (.slice x1_p x1_n x1_c)]⟩ 31 (0, 0)) r wv →
  ∀ (r_1 : Nat) (wv_1 : World), New wv (.cells ⟨[(.bool y0), (.slice y1_p y1_n y1_c)]⟩ 31 (0, 0)) r_1 wv_1 →
  ∀ (r_2 : Nat) (wv_2 : World), New wv_1 (.cells ⟨[(.bool false), (.slice none 0 0)]⟩ 31 (0, 0)) r_2 wv_2 →
  ∃ (t6 : Bool), Loads P 4 ((⟨r, 0, none⟩ : Addr).add 0) (.bool t6) wv_2 ∧ ∃ (t8 : Bool), Loads P 4 ((⟨r_1, 0, none⟩ : Addr).add 0) (.bool t8) wv_2 ∧ ((t6 == t8) = true →
    ∃ (t11 : Bool), (∀ wv_3, Ext wv_2.drew wv_3 → Loads P 4 ((⟨r, 0, none⟩ : Addr).add 0) (.bool t11) wv_3) ∧ ∃ (t13_p : Option Addr) (t13_n : Nat) (t13_c : Nat), (∀ wv_4, Ext wv_2.drew wv_4 → Loads P 22 ((⟨r, 0, none⟩ : Addr).add 1) (.slice t13_p t13_n t13_c) wv_4) ∧ ∃ (t15_p : Option Addr) (t15_n : Nat) (t15_c : Nat), (∀ wv_5, Ext wv_2.drew wv_5 → Loads P 22 ((⟨r_1, 0, none⟩ : Addr).add 1) (.slice t15_p t15_n t15_c) wv_5) ∧ Calls P 137 ⟨[(.slice t13_p t13_n t13_c), (.slice t15_p t15_n t15_c)]⟩ wv_2.drew fun e wv_6 =>
    ∃ (t16_p : Option Addr) (t16_n : Nat) (t16_c : Nat), e = .returned (.slice t16_p t16_n t16_c) ∧
    Ext wv_2.drew wv_6 ∧ Calls P 173 ⟨[(.bool t11), (.slice t16_p t16_n t16_c)]⟩ wv_6 fun e_1 wv_7 =>
    ∃ (t170 : Bool) (t171_p : Option Addr) (t171_n : Nat) (t171_c : Nat), e_1 = .returned (.agg #[(.bool t170), (.slice t171_p t171_n t171_c)]) ∧
    ∃ wv_8, Stores P 31 ⟨r_2, 0, none⟩ (.agg #[(.bool t170), (.slice t171_p t171_n t171_c)]) wv_7 wv_8 ∧
    ∃ (r0 : Bool) (r1_p : Option Addr) (r1_n : Nat) (r1_c : Nat), Loads P 31 ⟨r_2, 0, none⟩ (.agg #[(.bool r0), (.slice r1_p r1_n r1_c)]) wv_8 ∧ R (.agg #[(.bool r0), (.slice r1_p r1_n r1_c)]) wv_8) ∧
  ((t6 == t8) = false →
    ∃ (t19_p : Option Addr) (t19_n : Nat) (t19_c : Nat), Loads P 22 ((⟨r, 0, none⟩ : Addr).add 1) (.slice t19_p t19_n t19_c) wv_2 ∧ ∃ (t21_p : Option Addr) (t21_n : Nat) (t21_c : Nat), Loads P 22 ((⟨r_1, 0, none⟩ : Addr).add 1) (.slice t21_p t21_n t21_c) wv_2 ∧ Calls P 170 ⟨[(.slice t19_p t19_n t19_c), (.slice t21_p t21_n t21_c)]⟩ wv_2 fun e_2 wv_9 =>
    ∃ (t22 : Int), e_2 = .returned (.int .i64 t22) ∧
    ((decide ((t22 : Int) < 0)) = true →
      ∃ (t240 : Bool) (t241_p : Option Addr) (t241_n : Nat) (t241_c : Nat), Loads P 31 ⟨r_1, 0, none⟩ (.agg #[(.bool t240), (.slice t241_p t241_n t241_c)]) wv_9 ∧ ∃ (t250 : Bool) (t251_p : Option Addr) (t251_n : Nat) (t251_c : Nat), Loads P 31 ⟨r, 0, none⟩ (.agg #[(.bool t250), (.slice t251_p t251_n t251_c)]) wv_9 ∧ ∃ wv_10, Stores P 31 ⟨r, 0, none⟩ (.agg #[(.bool t240), (.slice t241_p t241_n t241_c)]) wv_9 wv_10 ∧
      ∃ wv_11, Stores P 31 ⟨r_1, 0, none⟩ (.agg #[(.bool t250), (.slice t251_p t251_n t251_c)]) wv_10 wv_11 ∧
      impl_intAdd_j0 r r_1 r_2 wv_11 R) ∧
    ((decide ((t22 : Int) < 0)) = false →
      impl_intAdd_j0 r r_1 r_2 wv_9 R))
theorem impl_intAdd_eq (x0 : Bool) (x1_p : Option Addr) (x1_n : Nat) (x1_c : Nat) (y0 : Bool) (y1_p : Option Addr) (y1_n : Nat) (y1_c : Nat) (w : World) (R : Value → World → Prop) : impl_intAdd x0 x1_p x1_n x1_c y0 y1_p y1_n y1_c w R = fsem P Tryz.f121 (fun k => []) [(.agg #[(.bool x0), (.slice x1_p x1_n x1_c)]), (.agg #[(.bool y0), (.slice y1_p y1_n y1_c)])] R w := by kernel_rfl
theorem impl_intAdd_ret {x0 : Bool} {x1_p : Option Addr} {x1_n : Nat} {x1_c : Nat} {y0 : Bool} {y1_p : Option Addr} {y1_n : Nat} {y1_c : Nat} {w : World} {R : Value → World → Prop} (h : impl_intAdd x0 x1_p x1_n x1_c y0 y1_p y1_n y1_c w R) : Ret P 121 [(.agg #[(.bool x0), (.slice x1_p x1_n x1_c)]), (.agg #[(.bool y0), (.slice y1_p y1_n y1_c)])] w R :=
  Ret.of_fsem Tryz.func121 rfl (Eq.mp (impl_intAdd_eq x0 x1_p x1_n x1_c y0 y1_p y1_n y1_c w R) h)
def spec_l01In (n : Int) (lo : Int) (hi : Int) (w : World) (R : Value → World → Prop) : Prop :=
  ((decide ((lo : Int) ≤ n)) = true →
    R (.bool (decide ((n : Int) ≤ hi))) w) ∧
  ((decide ((lo : Int) ≤ n)) = false →
    R (.bool false) w)
theorem spec_l01In_eq (n : Int) (lo : Int) (hi : Int) (w : World) (R : Value → World → Prop) : spec_l01In n lo hi w R = fsem P Tryz.f125 (fun k => []) [(.int .i64 n), (.int .i64 lo), (.int .i64 hi)] R w := by kernel_rfl
theorem spec_l01In_ret {n : Int} {lo : Int} {hi : Int} {w : World} {R : Value → World → Prop} (h : spec_l01In n lo hi w R) : Ret P 125 [(.int .i64 n), (.int .i64 lo), (.int .i64 hi)] w R :=
  Ret.of_fsem Tryz.func125 rfl (Eq.mp (spec_l01In_eq n lo hi w R) h)
def spec_IntCmp_j1 (r : Nat) (r_1 : Nat) (t14 : Bool) (W_1 : World) (R : Value → World → Prop) : Prop :=
  (t14 = true →
    R (.int .i64 (-1)) W_1) ∧
  (t14 = false →
    ∃ (t24 : Bool), Loads P 4 ((⟨r, 0, none⟩ : Addr).add 0) (.bool t24) W_1 ∧ ((!t24) = true →
      ∃ (t28 : Bool), Loads P 4 ((⟨r_1, 0, none⟩ : Addr).add 0) (.bool t28) W_1 ∧ (t28 = true →
        R (.int .i64 1) W_1) ∧
      (t28 = false →
        ∃ (t32 : Bool), Loads P 4 ((⟨r, 0, none⟩ : Addr).add 0) (.bool t32) W_1 ∧ (t32 = true →
          ∃ (t34_p : Option Addr) (t34_n : Nat) (t34_c : Nat), Loads P 22 ((⟨r_1, 0, none⟩ : Addr).add 1) (.slice t34_p t34_n t34_c) W_1 ∧ ∃ (t36_p : Option Addr) (t36_n : Nat) (t36_c : Nat), Loads P 22 ((⟨r, 0, none⟩ : Addr).add 1) (.slice t36_p t36_n t36_c) W_1 ∧ Calls P 222 ⟨[(.slice t34_p t34_n t34_c), (.slice t36_p t36_n t36_c)]⟩ W_1 fun e_1 wv_3 =>
          ∃ (t37 : Int), e_1 = .returned (.int .i64 t37) ∧
          R (.int .i64 t37) wv_3) ∧
        (t32 = false →
          ∃ (t39_p : Option Addr) (t39_n : Nat) (t39_c : Nat), Loads P 22 ((⟨r, 0, none⟩ : Addr).add 1) (.slice t39_p t39_n t39_c) W_1 ∧ ∃ (t41_p : Option Addr) (t41_n : Nat) (t41_c : Nat), Loads P 22 ((⟨r_1, 0, none⟩ : Addr).add 1) (.slice t41_p t41_n t41_c) W_1 ∧ Calls P 222 ⟨[(.slice t39_p t39_n t39_c), (.slice t41_p t41_n t41_c)]⟩ W_1 fun e_2 wv_4 =>
          ∃ (t42 : Int), e_2 = .returned (.int .i64 t42) ∧
          R (.int .i64 t42) wv_4))) ∧
    ((!t24) = false →
      (false = true →
        R (.int .i64 1) W_1) ∧
      (false = false →
        ∃ (t32_1 : Bool), Loads P 4 ((⟨r, 0, none⟩ : Addr).add 0) (.bool t32_1) W_1 ∧ (t32_1 = true →
          ∃ (t34_p_1 : Option Addr) (t34_n_1 : Nat) (t34_c_1 : Nat), Loads P 22 ((⟨r_1, 0, none⟩ : Addr).add 1) (.slice t34_p_1 t34_n_1 t34_c_1) W_1 ∧ ∃ (t36_p_1 : Option Addr) (t36_n_1 : Nat) (t36_c_1 : Nat), Loads P 22 ((⟨r, 0, none⟩ : Addr).add 1) (.slice t36_p_1 t36_n_1 t36_c_1) W_1 ∧ Calls P 222 ⟨[(.slice t34_p_1 t34_n_1 t34_c_1), (.slice t36_p_1 t36_n_1 t36_c_1)]⟩ W_1 fun e_3 wv_5 =>
          ∃ (t37_1 : Int), e_3 = .returned (.int .i64 t37_1) ∧
          R (.int .i64 t37_1) wv_5) ∧
        (t32_1 = false →
          ∃ (t39_p_1 : Option Addr) (t39_n_1 : Nat) (t39_c_1 : Nat), Loads P 22 ((⟨r, 0, none⟩ : Addr).add 1) (.slice t39_p_1 t39_n_1 t39_c_1) W_1 ∧ ∃ (t41_p_1 : Option Addr) (t41_n_1 : Nat) (t41_c_1 : Nat), Loads P 22 ((⟨r_1, 0, none⟩ : Addr).add 1) (.slice t41_p_1 t41_n_1 t41_c_1) W_1 ∧ Calls P 222 ⟨[(.slice t39_p_1 t39_n_1 t39_c_1), (.slice t41_p_1 t41_n_1 t41_c_1)]⟩ W_1 fun e_4 wv_6 =>
          ∃ (t42_1 : Int), e_4 = .returned (.int .i64 t42_1) ∧
          R (.int .i64 t42_1) wv_6))))
def spec_IntCmp_j0 (r : Nat) (r_1 : Nat) (t5 : Bool) (W : World) (R : Value → World → Prop) : Prop :=
  (t5 = true →
    R (.int .i64 0) W) ∧
  (t5 = false →
    ∃ (t16 : Bool), Loads P 4 ((⟨r, 0, none⟩ : Addr).add 0) (.bool t16) W ∧ (t16 = true →
      ∃ (t19 : Bool), Loads P 4 ((⟨r_1, 0, none⟩ : Addr).add 0) (.bool t19) W ∧ spec_IntCmp_j1 r r_1 (!t19) W R) ∧
    (t16 = false →
      spec_IntCmp_j1 r r_1 false W R))
def spec_IntCmp (x0 : Bool) (x1_p : Option Addr) (x1_n : Nat) (x1_c : Nat) (y0 : Bool) (y1_p : Option Addr) (y1_n : Nat) (y1_c : Nat) (w : World) (R : Value → World → Prop) : Prop :=
  ∀ (r : Nat) (wv : World), New w (.cells ⟨[(.bool x0), (.slice x1_p x1_n x1_c)]⟩ 31 (0, 0)) r wv →
  ∀ (r_1 : Nat) (wv_1 : World), New wv (.cells ⟨[(.bool y0), (.slice y1_p y1_n y1_c)]⟩ 31 (0, 0)) r_1 wv_1 →
  ∃ (t60 : Bool) (t61_p : Option Addr) (t61_n : Nat) (t61_c : Nat), Loads P 31 ⟨r, 0, none⟩ (.agg #[(.bool t60), (.slice t61_p t61_n t61_c)]) wv_1 ∧ Calls P 151 ⟨[(.agg #[(.bool t60), (.slice t61_p t61_n t61_c)])]⟩ wv_1 fun e wv_2 =>
  ∃ (t7 : Bool), e = .returned (.bool t7) ∧
  ((!t7) = true →
    spec_IntCmp_j0 r r_1 true wv_2 R) ∧
  ((!t7) = false →
    ∃ (t100 : Bool) (t101_p : Option Addr) (t101_n : Nat) (t101_c : Nat), Loads P 31 ⟨r_1, 0, none⟩ (.agg #[(.bool t100), (.slice t101_p t101_n t101_c)]) wv_2 ∧ Calls P 151 ⟨[(.agg #[(.bool t100), (.slice t101_p t101_n t101_c)])]⟩ wv_2 fun e_5 wv_7 =>
    ∃ (t11 : Bool), e_5 = .returned (.bool t11) ∧
    spec_IntCmp_j0 r r_1 (!t11) wv_7 R)
theorem spec_IntCmp_eq (x0 : Bool) (x1_p : Option Addr) (x1_n : Nat) (x1_c : Nat) (y0 : Bool) (y1_p : Option Addr) (y1_n : Nat) (y1_c : Nat) (w : World) (R : Value → World → Prop) : spec_IntCmp x0 x1_p x1_n x1_c y0 y1_p y1_n y1_c w R = fsem P Tryz.f129 (fun k => []) [(.agg #[(.bool x0), (.slice x1_p x1_n x1_c)]), (.agg #[(.bool y0), (.slice y1_p y1_n y1_c)])] R w := by kernel_rfl
theorem spec_IntCmp_ret {x0 : Bool} {x1_p : Option Addr} {x1_n : Nat} {x1_c : Nat} {y0 : Bool} {y1_p : Option Addr} {y1_n : Nat} {y1_c : Nat} {w : World} {R : Value → World → Prop} (h : spec_IntCmp x0 x1_p x1_n x1_c y0 y1_p y1_n y1_c w R) : Ret P 129 [(.agg #[(.bool x0), (.slice x1_p x1_n x1_c)]), (.agg #[(.bool y0), (.slice y1_p y1_n y1_c)])] w R :=
  Ret.of_fsem Tryz.func129 rfl (Eq.mp (spec_IntCmp_eq x0 x1_p x1_n x1_c y0 y1_p y1_n y1_c w R) h)
def impl_natSmall (a_p : Option Addr) (a_n : Nat) (a_c : Nat) (d : Int) (w : World) (R : Value → World → Prop) : Prop :=
  (0 ≤ (((a_n : Nat) : Int) : Int) ∧ (((a_n : Nat) : Int) : Int) ≤ ((a_n : Nat) : Int) ∧ ((8 : Nat) : Int) * ((a_n : Nat) : Int) ≤ 281474976710656) ∧
  ∀ (r : Nat) (wv : World), New w (.cells ⟨zeroRow (.int .i64 0) (a_n * 1)⟩ 3 (0, 0)) r wv →
  ∃ t14 : Int, t14 = IntKind.wrap .i64 (((a_n : Nat) : Int) - 1) ∧ ∃ (Inv : Int → Int → World → Prop) (mu : Int → Int → World → Nat), Inv 0 t14 wv ∧
  ∀ (junk : Fr) (wv_1 : World) (rest : Int) (i : Int), Inv rest i wv_1 →
    ((decide ((0 : Int) ≤ i)) = true →
      ∃ t20 : Int, t20 = IntKind.wrap .i64 (rest * 1000000000) ∧ (0 ≤ (i : Int) ∧ (i : Int) < (a_n : Nat)) ∧ ptrS a_p fun ad => ∃ (t24 : Int), Loads P 3 (ad.add (i.toNat * 1)) (.int .i64 t24) wv_1 ∧ ∃ t25 : Int, t25 = IntKind.wrap .i64 (t20 + t24) ∧ (d : Int) ≠ 0 ∧ ∃ t30 : Int, t30 = IntKind.wrap .i64 (Int.tdiv t25 d) ∧ (0 ≤ (i : Int) ∧ (i : Int) < (a_n : Nat)) ∧ ∃ wv_2, Stores P 3 ((⟨r, 0, none⟩ : Addr).add (i.toNat * 1)) (.int .i64 t30) wv_1 wv_2 ∧
      (d : Int) ≠ 0 ∧ ∃ t34 : Int, t34 = Int.tmod t25 d ∧ ∃ t18 : Int, t18 = IntKind.wrap .i64 (i - 1) ∧ Inv t34 t18 wv_2 ∧ mu t34 t18 wv_2 < mu rest i wv_1) ∧
    ((decide ((0 : Int) ≤ i)) = false →
      Calls P 227 ⟨[(.slice (some ⟨r, 0, none⟩) a_n a_n)]⟩ wv_1 fun e wv_3 =>
      ∃ (t36_p : Option Addr) (t36_n : Nat) (t36_c : Nat), e = .returned (.slice t36_p t36_n t36_c) ∧
      R (.tuple #[(.slice t36_p t36_n t36_c), (.int .i64 rest)]) wv_3)
theorem impl_natSmall_eq (a_p : Option Addr) (a_n : Nat) (a_c : Nat) (d : Int) (w : World) (R : Value → World → Prop) : impl_natSmall a_p a_n a_c d w R = fsem P Tryz.f136 (fun k => cond (Nat.beq k 5) [(7, .one (.int .i64)), (8, .one (.int .i64))] ([])) [(.slice a_p a_n a_c), (.int .i64 d)] R w := by kernel_rfl
theorem impl_natSmall_ret {a_p : Option Addr} {a_n : Nat} {a_c : Nat} {d : Int} {w : World} {R : Value → World → Prop} (h : impl_natSmall a_p a_n a_c d w R) : Ret P 136 [(.slice a_p a_n a_c), (.int .i64 d)] w R :=
  Ret.of_fsem Tryz.func136 rfl (Eq.mp (impl_natSmall_eq a_p a_n a_c d w R) h)
def impl_natAdd_j1 (wv_1 : World) (Inv : Option Addr → Nat → Nat → Int → Int → World → Prop) (mu : Option Addr → Nat → Nat → Int → Int → World → Nat) (out_p : Option Addr) (out_n : Nat) (out_c : Nat) (carry : Int) (i : Int) (carry_2 : Int) (W_1 : World) (R : Value → World → Prop) : Prop :=
  (1000000000 : Int) ≠ 0 ∧ ∃ t46 : Int, t46 = Int.tmod carry_2 1000000000 ∧ ∀ (r_1 : Nat) (wv_2 : World), New W_1 (.cells ⟨[(.int .i64 t46)]⟩ 3 (0, 0)) r_1 wv_2 →
  ∃ (t48_p : Option Addr) (t48_n : Nat) (t48_c : Nat) (wv_3 : World), Appends P [22, 22] [(.slice out_p out_n out_c), (.slice (some ⟨r_1, 0, none⟩) 1 1)] (.slice t48_p t48_n t48_c) wv_2 wv_3 ∧
  (1000000000 : Int) ≠ 0 ∧ ∃ t50 : Int, t50 = IntKind.wrap .i64 (Int.tdiv carry_2 1000000000) ∧ ∃ t23 : Int, t23 = IntKind.wrap .i64 (i + 1) ∧ Inv t48_p t48_n t48_c t50 t23 wv_3 ∧ mu t48_p t48_n t48_c t50 t23 wv_3 < mu out_p out_n out_c carry i wv_1
def impl_natAdd_j0 (b_p : Option Addr) (b_n : Nat) (wv_1 : World) (Inv : Option Addr → Nat → Nat → Int → Int → World → Prop) (mu : Option Addr → Nat → Nat → Int → Int → World → Nat) (out_p : Option Addr) (out_n : Nat) (out_c : Nat) (carry : Int) (i : Int) (carry_1 : Int) (W : World) (R : Value → World → Prop) : Prop :=
  ((decide ((i : Int) < ((b_n : Nat) : Int))) = true →
    (0 ≤ (i : Int) ∧ (i : Int) < (b_n : Nat)) ∧ ptrS b_p fun ad_1 => ∃ (t42 : Int), Loads P 3 (ad_1.add (i.toNat * 1)) (.int .i64 t42) W ∧ ∃ t43 : Int, t43 = IntKind.wrap .i64 (carry_1 + t42) ∧ impl_natAdd_j1 wv_1 Inv mu out_p out_n out_c carry i t43 W R) ∧
  ((decide ((i : Int) < ((b_n : Nat) : Int))) = false →
    impl_natAdd_j1 wv_1 Inv mu out_p out_n out_c carry i carry_1 W R)
def impl_natAdd (a_p : Option Addr) (a_n : Nat) (a_c : Nat) (b_p : Option Addr) (b_n : Nat) (b_c : Nat) (w : World) (R : Value → World → Prop) : Prop :=
  ∃ t12 : Int, t12 = (if ((b_n : Nat) : Int) > ((a_n : Nat) : Int) then ((b_n : Nat) : Int) else ((a_n : Nat) : Int)) ∧ ∃ t13 : Int, t13 = IntKind.wrap .i64 (t12 + 1) ∧ (0 ≤ (0 : Int) ∧ (0 : Int) ≤ t13 ∧ ((8 : Nat) : Int) * t13 ≤ 281474976710656) ∧
  ∀ (r : Nat) (wv : World), New w (.cells ⟨zeroRow (.int .i64 0) (t13.toNat * 1)⟩ 3 (0, 0)) r wv →
  ∃ (Inv : Option Addr → Nat → Nat → Int → Int → World → Prop) (mu : Option Addr → Nat → Nat → Int → Int → World → Nat), Inv (some ⟨r, 0, none⟩) 0 t13.toNat 0 0 wv ∧
  ∀ (junk : Fr) (wv_1 : World) (out_p : Option Addr) (out_n : Nat) (out_c : Nat) (carry : Int) (i : Int), Inv out_p out_n out_c carry i wv_1 →
    ∃ t20 : Int, t20 = (if ((b_n : Nat) : Int) > ((a_n : Nat) : Int) then ((b_n : Nat) : Int) else ((a_n : Nat) : Int)) ∧ ((decide ((i : Int) < t20)) = true →
      ((decide ((i : Int) < ((a_n : Nat) : Int))) = true →
        (0 ≤ (i : Int) ∧ (i : Int) < (a_n : Nat)) ∧ ptrS a_p fun ad => ∃ (t32 : Int), Loads P 3 (ad.add (i.toNat * 1)) (.int .i64 t32) wv_1 ∧ ∃ t33 : Int, t33 = IntKind.wrap .i64 (carry + t32) ∧ impl_natAdd_j0 b_p b_n wv_1 Inv mu out_p out_n out_c carry i t33 wv_1 R) ∧
      ((decide ((i : Int) < ((a_n : Nat) : Int))) = false →
        impl_natAdd_j0 b_p b_n wv_1 Inv mu out_p out_n out_c carry i carry wv_1 R)) ∧
    ((decide ((i : Int) < t20)) = false →
      ∀ (r_2 : Nat) (wv_4 : World), New wv_1 (.cells ⟨[(.int .i64 carry)]⟩ 3 (0, 0)) r_2 wv_4 →
      ∃ (t54_p : Option Addr) (t54_n : Nat) (t54_c : Nat) (wv_5 : World), Appends P [22, 22] [(.slice out_p out_n out_c), (.slice (some ⟨r_2, 0, none⟩) 1 1)] (.slice t54_p t54_n t54_c) wv_4 wv_5 ∧
      Calls P 227 ⟨[(.slice t54_p t54_n t54_c)]⟩ wv_5 fun e wv_6 =>
      ∃ (t55_p : Option Addr) (t55_n : Nat) (t55_c : Nat), e = .returned (.slice t55_p t55_n t55_c) ∧
      R (.slice t55_p t55_n t55_c) wv_6)
theorem impl_natAdd_eq (a_p : Option Addr) (a_n : Nat) (a_c : Nat) (b_p : Option Addr) (b_n : Nat) (b_c : Nat) (w : World) (R : Value → World → Prop) : impl_natAdd a_p a_n a_c b_p b_n b_c w R = fsem P Tryz.f137 (fun k => cond (Nat.beq k 5) [(5, .one .slice), (6, .one (.int .i64)), (7, .one (.int .i64))] ([])) [(.slice a_p a_n a_c), (.slice b_p b_n b_c)] R w := by kernel_rfl
theorem impl_natAdd_ret {a_p : Option Addr} {a_n : Nat} {a_c : Nat} {b_p : Option Addr} {b_n : Nat} {b_c : Nat} {w : World} {R : Value → World → Prop} (h : impl_natAdd a_p a_n a_c b_p b_n b_c w R) : Ret P 137 [(.slice a_p a_n a_c), (.slice b_p b_n b_c)] w R :=
  Ret.of_fsem Tryz.func137 rfl (Eq.mp (impl_natAdd_eq a_p a_n a_c b_p b_n b_c w R) h)
end Go.Proofs.YtfehpaekbbmkcaaGreatDoor

namespace Go.Proofs.YtfehpaekbbmkcaaGreatDoor
open Go Go.Proofs.YtfehpaekbbmkcaaGreatDoor.Sx
set_option linter.unusedVariables false
set_option maxRecDepth 100000
def spec_IntOk (x0 : Bool) (x1_p : Option Addr) (x1_n : Nat) (x1_c : Nat) (w : World) (R : Value → World → Prop) : Prop :=
  ∀ (r : Nat) (wv : World), New w (.cells ⟨[(.bool x0), (.slice x1_p x1_n x1_c)]⟩ 31 (0, 0)) r wv →
  ∃ (t4_p : Option Addr) (t4_n : Nat) (t4_c : Nat), Loads P 22 ((⟨r, 0, none⟩ : Addr).add 1) (.slice t4_p t4_n t4_c) wv ∧ Calls P 223 ⟨[(.slice t4_p t4_n t4_c)]⟩ wv fun e wv_1 =>
  ∃ (t5 : Bool), e = .returned (.bool t5) ∧
  (t5 = true →
    ∃ (t8 : Bool), Loads P 4 ((⟨r, 0, none⟩ : Addr).add 0) (.bool t8) wv_1 ∧ ((!t8) = true →
      R (.bool true) wv_1) ∧
    ((!t8) = false →
      ∃ (t12_p : Option Addr) (t12_n : Nat) (t12_c : Nat), Loads P 22 ((⟨r, 0, none⟩ : Addr).add 1) (.slice t12_p t12_n t12_c) wv_1 ∧ R (.bool (decide ((0 : Int) < ((t12_n : Nat) : Int)))) wv_1)) ∧
  (t5 = false →
    R (.bool false) wv_1)
theorem spec_IntOk_eq (x0 : Bool) (x1_p : Option Addr) (x1_n : Nat) (x1_c : Nat) (w : World) (R : Value → World → Prop) : spec_IntOk x0 x1_p x1_n x1_c w R = fsem P Tryz.f151 (fun k => []) [(.agg #[(.bool x0), (.slice x1_p x1_n x1_c)])] R w := by kernel_rfl
theorem spec_IntOk_ret {x0 : Bool} {x1_p : Option Addr} {x1_n : Nat} {x1_c : Nat} {w : World} {R : Value → World → Prop} (h : spec_IntOk x0 x1_p x1_n x1_c w R) : Ret P 151 [(.agg #[(.bool x0), (.slice x1_p x1_n x1_c)])] w R :=
  Ret.of_fsem Tryz.func151 rfl (Eq.mp (spec_IntOk_eq x0 x1_p x1_n x1_c w R) h)
def spec_RatCmp_j0 (r : Nat) (r_1 : Nat) (W : World) (R : Value → World → Prop) : Prop :=
  ∃ (t15 : Bool), (∀ wv_3, Ext W.drew wv_3 → Loads P 4 (((⟨r, 0, none⟩ : Addr).add 0).add 0) (.bool t15) wv_3) ∧ ∃ (t18_p : Option Addr) (t18_n : Nat) (t18_c : Nat), (∀ wv_4, Ext W.drew wv_4 → Loads P 22 (((⟨r, 0, none⟩ : Addr).add 0).add 1) (.slice t18_p t18_n t18_c) wv_4) ∧ ∃ (t20_p : Option Addr) (t20_n : Nat) (t20_c : Nat), (∀ wv_5, Ext W.drew wv_5 → Loads P 22 ((⟨r_1, 0, none⟩ : Addr).add 2) (.slice t20_p t20_n t20_c) wv_5) ∧ Calls P 175 ⟨[(.slice t18_p t18_n t18_c), (.slice t20_p t20_n t20_c)]⟩ W.drew fun e_1 wv_6 =>
  ∃ (t21_p : Option Addr) (t21_n : Nat) (t21_c : Nat), e_1 = .returned (.slice t21_p t21_n t21_c) ∧
  Ext W.drew wv_6 ∧ Calls P 113 ⟨[(.bool t15), (.slice t21_p t21_n t21_c)]⟩ wv_6 fun e_2 wv_7 =>
  ∃ (t220 : Bool) (t221_p : Option Addr) (t221_n : Nat) (t221_c : Nat), e_2 = .returned (.agg #[(.bool t220), (.slice t221_p t221_n t221_c)]) ∧
  Ext wv_6 wv_7 ∧ ∃ (t25 : Bool), (∀ wv_8, Ext W.drew wv_8 → Loads P 4 (((⟨r_1, 0, none⟩ : Addr).add 0).add 0) (.bool t25) wv_8) ∧ ∃ (t28_p : Option Addr) (t28_n : Nat) (t28_c : Nat), (∀ wv_9, Ext W.drew wv_9 → Loads P 22 (((⟨r_1, 0, none⟩ : Addr).add 0).add 1) (.slice t28_p t28_n t28_c) wv_9) ∧ ∃ (t30_p : Option Addr) (t30_n : Nat) (t30_c : Nat), (∀ wv_10, Ext W.drew wv_10 → Loads P 22 ((⟨r, 0, none⟩ : Addr).add 2) (.slice t30_p t30_n t30_c) wv_10) ∧ Calls P 175 ⟨[(.slice t28_p t28_n t28_c), (.slice t30_p t30_n t30_c)]⟩ wv_7 fun e_3 wv_11 =>
  ∃ (t31_p : Option Addr) (t31_n : Nat) (t31_c : Nat), e_3 = .returned (.slice t31_p t31_n t31_c) ∧
  Ext wv_7 wv_11 ∧ Calls P 113 ⟨[(.bool t25), (.slice t31_p t31_n t31_c)]⟩ wv_11 fun e_4 wv_12 =>
  ∃ (t320 : Bool) (t321_p : Option Addr) (t321_n : Nat) (t321_c : Nat), e_4 = .returned (.agg #[(.bool t320), (.slice t321_p t321_n t321_c)]) ∧
  Calls P 129 ⟨[(.agg #[(.bool t220), (.slice t221_p t221_n t221_c)]), (.agg #[(.bool t320), (.slice t321_p t321_n t321_c)])]⟩ wv_12 fun e_5 wv_13 =>
  ∃ (t33 : Int), e_5 = .returned (.int .i64 t33) ∧
  R (.int .i64 t33) wv_13
def spec_RatCmp (r0 : Bool) (r1_p : Option Addr) (r1_n : Nat) (r1_c : Nat) (r2_p : Option Addr) (r2_n : Nat) (r2_c : Nat) (s0 : Bool) (s1_p : Option Addr) (s1_n : Nat) (s1_c : Nat) (s2_p : Option Addr) (s2_n : Nat) (s2_c : Nat) (w : World) (R : Value → World → Prop) : Prop :=
  ∀ (r : Nat) (wv : World), New w (.cells ⟨[(.bool r0), (.slice r1_p r1_n r1_c), (.slice r2_p r2_n r2_c)]⟩ 53 (0, 0)) r wv →
  ∀ (r_1 : Nat) (wv_1 : World), New wv (.cells ⟨[(.bool s0), (.slice s1_p s1_n s1_c), (.slice s2_p s2_n s2_c)]⟩ 53 (0, 0)) r_1 wv_1 →
  ∃ (t50 : Bool) (t51_p : Option Addr) (t51_n : Nat) (t51_c : Nat) (t52_p : Option Addr) (t52_n : Nat) (t52_c : Nat), Loads P 53 ⟨r, 0, none⟩ (.agg #[(.bool t50), (.slice t51_p t51_n t51_c), (.slice t52_p t52_n t52_c)]) wv_1 ∧ Calls P 174 ⟨[(.agg #[(.bool t50), (.slice t51_p t51_n t51_c), (.slice t52_p t52_n t52_c)])]⟩ wv_1 fun e wv_2 =>
  ∃ (t6 : Bool), e = .returned (.bool t6) ∧
  ((!t6) = true →
    (true = true →
      R (.int .i64 0) wv_2) ∧
    (true = false →
      spec_RatCmp_j0 r r_1 wv_2 R)) ∧
  ((!t6) = false →
    ∃ (t90 : Bool) (t91_p : Option Addr) (t91_n : Nat) (t91_c : Nat) (t92_p : Option Addr) (t92_n : Nat) (t92_c : Nat), Loads P 53 ⟨r_1, 0, none⟩ (.agg #[(.bool t90), (.slice t91_p t91_n t91_c), (.slice t92_p t92_n t92_c)]) wv_2 ∧ Calls P 174 ⟨[(.agg #[(.bool t90), (.slice t91_p t91_n t91_c), (.slice t92_p t92_n t92_c)])]⟩ wv_2 fun e_6 wv_14 =>
    ∃ (t10 : Bool), e_6 = .returned (.bool t10) ∧
    ((!t10) = true →
      R (.int .i64 0) wv_14) ∧
    ((!t10) = false →
      spec_RatCmp_j0 r r_1 wv_14 R))
theorem spec_RatCmp_eq (r0 : Bool) (r1_p : Option Addr) (r1_n : Nat) (r1_c : Nat) (r2_p : Option Addr) (r2_n : Nat) (r2_c : Nat) (s0 : Bool) (s1_p : Option Addr) (s1_n : Nat) (s1_c : Nat) (s2_p : Option Addr) (s2_n : Nat) (s2_c : Nat) (w : World) (R : Value → World → Prop) : spec_RatCmp r0 r1_p r1_n r1_c r2_p r2_n r2_c s0 s1_p s1_n s1_c s2_p s2_n s2_c w R = fsem P Tryz.f156 (fun k => []) [(.agg #[(.bool r0), (.slice r1_p r1_n r1_c), (.slice r2_p r2_n r2_c)]), (.agg #[(.bool s0), (.slice s1_p s1_n s1_c), (.slice s2_p s2_n s2_c)])] R w := by kernel_rfl
theorem spec_RatCmp_ret {r0 : Bool} {r1_p : Option Addr} {r1_n : Nat} {r1_c : Nat} {r2_p : Option Addr} {r2_n : Nat} {r2_c : Nat} {s0 : Bool} {s1_p : Option Addr} {s1_n : Nat} {s1_c : Nat} {s2_p : Option Addr} {s2_n : Nat} {s2_c : Nat} {w : World} {R : Value → World → Prop} (h : spec_RatCmp r0 r1_p r1_n r1_c r2_p r2_n r2_c s0 s1_p s1_n s1_c s2_p s2_n s2_c w R) : Ret P 156 [(.agg #[(.bool r0), (.slice r1_p r1_n r1_c), (.slice r2_p r2_n r2_c)]), (.agg #[(.bool s0), (.slice s1_p s1_n s1_c), (.slice s2_p s2_n s2_c)])] w R :=
  Ret.of_fsem Tryz.func156 rfl (Eq.mp (spec_RatCmp_eq r0 r1_p r1_n r1_c r2_p r2_n r2_c s0 s1_p s1_n s1_c s2_p s2_n s2_c w R) h)
def spec_RatZero (w : World) (R : Value → World → Prop) : Prop :=
  ∀ (r : Nat) (wv : World), New w (.cells ⟨[(.bool false), (.slice none 0 0), (.slice none 0 0)]⟩ 53 (0, 0)) r wv →
  ∀ (r_1 : Nat) (wv_1 : World), New wv (.cells ⟨[(.int .i64 1)]⟩ 3 (0, 0)) r_1 wv_1 →
  ∃ wv_2, Stores P 53 ⟨r, 0, none⟩ (.agg #[(.bool false), (.slice none 0 0), (.slice (some ⟨r_1, 0, none⟩) 1 1)]) wv_1 wv_2 ∧
  ∃ (r0 : Bool) (r1_p : Option Addr) (r1_n : Nat) (r1_c : Nat) (r2_p : Option Addr) (r2_n : Nat) (r2_c : Nat), Loads P 53 ⟨r, 0, none⟩ (.agg #[(.bool r0), (.slice r1_p r1_n r1_c), (.slice r2_p r2_n r2_c)]) wv_2 ∧ R (.agg #[(.bool r0), (.slice r1_p r1_n r1_c), (.slice r2_p r2_n r2_c)]) wv_2
theorem spec_RatZero_eq (w : World) (R : Value → World → Prop) : spec_RatZero w R = fsem P Tryz.f157 (fun k => []) [] R w := by kernel_rfl
theorem spec_RatZero_ret {w : World} {R : Value → World → Prop} (h : spec_RatZero w R) : Ret P 157 [] w R :=
  Ret.of_fsem Tryz.func157 rfl (Eq.mp (spec_RatZero_eq w R) h)
def impl_IntOk (x0 : Bool) (x1_p : Option Addr) (x1_n : Nat) (x1_c : Nat) (w : World) (R : Value → World → Prop) : Prop :=
  ∀ (r : Nat) (wv : World), New w (.cells ⟨[(.bool x0), (.slice x1_p x1_n x1_c)]⟩ 31 (0, 0)) r wv →
  ∃ (t4_p : Option Addr) (t4_n : Nat) (t4_c : Nat), Loads P 22 ((⟨r, 0, none⟩ : Addr).add 1) (.slice t4_p t4_n t4_c) wv ∧ Calls P 180 ⟨[(.slice t4_p t4_n t4_c)]⟩ wv fun e wv_1 =>
  ∃ (t5 : Bool), e = .returned (.bool t5) ∧
  (t5 = true →
    ∃ (t8 : Bool), Loads P 4 ((⟨r, 0, none⟩ : Addr).add 0) (.bool t8) wv_1 ∧ ((!t8) = true →
      R (.bool true) wv_1) ∧
    ((!t8) = false →
      ∃ (t12_p : Option Addr) (t12_n : Nat) (t12_c : Nat), Loads P 22 ((⟨r, 0, none⟩ : Addr).add 1) (.slice t12_p t12_n t12_c) wv_1 ∧ R (.bool (decide ((0 : Int) < ((t12_n : Nat) : Int)))) wv_1)) ∧
  (t5 = false →
    R (.bool false) wv_1)
theorem impl_IntOk_eq (x0 : Bool) (x1_p : Option Addr) (x1_n : Nat) (x1_c : Nat) (w : World) (R : Value → World → Prop) : impl_IntOk x0 x1_p x1_n x1_c w R = fsem P Tryz.f158 (fun k => []) [(.agg #[(.bool x0), (.slice x1_p x1_n x1_c)])] R w := by kernel_rfl
theorem impl_IntOk_ret {x0 : Bool} {x1_p : Option Addr} {x1_n : Nat} {x1_c : Nat} {w : World} {R : Value → World → Prop} (h : impl_IntOk x0 x1_p x1_n x1_c w R) : Ret P 158 [(.agg #[(.bool x0), (.slice x1_p x1_n x1_c)])] w R :=
  Ret.of_fsem Tryz.func158 rfl (Eq.mp (impl_IntOk_eq x0 x1_p x1_n x1_c w R) h)
def impl_NatOf (n : Int) (w : World) (R : Value → World → Prop) : Prop :=
  ((decide ((n : Int) < 0)) = true →
    R (.slice none 0 0) w) ∧
  ((decide ((n : Int) < 0)) = false →
    ∃ t6 : Int, t6 = IntKind.wrap .u64 n ∧ Calls P 228 ⟨[(.int .u64 t6)]⟩ w fun e wv =>
    ∃ (t7_p : Option Addr) (t7_n : Nat) (t7_c : Nat), e = .returned (.slice t7_p t7_n t7_c) ∧
    R (.slice t7_p t7_n t7_c) wv)
theorem impl_NatOf_eq (n : Int) (w : World) (R : Value → World → Prop) : impl_NatOf n w R = fsem P Tryz.f160 (fun k => []) [(.int .i64 n)] R w := by kernel_rfl
theorem impl_NatOf_ret {n : Int} {w : World} {R : Value → World → Prop} (h : impl_NatOf n w R) : Ret P 160 [(.int .i64 n)] w R :=
  Ret.of_fsem Tryz.func160 rfl (Eq.mp (impl_NatOf_eq n w R) h)
def impl_natCopy (a_p : Option Addr) (a_n : Nat) (a_c : Nat) (w : World) (R : Value → World → Prop) : Prop :=
  ∀ (r : Nat) (wv : World), New w (.cells ⟨[]⟩ 3 (0, 0)) r wv →
  ∃ (t5_p : Option Addr) (t5_n : Nat) (t5_c : Nat) (wv_1 : World), Appends P [22, 22] [(.slice (some ⟨r, 0, none⟩) 0 0), (.slice a_p a_n a_c)] (.slice t5_p t5_n t5_c) wv wv_1 ∧
  R (.slice t5_p t5_n t5_c) wv_1
theorem impl_natCopy_eq (a_p : Option Addr) (a_n : Nat) (a_c : Nat) (w : World) (R : Value → World → Prop) : impl_natCopy a_p a_n a_c w R = fsem P Tryz.f162 (fun k => []) [(.slice a_p a_n a_c)] R w := by kernel_rfl
theorem impl_natCopy_ret {a_p : Option Addr} {a_n : Nat} {a_c : Nat} {w : World} {R : Value → World → Prop} (h : impl_natCopy a_p a_n a_c w R) : Ret P 162 [(.slice a_p a_n a_c)] w R :=
  Ret.of_fsem Tryz.func162 rfl (Eq.mp (impl_natCopy_eq a_p a_n a_c w R) h)
def impl_natDiv (a_p : Option Addr) (a_n : Nat) (a_c : Nat) (b_p : Option Addr) (b_n : Nat) (b_c : Nat) (w : World) (R : Value → World → Prop) : Prop :=
  Calls P 170 ⟨[(.slice a_p a_n a_c), (.slice b_p b_n b_c)]⟩ w fun e wv =>
  ∃ (t18 : Int), e = .returned (.int .i64 t18) ∧
  ((decide ((t18 : Int) < 0)) = true →
    ∀ (r : Nat) (wv_1 : World), New wv (.cells ⟨[]⟩ 3 (0, 0)) r wv_1 →
    Calls P 162 ⟨[(.slice a_p a_n a_c)]⟩ wv_1 fun e_1 wv_2 =>
    ∃ (t22_p : Option Addr) (t22_n : Nat) (t22_c : Nat), e_1 = .returned (.slice t22_p t22_n t22_c) ∧
    R (.tuple #[(.slice (some ⟨r, 0, none⟩) 0 0), (.slice t22_p t22_n t22_c)]) wv_2) ∧
  ((decide ((t18 : Int) < 0)) = false →
    ((decide ((((b_n : Nat) : Int) : Int) = 1)) = true →
      (0 ≤ (0 : Int) ∧ (0 : Int) < (b_n : Nat)) ∧ ptrS b_p fun ad => ∃ (t30 : Int), Loads P 3 (ad.add (0 * 1)) (.int .i64 t30) wv ∧ Calls P 136 ⟨[(.slice a_p a_n a_c), (.int .i64 t30)]⟩ wv fun e_2 wv_3 =>
      ∃ (t31_p : Option Addr) (t31_n : Nat) (t31_c : Nat) (t31 : Int), e_2 = .returned (.tuple #[(.slice t31_p t31_n t31_c), (.int .i64 t31)]) ∧
      Calls P 160 ⟨[(.int .i64 t31)]⟩ wv_3 fun e_3 wv_4 =>
      ∃ (t36_p : Option Addr) (t36_n : Nat) (t36_c : Nat), e_3 = .returned (.slice t36_p t36_n t36_c) ∧
      R (.tuple #[(.slice t31_p t31_n t31_c), (.slice t36_p t36_n t36_c)]) wv_4) ∧
    ((decide ((((b_n : Nat) : Int) : Int) = 1)) = false →
      ∃ t40 : Int, t40 = IntKind.wrap .i64 (((b_n : Nat) : Int) - 1) ∧ (0 ≤ (t40 : Int) ∧ (t40 : Int) < (b_n : Nat)) ∧ ptrS b_p fun ad_1 => ∃ (t42 : Int), Loads P 3 (ad_1.add (t40.toNat * 1)) (.int .i64 t42) wv ∧ ∃ t43 : Int, t43 = IntKind.wrap .i64 (t42 + 1) ∧ (t43 : Int) ≠ 0 ∧ ∃ t44 : Int, t44 = IntKind.wrap .i64 (Int.tdiv 1000000000 t43) ∧ ∀ (r_1 : Nat) (wv_5 : World), New wv (.cells ⟨[(.int .i64 t44)]⟩ 3 (0, 0)) r_1 wv_5 →
      Calls P 165 ⟨[(.slice a_p a_n a_c), (.slice (some ⟨r_1, 0, none⟩) 1 1)]⟩ wv_5 fun e_4 wv_6 =>
      ∃ (t48_p : Option Addr) (t48_n : Nat) (t48_c : Nat), e_4 = .returned (.slice t48_p t48_n t48_c) ∧
      ∀ (r_2 : Nat) (wv_7 : World), New wv_6 (.cells ⟨[(.int .i64 t44)]⟩ 3 (0, 0)) r_2 wv_7 →
      Calls P 165 ⟨[(.slice b_p b_n b_c), (.slice (some ⟨r_2, 0, none⟩) 1 1)]⟩ wv_7 fun e_5 wv_8 =>
      ∃ (t52_p : Option Addr) (t52_n : Nat) (t52_c : Nat), e_5 = .returned (.slice t52_p t52_n t52_c) ∧
      ∃ (Inv : Option Addr → Nat → Nat → World → Prop) (mu : Option Addr → Nat → Nat → World → Nat), Inv t48_p t48_n t48_c wv_8 ∧
      ∀ (junk : Fr) (wv_9 : World) (u_p : Option Addr) (u_n : Nat) (u_c : Nat), Inv u_p u_n u_c wv_9 →
        ((decide ((((u_n : Nat) : Int) : Int) ≤ ((a_n : Nat) : Int))) = true →
          ∀ (r_3 : Nat) (wv_10 : World), New wv_9 (.cells ⟨[(.int .i64 0)]⟩ 3 (0, 0)) r_3 wv_10 →
          ∃ (t60_p : Option Addr) (t60_n : Nat) (t60_c : Nat) (wv_11 : World), Appends P [22, 22] [(.slice u_p u_n u_c), (.slice (some ⟨r_3, 0, none⟩) 1 1)] (.slice t60_p t60_n t60_c) wv_10 wv_11 ∧
          Inv t60_p t60_n t60_c wv_11 ∧ mu t60_p t60_n t60_c wv_11 < mu u_p u_n u_c wv_9) ∧
        ((decide ((((u_n : Nat) : Int) : Int) ≤ ((a_n : Nat) : Int))) = false →
          ∃ t66 : Int, t66 = IntKind.wrap .i64 (((u_n : Nat) : Int) - ((t52_n : Nat) : Int)) ∧ (0 ≤ (t66 : Int) ∧ (t66 : Int) ≤ t66 ∧ ((8 : Nat) : Int) * t66 ≤ 281474976710656) ∧
          ∀ (r_4 : Nat) (wv_12 : World), New wv_9 (.cells ⟨zeroRow (.int .i64 0) (t66.toNat * 1)⟩ 3 (0, 0)) r_4 wv_12 →
          ∃ t70 : Int, t70 = IntKind.wrap .i64 (((t66.toNat : Nat) : Int) - 1) ∧ ∃ (Inv_1 : Int → World → Prop) (mu_1 : Int → World → Nat), Inv_1 t70 wv_12 ∧
          ∀ (junk_1 : Fr) (wv_13 : World) (j : Int), Inv_1 j wv_13 →
            ((decide ((0 : Int) ≤ j)) = true →
              ∃ t81 : Int, t81 = IntKind.wrap .i64 (j + ((t52_n : Nat) : Int)) ∧ ∃ t82 : Int, t82 = IntKind.wrap .i64 (t81 + 1) ∧ (0 ≤ (t82 : Int) ∧ (t82 : Int) ≤ (u_c : Nat)) ∧ (0 ≤ (j : Int) ∧ (j : Int) ≤ (t82.toNat : Nat)) ∧ Calls P 238 ⟨[(.slice (sub u_p j.toNat u_c 1) (t82.toNat - j.toNat) (u_c - j.toNat)), (.slice t52_p t52_n t52_c)]⟩ wv_13 fun e_6 wv_14 =>
              ∃ (t85 : Int), e_6 = .returned (.int .i64 t85) ∧
              (0 ≤ (j : Int) ∧ (j : Int) < (t66.toNat : Nat)) ∧ ∃ wv_15, Stores P 3 ((⟨r_4, 0, none⟩ : Addr).add (j.toNat * 1)) (.int .i64 t85) wv_14 wv_15 ∧
              ∃ t74 : Int, t74 = IntKind.wrap .i64 (j - 1) ∧ Inv_1 t74 wv_15 ∧ mu_1 t74 wv_15 < mu_1 j wv_13) ∧
            ((decide ((0 : Int) ≤ j)) = false →
              Calls P 227 ⟨[(.slice u_p u_n u_c)]⟩ wv_13 fun e_7 wv_16 =>
              ∃ (t89_p : Option Addr) (t89_n : Nat) (t89_c : Nat), e_7 = .returned (.slice t89_p t89_n t89_c) ∧
              Calls P 136 ⟨[(.slice t89_p t89_n t89_c), (.int .i64 t44)]⟩ wv_16 fun e_8 wv_17 =>
              ∃ (t91_p : Option Addr) (t91_n : Nat) (t91_c : Nat) (t91 : Int), e_8 = .returned (.tuple #[(.slice t91_p t91_n t91_c), (.int .i64 t91)]) ∧
              Calls P 227 ⟨[(.slice (some ⟨r_4, 0, none⟩) t66.toNat t66.toNat)]⟩ wv_17 fun e_9 wv_18 =>
              ∃ (t95_p : Option Addr) (t95_n : Nat) (t95_c : Nat), e_9 = .returned (.slice t95_p t95_n t95_c) ∧
              R (.tuple #[(.slice t95_p t95_n t95_c), (.slice t91_p t91_n t91_c)]) wv_18))))
theorem impl_natDiv_eq (a_p : Option Addr) (a_n : Nat) (a_c : Nat) (b_p : Option Addr) (b_n : Nat) (b_c : Nat) (w : World) (R : Value → World → Prop) : impl_natDiv a_p a_n a_c b_p b_n b_c w R = fsem P Tryz.f164 (fun k => cond (Nat.beq k 10) [(9, .one .slice)] (cond (Nat.beq k 15) [(13, .one (.int .i64))] ([]))) [(.slice a_p a_n a_c), (.slice b_p b_n b_c)] R w := by kernel_rfl
theorem impl_natDiv_ret {a_p : Option Addr} {a_n : Nat} {a_c : Nat} {b_p : Option Addr} {b_n : Nat} {b_c : Nat} {w : World} {R : Value → World → Prop} (h : impl_natDiv a_p a_n a_c b_p b_n b_c w R) : Ret P 164 [(.slice a_p a_n a_c), (.slice b_p b_n b_c)] w R :=
  Ret.of_fsem Tryz.func164 rfl (Eq.mp (impl_natDiv_eq a_p a_n a_c b_p b_n b_c w R) h)
def impl_natMul (a_p : Option Addr) (a_n : Nat) (a_c : Nat) (b_p : Option Addr) (b_n : Nat) (b_c : Nat) (w : World) (R : Value → World → Prop) : Prop :=
  ∃ t16 : Int, t16 = IntKind.wrap .i64 (((a_n : Nat) : Int) + ((b_n : Nat) : Int)) ∧ ∃ t17 : Int, t17 = IntKind.wrap .i64 (t16 + 1) ∧ (0 ≤ (t17 : Int) ∧ (t17 : Int) ≤ t17 ∧ ((8 : Nat) : Int) * t17 ≤ 281474976710656) ∧
  ∀ (r : Nat) (wv : World), New w (.cells ⟨zeroRow (.int .i64 0) (t17.toNat * 1)⟩ 3 (0, 0)) r wv →
  ∃ (Inv : Int → World → Prop) (mu : Int → World → Nat), Inv 0 wv ∧
  ∀ (junk : Fr) (wv_1 : World) (t21 : Int), Inv t21 wv_1 →
    ((decide ((t21 : Int) < ((a_n : Nat) : Int))) = true →
      (0 ≤ (t21 : Int) ∧ (t21 : Int) < (a_n : Nat)) ∧ ptrS a_p fun ad => ∃ (t25 : Int), Loads P 3 (ad.add (t21.toNat * 1)) (.int .i64 t25) wv_1 ∧ ∃ (Inv_1 : Int → Int → World → Prop) (mu_1 : Int → Int → World → Nat), Inv_1 0 0 wv_1 ∧
      ∀ (junk_1 : Fr) (wv_2 : World) (carry : Int) (t28 : Int), Inv_1 carry t28 wv_2 →
        ((decide ((t28 : Int) < ((b_n : Nat) : Int))) = true →
          (0 ≤ (t28 : Int) ∧ (t28 : Int) < (b_n : Nat)) ∧ ptrS b_p fun ad_1 => ∃ (t32 : Int), Loads P 3 (ad_1.add (t28.toNat * 1)) (.int .i64 t32) wv_2 ∧ ∃ t37 : Int, t37 = IntKind.wrap .i64 (t21 + t28) ∧ (0 ≤ (t37 : Int) ∧ (t37 : Int) < (t17.toNat : Nat)) ∧ ∃ (t39 : Int), Loads P 3 ((⟨r, 0, none⟩ : Addr).add (t37.toNat * 1)) (.int .i64 t39) wv_2 ∧ ∃ t42 : Int, t42 = IntKind.wrap .i64 (t25 * t32) ∧ ∃ t43 : Int, t43 = IntKind.wrap .i64 (t39 + t42) ∧ ∃ t44 : Int, t44 = IntKind.wrap .i64 (carry + t43) ∧ ∃ t48 : Int, t48 = IntKind.wrap .i64 (t21 + t28) ∧ (1000000000 : Int) ≠ 0 ∧ ∃ t50 : Int, t50 = Int.tmod t44 1000000000 ∧ (0 ≤ (t48 : Int) ∧ (t48 : Int) < (t17.toNat : Nat)) ∧ ∃ wv_3, Stores P 3 ((⟨r, 0, none⟩ : Addr).add (t48.toNat * 1)) (.int .i64 t50) wv_2 wv_3 ∧
          (1000000000 : Int) ≠ 0 ∧ ∃ t53 : Int, t53 = IntKind.wrap .i64 (Int.tdiv t44 1000000000) ∧ ∃ t54 : Int, t54 = IntKind.wrap .i64 (t28 + 1) ∧ Inv_1 t53 t54 wv_3 ∧ mu_1 t53 t54 wv_3 < mu_1 carry t28 wv_2) ∧
        ((decide ((t28 : Int) < ((b_n : Nat) : Int))) = false →
          ∃ t58 : Int, t58 = IntKind.wrap .i64 (t21 + ((b_n : Nat) : Int)) ∧ ∃ (Inv_2 : Int → Int → World → Prop) (mu_2 : Int → Int → World → Nat), Inv_2 carry t58 wv_2 ∧
          ∀ (junk_2 : Fr) (wv_4 : World) (carry_1 : Int) (k : Int), Inv_2 carry_1 k wv_4 →
            ((decide ((0 : Int) < carry_1)) = true →
              (0 ≤ (k : Int) ∧ (k : Int) < (t17.toNat : Nat)) ∧ ∃ (t67 : Int), Loads P 3 ((⟨r, 0, none⟩ : Addr).add (k.toNat * 1)) (.int .i64 t67) wv_4 ∧ ∃ t68 : Int, t68 = IntKind.wrap .i64 (carry_1 + t67) ∧ (1000000000 : Int) ≠ 0 ∧ ∃ t72 : Int, t72 = Int.tmod t68 1000000000 ∧ (0 ≤ (k : Int) ∧ (k : Int) < (t17.toNat : Nat)) ∧ ∃ wv_5, Stores P 3 ((⟨r, 0, none⟩ : Addr).add (k.toNat * 1)) (.int .i64 t72) wv_4 wv_5 ∧
              (1000000000 : Int) ≠ 0 ∧ ∃ t75 : Int, t75 = IntKind.wrap .i64 (Int.tdiv t68 1000000000) ∧ ∃ t62 : Int, t62 = IntKind.wrap .i64 (k + 1) ∧ Inv_2 t75 t62 wv_5 ∧ mu_2 t75 t62 wv_5 < mu_2 carry_1 k wv_4) ∧
            ((decide ((0 : Int) < carry_1)) = false →
              ∃ t76 : Int, t76 = IntKind.wrap .i64 (t21 + 1) ∧ Inv t76 wv_4 ∧ mu t76 wv_4 < mu t21 wv_1))) ∧
    ((decide ((t21 : Int) < ((a_n : Nat) : Int))) = false →
      Calls P 227 ⟨[(.slice (some ⟨r, 0, none⟩) t17.toNat t17.toNat)]⟩ wv_1 fun e wv_6 =>
      ∃ (t78_p : Option Addr) (t78_n : Nat) (t78_c : Nat), e = .returned (.slice t78_p t78_n t78_c) ∧
      R (.slice t78_p t78_n t78_c) wv_6)
theorem impl_natMul_eq (a_p : Option Addr) (a_n : Nat) (a_c : Nat) (b_p : Option Addr) (b_n : Nat) (b_c : Nat) (w : World) (R : Value → World → Prop) : impl_natMul a_p a_n a_c b_p b_n b_c w R = fsem P Tryz.f165 (fun k => cond (Nat.beq k 4) [(21, .one (.int .i64))] (cond (Nat.beq k 8) [(8, .one (.int .i64)), (28, .one (.int .i64))] (cond (Nat.beq k 15) [(8, .one (.int .i64)), (11, .one (.int .i64))] ([])))) [(.slice a_p a_n a_c), (.slice b_p b_n b_c)] R w := by kernel_rfl
theorem impl_natMul_ret {a_p : Option Addr} {a_n : Nat} {a_c : Nat} {b_p : Option Addr} {b_n : Nat} {b_c : Nat} {w : World} {R : Value → World → Prop} (h : impl_natMul a_p a_n a_c b_p b_n b_c w R) : Ret P 165 [(.slice a_p a_n a_c), (.slice b_p b_n b_c)] w R :=
  Ret.of_fsem Tryz.func165 rfl (Eq.mp (impl_natMul_eq a_p a_n a_c b_p b_n b_c w R) h)
def impl_natSub_j1 (a_n : Nat) (r : Nat) (wv_1 : World) (Inv : Int → Int → World → Prop) (mu : Int → Int → World → Nat) (borrow : Int) (t14 : Int) (borrow_1 : Int) (n_1 : Int) (W_1 : World) (R : Value → World → Prop) : Prop :=
  (0 ≤ (t14 : Int) ∧ (t14 : Int) < (a_n : Nat)) ∧ ∃ wv_2, Stores P 3 ((⟨r, 0, none⟩ : Addr).add (t14.toNat * 1)) (.int .i64 n_1) W_1 wv_2 ∧
  ∃ t41 : Int, t41 = IntKind.wrap .i64 (t14 + 1) ∧ Inv borrow_1 t41 wv_2 ∧ mu borrow_1 t41 wv_2 < mu borrow t14 wv_1
def impl_natSub_j0 (a_n : Nat) (r : Nat) (wv_1 : World) (Inv : Int → Int → World → Prop) (mu : Int → Int → World → Nat) (borrow : Int) (t14 : Int) (n : Int) (W : World) (R : Value → World → Prop) : Prop :=
  ((decide ((n : Int) < 0)) = true →
    ∃ t36 : Int, t36 = IntKind.wrap .i64 (n + 1000000000) ∧ impl_natSub_j1 a_n r wv_1 Inv mu borrow t14 1 t36 W R) ∧
  ((decide ((n : Int) < 0)) = false →
    impl_natSub_j1 a_n r wv_1 Inv mu borrow t14 0 n W R)
def impl_natSub (a_p : Option Addr) (a_n : Nat) (a_c : Nat) (b_p : Option Addr) (b_n : Nat) (b_c : Nat) (w : World) (R : Value → World → Prop) : Prop :=
  (0 ≤ (((a_n : Nat) : Int) : Int) ∧ (((a_n : Nat) : Int) : Int) ≤ ((a_n : Nat) : Int) ∧ ((8 : Nat) : Int) * ((a_n : Nat) : Int) ≤ 281474976710656) ∧
  ∀ (r : Nat) (wv : World), New w (.cells ⟨zeroRow (.int .i64 0) (a_n * 1)⟩ 3 (0, 0)) r wv →
  ∃ (Inv : Int → Int → World → Prop) (mu : Int → Int → World → Nat), Inv 0 0 wv ∧
  ∀ (junk : Fr) (wv_1 : World) (borrow : Int) (t14 : Int), Inv borrow t14 wv_1 →
    ((decide ((t14 : Int) < ((a_n : Nat) : Int))) = true →
      (0 ≤ (t14 : Int) ∧ (t14 : Int) < (a_n : Nat)) ∧ ptrS a_p fun ad => ∃ (t20 : Int), Loads P 3 (ad.add (t14.toNat * 1)) (.int .i64 t20) wv_1 ∧ ∃ t22 : Int, t22 = IntKind.wrap .i64 (t20 - borrow) ∧ ((decide ((t14 : Int) < ((b_n : Nat) : Int))) = true →
        (0 ≤ (t14 : Int) ∧ (t14 : Int) < (b_n : Nat)) ∧ ptrS b_p fun ad_1 => ∃ (t31 : Int), Loads P 3 (ad_1.add (t14.toNat * 1)) (.int .i64 t31) wv_1 ∧ ∃ t32 : Int, t32 = IntKind.wrap .i64 (t22 - t31) ∧ impl_natSub_j0 a_n r wv_1 Inv mu borrow t14 t32 wv_1 R) ∧
      ((decide ((t14 : Int) < ((b_n : Nat) : Int))) = false →
        impl_natSub_j0 a_n r wv_1 Inv mu borrow t14 t22 wv_1 R)) ∧
    ((decide ((t14 : Int) < ((a_n : Nat) : Int))) = false →
      Calls P 227 ⟨[(.slice (some ⟨r, 0, none⟩) a_n a_n)]⟩ wv_1 fun e wv_3 =>
      ∃ (t43_p : Option Addr) (t43_n : Nat) (t43_c : Nat), e = .returned (.slice t43_p t43_n t43_c) ∧
      R (.slice t43_p t43_n t43_c) wv_3)
theorem impl_natSub_eq (a_p : Option Addr) (a_n : Nat) (a_c : Nat) (b_p : Option Addr) (b_n : Nat) (b_c : Nat) (w : World) (R : Value → World → Prop) : impl_natSub a_p a_n a_c b_p b_n b_c w R = fsem P Tryz.f166 (fun k => cond (Nat.beq k 5) [(6, .one (.int .i64)), (14, .one (.int .i64))] ([])) [(.slice a_p a_n a_c), (.slice b_p b_n b_c)] R w := by kernel_rfl
theorem impl_natSub_ret {a_p : Option Addr} {a_n : Nat} {a_c : Nat} {b_p : Option Addr} {b_n : Nat} {b_c : Nat} {w : World} {R : Value → World → Prop} (h : impl_natSub a_p a_n a_c b_p b_n b_c w R) : Ret P 166 [(.slice a_p a_n a_c), (.slice b_p b_n b_c)] w R :=
  Ret.of_fsem Tryz.func166 rfl (Eq.mp (impl_natSub_eq a_p a_n a_c b_p b_n b_c w R) h)
def impl_natCmp (a_p : Option Addr) (a_n : Nat) (a_c : Nat) (b_p : Option Addr) (b_n : Nat) (b_c : Nat) (w : World) (R : Value → World → Prop) : Prop :=
  ((decide ((((a_n : Nat) : Int) : Int) ≠ ((b_n : Nat) : Int))) = true →
    ((decide ((((a_n : Nat) : Int) : Int) < ((b_n : Nat) : Int))) = true →
      R (.int .i64 (-1)) w) ∧
    ((decide ((((a_n : Nat) : Int) : Int) < ((b_n : Nat) : Int))) = false →
      R (.int .i64 1) w)) ∧
  ((decide ((((a_n : Nat) : Int) : Int) ≠ ((b_n : Nat) : Int))) = false →
    ∃ t18 : Int, t18 = IntKind.wrap .i64 (((a_n : Nat) : Int) - 1) ∧ ∃ (Inv : Int → World → Prop) (mu : Int → World → Nat), Inv t18 w ∧
    ∀ (junk : Fr) (wv : World) (i : Int), Inv i wv →
      ((decide ((0 : Int) ≤ i)) = true →
        (0 ≤ (i : Int) ∧ (i : Int) < (a_n : Nat)) ∧ ptrS a_p fun ad => ∃ (t26 : Int), (∀ wv_1, Ext wv.drew wv_1 → Loads P 3 (ad.add (i.toNat * 1)) (.int .i64 t26) wv_1) ∧ (0 ≤ (i : Int) ∧ (i : Int) < (b_n : Nat)) ∧ ptrS b_p fun ad_1 => ∃ (t30 : Int), (∀ wv_2, Ext wv.drew wv_2 → Loads P 3 (ad_1.add (i.toNat * 1)) (.int .i64 t30) wv_2) ∧ ((decide ((t26 : Int) ≠ t30)) = true →
          (0 ≤ (i : Int) ∧ (i : Int) < (a_n : Nat)) ∧ ptrS a_p fun ad_2 => ∃ (t35 : Int), (∀ wv_3, Ext wv.drew.drew wv_3 → Loads P 3 (ad_2.add (i.toNat * 1)) (.int .i64 t35) wv_3) ∧ (0 ≤ (i : Int) ∧ (i : Int) < (b_n : Nat)) ∧ ptrS b_p fun ad_3 => ∃ (t39 : Int), (∀ wv_4, Ext wv.drew.drew wv_4 → Loads P 3 (ad_3.add (i.toNat * 1)) (.int .i64 t39) wv_4) ∧ ((decide ((t35 : Int) < t39)) = true →
            R (.int .i64 (-1)) wv.drew.drew) ∧
          ((decide ((t35 : Int) < t39)) = false →
            R (.int .i64 1) wv.drew.drew)) ∧
        ((decide ((t26 : Int) ≠ t30)) = false →
          ∃ t22 : Int, t22 = IntKind.wrap .i64 (i - 1) ∧ Inv t22 wv.drew ∧ mu t22 wv.drew < mu i wv)) ∧
      ((decide ((0 : Int) ≤ i)) = false →
        R (.int .i64 0) wv))
theorem impl_natCmp_eq (a_p : Option Addr) (a_n : Nat) (a_c : Nat) (b_p : Option Addr) (b_n : Nat) (b_c : Nat) (w : World) (R : Value → World → Prop) : impl_natCmp a_p a_n a_c b_p b_n b_c w R = fsem P Tryz.f170 (fun k => cond (Nat.beq k 7) [(5, .one (.int .i64))] ([])) [(.slice a_p a_n a_c), (.slice b_p b_n b_c)] R w := by kernel_rfl
theorem impl_natCmp_ret {a_p : Option Addr} {a_n : Nat} {a_c : Nat} {b_p : Option Addr} {b_n : Nat} {b_c : Nat} {w : World} {R : Value → World → Prop} (h : impl_natCmp a_p a_n a_c b_p b_n b_c w R) : Ret P 170 [(.slice a_p a_n a_c), (.slice b_p b_n b_c)] w R :=
  Ret.of_fsem Tryz.func170 rfl (Eq.mp (impl_natCmp_eq a_p a_n a_c b_p b_n b_c w R) h)
def impl_signed (neg : Bool) (mag_p : Option Addr) (mag_n : Nat) (mag_c : Nat) (w : World) (R : Value → World → Prop) : Prop :=
  ∀ (r : Nat) (wv : World), New w (.cells ⟨[(.bool false), (.slice none 0 0)]⟩ 31 (0, 0)) r wv →
  (neg = true →
    ∃ wv_1, Stores P 31 ⟨r, 0, none⟩ (.agg #[(.bool (decide ((0 : Int) < ((mag_n : Nat) : Int)))), (.slice mag_p mag_n mag_c)]) wv wv_1 ∧
    ∃ (r0 : Bool) (r1_p : Option Addr) (r1_n : Nat) (r1_c : Nat), Loads P 31 ⟨r, 0, none⟩ (.agg #[(.bool r0), (.slice r1_p r1_n r1_c)]) wv_1 ∧ R (.agg #[(.bool r0), (.slice r1_p r1_n r1_c)]) wv_1) ∧
  (neg = false →
    ∃ wv_2, Stores P 31 ⟨r, 0, none⟩ (.agg #[(.bool false), (.slice mag_p mag_n mag_c)]) wv wv_2 ∧
    ∃ (r0_1 : Bool) (r1_p_1 : Option Addr) (r1_n_1 : Nat) (r1_c_1 : Nat), Loads P 31 ⟨r, 0, none⟩ (.agg #[(.bool r0_1), (.slice r1_p_1 r1_n_1 r1_c_1)]) wv_2 ∧ R (.agg #[(.bool r0_1), (.slice r1_p_1 r1_n_1 r1_c_1)]) wv_2)
theorem impl_signed_eq (neg : Bool) (mag_p : Option Addr) (mag_n : Nat) (mag_c : Nat) (w : World) (R : Value → World → Prop) : impl_signed neg mag_p mag_n mag_c w R = fsem P Tryz.f173 (fun k => []) [(.bool neg), (.slice mag_p mag_n mag_c)] R w := by kernel_rfl
theorem impl_signed_ret {neg : Bool} {mag_p : Option Addr} {mag_n : Nat} {mag_c : Nat} {w : World} {R : Value → World → Prop} (h : impl_signed neg mag_p mag_n mag_c w R) : Ret P 173 [(.bool neg), (.slice mag_p mag_n mag_c)] w R :=
  Ret.of_fsem Tryz.func173 rfl (Eq.mp (impl_signed_eq neg mag_p mag_n mag_c w R) h)
def spec_RatOk (r0 : Bool) (r1_p : Option Addr) (r1_n : Nat) (r1_c : Nat) (r2_p : Option Addr) (r2_n : Nat) (r2_c : Nat) (w : World) (R : Value → World → Prop) : Prop :=
  ∀ (r : Nat) (wv : World), New w (.cells ⟨[(.bool r0), (.slice r1_p r1_n r1_c), (.slice r2_p r2_n r2_c)]⟩ 53 (0, 0)) r wv →
  ∃ (t40 : Bool) (t41_p : Option Addr) (t41_n : Nat) (t41_c : Nat), Loads P 31 ((⟨r, 0, none⟩ : Addr).add 0) (.agg #[(.bool t40), (.slice t41_p t41_n t41_c)]) wv ∧ Calls P 151 ⟨[(.agg #[(.bool t40), (.slice t41_p t41_n t41_c)])]⟩ wv fun e wv_1 =>
  ∃ (t5 : Bool), e = .returned (.bool t5) ∧
  ((!t5) = true →
    (true = true →
      (true = true →
        (true = true →
          (true = true →
            R (.bool false) wv_1) ∧
          (true = false →
            ∃ (t34_p : Option Addr) (t34_n : Nat) (t34_c : Nat), Loads P 22 (((⟨r, 0, none⟩ : Addr).add 0).add 1) (.slice t34_p t34_n t34_c) wv_1 ∧ ∃ (t36_p : Option Addr) (t36_n : Nat) (t36_c : Nat), Loads P 22 ((⟨r, 0, none⟩ : Addr).add 2) (.slice t36_p t36_n t36_c) wv_1 ∧ Calls P 242 ⟨[(.slice t34_p t34_n t34_c), (.slice t36_p t36_n t36_c)]⟩ wv_1 fun e_1 wv_2 =>
            ∃ (t37_p : Option Addr) (t37_n : Nat) (t37_c : Nat), e_1 = .returned (.slice t37_p t37_n t37_c) ∧
            ∀ (r_1 : Nat) (wv_3 : World), New wv_2 (.cells ⟨[(.int .i64 1)]⟩ 3 (0, 0)) r_1 wv_3 →
            Calls P 222 ⟨[(.slice t37_p t37_n t37_c), (.slice (some ⟨r_1, 0, none⟩) 1 1)]⟩ wv_3 fun e_2 wv_4 =>
            ∃ (t39 : Int), e_2 = .returned (.int .i64 t39) ∧
            R (.bool (decide ((t39 : Int) = 0))) wv_4)) ∧
        (true = false →
          ∃ (t28_p : Option Addr) (t28_n : Nat) (t28_c : Nat), Loads P 22 (((⟨r, 0, none⟩ : Addr).add 0).add 1) (.slice t28_p t28_n t28_c) wv_1 ∧ ((decide ((18 : Int) < ((t28_n : Nat) : Int))) = true →
            R (.bool false) wv_1) ∧
          ((decide ((18 : Int) < ((t28_n : Nat) : Int))) = false →
            ∃ (t34_p_1 : Option Addr) (t34_n_1 : Nat) (t34_c_1 : Nat), Loads P 22 (((⟨r, 0, none⟩ : Addr).add 0).add 1) (.slice t34_p_1 t34_n_1 t34_c_1) wv_1 ∧ ∃ (t36_p_1 : Option Addr) (t36_n_1 : Nat) (t36_c_1 : Nat), Loads P 22 ((⟨r, 0, none⟩ : Addr).add 2) (.slice t36_p_1 t36_n_1 t36_c_1) wv_1 ∧ Calls P 242 ⟨[(.slice t34_p_1 t34_n_1 t34_c_1), (.slice t36_p_1 t36_n_1 t36_c_1)]⟩ wv_1 fun e_3 wv_5 =>
            ∃ (t37_p_1 : Option Addr) (t37_n_1 : Nat) (t37_c_1 : Nat), e_3 = .returned (.slice t37_p_1 t37_n_1 t37_c_1) ∧
            ∀ (r_2 : Nat) (wv_6 : World), New wv_5 (.cells ⟨[(.int .i64 1)]⟩ 3 (0, 0)) r_2 wv_6 →
            Calls P 222 ⟨[(.slice t37_p_1 t37_n_1 t37_c_1), (.slice (some ⟨r_2, 0, none⟩) 1 1)]⟩ wv_6 fun e_4 wv_7 =>
            ∃ (t39_1 : Int), e_4 = .returned (.int .i64 t39_1) ∧
            R (.bool (decide ((t39_1 : Int) = 0))) wv_7))) ∧
      (true = false →
        ∃ (t21_p : Option Addr) (t21_n : Nat) (t21_c : Nat), Loads P 22 ((⟨r, 0, none⟩ : Addr).add 2) (.slice t21_p t21_n t21_c) wv_1 ∧ ((decide ((18 : Int) < ((t21_n : Nat) : Int))) = true →
          (true = true →
            R (.bool false) wv_1) ∧
          (true = false →
            ∃ (t34_p_2 : Option Addr) (t34_n_2 : Nat) (t34_c_2 : Nat), Loads P 22 (((⟨r, 0, none⟩ : Addr).add 0).add 1) (.slice t34_p_2 t34_n_2 t34_c_2) wv_1 ∧ ∃ (t36_p_2 : Option Addr) (t36_n_2 : Nat) (t36_c_2 : Nat), Loads P 22 ((⟨r, 0, none⟩ : Addr).add 2) (.slice t36_p_2 t36_n_2 t36_c_2) wv_1 ∧ Calls P 242 ⟨[(.slice t34_p_2 t34_n_2 t34_c_2), (.slice t36_p_2 t36_n_2 t36_c_2)]⟩ wv_1 fun e_5 wv_8 =>
            ∃ (t37_p_2 : Option Addr) (t37_n_2 : Nat) (t37_c_2 : Nat), e_5 = .returned (.slice t37_p_2 t37_n_2 t37_c_2) ∧
            ∀ (r_3 : Nat) (wv_9 : World), New wv_8 (.cells ⟨[(.int .i64 1)]⟩ 3 (0, 0)) r_3 wv_9 →
            Calls P 222 ⟨[(.slice t37_p_2 t37_n_2 t37_c_2), (.slice (some ⟨r_3, 0, none⟩) 1 1)]⟩ wv_9 fun e_6 wv_10 =>
            ∃ (t39_2 : Int), e_6 = .returned (.int .i64 t39_2) ∧
            R (.bool (decide ((t39_2 : Int) = 0))) wv_10)) ∧
        ((decide ((18 : Int) < ((t21_n : Nat) : Int))) = false →
          ∃ (t28_p_1 : Option Addr) (t28_n_1 : Nat) (t28_c_1 : Nat), Loads P 22 (((⟨r, 0, none⟩ : Addr).add 0).add 1) (.slice t28_p_1 t28_n_1 t28_c_1) wv_1 ∧ ((decide ((18 : Int) < ((t28_n_1 : Nat) : Int))) = true →
            R (.bool false) wv_1) ∧
          ((decide ((18 : Int) < ((t28_n_1 : Nat) : Int))) = false →
            ∃ (t34_p_3 : Option Addr) (t34_n_3 : Nat) (t34_c_3 : Nat), Loads P 22 (((⟨r, 0, none⟩ : Addr).add 0).add 1) (.slice t34_p_3 t34_n_3 t34_c_3) wv_1 ∧ ∃ (t36_p_3 : Option Addr) (t36_n_3 : Nat) (t36_c_3 : Nat), Loads P 22 ((⟨r, 0, none⟩ : Addr).add 2) (.slice t36_p_3 t36_n_3 t36_c_3) wv_1 ∧ Calls P 242 ⟨[(.slice t34_p_3 t34_n_3 t34_c_3), (.slice t36_p_3 t36_n_3 t36_c_3)]⟩ wv_1 fun e_7 wv_11 =>
            ∃ (t37_p_3 : Option Addr) (t37_n_3 : Nat) (t37_c_3 : Nat), e_7 = .returned (.slice t37_p_3 t37_n_3 t37_c_3) ∧
            ∀ (r_4 : Nat) (wv_12 : World), New wv_11 (.cells ⟨[(.int .i64 1)]⟩ 3 (0, 0)) r_4 wv_12 →
            Calls P 222 ⟨[(.slice t37_p_3 t37_n_3 t37_c_3), (.slice (some ⟨r_4, 0, none⟩) 1 1)]⟩ wv_12 fun e_8 wv_13 =>
            ∃ (t39_3 : Int), e_8 = .returned (.int .i64 t39_3) ∧
            R (.bool (decide ((t39_3 : Int) = 0))) wv_13)))) ∧
    (true = false →
      ∃ (t15_p : Option Addr) (t15_n : Nat) (t15_c : Nat), Loads P 22 ((⟨r, 0, none⟩ : Addr).add 2) (.slice t15_p t15_n t15_c) wv_1 ∧ ((decide ((((t15_n : Nat) : Int) : Int) = 0)) = true →
        (true = true →
          (true = true →
            R (.bool false) wv_1) ∧
          (true = false →
            ∃ (t34_p_4 : Option Addr) (t34_n_4 : Nat) (t34_c_4 : Nat), Loads P 22 (((⟨r, 0, none⟩ : Addr).add 0).add 1) (.slice t34_p_4 t34_n_4 t34_c_4) wv_1 ∧ ∃ (t36_p_4 : Option Addr) (t36_n_4 : Nat) (t36_c_4 : Nat), Loads P 22 ((⟨r, 0, none⟩ : Addr).add 2) (.slice t36_p_4 t36_n_4 t36_c_4) wv_1 ∧ Calls P 242 ⟨[(.slice t34_p_4 t34_n_4 t34_c_4), (.slice t36_p_4 t36_n_4 t36_c_4)]⟩ wv_1 fun e_9 wv_14 =>
            ∃ (t37_p_4 : Option Addr) (t37_n_4 : Nat) (t37_c_4 : Nat), e_9 = .returned (.slice t37_p_4 t37_n_4 t37_c_4) ∧
            ∀ (r_5 : Nat) (wv_15 : World), New wv_14 (.cells ⟨[(.int .i64 1)]⟩ 3 (0, 0)) r_5 wv_15 →
            Calls P 222 ⟨[(.slice t37_p_4 t37_n_4 t37_c_4), (.slice (some ⟨r_5, 0, none⟩) 1 1)]⟩ wv_15 fun e_10 wv_16 =>
            ∃ (t39_4 : Int), e_10 = .returned (.int .i64 t39_4) ∧
            R (.bool (decide ((t39_4 : Int) = 0))) wv_16)) ∧
        (true = false →
          ∃ (t28_p_2 : Option Addr) (t28_n_2 : Nat) (t28_c_2 : Nat), Loads P 22 (((⟨r, 0, none⟩ : Addr).add 0).add 1) (.slice t28_p_2 t28_n_2 t28_c_2) wv_1 ∧ ((decide ((18 : Int) < ((t28_n_2 : Nat) : Int))) = true →
            R (.bool false) wv_1) ∧
          ((decide ((18 : Int) < ((t28_n_2 : Nat) : Int))) = false →
            ∃ (t34_p_5 : Option Addr) (t34_n_5 : Nat) (t34_c_5 : Nat), Loads P 22 (((⟨r, 0, none⟩ : Addr).add 0).add 1) (.slice t34_p_5 t34_n_5 t34_c_5) wv_1 ∧ ∃ (t36_p_5 : Option Addr) (t36_n_5 : Nat) (t36_c_5 : Nat), Loads P 22 ((⟨r, 0, none⟩ : Addr).add 2) (.slice t36_p_5 t36_n_5 t36_c_5) wv_1 ∧ Calls P 242 ⟨[(.slice t34_p_5 t34_n_5 t34_c_5), (.slice t36_p_5 t36_n_5 t36_c_5)]⟩ wv_1 fun e_11 wv_17 =>
            ∃ (t37_p_5 : Option Addr) (t37_n_5 : Nat) (t37_c_5 : Nat), e_11 = .returned (.slice t37_p_5 t37_n_5 t37_c_5) ∧
            ∀ (r_6 : Nat) (wv_18 : World), New wv_17 (.cells ⟨[(.int .i64 1)]⟩ 3 (0, 0)) r_6 wv_18 →
            Calls P 222 ⟨[(.slice t37_p_5 t37_n_5 t37_c_5), (.slice (some ⟨r_6, 0, none⟩) 1 1)]⟩ wv_18 fun e_12 wv_19 =>
            ∃ (t39_5 : Int), e_12 = .returned (.int .i64 t39_5) ∧
            R (.bool (decide ((t39_5 : Int) = 0))) wv_19))) ∧
      ((decide ((((t15_n : Nat) : Int) : Int) = 0)) = false →
        ∃ (t21_p_1 : Option Addr) (t21_n_1 : Nat) (t21_c_1 : Nat), Loads P 22 ((⟨r, 0, none⟩ : Addr).add 2) (.slice t21_p_1 t21_n_1 t21_c_1) wv_1 ∧ ((decide ((18 : Int) < ((t21_n_1 : Nat) : Int))) = true →
          (true = true →
            R (.bool false) wv_1) ∧
          (true = false →
            ∃ (t34_p_6 : Option Addr) (t34_n_6 : Nat) (t34_c_6 : Nat), Loads P 22 (((⟨r, 0, none⟩ : Addr).add 0).add 1) (.slice t34_p_6 t34_n_6 t34_c_6) wv_1 ∧ ∃ (t36_p_6 : Option Addr) (t36_n_6 : Nat) (t36_c_6 : Nat), Loads P 22 ((⟨r, 0, none⟩ : Addr).add 2) (.slice t36_p_6 t36_n_6 t36_c_6) wv_1 ∧ Calls P 242 ⟨[(.slice t34_p_6 t34_n_6 t34_c_6), (.slice t36_p_6 t36_n_6 t36_c_6)]⟩ wv_1 fun e_13 wv_20 =>
            ∃ (t37_p_6 : Option Addr) (t37_n_6 : Nat) (t37_c_6 : Nat), e_13 = .returned (.slice t37_p_6 t37_n_6 t37_c_6) ∧
            ∀ (r_7 : Nat) (wv_21 : World), New wv_20 (.cells ⟨[(.int .i64 1)]⟩ 3 (0, 0)) r_7 wv_21 →
            Calls P 222 ⟨[(.slice t37_p_6 t37_n_6 t37_c_6), (.slice (some ⟨r_7, 0, none⟩) 1 1)]⟩ wv_21 fun e_14 wv_22 =>
            ∃ (t39_6 : Int), e_14 = .returned (.int .i64 t39_6) ∧
            R (.bool (decide ((t39_6 : Int) = 0))) wv_22)) ∧
        ((decide ((18 : Int) < ((t21_n_1 : Nat) : Int))) = false →
          ∃ (t28_p_3 : Option Addr) (t28_n_3 : Nat) (t28_c_3 : Nat), Loads P 22 (((⟨r, 0, none⟩ : Addr).add 0).add 1) (.slice t28_p_3 t28_n_3 t28_c_3) wv_1 ∧ ((decide ((18 : Int) < ((t28_n_3 : Nat) : Int))) = true →
            R (.bool false) wv_1) ∧
          ((decide ((18 : Int) < ((t28_n_3 : Nat) : Int))) = false →
            ∃ (t34_p_7 : Option Addr) (t34_n_7 : Nat) (t34_c_7 : Nat), Loads P 22 (((⟨r, 0, none⟩ : Addr).add 0).add 1) (.slice t34_p_7 t34_n_7 t34_c_7) wv_1 ∧ ∃ (t36_p_7 : Option Addr) (t36_n_7 : Nat) (t36_c_7 : Nat), Loads P 22 ((⟨r, 0, none⟩ : Addr).add 2) (.slice t36_p_7 t36_n_7 t36_c_7) wv_1 ∧ Calls P 242 ⟨[(.slice t34_p_7 t34_n_7 t34_c_7), (.slice t36_p_7 t36_n_7 t36_c_7)]⟩ wv_1 fun e_15 wv_23 =>
            ∃ (t37_p_7 : Option Addr) (t37_n_7 : Nat) (t37_c_7 : Nat), e_15 = .returned (.slice t37_p_7 t37_n_7 t37_c_7) ∧
            ∀ (r_8 : Nat) (wv_24 : World), New wv_23 (.cells ⟨[(.int .i64 1)]⟩ 3 (0, 0)) r_8 wv_24 →
            Calls P 222 ⟨[(.slice t37_p_7 t37_n_7 t37_c_7), (.slice (some ⟨r_8, 0, none⟩) 1 1)]⟩ wv_24 fun e_16 wv_25 =>
            ∃ (t39_7 : Int), e_16 = .returned (.int .i64 t39_7) ∧
            R (.bool (decide ((t39_7 : Int) = 0))) wv_25))))) ∧
  ((!t5) = false →
    ∃ (t9_p : Option Addr) (t9_n : Nat) (t9_c : Nat), Loads P 22 ((⟨r, 0, none⟩ : Addr).add 2) (.slice t9_p t9_n t9_c) wv_1 ∧ Calls P 223 ⟨[(.slice t9_p t9_n t9_c)]⟩ wv_1 fun e_17 wv_26 =>
    ∃ (t10 : Bool), e_17 = .returned (.bool t10) ∧
    ((!t10) = true →
      (true = true →
        (true = true →
          (true = true →
            R (.bool false) wv_26) ∧
          (true = false →
            ∃ (t34_p_8 : Option Addr) (t34_n_8 : Nat) (t34_c_8 : Nat), Loads P 22 (((⟨r, 0, none⟩ : Addr).add 0).add 1) (.slice t34_p_8 t34_n_8 t34_c_8) wv_26 ∧ ∃ (t36_p_8 : Option Addr) (t36_n_8 : Nat) (t36_c_8 : Nat), Loads P 22 ((⟨r, 0, none⟩ : Addr).add 2) (.slice t36_p_8 t36_n_8 t36_c_8) wv_26 ∧ Calls P 242 ⟨[(.slice t34_p_8 t34_n_8 t34_c_8), (.slice t36_p_8 t36_n_8 t36_c_8)]⟩ wv_26 fun e_18 wv_27 =>
            ∃ (t37_p_8 : Option Addr) (t37_n_8 : Nat) (t37_c_8 : Nat), e_18 = .returned (.slice t37_p_8 t37_n_8 t37_c_8) ∧
            ∀ (r_9 : Nat) (wv_28 : World), New wv_27 (.cells ⟨[(.int .i64 1)]⟩ 3 (0, 0)) r_9 wv_28 →
            Calls P 222 ⟨[(.slice t37_p_8 t37_n_8 t37_c_8), (.slice (some ⟨r_9, 0, none⟩) 1 1)]⟩ wv_28 fun e_19 wv_29 =>
            ∃ (t39_8 : Int), e_19 = .returned (.int .i64 t39_8) ∧
            R (.bool (decide ((t39_8 : Int) = 0))) wv_29)) ∧
        (true = false →
          ∃ (t28_p_4 : Option Addr) (t28_n_4 : Nat) (t28_c_4 : Nat), Loads P 22 (((⟨r, 0, none⟩ : Addr).add 0).add 1) (.slice t28_p_4 t28_n_4 t28_c_4) wv_26 ∧ ((decide ((18 : Int) < ((t28_n_4 : Nat) : Int))) = true →
            R (.bool false) wv_26) ∧
          ((decide ((18 : Int) < ((t28_n_4 : Nat) : Int))) = false →
            ∃ (t34_p_9 : Option Addr) (t34_n_9 : Nat) (t34_c_9 : Nat), Loads P 22 (((⟨r, 0, none⟩ : Addr).add 0).add 1) (.slice t34_p_9 t34_n_9 t34_c_9) wv_26 ∧ ∃ (t36_p_9 : Option Addr) (t36_n_9 : Nat) (t36_c_9 : Nat), Loads P 22 ((⟨r, 0, none⟩ : Addr).add 2) (.slice t36_p_9 t36_n_9 t36_c_9) wv_26 ∧ Calls P 242 ⟨[(.slice t34_p_9 t34_n_9 t34_c_9), (.slice t36_p_9 t36_n_9 t36_c_9)]⟩ wv_26 fun e_20 wv_30 =>
            ∃ (t37_p_9 : Option Addr) (t37_n_9 : Nat) (t37_c_9 : Nat), e_20 = .returned (.slice t37_p_9 t37_n_9 t37_c_9) ∧
            ∀ (r_10 : Nat) (wv_31 : World), New wv_30 (.cells ⟨[(.int .i64 1)]⟩ 3 (0, 0)) r_10 wv_31 →
            Calls P 222 ⟨[(.slice t37_p_9 t37_n_9 t37_c_9), (.slice (some ⟨r_10, 0, none⟩) 1 1)]⟩ wv_31 fun e_21 wv_32 =>
            ∃ (t39_9 : Int), e_21 = .returned (.int .i64 t39_9) ∧
            R (.bool (decide ((t39_9 : Int) = 0))) wv_32))) ∧
      (true = false →
        ∃ (t21_p_2 : Option Addr) (t21_n_2 : Nat) (t21_c_2 : Nat), Loads P 22 ((⟨r, 0, none⟩ : Addr).add 2) (.slice t21_p_2 t21_n_2 t21_c_2) wv_26 ∧ ((decide ((18 : Int) < ((t21_n_2 : Nat) : Int))) = true →
          (true = true →
            R (.bool false) wv_26) ∧
          (true = false →
            ∃ (t34_p_10 : Option Addr) (t34_n_10 : Nat) (t34_c_10 : Nat), Loads P 22 (((⟨r, 0, none⟩ : Addr).add 0).add 1) (.slice t34_p_10 t34_n_10 t34_c_10) wv_26 ∧ ∃ (t36_p_10 : Option Addr) (t36_n_10 : Nat) (t36_c_10 : Nat), Loads P 22 ((⟨r, 0, none⟩ : Addr).add 2) (.slice t36_p_10 t36_n_10 t36_c_10) wv_26 ∧ Calls P 242 ⟨[(.slice t34_p_10 t34_n_10 t34_c_10), (.slice t36_p_10 t36_n_10 t36_c_10)]⟩ wv_26 fun e_22 wv_33 =>
            ∃ (t37_p_10 : Option Addr) (t37_n_10 : Nat) (t37_c_10 : Nat), e_22 = .returned (.slice t37_p_10 t37_n_10 t37_c_10) ∧
            ∀ (r_11 : Nat) (wv_34 : World), New wv_33 (.cells ⟨[(.int .i64 1)]⟩ 3 (0, 0)) r_11 wv_34 →
            Calls P 222 ⟨[(.slice t37_p_10 t37_n_10 t37_c_10), (.slice (some ⟨r_11, 0, none⟩) 1 1)]⟩ wv_34 fun e_23 wv_35 =>
            ∃ (t39_10 : Int), e_23 = .returned (.int .i64 t39_10) ∧
            R (.bool (decide ((t39_10 : Int) = 0))) wv_35)) ∧
        ((decide ((18 : Int) < ((t21_n_2 : Nat) : Int))) = false →
          ∃ (t28_p_5 : Option Addr) (t28_n_5 : Nat) (t28_c_5 : Nat), Loads P 22 (((⟨r, 0, none⟩ : Addr).add 0).add 1) (.slice t28_p_5 t28_n_5 t28_c_5) wv_26 ∧ ((decide ((18 : Int) < ((t28_n_5 : Nat) : Int))) = true →
            R (.bool false) wv_26) ∧
          ((decide ((18 : Int) < ((t28_n_5 : Nat) : Int))) = false →
            ∃ (t34_p_11 : Option Addr) (t34_n_11 : Nat) (t34_c_11 : Nat), Loads P 22 (((⟨r, 0, none⟩ : Addr).add 0).add 1) (.slice t34_p_11 t34_n_11 t34_c_11) wv_26 ∧ ∃ (t36_p_11 : Option Addr) (t36_n_11 : Nat) (t36_c_11 : Nat), Loads P 22 ((⟨r, 0, none⟩ : Addr).add 2) (.slice t36_p_11 t36_n_11 t36_c_11) wv_26 ∧ Calls P 242 ⟨[(.slice t34_p_11 t34_n_11 t34_c_11), (.slice t36_p_11 t36_n_11 t36_c_11)]⟩ wv_26 fun e_24 wv_36 =>
            ∃ (t37_p_11 : Option Addr) (t37_n_11 : Nat) (t37_c_11 : Nat), e_24 = .returned (.slice t37_p_11 t37_n_11 t37_c_11) ∧
            ∀ (r_12 : Nat) (wv_37 : World), New wv_36 (.cells ⟨[(.int .i64 1)]⟩ 3 (0, 0)) r_12 wv_37 →
            Calls P 222 ⟨[(.slice t37_p_11 t37_n_11 t37_c_11), (.slice (some ⟨r_12, 0, none⟩) 1 1)]⟩ wv_37 fun e_25 wv_38 =>
            ∃ (t39_11 : Int), e_25 = .returned (.int .i64 t39_11) ∧
            R (.bool (decide ((t39_11 : Int) = 0))) wv_38)))) ∧
    ((!t10) = false →
      ∃ (t15_p_1 : Option Addr) (t15_n_1 : Nat) (t15_c_1 : Nat), Loads P 22 ((⟨r, 0, none⟩ : Addr).add 2) (.slice t15_p_1 t15_n_1 t15_c_1) wv_26 ∧ ((decide ((((t15_n_1 : Nat) : Int) : Int) = 0)) = true →
        (true = true →
          (true = true →
            R (.bool false) wv_26) ∧
          (true = false →
            ∃ (t34_p_12 : Option Addr) (t34_n_12 : Nat) (t34_c_12 : Nat), Loads P 22 (((⟨r, 0, none⟩ : Addr).add 0).add 1) (.slice t34_p_12 t34_n_12 t34_c_12) wv_26 ∧ ∃ (t36_p_12 : Option Addr) (t36_n_12 : Nat) (t36_c_12 : Nat), Loads P 22 ((⟨r, 0, none⟩ : Addr).add 2) (.slice t36_p_12 t36_n_12 t36_c_12) wv_26 ∧ Calls P 242 ⟨[(.slice t34_p_12 t34_n_12 t34_c_12), (.slice t36_p_12 t36_n_12 t36_c_12)]⟩ wv_26 fun e_26 wv_39 =>
            ∃ (t37_p_12 : Option Addr) (t37_n_12 : Nat) (t37_c_12 : Nat), e_26 = .returned (.slice t37_p_12 t37_n_12 t37_c_12) ∧
            ∀ (r_13 : Nat) (wv_40 : World), New wv_39 (.cells ⟨[(.int .i64 1)]⟩ 3 (0, 0)) r_13 wv_40 →
            Calls P 222 ⟨[(.slice t37_p_12 t37_n_12 t37_c_12), (.slice (some ⟨r_13, 0, none⟩) 1 1)]⟩ wv_40 fun e_27 wv_41 =>
            ∃ (t39_12 : Int), e_27 = .returned (.int .i64 t39_12) ∧
            R (.bool (decide ((t39_12 : Int) = 0))) wv_41)) ∧
        (true = false →
          ∃ (t28_p_6 : Option Addr) (t28_n_6 : Nat) (t28_c_6 : Nat), Loads P 22 (((⟨r, 0, none⟩ : Addr).add 0).add 1) (.slice t28_p_6 t28_n_6 t28_c_6) wv_26 ∧ ((decide ((18 : Int) < ((t28_n_6 : Nat) : Int))) = true →
            R (.bool false) wv_26) ∧
          ((decide ((18 : Int) < ((t28_n_6 : Nat) : Int))) = false →
            ∃ (t34_p_13 : Option Addr) (t34_n_13 : Nat) (t34_c_13 : Nat), Loads P 22 (((⟨r, 0, none⟩ : Addr).add 0).add 1) (.slice t34_p_13 t34_n_13 t34_c_13) wv_26 ∧ ∃ (t36_p_13 : Option Addr) (t36_n_13 : Nat) (t36_c_13 : Nat), Loads P 22 ((⟨r, 0, none⟩ : Addr).add 2) (.slice t36_p_13 t36_n_13 t36_c_13) wv_26 ∧ Calls P 242 ⟨[(.slice t34_p_13 t34_n_13 t34_c_13), (.slice t36_p_13 t36_n_13 t36_c_13)]⟩ wv_26 fun e_28 wv_42 =>
            ∃ (t37_p_13 : Option Addr) (t37_n_13 : Nat) (t37_c_13 : Nat), e_28 = .returned (.slice t37_p_13 t37_n_13 t37_c_13) ∧
            ∀ (r_14 : Nat) (wv_43 : World), New wv_42 (.cells ⟨[(.int .i64 1)]⟩ 3 (0, 0)) r_14 wv_43 →
            Calls P 222 ⟨[(.slice t37_p_13 t37_n_13 t37_c_13), (.slice (some ⟨r_14, 0, none⟩) 1 1)]⟩ wv_43 fun e_29 wv_44 =>
            ∃ (t39_13 : Int), e_29 = .returned (.int .i64 t39_13) ∧
            R (.bool (decide ((t39_13 : Int) = 0))) wv_44))) ∧
      ((decide ((((t15_n_1 : Nat) : Int) : Int) = 0)) = false →
        ∃ (t21_p_3 : Option Addr) (t21_n_3 : Nat) (t21_c_3 : Nat), Loads P 22 ((⟨r, 0, none⟩ : Addr).add 2) (.slice t21_p_3 t21_n_3 t21_c_3) wv_26 ∧ ((decide ((18 : Int) < ((t21_n_3 : Nat) : Int))) = true →
          (true = true →
            R (.bool false) wv_26) ∧
          (true = false →
            ∃ (t34_p_14 : Option Addr) (t34_n_14 : Nat) (t34_c_14 : Nat), Loads P 22 (((⟨r, 0, none⟩ : Addr).add 0).add 1) (.slice t34_p_14 t34_n_14 t34_c_14) wv_26 ∧ ∃ (t36_p_14 : Option Addr) (t36_n_14 : Nat) (t36_c_14 : Nat), Loads P 22 ((⟨r, 0, none⟩ : Addr).add 2) (.slice t36_p_14 t36_n_14 t36_c_14) wv_26 ∧ Calls P 242 ⟨[(.slice t34_p_14 t34_n_14 t34_c_14), (.slice t36_p_14 t36_n_14 t36_c_14)]⟩ wv_26 fun e_30 wv_45 =>
            ∃ (t37_p_14 : Option Addr) (t37_n_14 : Nat) (t37_c_14 : Nat), e_30 = .returned (.slice t37_p_14 t37_n_14 t37_c_14) ∧
            ∀ (r_15 : Nat) (wv_46 : World), New wv_45 (.cells ⟨[(.int .i64 1)]⟩ 3 (0, 0)) r_15 wv_46 →
            Calls P 222 ⟨[(.slice t37_p_14 t37_n_14 t37_c_14), (.slice (some ⟨r_15, 0, none⟩) 1 1)]⟩ wv_46 fun e_31 wv_47 =>
            ∃ (t39_14 : Int), e_31 = .returned (.int .i64 t39_14) ∧
            R (.bool (decide ((t39_14 : Int) = 0))) wv_47)) ∧
        ((decide ((18 : Int) < ((t21_n_3 : Nat) : Int))) = false →
          ∃ (t28_p_7 : Option Addr) (t28_n_7 : Nat) (t28_c_7 : Nat), Loads P 22 (((⟨r, 0, none⟩ : Addr).add 0).add 1) (.slice t28_p_7 t28_n_7 t28_c_7) wv_26 ∧ ((decide ((18 : Int) < ((t28_n_7 : Nat) : Int))) = true →
            R (.bool false) wv_26) ∧
          ((decide ((18 : Int) < ((t28_n_7 : Nat) : Int))) = false →
            ∃ (t34_p_15 : Option Addr) (t34_n_15 : Nat) (t34_c_15 : Nat), Loads P 22 (((⟨r, 0, none⟩ : Addr).add 0).add 1) (.slice t34_p_15 t34_n_15 t34_c_15) wv_26 ∧ ∃ (t36_p_15 : Option Addr) (t36_n_15 : Nat) (t36_c_15 : Nat), Loads P 22 ((⟨r, 0, none⟩ : Addr).add 2) (.slice t36_p_15 t36_n_15 t36_c_15) wv_26 ∧ Calls P 242 ⟨[(.slice t34_p_15 t34_n_15 t34_c_15), (.slice t36_p_15 t36_n_15 t36_c_15)]⟩ wv_26 fun e_32 wv_48 =>
            ∃ (t37_p_15 : Option Addr) (t37_n_15 : Nat) (t37_c_15 : Nat), e_32 = .returned (.slice t37_p_15 t37_n_15 t37_c_15) ∧
            ∀ (r_16 : Nat) (wv_49 : World), New wv_48 (.cells ⟨[(.int .i64 1)]⟩ 3 (0, 0)) r_16 wv_49 →
            Calls P 222 ⟨[(.slice t37_p_15 t37_n_15 t37_c_15), (.slice (some ⟨r_16, 0, none⟩) 1 1)]⟩ wv_49 fun e_33 wv_50 =>
            ∃ (t39_15 : Int), e_33 = .returned (.int .i64 t39_15) ∧
            R (.bool (decide ((t39_15 : Int) = 0))) wv_50)))))
theorem spec_RatOk_eq (r0 : Bool) (r1_p : Option Addr) (r1_n : Nat) (r1_c : Nat) (r2_p : Option Addr) (r2_n : Nat) (r2_c : Nat) (w : World) (R : Value → World → Prop) : spec_RatOk r0 r1_p r1_n r1_c r2_p r2_n r2_c w R = fsem P Tryz.f174 (fun k => []) [(.agg #[(.bool r0), (.slice r1_p r1_n r1_c), (.slice r2_p r2_n r2_c)])] R w := by kernel_rfl
theorem spec_RatOk_ret {r0 : Bool} {r1_p : Option Addr} {r1_n : Nat} {r1_c : Nat} {r2_p : Option Addr} {r2_n : Nat} {r2_c : Nat} {w : World} {R : Value → World → Prop} (h : spec_RatOk r0 r1_p r1_n r1_c r2_p r2_n r2_c w R) : Ret P 174 [(.agg #[(.bool r0), (.slice r1_p r1_n r1_c), (.slice r2_p r2_n r2_c)])] w R :=
  Ret.of_fsem Tryz.func174 rfl (Eq.mp (spec_RatOk_eq r0 r1_p r1_n r1_c r2_p r2_n r2_c w R) h)
def spec_l02Mul_j0 (a_p : Option Addr) (a_n : Nat) (b_p : Option Addr) (b_n : Nat) (W : World) (R : Value → World → Prop) : Prop :=
  ∃ t24 : Int, t24 = IntKind.wrap .i64 (((a_n : Nat) : Int) + ((b_n : Nat) : Int)) ∧ (0 ≤ (t24 : Int) ∧ (t24 : Int) ≤ t24 ∧ ((8 : Nat) : Int) * t24 ≤ 281474976710656) ∧
  ∀ (r : Nat) (wv : World), New W (.cells ⟨zeroRow (.int .i64 0) (t24.toNat * 1)⟩ 3 (0, 0)) r wv →
  ∃ (Inv : Int → World → Prop) (mu : Int → World → Nat), Inv 0 wv ∧
  ∀ (junk : Fr) (wv_1 : World) (t28 : Int), Inv t28 wv_1 →
    ((decide ((t28 : Int) < ((a_n : Nat) : Int))) = true →
      (0 ≤ (t28 : Int) ∧ (t28 : Int) < (a_n : Nat)) ∧ ptrS a_p fun ad => ∃ (t32 : Int), Loads P 3 (ad.add (t28.toNat * 1)) (.int .i64 t32) wv_1 ∧ ∃ (Inv_1 : Int → Int → World → Prop) (mu_1 : Int → Int → World → Nat), Inv_1 0 0 wv_1 ∧
      ∀ (junk_1 : Fr) (wv_2 : World) (carry : Int) (t35 : Int), Inv_1 carry t35 wv_2 →
        ((decide ((t35 : Int) < ((b_n : Nat) : Int))) = true →
          (0 ≤ (t35 : Int) ∧ (t35 : Int) < (b_n : Nat)) ∧ ptrS b_p fun ad_1 => ∃ (t39 : Int), Loads P 3 (ad_1.add (t35.toNat * 1)) (.int .i64 t39) wv_2 ∧ ∃ t43 : Int, t43 = IntKind.wrap .i64 (t28 + t35) ∧ (0 ≤ (t43 : Int) ∧ (t43 : Int) < (t24.toNat : Nat)) ∧ ∃ (t45 : Int), Loads P 3 ((⟨r, 0, none⟩ : Addr).add (t43.toNat * 1)) (.int .i64 t45) wv_2 ∧ ∃ t48 : Int, t48 = IntKind.wrap .i64 (t32 * t39) ∧ ∃ t49 : Int, t49 = IntKind.wrap .i64 (t45 + t48) ∧ ∃ t51 : Int, t51 = IntKind.wrap .i64 (t49 + carry) ∧ ∃ t55 : Int, t55 = IntKind.wrap .i64 (t28 + t35) ∧ (1000000000 : Int) ≠ 0 ∧ ∃ t57 : Int, t57 = Int.tmod t51 1000000000 ∧ (0 ≤ (t55 : Int) ∧ (t55 : Int) < (t24.toNat : Nat)) ∧ ∃ wv_3, Stores P 3 ((⟨r, 0, none⟩ : Addr).add (t55.toNat * 1)) (.int .i64 t57) wv_2 wv_3 ∧
          (1000000000 : Int) ≠ 0 ∧ ∃ t60 : Int, t60 = IntKind.wrap .i64 (Int.tdiv t51 1000000000) ∧ ∃ t61 : Int, t61 = IntKind.wrap .i64 (t35 + 1) ∧ Inv_1 t60 t61 wv_3 ∧ mu_1 t60 t61 wv_3 < mu_1 carry t35 wv_2) ∧
        ((decide ((t35 : Int) < ((b_n : Nat) : Int))) = false →
          ∃ t66 : Int, t66 = IntKind.wrap .i64 (t28 + ((b_n : Nat) : Int)) ∧ (0 ≤ (t66 : Int) ∧ (t66 : Int) < (t24.toNat : Nat)) ∧ ∃ wv_4, Stores P 3 ((⟨r, 0, none⟩ : Addr).add (t66.toNat * 1)) (.int .i64 carry) wv_2 wv_4 ∧
          ∃ t69 : Int, t69 = IntKind.wrap .i64 (t28 + 1) ∧ Inv t69 wv_4 ∧ mu t69 wv_4 < mu t28 wv_1)) ∧
    ((decide ((t28 : Int) < ((a_n : Nat) : Int))) = false →
      Calls P 243 ⟨[(.slice (some ⟨r, 0, none⟩) t24.toNat t24.toNat)]⟩ wv_1 fun e wv_5 =>
      ∃ (t71_p : Option Addr) (t71_n : Nat) (t71_c : Nat), e = .returned (.slice t71_p t71_n t71_c) ∧
      R (.slice t71_p t71_n t71_c) wv_5)
def spec_l02Mul (a_p : Option Addr) (a_n : Nat) (a_c : Nat) (b_p : Option Addr) (b_n : Nat) (b_c : Nat) (w : World) (R : Value → World → Prop) : Prop :=
  ((decide ((((a_n : Nat) : Int) : Int) = 0)) = true →
    (true = true →
      R (.slice none 0 0) w) ∧
    (true = false →
      spec_l02Mul_j0 a_p a_n b_p b_n w R)) ∧
  ((decide ((((a_n : Nat) : Int) : Int) = 0)) = false →
    ((decide ((((b_n : Nat) : Int) : Int) = 0)) = true →
      R (.slice none 0 0) w) ∧
    ((decide ((((b_n : Nat) : Int) : Int) = 0)) = false →
      spec_l02Mul_j0 a_p a_n b_p b_n w R))
theorem spec_l02Mul_eq (a_p : Option Addr) (a_n : Nat) (a_c : Nat) (b_p : Option Addr) (b_n : Nat) (b_c : Nat) (w : World) (R : Value → World → Prop) : spec_l02Mul a_p a_n a_c b_p b_n b_c w R = fsem P Tryz.f175 (fun k => cond (Nat.beq k 6) [(28, .one (.int .i64))] (cond (Nat.beq k 10) [(8, .one (.int .i64)), (35, .one (.int .i64))] ([]))) [(.slice a_p a_n a_c), (.slice b_p b_n b_c)] R w := by kernel_rfl
theorem spec_l02Mul_ret {a_p : Option Addr} {a_n : Nat} {a_c : Nat} {b_p : Option Addr} {b_n : Nat} {b_c : Nat} {w : World} {R : Value → World → Prop} (h : spec_l02Mul a_p a_n a_c b_p b_n b_c w R) : Ret P 175 [(.slice a_p a_n a_c), (.slice b_p b_n b_c)] w R :=
  Ret.of_fsem Tryz.func175 rfl (Eq.mp (spec_l02Mul_eq a_p a_n a_c b_p b_n b_c w R) h)
def spec_l04Add (x0 : Bool) (x1_p : Option Addr) (x1_n : Nat) (x1_c : Nat) (y0 : Bool) (y1_p : Option Addr) (y1_n : Nat) (y1_c : Nat) (w : World) (R : Value → World → Prop) : Prop :=
  ∀ (r : Nat) (wv : World), New w (.cells ⟨[(.bool x0), (.slice x1_p x1_n x1_c)]⟩ 31 (0, 0)) r wv →
  ∀ (r_1 : Nat) (wv_1 : World), New wv (.cells ⟨[(.bool y0), (.slice y1_p y1_n y1_c)]⟩ 31 (0, 0)) r_1 wv_1 →
  ∀ (r_2 : Nat) (wv_2 : World), New wv_1 (.cells ⟨[(.bool false), (.slice none 0 0)]⟩ 31 (0, 0)) r_2 wv_2 →
  ∃ (t6 : Bool), Loads P 4 ((⟨r, 0, none⟩ : Addr).add 0) (.bool t6) wv_2 ∧ ∃ (t8 : Bool), Loads P 4 ((⟨r_1, 0, none⟩ : Addr).add 0) (.bool t8) wv_2 ∧ ((t6 == t8) = true →
    ∃ (t11 : Bool), (∀ wv_3, Ext wv_2.drew wv_3 → Loads P 4 ((⟨r, 0, none⟩ : Addr).add 0) (.bool t11) wv_3) ∧ ∃ (t13_p : Option Addr) (t13_n : Nat) (t13_c : Nat), (∀ wv_4, Ext wv_2.drew wv_4 → Loads P 22 ((⟨r, 0, none⟩ : Addr).add 1) (.slice t13_p t13_n t13_c) wv_4) ∧ ∃ (t15_p : Option Addr) (t15_n : Nat) (t15_c : Nat), (∀ wv_5, Ext wv_2.drew wv_5 → Loads P 22 ((⟨r_1, 0, none⟩ : Addr).add 1) (.slice t15_p t15_n t15_c) wv_5) ∧ Calls P 244 ⟨[(.slice t13_p t13_n t13_c), (.slice t15_p t15_n t15_c)]⟩ wv_2.drew fun e wv_6 =>
    ∃ (t16_p : Option Addr) (t16_n : Nat) (t16_c : Nat), e = .returned (.slice t16_p t16_n t16_c) ∧
    Ext wv_2.drew wv_6 ∧ Calls P 113 ⟨[(.bool t11), (.slice t16_p t16_n t16_c)]⟩ wv_6 fun e_1 wv_7 =>
    ∃ (t170 : Bool) (t171_p : Option Addr) (t171_n : Nat) (t171_c : Nat), e_1 = .returned (.agg #[(.bool t170), (.slice t171_p t171_n t171_c)]) ∧
    ∃ wv_8, Stores P 31 ⟨r_2, 0, none⟩ (.agg #[(.bool t170), (.slice t171_p t171_n t171_c)]) wv_7 wv_8 ∧
    ∃ (r0 : Bool) (r1_p : Option Addr) (r1_n : Nat) (r1_c : Nat), Loads P 31 ⟨r_2, 0, none⟩ (.agg #[(.bool r0), (.slice r1_p r1_n r1_c)]) wv_8 ∧ R (.agg #[(.bool r0), (.slice r1_p r1_n r1_c)]) wv_8) ∧
  ((t6 == t8) = false →
    ∃ (t19_p : Option Addr) (t19_n : Nat) (t19_c : Nat), Loads P 22 ((⟨r, 0, none⟩ : Addr).add 1) (.slice t19_p t19_n t19_c) wv_2 ∧ ∃ (t21_p : Option Addr) (t21_n : Nat) (t21_c : Nat), Loads P 22 ((⟨r_1, 0, none⟩ : Addr).add 1) (.slice t21_p t21_n t21_c) wv_2 ∧ Calls P 222 ⟨[(.slice t19_p t19_n t19_c), (.slice t21_p t21_n t21_c)]⟩ wv_2 fun e_2 wv_9 =>
    ∃ (t22 : Int), e_2 = .returned (.int .i64 t22) ∧
    ((decide ((0 : Int) ≤ t22)) = true →
      ∃ (t25 : Bool), (∀ wv_10, Ext wv_9.drew wv_10 → Loads P 4 ((⟨r, 0, none⟩ : Addr).add 0) (.bool t25) wv_10) ∧ ∃ (t27_p : Option Addr) (t27_n : Nat) (t27_c : Nat), (∀ wv_11, Ext wv_9.drew wv_11 → Loads P 22 ((⟨r, 0, none⟩ : Addr).add 1) (.slice t27_p t27_n t27_c) wv_11) ∧ ∃ (t29_p : Option Addr) (t29_n : Nat) (t29_c : Nat), (∀ wv_12, Ext wv_9.drew wv_12 → Loads P 22 ((⟨r_1, 0, none⟩ : Addr).add 1) (.slice t29_p t29_n t29_c) wv_12) ∧ Calls P 245 ⟨[(.slice t27_p t27_n t27_c), (.slice t29_p t29_n t29_c)]⟩ wv_9.drew fun e_3 wv_13 =>
      ∃ (t30_p : Option Addr) (t30_n : Nat) (t30_c : Nat), e_3 = .returned (.slice t30_p t30_n t30_c) ∧
      Ext wv_9.drew wv_13 ∧ Calls P 113 ⟨[(.bool t25), (.slice t30_p t30_n t30_c)]⟩ wv_13 fun e_4 wv_14 =>
      ∃ (t310 : Bool) (t311_p : Option Addr) (t311_n : Nat) (t311_c : Nat), e_4 = .returned (.agg #[(.bool t310), (.slice t311_p t311_n t311_c)]) ∧
      ∃ wv_15, Stores P 31 ⟨r_2, 0, none⟩ (.agg #[(.bool t310), (.slice t311_p t311_n t311_c)]) wv_14 wv_15 ∧
      ∃ (r0_1 : Bool) (r1_p_1 : Option Addr) (r1_n_1 : Nat) (r1_c_1 : Nat), Loads P 31 ⟨r_2, 0, none⟩ (.agg #[(.bool r0_1), (.slice r1_p_1 r1_n_1 r1_c_1)]) wv_15 ∧ R (.agg #[(.bool r0_1), (.slice r1_p_1 r1_n_1 r1_c_1)]) wv_15) ∧
    ((decide ((0 : Int) ≤ t22)) = false →
      ∃ (t33 : Bool), (∀ wv_16, Ext wv_9.drew wv_16 → Loads P 4 ((⟨r_1, 0, none⟩ : Addr).add 0) (.bool t33) wv_16) ∧ ∃ (t35_p : Option Addr) (t35_n : Nat) (t35_c : Nat), (∀ wv_17, Ext wv_9.drew wv_17 → Loads P 22 ((⟨r_1, 0, none⟩ : Addr).add 1) (.slice t35_p t35_n t35_c) wv_17) ∧ ∃ (t37_p : Option Addr) (t37_n : Nat) (t37_c : Nat), (∀ wv_18, Ext wv_9.drew wv_18 → Loads P 22 ((⟨r, 0, none⟩ : Addr).add 1) (.slice t37_p t37_n t37_c) wv_18) ∧ Calls P 245 ⟨[(.slice t35_p t35_n t35_c), (.slice t37_p t37_n t37_c)]⟩ wv_9.drew fun e_5 wv_19 =>
      ∃ (t38_p : Option Addr) (t38_n : Nat) (t38_c : Nat), e_5 = .returned (.slice t38_p t38_n t38_c) ∧
      Ext wv_9.drew wv_19 ∧ Calls P 113 ⟨[(.bool t33), (.slice t38_p t38_n t38_c)]⟩ wv_19 fun e_6 wv_20 =>
      ∃ (t390 : Bool) (t391_p : Option Addr) (t391_n : Nat) (t391_c : Nat), e_6 = .returned (.agg #[(.bool t390), (.slice t391_p t391_n t391_c)]) ∧
      ∃ wv_21, Stores P 31 ⟨r_2, 0, none⟩ (.agg #[(.bool t390), (.slice t391_p t391_n t391_c)]) wv_20 wv_21 ∧
      ∃ (r0_2 : Bool) (r1_p_2 : Option Addr) (r1_n_2 : Nat) (r1_c_2 : Nat), Loads P 31 ⟨r_2, 0, none⟩ (.agg #[(.bool r0_2), (.slice r1_p_2 r1_n_2 r1_c_2)]) wv_21 ∧ R (.agg #[(.bool r0_2), (.slice r1_p_2 r1_n_2 r1_c_2)]) wv_21))
theorem spec_l04Add_eq (x0 : Bool) (x1_p : Option Addr) (x1_n : Nat) (x1_c : Nat) (y0 : Bool) (y1_p : Option Addr) (y1_n : Nat) (y1_c : Nat) (w : World) (R : Value → World → Prop) : spec_l04Add x0 x1_p x1_n x1_c y0 y1_p y1_n y1_c w R = fsem P Tryz.f176 (fun k => []) [(.agg #[(.bool x0), (.slice x1_p x1_n x1_c)]), (.agg #[(.bool y0), (.slice y1_p y1_n y1_c)])] R w := by kernel_rfl
theorem spec_l04Add_ret {x0 : Bool} {x1_p : Option Addr} {x1_n : Nat} {x1_c : Nat} {y0 : Bool} {y1_p : Option Addr} {y1_n : Nat} {y1_c : Nat} {w : World} {R : Value → World → Prop} (h : spec_l04Add x0 x1_p x1_n x1_c y0 y1_p y1_n y1_c w R) : Ret P 176 [(.agg #[(.bool x0), (.slice x1_p x1_n x1_c)]), (.agg #[(.bool y0), (.slice y1_p y1_n y1_c)])] w R :=
  Ret.of_fsem Tryz.func176 rfl (Eq.mp (spec_l04Add_eq x0 x1_p x1_n x1_c y0 y1_p y1_n y1_c w R) h)
end Go.Proofs.YtfehpaekbbmkcaaGreatDoor

namespace Go.Proofs.YtfehpaekbbmkcaaGreatDoor
open Go Go.Proofs.YtfehpaekbbmkcaaGreatDoor.Sx
set_option linter.unusedVariables false
set_option maxRecDepth 100000
def spec_l05Low (neg : Bool) (a_p : Option Addr) (a_n : Nat) (a_c : Nat) (b_p : Option Addr) (b_n : Nat) (b_c : Nat) (w : World) (R : Value → World → Prop) : Prop :=
  ∀ (r : Nat) (wv : World), New w (.cells ⟨[(.bool false), (.slice none 0 0), (.slice none 0 0)]⟩ 53 (0, 0)) r wv →
  Calls P 243 ⟨[(.slice a_p a_n a_c)]⟩ wv fun e wv_1 =>
  ∃ (t16_p : Option Addr) (t16_n : Nat) (t16_c : Nat), e = .returned (.slice t16_p t16_n t16_c) ∧
  Calls P 243 ⟨[(.slice b_p b_n b_c)]⟩ wv_1 fun e_1 wv_2 =>
  ∃ (t18_p : Option Addr) (t18_n : Nat) (t18_c : Nat), e_1 = .returned (.slice t18_p t18_n t18_c) ∧
  ((decide ((((t18_n : Nat) : Int) : Int) = 0)) = true →
    ∃ wv_3, Stores P 53 ⟨r, 0, none⟩ (.agg #[(.bool false), (.slice none 0 0), (.slice none 0 0)]) wv_2 wv_3 ∧
    ∃ (r0 : Bool) (r1_p : Option Addr) (r1_n : Nat) (r1_c : Nat) (r2_p : Option Addr) (r2_n : Nat) (r2_c : Nat), Loads P 53 ⟨r, 0, none⟩ (.agg #[(.bool r0), (.slice r1_p r1_n r1_c), (.slice r2_p r2_n r2_c)]) wv_3 ∧ R (.tuple #[(.agg #[(.bool r0), (.slice r1_p r1_n r1_c), (.slice r2_p r2_n r2_c)]), (.bool false)]) wv_3) ∧
  ((decide ((((t18_n : Nat) : Int) : Int) = 0)) = false →
    Calls P 246 ⟨[(.slice t16_p t16_n t16_c), (.slice t18_p t18_n t18_c)]⟩ wv_2 fun e_2 wv_4 =>
    ∃ (t25_p : Option Addr) (t25_n : Nat) (t25_c : Nat), e_2 = .returned (.slice t25_p t25_n t25_c) ∧
    Calls P 224 ⟨[(.slice t16_p t16_n t16_c), (.slice t25_p t25_n t25_c)]⟩ wv_4 fun e_3 wv_5 =>
    ∃ (t29_p : Option Addr) (t29_n : Nat) (t29_c : Nat) (t29_p_1 : Option Addr) (t29_n_1 : Nat) (t29_c_1 : Nat), e_3 = .returned (.tuple #[(.slice t29_p t29_n t29_c), (.slice t29_p_1 t29_n_1 t29_c_1)]) ∧
    Calls P 224 ⟨[(.slice t18_p t18_n t18_c), (.slice t25_p t25_n t25_c)]⟩ wv_5 fun e_4 wv_6 =>
    ∃ (t35_p : Option Addr) (t35_n : Nat) (t35_c : Nat) (t35_p_1 : Option Addr) (t35_n_1 : Nat) (t35_c_1 : Nat), e_4 = .returned (.tuple #[(.slice t35_p t35_n t35_c), (.slice t35_p_1 t35_n_1 t35_c_1)]) ∧
    ((decide ((18 : Int) < ((t29_n : Nat) : Int))) = true →
      (true = true →
        ∃ wv_7, Stores P 53 ⟨r, 0, none⟩ (.agg #[(.bool false), (.slice none 0 0), (.slice none 0 0)]) wv_6 wv_7 ∧
        ∃ (r0_1 : Bool) (r1_p_1 : Option Addr) (r1_n_1 : Nat) (r1_c_1 : Nat) (r2_p_1 : Option Addr) (r2_n_1 : Nat) (r2_c_1 : Nat), Loads P 53 ⟨r, 0, none⟩ (.agg #[(.bool r0_1), (.slice r1_p_1 r1_n_1 r1_c_1), (.slice r2_p_1 r2_n_1 r2_c_1)]) wv_7 ∧ R (.tuple #[(.agg #[(.bool r0_1), (.slice r1_p_1 r1_n_1 r1_c_1), (.slice r2_p_1 r2_n_1 r2_c_1)]), (.bool false)]) wv_7) ∧
      (true = false →
        Calls P 113 ⟨[(.bool neg), (.slice t29_p t29_n t29_c)]⟩ wv_6 fun e_5 wv_8 =>
        ∃ (t490 : Bool) (t491_p : Option Addr) (t491_n : Nat) (t491_c : Nat), e_5 = .returned (.agg #[(.bool t490), (.slice t491_p t491_n t491_c)]) ∧
        ∀ (r_1 : Nat) (wv_9 : World), New wv_8 (.cells ⟨[]⟩ 3 (0, 0)) r_1 wv_9 →
        ∃ (t52_p : Option Addr) (t52_n : Nat) (t52_c : Nat) (wv_10 : World), Appends P [22, 22] [(.slice (some ⟨r_1, 0, none⟩) 0 0), (.slice t35_p t35_n t35_c)] (.slice t52_p t52_n t52_c) wv_9 wv_10 ∧
        ∃ wv_11, Stores P 53 ⟨r, 0, none⟩ (.agg #[(.bool t490), (.slice t491_p t491_n t491_c), (.slice t52_p t52_n t52_c)]) wv_10 wv_11 ∧
        ∃ (r0_2 : Bool) (r1_p_2 : Option Addr) (r1_n_2 : Nat) (r1_c_2 : Nat) (r2_p_2 : Option Addr) (r2_n_2 : Nat) (r2_c_2 : Nat), Loads P 53 ⟨r, 0, none⟩ (.agg #[(.bool r0_2), (.slice r1_p_2 r1_n_2 r1_c_2), (.slice r2_p_2 r2_n_2 r2_c_2)]) wv_11 ∧ R (.tuple #[(.agg #[(.bool r0_2), (.slice r1_p_2 r1_n_2 r1_c_2), (.slice r2_p_2 r2_n_2 r2_c_2)]), (.bool true)]) wv_11)) ∧
    ((decide ((18 : Int) < ((t29_n : Nat) : Int))) = false →
      ((decide ((18 : Int) < ((t35_n : Nat) : Int))) = true →
        ∃ wv_12, Stores P 53 ⟨r, 0, none⟩ (.agg #[(.bool false), (.slice none 0 0), (.slice none 0 0)]) wv_6 wv_12 ∧
        ∃ (r0_3 : Bool) (r1_p_3 : Option Addr) (r1_n_3 : Nat) (r1_c_3 : Nat) (r2_p_3 : Option Addr) (r2_n_3 : Nat) (r2_c_3 : Nat), Loads P 53 ⟨r, 0, none⟩ (.agg #[(.bool r0_3), (.slice r1_p_3 r1_n_3 r1_c_3), (.slice r2_p_3 r2_n_3 r2_c_3)]) wv_12 ∧ R (.tuple #[(.agg #[(.bool r0_3), (.slice r1_p_3 r1_n_3 r1_c_3), (.slice r2_p_3 r2_n_3 r2_c_3)]), (.bool false)]) wv_12) ∧
      ((decide ((18 : Int) < ((t35_n : Nat) : Int))) = false →
        Calls P 113 ⟨[(.bool neg), (.slice t29_p t29_n t29_c)]⟩ wv_6 fun e_6 wv_13 =>
        ∃ (t490_1 : Bool) (t491_p_1 : Option Addr) (t491_n_1 : Nat) (t491_c_1 : Nat), e_6 = .returned (.agg #[(.bool t490_1), (.slice t491_p_1 t491_n_1 t491_c_1)]) ∧
        ∀ (r_2 : Nat) (wv_14 : World), New wv_13 (.cells ⟨[]⟩ 3 (0, 0)) r_2 wv_14 →
        ∃ (t52_p_1 : Option Addr) (t52_n_1 : Nat) (t52_c_1 : Nat) (wv_15 : World), Appends P [22, 22] [(.slice (some ⟨r_2, 0, none⟩) 0 0), (.slice t35_p t35_n t35_c)] (.slice t52_p_1 t52_n_1 t52_c_1) wv_14 wv_15 ∧
        ∃ wv_16, Stores P 53 ⟨r, 0, none⟩ (.agg #[(.bool t490_1), (.slice t491_p_1 t491_n_1 t491_c_1), (.slice t52_p_1 t52_n_1 t52_c_1)]) wv_15 wv_16 ∧
        ∃ (r0_4 : Bool) (r1_p_4 : Option Addr) (r1_n_4 : Nat) (r1_c_4 : Nat) (r2_p_4 : Option Addr) (r2_n_4 : Nat) (r2_c_4 : Nat), Loads P 53 ⟨r, 0, none⟩ (.agg #[(.bool r0_4), (.slice r1_p_4 r1_n_4 r1_c_4), (.slice r2_p_4 r2_n_4 r2_c_4)]) wv_16 ∧ R (.tuple #[(.agg #[(.bool r0_4), (.slice r1_p_4 r1_n_4 r1_c_4), (.slice r2_p_4 r2_n_4 r2_c_4)]), (.bool true)]) wv_16)))
theorem spec_l05Low_eq (neg : Bool) (a_p : Option Addr) (a_n : Nat) (a_c : Nat) (b_p : Option Addr) (b_n : Nat) (b_c : Nat) (w : World) (R : Value → World → Prop) : spec_l05Low neg a_p a_n a_c b_p b_n b_c w R = fsem P Tryz.f177 (fun k => []) [(.bool neg), (.slice a_p a_n a_c), (.slice b_p b_n b_c)] R w := by kernel_rfl
theorem spec_l05Low_ret {neg : Bool} {a_p : Option Addr} {a_n : Nat} {a_c : Nat} {b_p : Option Addr} {b_n : Nat} {b_c : Nat} {w : World} {R : Value → World → Prop} (h : spec_l05Low neg a_p a_n a_c b_p b_n b_c w R) : Ret P 177 [(.bool neg), (.slice a_p a_n a_c), (.slice b_p b_n b_c)] w R :=
  Ret.of_fsem Tryz.func177 rfl (Eq.mp (spec_l05Low_eq neg a_p a_n a_c b_p b_n b_c w R) h)
def spec_l19Rat (r0 : Bool) (r1_p : Option Addr) (r1_n : Nat) (r1_c : Nat) (r2_p : Option Addr) (r2_n : Nat) (r2_c : Nat) (w : World) (R : Value → World → Prop) : Prop :=
  ∀ (r : Nat) (wv : World), New w (.cells ⟨[(.bool r0), (.slice r1_p r1_n r1_c), (.slice r2_p r2_n r2_c)]⟩ 53 (0, 0)) r wv →
  ∀ (r_1 : Nat) (wv_1 : World), New wv (.cells ⟨[(.bool false), (.slice none 0 0), (.slice none 0 0)]⟩ 53 (0, 0)) r_1 wv_1 →
  ∃ (t5 : Bool), (∀ wv_2, Ext wv_1.drew wv_2 → Loads P 4 (((⟨r, 0, none⟩ : Addr).add 0).add 0) (.bool t5) wv_2) ∧ ∃ (t9_p : Option Addr) (t9_n : Nat) (t9_c : Nat), (∀ wv_3, Ext wv_1.drew wv_3 → Loads P 22 (((⟨r, 0, none⟩ : Addr).add 0).add 1) (.slice t9_p t9_n t9_c) wv_3) ∧ ∀ (ss : List (Option Nat)) (wv_4 : World) (r_2 : Nat), Fl [.cells ⟨[]⟩ 3 (0, 0), .cells ⟨[]⟩ 3 (0, 0)] [none, none] wv_1.drew ss wv_4 → ss[0]? = some (some r_2) →
  ∀ (ss_1 : List (Option Nat)) (wv_5 : World), Fl [.cells ⟨[]⟩ 3 (0, 0), .cells ⟨[]⟩ 3 (0, 0)] ss wv_4 ss_1 wv_5 →
  ∃ (t10_p : Option Addr) (t10_n : Nat) (t10_c : Nat) (wv_6 : World), Appends P [22, 22] [(.slice (some ⟨r_2, 0, none⟩) 0 0), (.slice t9_p t9_n t9_c)] (.slice t10_p t10_n t10_c) wv_5 wv_6 ∧
  Ext wv_5 wv_6 ∧ ∃ (t14_p : Option Addr) (t14_n : Nat) (t14_c : Nat), (∀ wv_7, Ext wv_1.drew wv_7 → Loads P 22 ((⟨r, 0, none⟩ : Addr).add 2) (.slice t14_p t14_n t14_c) wv_7) ∧ ∀ (ss_2 : List (Option Nat)) (wv_8 : World) (r_3 : Nat), Fl [.cells ⟨[]⟩ 3 (0, 0), .cells ⟨[]⟩ 3 (0, 0)] ss_1 wv_6 ss_2 wv_8 → ss_2[1]? = some (some r_3) →
  ∃ (t15_p : Option Addr) (t15_n : Nat) (t15_c : Nat) (wv_9 : World), Appends P [22, 22] [(.slice (some ⟨r_3, 0, none⟩) 0 0), (.slice t14_p t14_n t14_c)] (.slice t15_p t15_n t15_c) wv_8 wv_9 ∧
  Ext wv_8 wv_9 ∧ ∃ wv_10, Stores P 53 ⟨r_1, 0, none⟩ (.agg #[(.bool t5), (.slice t10_p t10_n t10_c), (.slice t15_p t15_n t15_c)]) wv_9 wv_10 ∧
  ∃ (r0_1 : Bool) (r1_p_1 : Option Addr) (r1_n_1 : Nat) (r1_c_1 : Nat) (r2_p_1 : Option Addr) (r2_n_1 : Nat) (r2_c_1 : Nat), Loads P 53 ⟨r_1, 0, none⟩ (.agg #[(.bool r0_1), (.slice r1_p_1 r1_n_1 r1_c_1), (.slice r2_p_1 r2_n_1 r2_c_1)]) wv_10 ∧ R (.agg #[(.bool r0_1), (.slice r1_p_1 r1_n_1 r1_c_1), (.slice r2_p_1 r2_n_1 r2_c_1)]) wv_10
theorem spec_l19Rat_eq (r0 : Bool) (r1_p : Option Addr) (r1_n : Nat) (r1_c : Nat) (r2_p : Option Addr) (r2_n : Nat) (r2_c : Nat) (w : World) (R : Value → World → Prop) : spec_l19Rat r0 r1_p r1_n r1_c r2_p r2_n r2_c w R = fsem P Tryz.f178 (fun k => []) [(.agg #[(.bool r0), (.slice r1_p r1_n r1_c), (.slice r2_p r2_n r2_c)])] R w := by kernel_rfl
theorem spec_l19Rat_ret {r0 : Bool} {r1_p : Option Addr} {r1_n : Nat} {r1_c : Nat} {r2_p : Option Addr} {r2_n : Nat} {r2_c : Nat} {w : World} {R : Value → World → Prop} (h : spec_l19Rat r0 r1_p r1_n r1_c r2_p r2_n r2_c w R) : Ret P 178 [(.agg #[(.bool r0), (.slice r1_p r1_n r1_c), (.slice r2_p r2_n r2_c)])] w R :=
  Ret.of_fsem Tryz.func178 rfl (Eq.mp (spec_l19Rat_eq r0 r1_p r1_n r1_c r2_p r2_n r2_c w R) h)
def spec_l08Find (code : ByteArray) (w : World) (R : Value → World → Prop) : Prop :=
  ∀ (r : Nat) (wv : World), New w (.cells ⟨[(.string ByteArray.empty), (.string ByteArray.empty), (.int .i64 0), (.int .i64 0)]⟩ 207 (0, 0)) r wv →
  Calls P 247 ⟨[]⟩ wv fun e wv_1 =>
  ∃ (t5_p : Option Addr) (t5_n : Nat) (t5_c : Nat), e = .returned (.slice t5_p t5_n t5_c) ∧
  ∃ (Inv : Int → World → Prop) (mu : Int → World → Nat), Inv 0 wv_1 ∧
  ∀ (junk : Fr) (wv_2 : World) (t7 : Int), Inv t7 wv_2 →
    ((decide ((t7 : Int) < ((t5_n : Nat) : Int))) = true →
      (0 ≤ (t7 : Int) ∧ (t7 : Int) < (t5_n : Nat)) ∧ ptrS t5_p fun ad => ∃ (t100 : ByteArray) (t101 : ByteArray) (t102 : Int) (t103 : Int), Loads P 207 (ad.add (t7.toNat * 4)) (.agg #[(.string t100), (.string t101), (.int .i64 t102), (.int .i64 t103)]) wv_2 ∧ ∀ (r_1 : Nat) (wv_3 : World), New wv_2 (.cells ⟨[(.string ByteArray.empty), (.string ByteArray.empty), (.int .i64 0), (.int .i64 0)]⟩ 207 (0, 0)) r_1 wv_3 →
      ∃ wv_4, Stores P 207 ⟨r_1, 0, none⟩ (.agg #[(.string t100), (.string t101), (.int .i64 t102), (.int .i64 t103)]) wv_3 wv_4 ∧
      ∃ (t12 : ByteArray), Loads P 9 ((⟨r_1, 0, none⟩ : Addr).add 0) (.string t12) wv_4 ∧ ((decide (t12 = code)) = true →
        ∃ (t150 : ByteArray) (t151 : ByteArray) (t152 : Int) (t153 : Int), Loads P 207 ⟨r_1, 0, none⟩ (.agg #[(.string t150), (.string t151), (.int .i64 t152), (.int .i64 t153)]) wv_4 ∧ ∃ wv_5, Stores P 207 ⟨r, 0, none⟩ (.agg #[(.string t150), (.string t151), (.int .i64 t152), (.int .i64 t153)]) wv_4 wv_5 ∧
        ∃ (r0 : ByteArray) (r1 : ByteArray) (r2 : Int) (r3 : Int), Loads P 207 ⟨r, 0, none⟩ (.agg #[(.string r0), (.string r1), (.int .i64 r2), (.int .i64 r3)]) wv_5 ∧ R (.agg #[(.string r0), (.string r1), (.int .i64 r2), (.int .i64 r3)]) wv_5) ∧
      ((decide (t12 = code)) = false →
        ∃ t16 : Int, t16 = IntKind.wrap .i64 (t7 + 1) ∧ Inv t16 wv_4 ∧ mu t16 wv_4 < mu t7 wv_2)) ∧
    ((decide ((t7 : Int) < ((t5_n : Nat) : Int))) = false →
      ∃ wv_6, Stores P 207 ⟨r, 0, none⟩ (.agg #[(.string ByteArray.empty), (.string ByteArray.empty), (.int .i64 0), (.int .i64 0)]) wv_2 wv_6 ∧
      ∃ (r0_1 : ByteArray) (r1_1 : ByteArray) (r2_1 : Int) (r3_1 : Int), Loads P 207 ⟨r, 0, none⟩ (.agg #[(.string r0_1), (.string r1_1), (.int .i64 r2_1), (.int .i64 r3_1)]) wv_6 ∧ R (.agg #[(.string r0_1), (.string r1_1), (.int .i64 r2_1), (.int .i64 r3_1)]) wv_6)
theorem spec_l08Find_eq (code : ByteArray) (w : World) (R : Value → World → Prop) : spec_l08Find code w R = fsem P Tryz.f179 (fun k => cond (Nat.beq k 3) [(7, .one (.int .i64))] ([])) [(.string code)] R w := by kernel_rfl
theorem spec_l08Find_ret {code : ByteArray} {w : World} {R : Value → World → Prop} (h : spec_l08Find code w R) : Ret P 179 [(.string code)] w R :=
  Ret.of_fsem Tryz.func179 rfl (Eq.mp (spec_l08Find_eq code w R) h)
def impl_NatOk_j0 (a_p : Option Addr) (a_n : Nat) (W : World) (R : Value → World → Prop) : Prop :=
  ∃ (Inv : Int → World → Prop) (mu : Int → World → Nat), Inv 0 W ∧
  ∀ (junk : Fr) (wv : World) (t24 : Int), Inv t24 wv →
    ((decide ((t24 : Int) < ((a_n : Nat) : Int))) = true →
      (0 ≤ (t24 : Int) ∧ (t24 : Int) < (a_n : Nat)) ∧ ptrS a_p fun ad => ∃ (t27 : Int), Loads P 3 (ad.add (t24.toNat * 1)) (.int .i64 t27) wv ∧ ((decide ((t27 : Int) < 0)) = true →
        (true = true →
          R (.bool false) wv) ∧
        (true = false →
          ∃ t34 : Int, t34 = IntKind.wrap .i64 (t24 + 1) ∧ Inv t34 wv ∧ mu t34 wv < mu t24 wv)) ∧
      ((decide ((t27 : Int) < 0)) = false →
        ((decide ((1000000000 : Int) ≤ t27)) = true →
          R (.bool false) wv) ∧
        ((decide ((1000000000 : Int) ≤ t27)) = false →
          ∃ t34_1 : Int, t34_1 = IntKind.wrap .i64 (t24 + 1) ∧ Inv t34_1 wv ∧ mu t34_1 wv < mu t24 wv))) ∧
    ((decide ((t24 : Int) < ((a_n : Nat) : Int))) = false →
      R (.bool true) wv)
def impl_NatOk (a_p : Option Addr) (a_n : Nat) (a_c : Nat) (w : World) (R : Value → World → Prop) : Prop :=
  ((decide ((50 : Int) < ((a_n : Nat) : Int))) = true →
    (true = true →
      R (.bool false) w) ∧
    (true = false →
      impl_NatOk_j0 a_p a_n w R)) ∧
  ((decide ((50 : Int) < ((a_n : Nat) : Int))) = false →
    ((decide ((0 : Int) < ((a_n : Nat) : Int))) = true →
      ∃ t16 : Int, t16 = IntKind.wrap .i64 (((a_n : Nat) : Int) - 1) ∧ (0 ≤ (t16 : Int) ∧ (t16 : Int) < (a_n : Nat)) ∧ ptrS a_p fun ad_1 => ∃ (t18 : Int), Loads P 3 (ad_1.add (t16.toNat * 1)) (.int .i64 t18) w ∧ ((decide ((t18 : Int) = 0)) = true →
        R (.bool false) w) ∧
      ((decide ((t18 : Int) = 0)) = false →
        impl_NatOk_j0 a_p a_n w R)) ∧
    ((decide ((0 : Int) < ((a_n : Nat) : Int))) = false →
      (false = true →
        R (.bool false) w) ∧
      (false = false →
        impl_NatOk_j0 a_p a_n w R)))
theorem impl_NatOk_eq (a_p : Option Addr) (a_n : Nat) (a_c : Nat) (w : World) (R : Value → World → Prop) : impl_NatOk a_p a_n a_c w R = fsem P Tryz.f180 (fun k => cond (Nat.beq k 5) [(24, .one (.int .i64))] ([])) [(.slice a_p a_n a_c)] R w := by kernel_rfl
theorem impl_NatOk_ret {a_p : Option Addr} {a_n : Nat} {a_c : Nat} {w : World} {R : Value → World → Prop} (h : impl_NatOk a_p a_n a_c w R) : Ret P 180 [(.slice a_p a_n a_c)] w R :=
  Ret.of_fsem Tryz.func180 rfl (Eq.mp (impl_NatOk_eq a_p a_n a_c w R) h)
def impl_natGcd (a_p : Option Addr) (a_n : Nat) (a_c : Nat) (b_p : Option Addr) (b_n : Nat) (b_c : Nat) (w : World) (R : Value → World → Prop) : Prop :=
  ∃ (Inv : Option Addr → Nat → Nat → Option Addr → Nat → Nat → World → Prop) (mu : Option Addr → Nat → Nat → Option Addr → Nat → Nat → World → Nat), Inv a_p a_n a_c b_p b_n b_c w ∧
  ∀ (junk : Fr) (wv : World) (a_p_1 : Option Addr) (a_n_1 : Nat) (a_c_1 : Nat) (b_p_1 : Option Addr) (b_n_1 : Nat) (b_c_1 : Nat), Inv a_p_1 a_n_1 a_c_1 b_p_1 b_n_1 b_c_1 wv →
    ((decide ((0 : Int) < ((b_n_1 : Nat) : Int))) = true →
      Calls P 164 ⟨[(.slice a_p_1 a_n_1 a_c_1), (.slice b_p_1 b_n_1 b_c_1)]⟩ wv fun e wv_1 =>
      ∃ (t13_p : Option Addr) (t13_n : Nat) (t13_c : Nat) (t13_p_1 : Option Addr) (t13_n_1 : Nat) (t13_c_1 : Nat), e = .returned (.tuple #[(.slice t13_p t13_n t13_c), (.slice t13_p_1 t13_n_1 t13_c_1)]) ∧
      Inv b_p_1 b_n_1 b_c_1 t13_p_1 t13_n_1 t13_c_1 wv_1 ∧ mu b_p_1 b_n_1 b_c_1 t13_p_1 t13_n_1 t13_c_1 wv_1 < mu a_p_1 a_n_1 a_c_1 b_p_1 b_n_1 b_c_1 wv) ∧
    ((decide ((0 : Int) < ((b_n_1 : Nat) : Int))) = false →
      Calls P 162 ⟨[(.slice a_p_1 a_n_1 a_c_1)]⟩ wv fun e_1 wv_2 =>
      ∃ (t19_p : Option Addr) (t19_n : Nat) (t19_c : Nat), e_1 = .returned (.slice t19_p t19_n t19_c) ∧
      R (.slice t19_p t19_n t19_c) wv_2)
theorem impl_natGcd_eq (a_p : Option Addr) (a_n : Nat) (a_c : Nat) (b_p : Option Addr) (b_n : Nat) (b_c : Nat) (w : World) (R : Value → World → Prop) : impl_natGcd a_p a_n a_c b_p b_n b_c w R = fsem P Tryz.f181 (fun k => cond (Nat.beq k 2) [(0, .one .slice), (1, .one .slice)] ([])) [(.slice a_p a_n a_c), (.slice b_p b_n b_c)] R w := by kernel_rfl
theorem impl_natGcd_ret {a_p : Option Addr} {a_n : Nat} {a_c : Nat} {b_p : Option Addr} {b_n : Nat} {b_c : Nat} {w : World} {R : Value → World → Prop} (h : impl_natGcd a_p a_n a_c b_p b_n b_c w R) : Ret P 181 [(.slice a_p a_n a_c), (.slice b_p b_n b_c)] w R :=
  Ret.of_fsem Tryz.func181 rfl (Eq.mp (impl_natGcd_eq a_p a_n a_c b_p b_n b_c w R) h)
def impl_currencyOf (code : ByteArray) (w : World) (R : Value → World → Prop) : Prop :=
  ∀ (r : Nat) (wv : World), New w (.cells ⟨[(.string ByteArray.empty), (.string ByteArray.empty), (.int .i64 0), (.int .i64 0)]⟩ 210 (0, 0)) r wv →
  ∃ (t6 : Value), Loads P 215 ⟨0, 0, none⟩ t6 wv ∧ ∃ (Inv : Int → World → Prop) (mu : Int → World → Nat), Inv 0 wv ∧
  ∀ (junk : Fr) (wv_1 : World) (t7 : Int), Inv t7 wv_1 →
    ((decide ((t7 : Int) < 20)) = true →
      indexS P 215 t6 (.int .i64 t7) fun (el : Value) => ∀ (r_1 : Nat) (wv_2 : World), New wv_1 (.cells ⟨[(.string ByteArray.empty), (.string ByteArray.empty), (.int .i64 0), (.int .i64 0)]⟩ 210 (0, 0)) r_1 wv_2 →
      ∃ wv_3, Stores P 210 ⟨r_1, 0, none⟩ el wv_2 wv_3 ∧
      ∃ (t11 : ByteArray), Loads P 9 ((⟨r_1, 0, none⟩ : Addr).add 0) (.string t11) wv_3 ∧ ((decide (t11 = code)) = true →
        ∃ (t140 : ByteArray) (t141 : ByteArray) (t142 : Int) (t143 : Int), Loads P 210 ⟨r_1, 0, none⟩ (.agg #[(.string t140), (.string t141), (.int .i64 t142), (.int .i64 t143)]) wv_3 ∧ ∃ wv_4, Stores P 210 ⟨r, 0, none⟩ (.agg #[(.string t140), (.string t141), (.int .i64 t142), (.int .i64 t143)]) wv_3 wv_4 ∧
        ∃ (r0 : ByteArray) (r1 : ByteArray) (r2 : Int) (r3 : Int), Loads P 210 ⟨r, 0, none⟩ (.agg #[(.string r0), (.string r1), (.int .i64 r2), (.int .i64 r3)]) wv_4 ∧ R (.tuple #[(.agg #[(.string r0), (.string r1), (.int .i64 r2), (.int .i64 r3)]), (.bool true)]) wv_4) ∧
      ((decide (t11 = code)) = false →
        ∃ t15 : Int, t15 = IntKind.wrap .i64 (t7 + 1) ∧ Inv t15 wv_3 ∧ mu t15 wv_3 < mu t7 wv_1)) ∧
    ((decide ((t7 : Int) < 20)) = false →
      ∃ wv_5, Stores P 210 ⟨r, 0, none⟩ (.agg #[(.string ByteArray.empty), (.string ByteArray.empty), (.int .i64 0), (.int .i64 0)]) wv_1 wv_5 ∧
      ∃ (r0_1 : ByteArray) (r1_1 : ByteArray) (r2_1 : Int) (r3_1 : Int), Loads P 210 ⟨r, 0, none⟩ (.agg #[(.string r0_1), (.string r1_1), (.int .i64 r2_1), (.int .i64 r3_1)]) wv_5 ∧ R (.tuple #[(.agg #[(.string r0_1), (.string r1_1), (.int .i64 r2_1), (.int .i64 r3_1)]), (.bool false)]) wv_5)
theorem impl_currencyOf_eq (code : ByteArray) (w : World) (R : Value → World → Prop) : impl_currencyOf code w R = fsem P Tryz.f182 (fun k => cond (Nat.beq k 3) [(7, .one (.int .i64))] ([])) [(.string code)] R w := by kernel_rfl
theorem impl_currencyOf_ret {code : ByteArray} {w : World} {R : Value → World → Prop} (h : impl_currencyOf code w R) : Ret P 182 [(.string code)] w R :=
  Ret.of_fsem Tryz.func182 rfl (Eq.mp (impl_currencyOf_eq code w R) h)
def impl_ratsOk (r0 : Bool) (r1_p : Option Addr) (r1_n : Nat) (r1_c : Nat) (r2_p : Option Addr) (r2_n : Nat) (r2_c : Nat) (s0 : Bool) (s1_p : Option Addr) (s1_n : Nat) (s1_c : Nat) (s2_p : Option Addr) (s2_n : Nat) (s2_c : Nat) (w : World) (R : Value → World → Prop) : Prop :=
  ∀ (r : Nat) (wv : World), New w (.cells ⟨[(.bool r0), (.slice r1_p r1_n r1_c), (.slice r2_p r2_n r2_c)]⟩ 53 (0, 0)) r wv →
  ∀ (r_1 : Nat) (wv_1 : World), New wv (.cells ⟨[(.bool s0), (.slice s1_p s1_n s1_c), (.slice s2_p s2_n s2_c)]⟩ 53 (0, 0)) r_1 wv_1 →
  ∃ (t50 : Bool) (t51_p : Option Addr) (t51_n : Nat) (t51_c : Nat) (t52_p : Option Addr) (t52_n : Nat) (t52_c : Nat), Loads P 53 ⟨r, 0, none⟩ (.agg #[(.bool t50), (.slice t51_p t51_n t51_c), (.slice t52_p t52_n t52_c)]) wv_1 ∧ Calls P 85 ⟨[(.agg #[(.bool t50), (.slice t51_p t51_n t51_c), (.slice t52_p t52_n t52_c)])]⟩ wv_1 fun e wv_2 =>
  ∃ (t6 : Bool), e = .returned (.bool t6) ∧
  (t6 = true →
    ∃ (t80 : Bool) (t81_p : Option Addr) (t81_n : Nat) (t81_c : Nat) (t82_p : Option Addr) (t82_n : Nat) (t82_c : Nat), Loads P 53 ⟨r_1, 0, none⟩ (.agg #[(.bool t80), (.slice t81_p t81_n t81_c), (.slice t82_p t82_n t82_c)]) wv_2 ∧ Calls P 85 ⟨[(.agg #[(.bool t80), (.slice t81_p t81_n t81_c), (.slice t82_p t82_n t82_c)])]⟩ wv_2 fun e_1 wv_3 =>
    ∃ (t9 : Bool), e_1 = .returned (.bool t9) ∧
    R (.bool t9) wv_3) ∧
  (t6 = false →
    R (.bool false) wv_2)
theorem impl_ratsOk_eq (r0 : Bool) (r1_p : Option Addr) (r1_n : Nat) (r1_c : Nat) (r2_p : Option Addr) (r2_n : Nat) (r2_c : Nat) (s0 : Bool) (s1_p : Option Addr) (s1_n : Nat) (s1_c : Nat) (s2_p : Option Addr) (s2_n : Nat) (s2_c : Nat) (w : World) (R : Value → World → Prop) : impl_ratsOk r0 r1_p r1_n r1_c r2_p r2_n r2_c s0 s1_p s1_n s1_c s2_p s2_n s2_c w R = fsem P Tryz.f183 (fun k => []) [(.agg #[(.bool r0), (.slice r1_p r1_n r1_c), (.slice r2_p r2_n r2_c)]), (.agg #[(.bool s0), (.slice s1_p s1_n s1_c), (.slice s2_p s2_n s2_c)])] R w := by kernel_rfl
theorem impl_ratsOk_ret {r0 : Bool} {r1_p : Option Addr} {r1_n : Nat} {r1_c : Nat} {r2_p : Option Addr} {r2_n : Nat} {r2_c : Nat} {s0 : Bool} {s1_p : Option Addr} {s1_n : Nat} {s1_c : Nat} {s2_p : Option Addr} {s2_n : Nat} {s2_c : Nat} {w : World} {R : Value → World → Prop} (h : impl_ratsOk r0 r1_p r1_n r1_c r2_p r2_n r2_c s0 s1_p s1_n s1_c s2_p s2_n s2_c w R) : Ret P 183 [(.agg #[(.bool r0), (.slice r1_p r1_n r1_c), (.slice r2_p r2_n r2_c)]), (.agg #[(.bool s0), (.slice s1_p s1_n s1_c), (.slice s2_p s2_n s2_c)])] w R :=
  Ret.of_fsem Tryz.func183 rfl (Eq.mp (impl_ratsOk_eq r0 r1_p r1_n r1_c r2_p r2_n r2_c s0 s1_p s1_n s1_c s2_p s2_n s2_c w R) h)
def impl_Rat_num (r0 : Bool) (r1_p : Option Addr) (r1_n : Nat) (r1_c : Nat) (r2_p : Option Addr) (r2_n : Nat) (r2_c : Nat) (by_p : Option Addr) (by_n : Nat) (by_c : Nat) (w : World) (R : Value → World → Prop) : Prop :=
  ∀ (r : Nat) (wv : World), New w (.cells ⟨[(.bool r0), (.slice r1_p r1_n r1_c), (.slice r2_p r2_n r2_c)]⟩ 53 (0, 0)) r wv →
  ∀ (r_1 : Nat) (wv_1 : World), New wv (.cells ⟨[(.bool false), (.slice none 0 0)]⟩ 31 (0, 0)) r_1 wv_1 →
  ∃ (t7 : Bool), (∀ wv_2, Ext wv_1.drew wv_2 → Loads P 4 (((⟨r, 0, none⟩ : Addr).add 0).add 0) (.bool t7) wv_2) ∧ ∃ (t10_p : Option Addr) (t10_n : Nat) (t10_c : Nat), (∀ wv_3, Ext wv_1.drew wv_3 → Loads P 22 (((⟨r, 0, none⟩ : Addr).add 0).add 1) (.slice t10_p t10_n t10_c) wv_3) ∧ Calls P 165 ⟨[(.slice t10_p t10_n t10_c), (.slice by_p by_n by_c)]⟩ wv_1.drew fun e wv_4 =>
  ∃ (t12_p : Option Addr) (t12_n : Nat) (t12_c : Nat), e = .returned (.slice t12_p t12_n t12_c) ∧
  Ext wv_1.drew wv_4 ∧ Calls P 173 ⟨[(.bool t7), (.slice t12_p t12_n t12_c)]⟩ wv_4 fun e_1 wv_5 =>
  ∃ (t130 : Bool) (t131_p : Option Addr) (t131_n : Nat) (t131_c : Nat), e_1 = .returned (.agg #[(.bool t130), (.slice t131_p t131_n t131_c)]) ∧
  ∃ wv_6, Stores P 31 ⟨r_1, 0, none⟩ (.agg #[(.bool t130), (.slice t131_p t131_n t131_c)]) wv_5 wv_6 ∧
  ∃ (r0_1 : Bool) (r1_p_1 : Option Addr) (r1_n_1 : Nat) (r1_c_1 : Nat), Loads P 31 ⟨r_1, 0, none⟩ (.agg #[(.bool r0_1), (.slice r1_p_1 r1_n_1 r1_c_1)]) wv_6 ∧ R (.agg #[(.bool r0_1), (.slice r1_p_1 r1_n_1 r1_c_1)]) wv_6
theorem impl_Rat_num_eq (r0 : Bool) (r1_p : Option Addr) (r1_n : Nat) (r1_c : Nat) (r2_p : Option Addr) (r2_n : Nat) (r2_c : Nat) (by_p : Option Addr) (by_n : Nat) (by_c : Nat) (w : World) (R : Value → World → Prop) : impl_Rat_num r0 r1_p r1_n r1_c r2_p r2_n r2_c by_p by_n by_c w R = fsem P Tryz.f184 (fun k => []) [(.agg #[(.bool r0), (.slice r1_p r1_n r1_c), (.slice r2_p r2_n r2_c)]), (.slice by_p by_n by_c)] R w := by kernel_rfl
theorem impl_Rat_num_ret {r0 : Bool} {r1_p : Option Addr} {r1_n : Nat} {r1_c : Nat} {r2_p : Option Addr} {r2_n : Nat} {r2_c : Nat} {by_p : Option Addr} {by_n : Nat} {by_c : Nat} {w : World} {R : Value → World → Prop} (h : impl_Rat_num r0 r1_p r1_n r1_c r2_p r2_n r2_c by_p by_n by_c w R) : Ret P 184 [(.agg #[(.bool r0), (.slice r1_p r1_n r1_c), (.slice r2_p r2_n r2_c)]), (.slice by_p by_n by_c)] w R :=
  Ret.of_fsem Tryz.func184 rfl (Eq.mp (impl_Rat_num_eq r0 r1_p r1_n r1_c r2_p r2_n r2_c by_p by_n by_c w R) h)
def impl_reduce (num0 : Bool) (num1_p : Option Addr) (num1_n : Nat) (num1_c : Nat) (den_p : Option Addr) (den_n : Nat) (den_c : Nat) (w : World) (R : Value → World → Prop) : Prop :=
  ∀ (r : Nat) (wv : World), New w (.cells ⟨[(.bool num0), (.slice num1_p num1_n num1_c)]⟩ 31 (0, 0)) r wv →
  ∀ (r_1 : Nat) (wv_1 : World), New wv (.cells ⟨[(.bool false), (.slice none 0 0), (.slice none 0 0)]⟩ 53 (0, 0)) r_1 wv_1 →
  ∃ (t12_p : Option Addr) (t12_n : Nat) (t12_c : Nat), Loads P 22 ((⟨r, 0, none⟩ : Addr).add 1) (.slice t12_p t12_n t12_c) wv_1 ∧ Calls P 181 ⟨[(.slice t12_p t12_n t12_c), (.slice den_p den_n den_c)]⟩ wv_1 fun e wv_2 =>
  ∃ (t14_p : Option Addr) (t14_n : Nat) (t14_c : Nat), e = .returned (.slice t14_p t14_n t14_c) ∧
  ∃ (t17_p : Option Addr) (t17_n : Nat) (t17_c : Nat), Loads P 22 ((⟨r, 0, none⟩ : Addr).add 1) (.slice t17_p t17_n t17_c) wv_2 ∧ Calls P 164 ⟨[(.slice t17_p t17_n t17_c), (.slice t14_p t14_n t14_c)]⟩ wv_2 fun e_1 wv_3 =>
  ∃ (t19_p : Option Addr) (t19_n : Nat) (t19_c : Nat) (t19_p_1 : Option Addr) (t19_n_1 : Nat) (t19_c_1 : Nat), e_1 = .returned (.tuple #[(.slice t19_p t19_n t19_c), (.slice t19_p_1 t19_n_1 t19_c_1)]) ∧
  Calls P 164 ⟨[(.slice den_p den_n den_c), (.slice t14_p t14_n t14_c)]⟩ wv_3 fun e_2 wv_4 =>
  ∃ (t25_p : Option Addr) (t25_n : Nat) (t25_c : Nat) (t25_p_1 : Option Addr) (t25_n_1 : Nat) (t25_c_1 : Nat), e_2 = .returned (.tuple #[(.slice t25_p t25_n t25_c), (.slice t25_p_1 t25_n_1 t25_c_1)]) ∧
  ((decide ((18 : Int) < ((t19_n : Nat) : Int))) = true →
    (true = true →
      ∃ wv_5, Stores P 53 ⟨r_1, 0, none⟩ (.agg #[(.bool false), (.slice none 0 0), (.slice none 0 0)]) wv_4 wv_5 ∧
      ∃ (r0 : Bool) (r1_p : Option Addr) (r1_n : Nat) (r1_c : Nat) (r2_p : Option Addr) (r2_n : Nat) (r2_c : Nat), Loads P 53 ⟨r_1, 0, none⟩ (.agg #[(.bool r0), (.slice r1_p r1_n r1_c), (.slice r2_p r2_n r2_c)]) wv_5 ∧ R (.tuple #[(.agg #[(.bool r0), (.slice r1_p r1_n r1_c), (.slice r2_p r2_n r2_c)]), (.bool false)]) wv_5) ∧
    (true = false →
      ∃ (t38 : Bool), Loads P 4 ((⟨r, 0, none⟩ : Addr).add 0) (.bool t38) wv_4 ∧ Calls P 173 ⟨[(.bool t38), (.slice t19_p t19_n t19_c)]⟩ wv_4 fun e_3 wv_6 =>
      ∃ (t400 : Bool) (t401_p : Option Addr) (t401_n : Nat) (t401_c : Nat), e_3 = .returned (.agg #[(.bool t400), (.slice t401_p t401_n t401_c)]) ∧
      ∃ wv_7, Stores P 53 ⟨r_1, 0, none⟩ (.agg #[(.bool t400), (.slice t401_p t401_n t401_c), (.slice t25_p t25_n t25_c)]) wv_6 wv_7 ∧
      ∃ (r0_1 : Bool) (r1_p_1 : Option Addr) (r1_n_1 : Nat) (r1_c_1 : Nat) (r2_p_1 : Option Addr) (r2_n_1 : Nat) (r2_c_1 : Nat), Loads P 53 ⟨r_1, 0, none⟩ (.agg #[(.bool r0_1), (.slice r1_p_1 r1_n_1 r1_c_1), (.slice r2_p_1 r2_n_1 r2_c_1)]) wv_7 ∧ R (.tuple #[(.agg #[(.bool r0_1), (.slice r1_p_1 r1_n_1 r1_c_1), (.slice r2_p_1 r2_n_1 r2_c_1)]), (.bool true)]) wv_7)) ∧
  ((decide ((18 : Int) < ((t19_n : Nat) : Int))) = false →
    ((decide ((18 : Int) < ((t25_n : Nat) : Int))) = true →
      ∃ wv_8, Stores P 53 ⟨r_1, 0, none⟩ (.agg #[(.bool false), (.slice none 0 0), (.slice none 0 0)]) wv_4 wv_8 ∧
      ∃ (r0_2 : Bool) (r1_p_2 : Option Addr) (r1_n_2 : Nat) (r1_c_2 : Nat) (r2_p_2 : Option Addr) (r2_n_2 : Nat) (r2_c_2 : Nat), Loads P 53 ⟨r_1, 0, none⟩ (.agg #[(.bool r0_2), (.slice r1_p_2 r1_n_2 r1_c_2), (.slice r2_p_2 r2_n_2 r2_c_2)]) wv_8 ∧ R (.tuple #[(.agg #[(.bool r0_2), (.slice r1_p_2 r1_n_2 r1_c_2), (.slice r2_p_2 r2_n_2 r2_c_2)]), (.bool false)]) wv_8) ∧
    ((decide ((18 : Int) < ((t25_n : Nat) : Int))) = false →
      ∃ (t38_1 : Bool), Loads P 4 ((⟨r, 0, none⟩ : Addr).add 0) (.bool t38_1) wv_4 ∧ Calls P 173 ⟨[(.bool t38_1), (.slice t19_p t19_n t19_c)]⟩ wv_4 fun e_4 wv_9 =>
      ∃ (t400_1 : Bool) (t401_p_1 : Option Addr) (t401_n_1 : Nat) (t401_c_1 : Nat), e_4 = .returned (.agg #[(.bool t400_1), (.slice t401_p_1 t401_n_1 t401_c_1)]) ∧
      ∃ wv_10, Stores P 53 ⟨r_1, 0, none⟩ (.agg #[(.bool t400_1), (.slice t401_p_1 t401_n_1 t401_c_1), (.slice t25_p t25_n t25_c)]) wv_9 wv_10 ∧
      ∃ (r0_3 : Bool) (r1_p_3 : Option Addr) (r1_n_3 : Nat) (r1_c_3 : Nat) (r2_p_3 : Option Addr) (r2_n_3 : Nat) (r2_c_3 : Nat), Loads P 53 ⟨r_1, 0, none⟩ (.agg #[(.bool r0_3), (.slice r1_p_3 r1_n_3 r1_c_3), (.slice r2_p_3 r2_n_3 r2_c_3)]) wv_10 ∧ R (.tuple #[(.agg #[(.bool r0_3), (.slice r1_p_3 r1_n_3 r1_c_3), (.slice r2_p_3 r2_n_3 r2_c_3)]), (.bool true)]) wv_10))
theorem impl_reduce_eq (num0 : Bool) (num1_p : Option Addr) (num1_n : Nat) (num1_c : Nat) (den_p : Option Addr) (den_n : Nat) (den_c : Nat) (w : World) (R : Value → World → Prop) : impl_reduce num0 num1_p num1_n num1_c den_p den_n den_c w R = fsem P Tryz.f185 (fun k => []) [(.agg #[(.bool num0), (.slice num1_p num1_n num1_c)]), (.slice den_p den_n den_c)] R w := by kernel_rfl
theorem impl_reduce_ret {num0 : Bool} {num1_p : Option Addr} {num1_n : Nat} {num1_c : Nat} {den_p : Option Addr} {den_n : Nat} {den_c : Nat} {w : World} {R : Value → World → Prop} (h : impl_reduce num0 num1_p num1_n num1_c den_p den_n den_c w R) : Ret P 185 [(.agg #[(.bool num0), (.slice num1_p num1_n num1_c)]), (.slice den_p den_n den_c)] w R :=
  Ret.of_fsem Tryz.func185 rfl (Eq.mp (impl_reduce_eq num0 num1_p num1_n num1_c den_p den_n den_c w R) h)
def impl_RatZero (w : World) (R : Value → World → Prop) : Prop :=
  ∀ (r : Nat) (wv : World), New w (.cells ⟨[(.bool false), (.slice none 0 0), (.slice none 0 0)]⟩ 53 (0, 0)) r wv →
  ∀ (r_1 : Nat) (wv_1 : World), New wv (.cells ⟨[(.int .i64 1)]⟩ 3 (0, 0)) r_1 wv_1 →
  ∃ wv_2, Stores P 53 ⟨r, 0, none⟩ (.agg #[(.bool false), (.slice none 0 0), (.slice (some ⟨r_1, 0, none⟩) 1 1)]) wv_1 wv_2 ∧
  ∃ (r0 : Bool) (r1_p : Option Addr) (r1_n : Nat) (r1_c : Nat) (r2_p : Option Addr) (r2_n : Nat) (r2_c : Nat), Loads P 53 ⟨r, 0, none⟩ (.agg #[(.bool r0), (.slice r1_p r1_n r1_c), (.slice r2_p r2_n r2_c)]) wv_2 ∧ R (.agg #[(.bool r0), (.slice r1_p r1_n r1_c), (.slice r2_p r2_n r2_c)]) wv_2
theorem impl_RatZero_eq (w : World) (R : Value → World → Prop) : impl_RatZero w R = fsem P Tryz.f186 (fun k => []) [] R w := by kernel_rfl
theorem impl_RatZero_ret {w : World} {R : Value → World → Prop} (h : impl_RatZero w R) : Ret P 186 [] w R :=
  Ret.of_fsem Tryz.func186 rfl (Eq.mp (impl_RatZero_eq w R) h)
def impl_intCopy (x0 : Bool) (x1_p : Option Addr) (x1_n : Nat) (x1_c : Nat) (w : World) (R : Value → World → Prop) : Prop :=
  ∀ (r : Nat) (wv : World), New w (.cells ⟨[(.bool x0), (.slice x1_p x1_n x1_c)]⟩ 31 (0, 0)) r wv →
  ∀ (r_1 : Nat) (wv_1 : World), New wv (.cells ⟨[(.bool false), (.slice none 0 0)]⟩ 31 (0, 0)) r_1 wv_1 →
  ∃ (t4 : Bool), (∀ wv_2, Ext wv_1.drew wv_2 → Loads P 4 ((⟨r, 0, none⟩ : Addr).add 0) (.bool t4) wv_2) ∧ ∃ (t6_p : Option Addr) (t6_n : Nat) (t6_c : Nat), (∀ wv_3, Ext wv_1.drew wv_3 → Loads P 22 ((⟨r, 0, none⟩ : Addr).add 1) (.slice t6_p t6_n t6_c) wv_3) ∧ Calls P 162 ⟨[(.slice t6_p t6_n t6_c)]⟩ wv_1.drew fun e wv_4 =>
  ∃ (t7_p : Option Addr) (t7_n : Nat) (t7_c : Nat), e = .returned (.slice t7_p t7_n t7_c) ∧
  Ext wv_1.drew wv_4 ∧ ∃ wv_5, Stores P 31 ⟨r_1, 0, none⟩ (.agg #[(.bool t4), (.slice t7_p t7_n t7_c)]) wv_4 wv_5 ∧
  ∃ (r0 : Bool) (r1_p : Option Addr) (r1_n : Nat) (r1_c : Nat), Loads P 31 ⟨r_1, 0, none⟩ (.agg #[(.bool r0), (.slice r1_p r1_n r1_c)]) wv_5 ∧ R (.agg #[(.bool r0), (.slice r1_p r1_n r1_c)]) wv_5
theorem impl_intCopy_eq (x0 : Bool) (x1_p : Option Addr) (x1_n : Nat) (x1_c : Nat) (w : World) (R : Value → World → Prop) : impl_intCopy x0 x1_p x1_n x1_c w R = fsem P Tryz.f187 (fun k => []) [(.agg #[(.bool x0), (.slice x1_p x1_n x1_c)])] R w := by kernel_rfl
theorem impl_intCopy_ret {x0 : Bool} {x1_p : Option Addr} {x1_n : Nat} {x1_c : Nat} {w : World} {R : Value → World → Prop} (h : impl_intCopy x0 x1_p x1_n x1_c w R) : Ret P 187 [(.agg #[(.bool x0), (.slice x1_p x1_n x1_c)])] w R :=
  Ret.of_fsem Tryz.func187 rfl (Eq.mp (impl_intCopy_eq x0 x1_p x1_n x1_c w R) h)
def impl_intSign (x0 : Bool) (x1_p : Option Addr) (x1_n : Nat) (x1_c : Nat) (w : World) (R : Value → World → Prop) : Prop :=
  ∀ (r : Nat) (wv : World), New w (.cells ⟨[(.bool x0), (.slice x1_p x1_n x1_c)]⟩ 31 (0, 0)) r wv →
  ∃ (t5_p : Option Addr) (t5_n : Nat) (t5_c : Nat), Loads P 22 ((⟨r, 0, none⟩ : Addr).add 1) (.slice t5_p t5_n t5_c) wv ∧ ((decide ((((t5_n : Nat) : Int) : Int) = 0)) = true →
    R (.int .i64 0) wv) ∧
  ((decide ((((t5_n : Nat) : Int) : Int) = 0)) = false →
    ∃ (t10 : Bool), Loads P 4 ((⟨r, 0, none⟩ : Addr).add 0) (.bool t10) wv ∧ (t10 = true →
      R (.int .i64 (-1)) wv) ∧
    (t10 = false →
      R (.int .i64 1) wv))
theorem impl_intSign_eq (x0 : Bool) (x1_p : Option Addr) (x1_n : Nat) (x1_c : Nat) (w : World) (R : Value → World → Prop) : impl_intSign x0 x1_p x1_n x1_c w R = fsem P Tryz.f188 (fun k => []) [(.agg #[(.bool x0), (.slice x1_p x1_n x1_c)])] R w := by kernel_rfl
theorem impl_intSign_ret {x0 : Bool} {x1_p : Option Addr} {x1_n : Nat} {x1_c : Nat} {w : World} {R : Value → World → Prop} (h : impl_intSign x0 x1_p x1_n x1_c w R) : Ret P 188 [(.agg #[(.bool x0), (.slice x1_p x1_n x1_c)])] w R :=
  Ret.of_fsem Tryz.func188 rfl (Eq.mp (impl_intSign_eq x0 x1_p x1_n x1_c w R) h)
def spec_l02Cap (a_p : Option Addr) (a_n : Nat) (a_c : Nat) (w : World) (R : Value → World → Prop) : Prop :=
  Calls P 243 ⟨[(.slice a_p a_n a_c)]⟩ w fun e wv =>
  ∃ (t5_p : Option Addr) (t5_n : Nat) (t5_c : Nat), e = .returned (.slice t5_p t5_n t5_c) ∧
  ((decide ((50 : Int) < ((t5_n : Nat) : Int))) = true →
    R (.slice none 0 0) wv) ∧
  ((decide ((50 : Int) < ((t5_n : Nat) : Int))) = false →
    R (.slice t5_p t5_n t5_c) wv)
theorem spec_l02Cap_eq (a_p : Option Addr) (a_n : Nat) (a_c : Nat) (w : World) (R : Value → World → Prop) : spec_l02Cap a_p a_n a_c w R = fsem P Tryz.f207 (fun k => []) [(.slice a_p a_n a_c)] R w := by kernel_rfl
theorem spec_l02Cap_ret {a_p : Option Addr} {a_n : Nat} {a_c : Nat} {w : World} {R : Value → World → Prop} (h : spec_l02Cap a_p a_n a_c w R) : Ret P 207 [(.slice a_p a_n a_c)] w R :=
  Ret.of_fsem Tryz.func207 rfl (Eq.mp (spec_l02Cap_eq a_p a_n a_c w R) h)
end Go.Proofs.YtfehpaekbbmkcaaGreatDoor

namespace Go.Proofs.YtfehpaekbbmkcaaGreatDoor
open Go Go.Proofs.YtfehpaekbbmkcaaGreatDoor.Sx
set_option linter.unusedVariables false
set_option maxRecDepth 100000
def spec_NatOf (n : Int) (w : World) (R : Value → World → Prop) : Prop :=
  ∀ (r : Nat) (wv : World), New w (.cells ⟨[]⟩ 3 (0, 0)) r wv →
  ∃ (Inv : Int → Option Addr → Nat → Nat → World → Prop) (mu : Int → Option Addr → Nat → Nat → World → Nat), Inv n (some ⟨r, 0, none⟩) 0 0 wv ∧
  ∀ (junk : Fr) (wv_1 : World) (n_1 : Int) (out_p : Option Addr) (out_n : Nat) (out_c : Nat), Inv n_1 out_p out_n out_c wv_1 →
    ((decide ((0 : Int) < n_1)) = true →
      (1000000000 : Int) ≠ 0 ∧ ∃ t9 : Int, t9 = Int.tmod n_1 1000000000 ∧ ∀ (r_1 : Nat) (wv_2 : World), New wv_1 (.cells ⟨[(.int .i64 t9)]⟩ 3 (0, 0)) r_1 wv_2 →
      ∃ (t11_p : Option Addr) (t11_n : Nat) (t11_c : Nat) (wv_3 : World), Appends P [22, 22] [(.slice out_p out_n out_c), (.slice (some ⟨r_1, 0, none⟩) 1 1)] (.slice t11_p t11_n t11_c) wv_2 wv_3 ∧
      (1000000000 : Int) ≠ 0 ∧ ∃ t13 : Int, t13 = IntKind.wrap .i64 (Int.tdiv n_1 1000000000) ∧ Inv t13 t11_p t11_n t11_c wv_3 ∧ mu t13 t11_p t11_n t11_c wv_3 < mu n_1 out_p out_n out_c wv_1) ∧
    ((decide ((0 : Int) < n_1)) = false →
      R (.slice out_p out_n out_c) wv_1)
theorem spec_NatOf_eq (n : Int) (w : World) (R : Value → World → Prop) : spec_NatOf n w R = fsem P Tryz.f221 (fun k => cond (Nat.beq k 3) [(0, .one (.int .i64)), (3, .one .slice)] ([])) [(.int .i64 n)] R w := by kernel_rfl
theorem spec_NatOf_ret {n : Int} {w : World} {R : Value → World → Prop} (h : spec_NatOf n w R) : Ret P 221 [(.int .i64 n)] w R :=
  Ret.of_fsem Tryz.func221 rfl (Eq.mp (spec_NatOf_eq n w R) h)
def spec_l02Cmp (a_p : Option Addr) (a_n : Nat) (a_c : Nat) (b_p : Option Addr) (b_n : Nat) (b_c : Nat) (w : World) (R : Value → World → Prop) : Prop :=
  ((decide ((((a_n : Nat) : Int) : Int) ≠ ((b_n : Nat) : Int))) = true →
    ((decide ((((a_n : Nat) : Int) : Int) < ((b_n : Nat) : Int))) = true →
      R (.int .i64 (-1)) w) ∧
    ((decide ((((a_n : Nat) : Int) : Int) < ((b_n : Nat) : Int))) = false →
      R (.int .i64 1) w)) ∧
  ((decide ((((a_n : Nat) : Int) : Int) ≠ ((b_n : Nat) : Int))) = false →
    ∃ t18 : Int, t18 = IntKind.wrap .i64 (((a_n : Nat) : Int) - 1) ∧ ∃ (Inv : Int → World → Prop) (mu : Int → World → Nat), Inv t18 w ∧
    ∀ (junk : Fr) (wv : World) (i : Int), Inv i wv →
      ((decide ((0 : Int) ≤ i)) = true →
        (0 ≤ (i : Int) ∧ (i : Int) < (a_n : Nat)) ∧ ptrS a_p fun ad => ∃ (t26 : Int), (∀ wv_1, Ext wv.drew wv_1 → Loads P 3 (ad.add (i.toNat * 1)) (.int .i64 t26) wv_1) ∧ (0 ≤ (i : Int) ∧ (i : Int) < (b_n : Nat)) ∧ ptrS b_p fun ad_1 => ∃ (t30 : Int), (∀ wv_2, Ext wv.drew wv_2 → Loads P 3 (ad_1.add (i.toNat * 1)) (.int .i64 t30) wv_2) ∧ ((decide ((t26 : Int) < t30)) = true →
          R (.int .i64 (-1)) wv.drew) ∧
        ((decide ((t26 : Int) < t30)) = false →
          (0 ≤ (i : Int) ∧ (i : Int) < (a_n : Nat)) ∧ ptrS a_p fun ad_2 => ∃ (t35 : Int), (∀ wv_3, Ext wv.drew.drew wv_3 → Loads P 3 (ad_2.add (i.toNat * 1)) (.int .i64 t35) wv_3) ∧ (0 ≤ (i : Int) ∧ (i : Int) < (b_n : Nat)) ∧ ptrS b_p fun ad_3 => ∃ (t39 : Int), (∀ wv_4, Ext wv.drew.drew wv_4 → Loads P 3 (ad_3.add (i.toNat * 1)) (.int .i64 t39) wv_4) ∧ ((decide ((t39 : Int) < t35)) = true →
            R (.int .i64 1) wv.drew.drew) ∧
          ((decide ((t39 : Int) < t35)) = false →
            ∃ t22 : Int, t22 = IntKind.wrap .i64 (i - 1) ∧ Inv t22 wv.drew.drew ∧ mu t22 wv.drew.drew < mu i wv))) ∧
      ((decide ((0 : Int) ≤ i)) = false →
        R (.int .i64 0) wv))
theorem spec_l02Cmp_eq (a_p : Option Addr) (a_n : Nat) (a_c : Nat) (b_p : Option Addr) (b_n : Nat) (b_c : Nat) (w : World) (R : Value → World → Prop) : spec_l02Cmp a_p a_n a_c b_p b_n b_c w R = fsem P Tryz.f222 (fun k => cond (Nat.beq k 7) [(5, .one (.int .i64))] ([])) [(.slice a_p a_n a_c), (.slice b_p b_n b_c)] R w := by kernel_rfl
theorem spec_l02Cmp_ret {a_p : Option Addr} {a_n : Nat} {a_c : Nat} {b_p : Option Addr} {b_n : Nat} {b_c : Nat} {w : World} {R : Value → World → Prop} (h : spec_l02Cmp a_p a_n a_c b_p b_n b_c w R) : Ret P 222 [(.slice a_p a_n a_c), (.slice b_p b_n b_c)] w R :=
  Ret.of_fsem Tryz.func222 rfl (Eq.mp (spec_l02Cmp_eq a_p a_n a_c b_p b_n b_c w R) h)
def spec_NatOk (a_p : Option Addr) (a_n : Nat) (a_c : Nat) (w : World) (R : Value → World → Prop) : Prop :=
  ∃ (Inv : Int → World → Prop) (mu : Int → World → Nat), Inv 0 w ∧
  ∀ (junk : Fr) (wv : World) (t7 : Int), Inv t7 wv →
    ((decide ((t7 : Int) < ((a_n : Nat) : Int))) = true →
      (0 ≤ (t7 : Int) ∧ (t7 : Int) < (a_n : Nat)) ∧ ptrS a_p fun ad => ∃ (t10 : Int), Loads P 3 (ad.add (t7.toNat * 1)) (.int .i64 t10) wv ∧ Calls P 125 ⟨[(.int .i64 t10), (.int .i64 0), (.int .i64 999999999)]⟩ wv fun e wv_1 =>
      ∃ (t12 : Bool), e = .returned (.bool t12) ∧
      ((!t12) = true →
        R (.bool false) wv_1) ∧
      ((!t12) = false →
        ∃ t14 : Int, t14 = IntKind.wrap .i64 (t7 + 1) ∧ Inv t14 wv_1 ∧ mu t14 wv_1 < mu t7 wv)) ∧
    ((decide ((t7 : Int) < ((a_n : Nat) : Int))) = false →
      ((decide ((((a_n : Nat) : Int) : Int) ≤ 50)) = true →
        ((decide ((((a_n : Nat) : Int) : Int) = 0)) = true →
          R (.bool true) wv) ∧
        ((decide ((((a_n : Nat) : Int) : Int) = 0)) = false →
          ∃ t26 : Int, t26 = IntKind.wrap .i64 (((a_n : Nat) : Int) - 1) ∧ (0 ≤ (t26 : Int) ∧ (t26 : Int) < (a_n : Nat)) ∧ ptrS a_p fun ad_1 => ∃ (t28 : Int), Loads P 3 (ad_1.add (t26.toNat * 1)) (.int .i64 t28) wv ∧ R (.bool (decide ((t28 : Int) ≠ 0))) wv)) ∧
      ((decide ((((a_n : Nat) : Int) : Int) ≤ 50)) = false →
        R (.bool false) wv))
theorem spec_NatOk_eq (a_p : Option Addr) (a_n : Nat) (a_c : Nat) (w : World) (R : Value → World → Prop) : spec_NatOk a_p a_n a_c w R = fsem P Tryz.f223 (fun k => cond (Nat.beq k 3) [(7, .one (.int .i64))] ([])) [(.slice a_p a_n a_c)] R w := by kernel_rfl
theorem spec_NatOk_ret {a_p : Option Addr} {a_n : Nat} {a_c : Nat} {w : World} {R : Value → World → Prop} (h : spec_NatOk a_p a_n a_c w R) : Ret P 223 [(.slice a_p a_n a_c)] w R :=
  Ret.of_fsem Tryz.func223 rfl (Eq.mp (spec_NatOk_eq a_p a_n a_c w R) h)
def spec_l03Div_j0 (wv_4 : World) (Inv : Option Addr → Nat → Nat → Int → World → Prop) (mu : Option Addr → Nat → Nat → Int → World → Nat) (rest_p : Option Addr) (rest_n : Nat) (rest_c : Nat) (i : Int) (rest_p_1 : Option Addr) (rest_n_1 : Nat) (rest_c_1 : Nat) (W : World) (R : Value → World → Prop) : Prop :=
  ∃ t36 : Int, t36 = IntKind.wrap .i64 (i - 1) ∧ Inv rest_p_1 rest_n_1 rest_c_1 t36 W ∧ mu rest_p_1 rest_n_1 rest_c_1 t36 W < mu rest_p rest_n rest_c i wv_4
def spec_l03Div (a_p : Option Addr) (a_n : Nat) (a_c : Nat) (b_p : Option Addr) (b_n : Nat) (b_c : Nat) (w : World) (R : Value → World → Prop) : Prop :=
  ((decide ((((b_n : Nat) : Int) : Int) = 1)) = true →
    (0 ≤ (0 : Int) ∧ (0 : Int) < (b_n : Nat)) ∧ ptrS b_p fun ad => ∃ (t19 : Int), Loads P 3 (ad.add (0 * 1)) (.int .i64 t19) w ∧ Calls P 273 ⟨[(.slice a_p a_n a_c), (.int .i64 t19)]⟩ w fun e wv =>
    ∃ (t20_p : Option Addr) (t20_n : Nat) (t20_c : Nat) (t20 : Int), e = .returned (.tuple #[(.slice t20_p t20_n t20_c), (.int .i64 t20)]) ∧
    Calls P 221 ⟨[(.int .i64 t20)]⟩ wv fun e_1 wv_1 =>
    ∃ (t25_p : Option Addr) (t25_n : Nat) (t25_c : Nat), e_1 = .returned (.slice t25_p t25_n t25_c) ∧
    R (.tuple #[(.slice t20_p t20_n t20_c), (.slice t25_p t25_n t25_c)]) wv_1) ∧
  ((decide ((((b_n : Nat) : Int) : Int) = 1)) = false →
    (0 ≤ (((a_n : Nat) : Int) : Int) ∧ (((a_n : Nat) : Int) : Int) ≤ ((a_n : Nat) : Int) ∧ ((8 : Nat) : Int) * ((a_n : Nat) : Int) ≤ 281474976710656) ∧
    ∀ (r : Nat) (wv_2 : World), New w (.cells ⟨zeroRow (.int .i64 0) (a_n * 1)⟩ 3 (0, 0)) r wv_2 →
    ∀ (r_1 : Nat) (wv_3 : World), New wv_2 (.cells ⟨[]⟩ 3 (0, 0)) r_1 wv_3 →
    ∃ t32 : Int, t32 = IntKind.wrap .i64 (((a_n : Nat) : Int) - 1) ∧ ∃ (Inv : Option Addr → Nat → Nat → Int → World → Prop) (mu : Option Addr → Nat → Nat → Int → World → Nat), Inv (some ⟨r_1, 0, none⟩) 0 0 t32 wv_3 ∧
    ∀ (junk : Fr) (wv_4 : World) (rest_p : Option Addr) (rest_n : Nat) (rest_c : Nat) (i : Int), Inv rest_p rest_n rest_c i wv_4 →
      ((decide ((0 : Int) ≤ i)) = true →
        (0 ≤ (i : Int) ∧ (i : Int) < (a_n : Nat)) ∧ ptrS a_p fun ad_1 => ∃ (t40 : Int), Loads P 3 (ad_1.add (i.toNat * 1)) (.int .i64 t40) wv_4 ∧ ∀ (r_2 : Nat) (wv_5 : World), New wv_4 (.cells ⟨[(.int .i64 t40)]⟩ 3 (0, 0)) r_2 wv_5 →
        ∃ (t43_p : Option Addr) (t43_n : Nat) (t43_c : Nat) (wv_6 : World), Appends P [22, 22] [(.slice (some ⟨r_2, 0, none⟩) 1 1), (.slice rest_p rest_n rest_c)] (.slice t43_p t43_n t43_c) wv_5 wv_6 ∧
        Calls P 243 ⟨[(.slice t43_p t43_n t43_c)]⟩ wv_6 fun e_2 wv_7 =>
        ∃ (t44_p : Option Addr) (t44_n : Nat) (t44_c : Nat), e_2 = .returned (.slice t44_p t44_n t44_c) ∧
        Calls P 222 ⟨[(.slice t44_p t44_n t44_c), (.slice b_p b_n b_c)]⟩ wv_7 fun e_3 wv_8 =>
        ∃ (t47 : Int), e_3 = .returned (.int .i64 t47) ∧
        ((decide ((t47 : Int) < 0)) = true →
          spec_l03Div_j0 wv_4 Inv mu rest_p rest_n rest_c i t44_p t44_n t44_c wv_8 R) ∧
        ((decide ((t47 : Int) < 0)) = false →
          Calls P 274 ⟨[(.slice t44_p t44_n t44_c), (.slice b_p b_n b_c)]⟩ wv_8 fun e_4 wv_9 =>
          ∃ (t51 : Int), e_4 = .returned (.int .i64 t51) ∧
          (0 ≤ (i : Int) ∧ (i : Int) < (a_n : Nat)) ∧ ∃ wv_10, Stores P 3 ((⟨r, 0, none⟩ : Addr).add (i.toNat * 1)) (.int .i64 t51) wv_9 wv_10 ∧
          Calls P 221 ⟨[(.int .i64 t51)]⟩ wv_10 fun e_5 wv_11 =>
          ∃ (t59_p : Option Addr) (t59_n : Nat) (t59_c : Nat), e_5 = .returned (.slice t59_p t59_n t59_c) ∧
          Calls P 175 ⟨[(.slice b_p b_n b_c), (.slice t59_p t59_n t59_c)]⟩ wv_11 fun e_6 wv_12 =>
          ∃ (t60_p : Option Addr) (t60_n : Nat) (t60_c : Nat), e_6 = .returned (.slice t60_p t60_n t60_c) ∧
          Calls P 245 ⟨[(.slice t44_p t44_n t44_c), (.slice t60_p t60_n t60_c)]⟩ wv_12 fun e_7 wv_13 =>
          ∃ (t61_p : Option Addr) (t61_n : Nat) (t61_c : Nat), e_7 = .returned (.slice t61_p t61_n t61_c) ∧
          spec_l03Div_j0 wv_4 Inv mu rest_p rest_n rest_c i t61_p t61_n t61_c wv_13 R)) ∧
      ((decide ((0 : Int) ≤ i)) = false →
        Calls P 243 ⟨[(.slice (some ⟨r, 0, none⟩) a_n a_n)]⟩ wv_4 fun e_8 wv_14 =>
        ∃ (t63_p : Option Addr) (t63_n : Nat) (t63_c : Nat), e_8 = .returned (.slice t63_p t63_n t63_c) ∧
        R (.tuple #[(.slice t63_p t63_n t63_c), (.slice rest_p rest_n rest_c)]) wv_14))
theorem spec_l03Div_eq (a_p : Option Addr) (a_n : Nat) (a_c : Nat) (b_p : Option Addr) (b_n : Nat) (b_c : Nat) (w : World) (R : Value → World → Prop) : spec_l03Div a_p a_n a_c b_p b_n b_c w R = fsem P Tryz.f224 (fun k => cond (Nat.beq k 8) [(9, .one .slice), (10, .one (.int .i64))] ([])) [(.slice a_p a_n a_c), (.slice b_p b_n b_c)] R w := by kernel_rfl
theorem spec_l03Div_ret {a_p : Option Addr} {a_n : Nat} {a_c : Nat} {b_p : Option Addr} {b_n : Nat} {b_c : Nat} {w : World} {R : Value → World → Prop} (h : spec_l03Div a_p a_n a_c b_p b_n b_c w R) : Ret P 224 [(.slice a_p a_n a_c), (.slice b_p b_n b_c)] w R :=
  Ret.of_fsem Tryz.func224 rfl (Eq.mp (spec_l03Div_eq a_p a_n a_c b_p b_n b_c w R) h)
def impl_trim (a_p : Option Addr) (a_n : Nat) (a_c : Nat) (w : World) (R : Value → World → Prop) : Prop :=
  ∃ (Inv : Option Addr → Nat → Nat → World → Prop) (mu : Option Addr → Nat → Nat → World → Nat), Inv a_p a_n a_c w ∧
  ∀ (junk : Fr) (wv : World) (a_p_1 : Option Addr) (a_n_1 : Nat) (a_c_1 : Nat), Inv a_p_1 a_n_1 a_c_1 wv →
    ((decide ((0 : Int) < ((a_n_1 : Nat) : Int))) = true →
      ∃ t10 : Int, t10 = IntKind.wrap .i64 (((a_n_1 : Nat) : Int) - 1) ∧ (0 ≤ (t10 : Int) ∧ (t10 : Int) < (a_n_1 : Nat)) ∧ ptrS a_p_1 fun ad => ∃ (t12 : Int), Loads P 3 (ad.add (t10.toNat * 1)) (.int .i64 t12) wv ∧ ((decide ((t12 : Int) = 0)) = true →
        ∃ t18 : Int, t18 = IntKind.wrap .i64 (((a_n_1 : Nat) : Int) - 1) ∧ (0 ≤ (t18 : Int) ∧ (t18 : Int) ≤ (a_c_1 : Nat)) ∧ Inv (sub a_p_1 0 a_c_1 1) (t18.toNat - 0) (a_c_1 - 0) wv ∧ mu (sub a_p_1 0 a_c_1 1) (t18.toNat - 0) (a_c_1 - 0) wv < mu a_p_1 a_n_1 a_c_1 wv) ∧
      ((decide ((t12 : Int) = 0)) = false →
        R (.slice a_p_1 a_n_1 a_c_1) wv)) ∧
    ((decide ((0 : Int) < ((a_n_1 : Nat) : Int))) = false →
      (false = true →
        ∃ t18_1 : Int, t18_1 = IntKind.wrap .i64 (((a_n_1 : Nat) : Int) - 1) ∧ (0 ≤ (t18_1 : Int) ∧ (t18_1 : Int) ≤ (a_c_1 : Nat)) ∧ Inv (sub a_p_1 0 a_c_1 1) (t18_1.toNat - 0) (a_c_1 - 0) wv ∧ mu (sub a_p_1 0 a_c_1 1) (t18_1.toNat - 0) (a_c_1 - 0) wv < mu a_p_1 a_n_1 a_c_1 wv) ∧
      (false = false →
        R (.slice a_p_1 a_n_1 a_c_1) wv))
theorem impl_trim_eq (a_p : Option Addr) (a_n : Nat) (a_c : Nat) (w : World) (R : Value → World → Prop) : impl_trim a_p a_n a_c w R = fsem P Tryz.f227 (fun k => cond (Nat.beq k 2) [(0, .one .slice)] ([])) [(.slice a_p a_n a_c)] R w := by kernel_rfl
theorem impl_trim_ret {a_p : Option Addr} {a_n : Nat} {a_c : Nat} {w : World} {R : Value → World → Prop} (h : impl_trim a_p a_n a_c w R) : Ret P 227 [(.slice a_p a_n a_c)] w R :=
  Ret.of_fsem Tryz.func227 rfl (Eq.mp (impl_trim_eq a_p a_n a_c w R) h)
def impl_natOf (n : Int) (w : World) (R : Value → World → Prop) : Prop :=
  ∀ (r : Nat) (wv : World), New w (.cells ⟨[]⟩ 3 (0, 0)) r wv →
  ∃ (Inv : Int → Option Addr → Nat → Nat → World → Prop) (mu : Int → Option Addr → Nat → Nat → World → Nat), Inv n (some ⟨r, 0, none⟩) 0 0 wv ∧
  ∀ (junk : Fr) (wv_1 : World) (n_1 : Int) (a_p : Option Addr) (a_n : Nat) (a_c : Nat), Inv n_1 a_p a_n a_c wv_1 →
    ((decide ((0 : Int) < n_1)) = true →
      (1000000000 : Int) ≠ 0 ∧ ∃ t9 : Int, t9 = Int.tmod n_1 1000000000 ∧ ∃ t10 : Int, t10 = IntKind.wrap .i64 t9 ∧ ∀ (r_1 : Nat) (wv_2 : World), New wv_1 (.cells ⟨[(.int .i64 t10)]⟩ 3 (0, 0)) r_1 wv_2 →
      ∃ (t12_p : Option Addr) (t12_n : Nat) (t12_c : Nat) (wv_3 : World), Appends P [22, 22] [(.slice a_p a_n a_c), (.slice (some ⟨r_1, 0, none⟩) 1 1)] (.slice t12_p t12_n t12_c) wv_2 wv_3 ∧
      (1000000000 : Int) ≠ 0 ∧ ∃ t14 : Int, t14 = IntKind.wrap .u64 (Int.tdiv n_1 1000000000) ∧ Inv t14 t12_p t12_n t12_c wv_3 ∧ mu t14 t12_p t12_n t12_c wv_3 < mu n_1 a_p a_n a_c wv_1) ∧
    ((decide ((0 : Int) < n_1)) = false →
      R (.slice a_p a_n a_c) wv_1)
theorem impl_natOf_eq (n : Int) (w : World) (R : Value → World → Prop) : impl_natOf n w R = fsem P Tryz.f228 (fun k => cond (Nat.beq k 3) [(0, .one (.int .u64)), (3, .one .slice)] ([])) [(.int .u64 n)] R w := by kernel_rfl
theorem impl_natOf_ret {n : Int} {w : World} {R : Value → World → Prop} (h : impl_natOf n w R) : Ret P 228 [(.int .u64 n)] w R :=
  Ret.of_fsem Tryz.func228 rfl (Eq.mp (impl_natOf_eq n w R) h)
end Go.Proofs.YtfehpaekbbmkcaaGreatDoor

namespace Go.Proofs.YtfehpaekbbmkcaaGreatDoor
open Go Go.Proofs.YtfehpaekbbmkcaaGreatDoor.Sx
set_option linter.unusedVariables false
set_option maxRecDepth 100000
def impl_divStep_j0 (q_1 : Int) (W : World) (R : Value → World → Prop) : Prop :=
  R (.int .i64 q_1) W
def impl_divStep_j1 (q_2 : Int) (W_1 : World) (R : Value → World → Prop) : Prop :=
  R (.int .i64 q_2) W_1
def impl_divStep_j2 (q_3 : Int) (W_2 : World) (R : Value → World → Prop) : Prop :=
  R (.int .i64 q_3) W_2
def impl_divStep_j3 (q_4 : Int) (W_3 : World) (R : Value → World → Prop) : Prop :=
  R (.int .i64 q_4) W_3
def impl_divStep (u_p : Option Addr) (u_n : Nat) (u_c : Nat) (v_p : Option Addr) (v_n : Nat) (v_c : Nat) (w : World) (R : Value → World → Prop) : Prop :=
  (0 ≤ (((v_n : Nat) : Int) : Int) ∧ (((v_n : Nat) : Int) : Int) < (u_n : Nat)) ∧ ptrS u_p fun ad => ∃ (t13 : Int), (∀ wv, Ext w.drew wv → Loads P 3 (ad.add (v_n * 1)) (.int .i64 t13) wv) ∧ ∃ t14 : Int, t14 = IntKind.wrap .i64 (t13 * 1000000000) ∧ ∃ t17 : Int, t17 = IntKind.wrap .i64 (((v_n : Nat) : Int) - 1) ∧ (0 ≤ (t17 : Int) ∧ (t17 : Int) < (u_n : Nat)) ∧ ptrS u_p fun ad_1 => ∃ (t19 : Int), (∀ wv_1, Ext w.drew wv_1 → Loads P 3 (ad_1.add (t17.toNat * 1)) (.int .i64 t19) wv_1) ∧ ∃ t20 : Int, t20 = IntKind.wrap .i64 (t14 + t19) ∧ ∃ t24 : Int, t24 = IntKind.wrap .i64 (((v_n : Nat) : Int) - 1) ∧ (0 ≤ (t24 : Int) ∧ (t24 : Int) < (v_n : Nat)) ∧ ptrS v_p fun ad_2 => ∃ (t26 : Int), Loads P 3 (ad_2.add (t24.toNat * 1)) (.int .i64 t26) w.drew ∧ (t26 : Int) ≠ 0 ∧ ∃ t27 : Int, t27 = IntKind.wrap .i64 (Int.tdiv t20 t26) ∧ ∃ t28 : Int, t28 = (if 999999999 < t27 then 999999999 else t27) ∧ ∃ (Inv : Int → World → Prop) (mu : Int → World → Nat), Inv t28 w.drew ∧
  ∀ (junk : Fr) (wv_2 : World) (q : Int), Inv q wv_2 →
    ((decide ((0 : Int) < q)) = true →
      ∃ t36 : Int, t36 = IntKind.wrap .i64 (((v_n : Nat) : Int) - 1) ∧ (0 ≤ (t36 : Int) ∧ (t36 : Int) < (v_n : Nat)) ∧ ptrS v_p fun ad_3 => ∃ (t38 : Int), (∀ wv_3, Ext wv_2.drew wv_3 → Loads P 3 (ad_3.add (t36.toNat * 1)) (.int .i64 t38) wv_3) ∧ ∃ t39 : Int, t39 = IntKind.wrap .i64 (q * t38) ∧ ∃ t40 : Int, t40 = IntKind.wrap .i64 (t20 - t39) ∧ ((decide ((t40 : Int) < 1000000000)) = true →
        ∃ t47 : Int, t47 = IntKind.wrap .i64 (((v_n : Nat) : Int) - 2) ∧ (0 ≤ (t47 : Int) ∧ (t47 : Int) < (v_n : Nat)) ∧ ptrS v_p fun ad_4 => ∃ (t49 : Int), (∀ wv_4, Ext wv_2.drew wv_4 → Loads P 3 (ad_4.add (t47.toNat * 1)) (.int .i64 t49) wv_4) ∧ ∃ t50 : Int, t50 = IntKind.wrap .i64 (q * t49) ∧ ∃ t55 : Int, t55 = IntKind.wrap .i64 (((v_n : Nat) : Int) - 1) ∧ (0 ≤ (t55 : Int) ∧ (t55 : Int) < (v_n : Nat)) ∧ ptrS v_p fun ad_5 => ∃ (t57 : Int), (∀ wv_5, Ext wv_2.drew wv_5 → Loads P 3 (ad_5.add (t55.toNat * 1)) (.int .i64 t57) wv_5) ∧ ∃ t58 : Int, t58 = IntKind.wrap .i64 (q * t57) ∧ ∃ t59 : Int, t59 = IntKind.wrap .i64 (t20 - t58) ∧ ∃ t60 : Int, t60 = IntKind.wrap .i64 (t59 * 1000000000) ∧ ∃ t63 : Int, t63 = IntKind.wrap .i64 (((v_n : Nat) : Int) - 2) ∧ (0 ≤ (t63 : Int) ∧ (t63 : Int) < (u_n : Nat)) ∧ ptrS u_p fun ad_6 => ∃ (t65 : Int), (∀ wv_6, Ext wv_2.drew wv_6 → Loads P 3 (ad_6.add (t63.toNat * 1)) (.int .i64 t65) wv_6) ∧ ∃ t66 : Int, t66 = IntKind.wrap .i64 (t60 + t65) ∧ ((decide ((t66 : Int) < t50)) = true →
          ∃ t70 : Int, t70 = IntKind.wrap .i64 (q - 1) ∧ Inv t70 wv_2.drew ∧ mu t70 wv_2.drew < mu q wv_2) ∧
        ((decide ((t66 : Int) < t50)) = false →
          Calls P 279 ⟨[(.slice u_p u_n u_c), (.slice v_p v_n v_c), (.int .i64 q)]⟩ wv_2.drew fun e wv_7 =>
          ∃ (t74 : Bool), e = .returned (.bool t74) ∧
          (t74 = true →
            ∃ t76 : Int, t76 = IntKind.wrap .i64 (q - 1) ∧ Calls P 280 ⟨[(.slice u_p u_n u_c), (.slice v_p v_n v_c)]⟩ wv_7 fun e_1 wv_8 =>
            e_1 = .returned (.tuple #[]) ∧
            impl_divStep_j0 t76 wv_8 R) ∧
          (t74 = false →
            impl_divStep_j0 q wv_7 R))) ∧
      ((decide ((t40 : Int) < 1000000000)) = false →
        (false = true →
          ∃ t70_1 : Int, t70_1 = IntKind.wrap .i64 (q - 1) ∧ Inv t70_1 wv_2.drew ∧ mu t70_1 wv_2.drew < mu q wv_2) ∧
        (false = false →
          Calls P 279 ⟨[(.slice u_p u_n u_c), (.slice v_p v_n v_c), (.int .i64 q)]⟩ wv_2.drew fun e_2 wv_9 =>
          ∃ (t74_1 : Bool), e_2 = .returned (.bool t74_1) ∧
          (t74_1 = true →
            ∃ t76_1 : Int, t76_1 = IntKind.wrap .i64 (q - 1) ∧ Calls P 280 ⟨[(.slice u_p u_n u_c), (.slice v_p v_n v_c)]⟩ wv_9 fun e_3 wv_10 =>
            e_3 = .returned (.tuple #[]) ∧
            impl_divStep_j1 t76_1 wv_10 R) ∧
          (t74_1 = false →
            impl_divStep_j1 q wv_9 R)))) ∧
    ((decide ((0 : Int) < q)) = false →
      (false = true →
        ∃ t47_1 : Int, t47_1 = IntKind.wrap .i64 (((v_n : Nat) : Int) - 2) ∧ (0 ≤ (t47_1 : Int) ∧ (t47_1 : Int) < (v_n : Nat)) ∧ ptrS v_p fun ad_7 => ∃ (t49_1 : Int), (∀ wv_11, Ext wv_2.drew wv_11 → Loads P 3 (ad_7.add (t47_1.toNat * 1)) (.int .i64 t49_1) wv_11) ∧ ∃ t50_1 : Int, t50_1 = IntKind.wrap .i64 (q * t49_1) ∧ ∃ t55_1 : Int, t55_1 = IntKind.wrap .i64 (((v_n : Nat) : Int) - 1) ∧ (0 ≤ (t55_1 : Int) ∧ (t55_1 : Int) < (v_n : Nat)) ∧ ptrS v_p fun ad_8 => ∃ (t57_1 : Int), (∀ wv_12, Ext wv_2.drew wv_12 → Loads P 3 (ad_8.add (t55_1.toNat * 1)) (.int .i64 t57_1) wv_12) ∧ ∃ t58_1 : Int, t58_1 = IntKind.wrap .i64 (q * t57_1) ∧ ∃ t59_1 : Int, t59_1 = IntKind.wrap .i64 (t20 - t58_1) ∧ ∃ t60_1 : Int, t60_1 = IntKind.wrap .i64 (t59_1 * 1000000000) ∧ ∃ t63_1 : Int, t63_1 = IntKind.wrap .i64 (((v_n : Nat) : Int) - 2) ∧ (0 ≤ (t63_1 : Int) ∧ (t63_1 : Int) < (u_n : Nat)) ∧ ptrS u_p fun ad_9 => ∃ (t65_1 : Int), (∀ wv_13, Ext wv_2.drew wv_13 → Loads P 3 (ad_9.add (t63_1.toNat * 1)) (.int .i64 t65_1) wv_13) ∧ ∃ t66_1 : Int, t66_1 = IntKind.wrap .i64 (t60_1 + t65_1) ∧ ((decide ((t66_1 : Int) < t50_1)) = true →
          ∃ t70_2 : Int, t70_2 = IntKind.wrap .i64 (q - 1) ∧ Inv t70_2 wv_2.drew ∧ mu t70_2 wv_2.drew < mu q wv_2) ∧
        ((decide ((t66_1 : Int) < t50_1)) = false →
          Calls P 279 ⟨[(.slice u_p u_n u_c), (.slice v_p v_n v_c), (.int .i64 q)]⟩ wv_2.drew fun e_4 wv_14 =>
          ∃ (t74_2 : Bool), e_4 = .returned (.bool t74_2) ∧
          (t74_2 = true →
            ∃ t76_2 : Int, t76_2 = IntKind.wrap .i64 (q - 1) ∧ Calls P 280 ⟨[(.slice u_p u_n u_c), (.slice v_p v_n v_c)]⟩ wv_14 fun e_5 wv_15 =>
            e_5 = .returned (.tuple #[]) ∧
            impl_divStep_j2 t76_2 wv_15 R) ∧
          (t74_2 = false →
            impl_divStep_j2 q wv_14 R))) ∧
      (false = false →
        (false = true →
          ∃ t70_3 : Int, t70_3 = IntKind.wrap .i64 (q - 1) ∧ Inv t70_3 wv_2.drew ∧ mu t70_3 wv_2.drew < mu q wv_2) ∧
        (false = false →
          Calls P 279 ⟨[(.slice u_p u_n u_c), (.slice v_p v_n v_c), (.int .i64 q)]⟩ wv_2.drew fun e_6 wv_16 =>
          ∃ (t74_3 : Bool), e_6 = .returned (.bool t74_3) ∧
          (t74_3 = true →
            ∃ t76_3 : Int, t76_3 = IntKind.wrap .i64 (q - 1) ∧ Calls P 280 ⟨[(.slice u_p u_n u_c), (.slice v_p v_n v_c)]⟩ wv_16 fun e_7 wv_17 =>
            e_7 = .returned (.tuple #[]) ∧
            impl_divStep_j3 t76_3 wv_17 R) ∧
          (t74_3 = false →
            impl_divStep_j3 q wv_16 R))))
theorem impl_divStep_eq (u_p : Option Addr) (u_n : Nat) (u_c : Nat) (v_p : Option Addr) (v_n : Nat) (v_c : Nat) (w : World) (R : Value → World → Prop) : impl_divStep u_p u_n u_c v_p v_n v_c w R = fsem P Tryz.f238 (fun k => cond (Nat.beq k 5) [(7, .one (.int .i64))] ([])) [(.slice u_p u_n u_c), (.slice v_p v_n v_c)] R w := by kernel_rfl
theorem impl_divStep_ret {u_p : Option Addr} {u_n : Nat} {u_c : Nat} {v_p : Option Addr} {v_n : Nat} {v_c : Nat} {w : World} {R : Value → World → Prop} (h : impl_divStep u_p u_n u_c v_p v_n v_c w R) : Ret P 238 [(.slice u_p u_n u_c), (.slice v_p v_n v_c)] w R :=
  Ret.of_fsem Tryz.func238 rfl (Eq.mp (impl_divStep_eq u_p u_n u_c v_p v_n v_c w R) h)
def spec_NatGcd_j0 (a_p : Option Addr) (a_n : Nat) (a_c : Nat) (b_p : Option Addr) (b_n : Nat) (b_c : Nat) (W : World) (R : Value → World → Prop) : Prop :=
  ∀ (r : Nat) (wv_1 : World), New W (.cells ⟨[]⟩ 3 (0, 0)) r wv_1 →
  ∃ (t19_p : Option Addr) (t19_n : Nat) (t19_c : Nat) (wv_2 : World), Appends P [22, 22] [(.slice (some ⟨r, 0, none⟩) 0 0), (.slice a_p a_n a_c)] (.slice t19_p t19_n t19_c) wv_1 wv_2 ∧
  ∀ (r_1 : Nat) (wv_3 : World), New wv_2 (.cells ⟨[]⟩ 3 (0, 0)) r_1 wv_3 →
  ∃ (t22_p : Option Addr) (t22_n : Nat) (t22_c : Nat) (wv_4 : World), Appends P [22, 22] [(.slice (some ⟨r_1, 0, none⟩) 0 0), (.slice b_p b_n b_c)] (.slice t22_p t22_n t22_c) wv_3 wv_4 ∧
  ∃ (Inv : Option Addr → Nat → Nat → Option Addr → Nat → Nat → World → Prop) (mu : Option Addr → Nat → Nat → Option Addr → Nat → Nat → World → Nat), Inv t19_p t19_n t19_c t22_p t22_n t22_c wv_4 ∧
  ∀ (junk : Fr) (wv_5 : World) (x_p : Option Addr) (x_n : Nat) (x_c : Nat) (y_p : Option Addr) (y_n : Nat) (y_c : Nat), Inv x_p x_n x_c y_p y_n y_c wv_5 →
    ((decide ((0 : Int) < ((y_n : Nat) : Int))) = true →
      Calls P 224 ⟨[(.slice x_p x_n x_c), (.slice y_p y_n y_c)]⟩ wv_5 fun e_1 wv_6 =>
      ∃ (t29_p : Option Addr) (t29_n : Nat) (t29_c : Nat) (t29_p_1 : Option Addr) (t29_n_1 : Nat) (t29_c_1 : Nat), e_1 = .returned (.tuple #[(.slice t29_p t29_n t29_c), (.slice t29_p_1 t29_n_1 t29_c_1)]) ∧
      Inv y_p y_n y_c t29_p_1 t29_n_1 t29_c_1 wv_6 ∧ mu y_p y_n y_c t29_p_1 t29_n_1 t29_c_1 wv_6 < mu x_p x_n x_c y_p y_n y_c wv_5) ∧
    ((decide ((0 : Int) < ((y_n : Nat) : Int))) = false →
      R (.slice x_p x_n x_c) wv_5)
def spec_NatGcd (a_p : Option Addr) (a_n : Nat) (a_c : Nat) (b_p : Option Addr) (b_n : Nat) (b_c : Nat) (w : World) (R : Value → World → Prop) : Prop :=
  Calls P 223 ⟨[(.slice a_p a_n a_c)]⟩ w fun e wv =>
  ∃ (t10 : Bool), e = .returned (.bool t10) ∧
  ((!t10) = true →
    (true = true →
      R (.slice none 0 0) wv) ∧
    (true = false →
      spec_NatGcd_j0 a_p a_n a_c b_p b_n b_c wv R)) ∧
  ((!t10) = false →
    Calls P 223 ⟨[(.slice b_p b_n b_c)]⟩ wv fun e_2 wv_7 =>
    ∃ (t14 : Bool), e_2 = .returned (.bool t14) ∧
    ((!t14) = true →
      R (.slice none 0 0) wv_7) ∧
    ((!t14) = false →
      spec_NatGcd_j0 a_p a_n a_c b_p b_n b_c wv_7 R))
theorem spec_NatGcd_eq (a_p : Option Addr) (a_n : Nat) (a_c : Nat) (b_p : Option Addr) (b_n : Nat) (b_c : Nat) (w : World) (R : Value → World → Prop) : spec_NatGcd a_p a_n a_c b_p b_n b_c w R = fsem P Tryz.f242 (fun k => cond (Nat.beq k 6) [(5, .one .slice), (6, .one .slice)] ([])) [(.slice a_p a_n a_c), (.slice b_p b_n b_c)] R w := by kernel_rfl
theorem spec_NatGcd_ret {a_p : Option Addr} {a_n : Nat} {a_c : Nat} {b_p : Option Addr} {b_n : Nat} {b_c : Nat} {w : World} {R : Value → World → Prop} (h : spec_NatGcd a_p a_n a_c b_p b_n b_c w R) : Ret P 242 [(.slice a_p a_n a_c), (.slice b_p b_n b_c)] w R :=
  Ret.of_fsem Tryz.func242 rfl (Eq.mp (spec_NatGcd_eq a_p a_n a_c b_p b_n b_c w R) h)
def spec_l02Trim (a_p : Option Addr) (a_n : Nat) (a_c : Nat) (w : World) (R : Value → World → Prop) : Prop :=
  ∃ (Inv : Int → World → Prop) (mu : Int → World → Nat), Inv ((a_n : Nat) : Int) w ∧
  ∀ (junk : Fr) (wv : World) (n : Int), Inv n wv →
    ((decide ((0 : Int) < n)) = true →
      ∃ t11 : Int, t11 = IntKind.wrap .i64 (n - 1) ∧ (0 ≤ (t11 : Int) ∧ (t11 : Int) < (a_n : Nat)) ∧ ptrS a_p fun ad => ∃ (t13 : Int), Loads P 3 (ad.add (t11.toNat * 1)) (.int .i64 t13) wv ∧ ((decide ((t13 : Int) = 0)) = true →
        ∃ t17 : Int, t17 = IntKind.wrap .i64 (n - 1) ∧ Inv t17 wv ∧ mu t17 wv < mu n wv) ∧
      ((decide ((t13 : Int) = 0)) = false →
        (0 ≤ (n : Int) ∧ (n : Int) ≤ (a_c : Nat)) ∧ R (.slice (sub a_p 0 a_c 1) (n.toNat - 0) (a_c - 0)) wv)) ∧
    ((decide ((0 : Int) < n)) = false →
      (false = true →
        ∃ t17_1 : Int, t17_1 = IntKind.wrap .i64 (n - 1) ∧ Inv t17_1 wv ∧ mu t17_1 wv < mu n wv) ∧
      (false = false →
        (0 ≤ (n : Int) ∧ (n : Int) ≤ (a_c : Nat)) ∧ R (.slice (sub a_p 0 a_c 1) (n.toNat - 0) (a_c - 0)) wv))
theorem spec_l02Trim_eq (a_p : Option Addr) (a_n : Nat) (a_c : Nat) (w : World) (R : Value → World → Prop) : spec_l02Trim a_p a_n a_c w R = fsem P Tryz.f243 (fun k => cond (Nat.beq k 3) [(3, .one (.int .i64))] ([])) [(.slice a_p a_n a_c)] R w := by kernel_rfl
theorem spec_l02Trim_ret {a_p : Option Addr} {a_n : Nat} {a_c : Nat} {w : World} {R : Value → World → Prop} (h : spec_l02Trim a_p a_n a_c w R) : Ret P 243 [(.slice a_p a_n a_c)] w R :=
  Ret.of_fsem Tryz.func243 rfl (Eq.mp (spec_l02Trim_eq a_p a_n a_c w R) h)
def spec_l02Add_j2 (wv_1 : World) (Inv : Option Addr → Nat → Nat → Int → Int → World → Prop) (mu : Option Addr → Nat → Nat → Int → Int → World → Nat) (out_p : Option Addr) (out_n : Nat) (out_c : Nat) (carry : Int) (i : Int) (n_1 : Int) (W_2 : World) (R : Value → World → Prop) : Prop :=
  (1000000000 : Int) ≠ 0 ∧ ∃ t49 : Int, t49 = Int.tmod n_1 1000000000 ∧ ∀ (r_1 : Nat) (wv_2 : World), New W_2 (.cells ⟨[(.int .i64 t49)]⟩ 3 (0, 0)) r_1 wv_2 →
  ∃ (t51_p : Option Addr) (t51_n : Nat) (t51_c : Nat) (wv_3 : World), Appends P [22, 22] [(.slice out_p out_n out_c), (.slice (some ⟨r_1, 0, none⟩) 1 1)] (.slice t51_p t51_n t51_c) wv_2 wv_3 ∧
  (1000000000 : Int) ≠ 0 ∧ ∃ t53 : Int, t53 = IntKind.wrap .i64 (Int.tdiv n_1 1000000000) ∧ ∃ t25 : Int, t25 = IntKind.wrap .i64 (i + 1) ∧ Inv t51_p t51_n t51_c t53 t25 wv_3 ∧ mu t51_p t51_n t51_c t53 t25 wv_3 < mu out_p out_n out_c carry i wv_1
def spec_l02Add_j1 (b_p : Option Addr) (b_n : Nat) (wv_1 : World) (Inv : Option Addr → Nat → Nat → Int → Int → World → Prop) (mu : Option Addr → Nat → Nat → Int → Int → World → Nat) (out_p : Option Addr) (out_n : Nat) (out_c : Nat) (carry : Int) (i : Int) (n : Int) (W_1 : World) (R : Value → World → Prop) : Prop :=
  ((decide ((i : Int) < ((b_n : Nat) : Int))) = true →
    (0 ≤ (i : Int) ∧ (i : Int) < (b_n : Nat)) ∧ ptrS b_p fun ad_1 => ∃ (t45 : Int), Loads P 3 (ad_1.add (i.toNat * 1)) (.int .i64 t45) W_1 ∧ ∃ t46 : Int, t46 = IntKind.wrap .i64 (n + t45) ∧ spec_l02Add_j2 wv_1 Inv mu out_p out_n out_c carry i t46 W_1 R) ∧
  ((decide ((i : Int) < ((b_n : Nat) : Int))) = false →
    spec_l02Add_j2 wv_1 Inv mu out_p out_n out_c carry i n W_1 R)
def spec_l02Add_j0 (a_p : Option Addr) (a_n : Nat) (b_p : Option Addr) (b_n : Nat) (wv_1 : World) (Inv : Option Addr → Nat → Nat → Int → Int → World → Prop) (mu : Option Addr → Nat → Nat → Int → Int → World → Nat) (out_p : Option Addr) (out_n : Nat) (out_c : Nat) (carry : Int) (i : Int) (W : World) (R : Value → World → Prop) : Prop :=
  ((decide ((i : Int) < ((a_n : Nat) : Int))) = true →
    (0 ≤ (i : Int) ∧ (i : Int) < (a_n : Nat)) ∧ ptrS a_p fun ad => ∃ (t35 : Int), Loads P 3 (ad.add (i.toNat * 1)) (.int .i64 t35) W ∧ ∃ t36 : Int, t36 = IntKind.wrap .i64 (carry + t35) ∧ spec_l02Add_j1 b_p b_n wv_1 Inv mu out_p out_n out_c carry i t36 W R) ∧
  ((decide ((i : Int) < ((a_n : Nat) : Int))) = false →
    spec_l02Add_j1 b_p b_n wv_1 Inv mu out_p out_n out_c carry i carry W R)
def spec_l02Add (a_p : Option Addr) (a_n : Nat) (a_c : Nat) (b_p : Option Addr) (b_n : Nat) (b_c : Nat) (w : World) (R : Value → World → Prop) : Prop :=
  ∀ (r : Nat) (wv : World), New w (.cells ⟨[]⟩ 3 (0, 0)) r wv →
  ∃ (Inv : Option Addr → Nat → Nat → Int → Int → World → Prop) (mu : Option Addr → Nat → Nat → Int → Int → World → Nat), Inv (some ⟨r, 0, none⟩) 0 0 0 0 wv ∧
  ∀ (junk : Fr) (wv_1 : World) (out_p : Option Addr) (out_n : Nat) (out_c : Nat) (carry : Int) (i : Int), Inv out_p out_n out_c carry i wv_1 →
    ((decide ((i : Int) < ((a_n : Nat) : Int))) = true →
      (true = true →
        (true = true →
          spec_l02Add_j0 a_p a_n b_p b_n wv_1 Inv mu out_p out_n out_c carry i wv_1 R) ∧
        (true = false →
          R (.slice out_p out_n out_c) wv_1)) ∧
      (true = false →
        ((decide ((0 : Int) < carry)) = true →
          spec_l02Add_j0 a_p a_n b_p b_n wv_1 Inv mu out_p out_n out_c carry i wv_1 R) ∧
        ((decide ((0 : Int) < carry)) = false →
          R (.slice out_p out_n out_c) wv_1))) ∧
    ((decide ((i : Int) < ((a_n : Nat) : Int))) = false →
      ((decide ((i : Int) < ((b_n : Nat) : Int))) = true →
        (true = true →
          spec_l02Add_j0 a_p a_n b_p b_n wv_1 Inv mu out_p out_n out_c carry i wv_1 R) ∧
        (true = false →
          R (.slice out_p out_n out_c) wv_1)) ∧
      ((decide ((i : Int) < ((b_n : Nat) : Int))) = false →
        ((decide ((0 : Int) < carry)) = true →
          spec_l02Add_j0 a_p a_n b_p b_n wv_1 Inv mu out_p out_n out_c carry i wv_1 R) ∧
        ((decide ((0 : Int) < carry)) = false →
          R (.slice out_p out_n out_c) wv_1)))
theorem spec_l02Add_eq (a_p : Option Addr) (a_n : Nat) (a_c : Nat) (b_p : Option Addr) (b_n : Nat) (b_c : Nat) (w : World) (R : Value → World → Prop) : spec_l02Add a_p a_n a_c b_p b_n b_c w R = fsem P Tryz.f244 (fun k => cond (Nat.beq k 5) [(5, .one .slice), (6, .one (.int .i64)), (7, .one (.int .i64))] ([])) [(.slice a_p a_n a_c), (.slice b_p b_n b_c)] R w := by kernel_rfl
theorem spec_l02Add_ret {a_p : Option Addr} {a_n : Nat} {a_c : Nat} {b_p : Option Addr} {b_n : Nat} {b_c : Nat} {w : World} {R : Value → World → Prop} (h : spec_l02Add a_p a_n a_c b_p b_n b_c w R) : Ret P 244 [(.slice a_p a_n a_c), (.slice b_p b_n b_c)] w R :=
  Ret.of_fsem Tryz.func244 rfl (Eq.mp (spec_l02Add_eq a_p a_n a_c b_p b_n b_c w R) h)
def spec_l02Sub_j1 (wv_1 : World) (Inv : Option Addr → Nat → Nat → Int → Int → World → Prop) (mu : Option Addr → Nat → Nat → Int → Int → World → Nat) (out_p : Option Addr) (out_n : Nat) (out_c : Nat) (less : Int) (t12 : Int) (less_1 : Int) (n_1 : Int) (W_1 : World) (R : Value → World → Prop) : Prop :=
  ∀ (r_1 : Nat) (wv_2 : World), New W_1 (.cells ⟨[(.int .i64 n_1)]⟩ 3 (0, 0)) r_1 wv_2 →
  ∃ (t38_p : Option Addr) (t38_n : Nat) (t38_c : Nat) (wv_3 : World), Appends P [22, 22] [(.slice out_p out_n out_c), (.slice (some ⟨r_1, 0, none⟩) 1 1)] (.slice t38_p t38_n t38_c) wv_2 wv_3 ∧
  ∃ t39 : Int, t39 = IntKind.wrap .i64 (t12 + 1) ∧ Inv t38_p t38_n t38_c less_1 t39 wv_3 ∧ mu t38_p t38_n t38_c less_1 t39 wv_3 < mu out_p out_n out_c less t12 wv_1
def spec_l02Sub_j0 (wv_1 : World) (Inv : Option Addr → Nat → Nat → Int → Int → World → Prop) (mu : Option Addr → Nat → Nat → Int → Int → World → Nat) (out_p : Option Addr) (out_n : Nat) (out_c : Nat) (less : Int) (t12 : Int) (n : Int) (W : World) (R : Value → World → Prop) : Prop :=
  ((decide ((n : Int) < 0)) = true →
    ∃ t34 : Int, t34 = IntKind.wrap .i64 (n + 1000000000) ∧ spec_l02Sub_j1 wv_1 Inv mu out_p out_n out_c less t12 1 t34 W R) ∧
  ((decide ((n : Int) < 0)) = false →
    spec_l02Sub_j1 wv_1 Inv mu out_p out_n out_c less t12 0 n W R)
def spec_l02Sub (a_p : Option Addr) (a_n : Nat) (a_c : Nat) (b_p : Option Addr) (b_n : Nat) (b_c : Nat) (w : World) (R : Value → World → Prop) : Prop :=
  ∀ (r : Nat) (wv : World), New w (.cells ⟨[]⟩ 3 (0, 0)) r wv →
  ∃ (Inv : Option Addr → Nat → Nat → Int → Int → World → Prop) (mu : Option Addr → Nat → Nat → Int → Int → World → Nat), Inv (some ⟨r, 0, none⟩) 0 0 0 0 wv ∧
  ∀ (junk : Fr) (wv_1 : World) (out_p : Option Addr) (out_n : Nat) (out_c : Nat) (less : Int) (t12 : Int), Inv out_p out_n out_c less t12 wv_1 →
    ((decide ((t12 : Int) < ((a_n : Nat) : Int))) = true →
      (0 ≤ (t12 : Int) ∧ (t12 : Int) < (a_n : Nat)) ∧ ptrS a_p fun ad => ∃ (t18 : Int), Loads P 3 (ad.add (t12.toNat * 1)) (.int .i64 t18) wv_1 ∧ ∃ t20 : Int, t20 = IntKind.wrap .i64 (t18 - less) ∧ ((decide ((t12 : Int) < ((b_n : Nat) : Int))) = true →
        (0 ≤ (t12 : Int) ∧ (t12 : Int) < (b_n : Nat)) ∧ ptrS b_p fun ad_1 => ∃ (t29 : Int), Loads P 3 (ad_1.add (t12.toNat * 1)) (.int .i64 t29) wv_1 ∧ ∃ t30 : Int, t30 = IntKind.wrap .i64 (t20 - t29) ∧ spec_l02Sub_j0 wv_1 Inv mu out_p out_n out_c less t12 t30 wv_1 R) ∧
      ((decide ((t12 : Int) < ((b_n : Nat) : Int))) = false →
        spec_l02Sub_j0 wv_1 Inv mu out_p out_n out_c less t12 t20 wv_1 R)) ∧
    ((decide ((t12 : Int) < ((a_n : Nat) : Int))) = false →
      Calls P 243 ⟨[(.slice out_p out_n out_c)]⟩ wv_1 fun e wv_4 =>
      ∃ (t41_p : Option Addr) (t41_n : Nat) (t41_c : Nat), e = .returned (.slice t41_p t41_n t41_c) ∧
      R (.slice t41_p t41_n t41_c) wv_4)
theorem spec_l02Sub_eq (a_p : Option Addr) (a_n : Nat) (a_c : Nat) (b_p : Option Addr) (b_n : Nat) (b_c : Nat) (w : World) (R : Value → World → Prop) : spec_l02Sub a_p a_n a_c b_p b_n b_c w R = fsem P Tryz.f245 (fun k => cond (Nat.beq k 5) [(5, .one .slice), (6, .one (.int .i64)), (12, .one (.int .i64))] ([])) [(.slice a_p a_n a_c), (.slice b_p b_n b_c)] R w := by kernel_rfl
theorem spec_l02Sub_ret {a_p : Option Addr} {a_n : Nat} {a_c : Nat} {b_p : Option Addr} {b_n : Nat} {b_c : Nat} {w : World} {R : Value → World → Prop} (h : spec_l02Sub a_p a_n a_c b_p b_n b_c w R) : Ret P 245 [(.slice a_p a_n a_c), (.slice b_p b_n b_c)] w R :=
  Ret.of_fsem Tryz.func245 rfl (Eq.mp (spec_l02Sub_eq a_p a_n a_c b_p b_n b_c w R) h)
def spec_l05Gcd (a_p : Option Addr) (a_n : Nat) (a_c : Nat) (b_p : Option Addr) (b_n : Nat) (b_c : Nat) (w : World) (R : Value → World → Prop) : Prop :=
  ∃ (Inv : Option Addr → Nat → Nat → Option Addr → Nat → Nat → World → Prop) (mu : Option Addr → Nat → Nat → Option Addr → Nat → Nat → World → Nat), Inv a_p a_n a_c b_p b_n b_c w ∧
  ∀ (junk : Fr) (wv : World) (x_p : Option Addr) (x_n : Nat) (x_c : Nat) (y_p : Option Addr) (y_n : Nat) (y_c : Nat), Inv x_p x_n x_c y_p y_n y_c wv →
    ((decide ((0 : Int) < ((y_n : Nat) : Int))) = true →
      Calls P 224 ⟨[(.slice x_p x_n x_c), (.slice y_p y_n y_c)]⟩ wv fun e wv_1 =>
      ∃ (t17_p : Option Addr) (t17_n : Nat) (t17_c : Nat) (t17_p_1 : Option Addr) (t17_n_1 : Nat) (t17_c_1 : Nat), e = .returned (.tuple #[(.slice t17_p t17_n t17_c), (.slice t17_p_1 t17_n_1 t17_c_1)]) ∧
      Inv y_p y_n y_c t17_p_1 t17_n_1 t17_c_1 wv_1 ∧ mu y_p y_n y_c t17_p_1 t17_n_1 t17_c_1 wv_1 < mu x_p x_n x_c y_p y_n y_c wv) ∧
    ((decide ((0 : Int) < ((y_n : Nat) : Int))) = false →
      R (.slice x_p x_n x_c) wv)
theorem spec_l05Gcd_eq (a_p : Option Addr) (a_n : Nat) (a_c : Nat) (b_p : Option Addr) (b_n : Nat) (b_c : Nat) (w : World) (R : Value → World → Prop) : spec_l05Gcd a_p a_n a_c b_p b_n b_c w R = fsem P Tryz.f246 (fun k => cond (Nat.beq k 4) [(5, .one .slice), (6, .one .slice)] ([])) [(.slice a_p a_n a_c), (.slice b_p b_n b_c)] R w := by kernel_rfl
theorem spec_l05Gcd_ret {a_p : Option Addr} {a_n : Nat} {a_c : Nat} {b_p : Option Addr} {b_n : Nat} {b_c : Nat} {w : World} {R : Value → World → Prop} (h : spec_l05Gcd a_p a_n a_c b_p b_n b_c w R) : Ret P 246 [(.slice a_p a_n a_c), (.slice b_p b_n b_c)] w R :=
  Ret.of_fsem Tryz.func246 rfl (Eq.mp (spec_l05Gcd_eq a_p a_n a_c b_p b_n b_c w R) h)
def spec_l08Table (w : World) (R : Value → World → Prop) : Prop :=
  ∀ (r : Nat) (wv : World), New w (.cells ⟨[(.string (S [65, 85, 68])), (.string (S [48, 51, 54])), (.int .i64 2), (.int .i64 5), (.string (S [66, 72, 68])), (.string (S [48, 52, 56])), (.int .i64 3), (.int .i64 5), (.string (S [67, 65, 68])), (.string (S [49, 50, 52])), (.int .i64 2), (.int .i64 5), (.string (S [67, 72, 70])), (.string (S [55, 53, 54])), (.int .i64 2), (.int .i64 5), (.string (S [67, 76, 70])), (.string (S [57, 57, 48])), (.int .i64 4), (.int .i64 1), (.string (S [67, 90, 75])), (.string (S [50, 48, 51])), (.int .i64 2), (.int .i64 100), (.string (S [68, 75, 75])), (.string (S [50, 48, 56])), (.int .i64 2), (.int .i64 50), (.string (S [69, 85, 82])), (.string (S [57, 55, 56])), (.int .i64 2), (.int .i64 1), (.string (S [71, 66, 80])), (.string (S [56, 50, 54])), (.int .i64 2), (.int .i64 1), (.string (S [72, 85, 70])), (.string (S [51, 52, 56])), (.int .i64 2), (.int .i64 500), (.string (S [73, 83, 75])), (.string (S [51, 53, 50])), (.int .i64 0), (.int .i64 1), (.string (S [74, 80, 89])), (.string (S [51, 57, 50])), (.int .i64 0), (.int .i64 1), (.string (S [75, 82, 87])), (.string (S [52, 49, 48])), (.int .i64 0), (.int .i64 10), (.string (S [75, 87, 68])), (.string (S [52, 49, 52])), (.int .i64 3), (.int .i64 5), (.string (S [78, 79, 75])), (.string (S [53, 55, 56])), (.int .i64 2), (.int .i64 100), (.string (S [78, 90, 68])), (.string (S [53, 53, 52])), (.int .i64 2), (.int .i64 10), (.string (S [80, 76, 78])), (.string (S [57, 56, 53])), (.int .i64 2), (.int .i64 1), (.string (S [83, 69, 75])), (.string (S [55, 53, 50])), (.int .i64 2), (.int .i64 100), (.string (S [84, 78, 68])), (.string (S [55, 56, 56])), (.int .i64 3), (.int .i64 10), (.string (S [85, 83, 68])), (.string (S [56, 52, 48])), (.int .i64 2), (.int .i64 1)]⟩ 207 (0, 0)) r wv →
  R (.slice (some ⟨r, 0, none⟩) 20 20) wv
theorem spec_l08Table_eq (w : World) (R : Value → World → Prop) : spec_l08Table w R = fsem P Tryz.f247 (fun k => []) [] R w := by kernel_rfl
theorem spec_l08Table_ret {w : World} {R : Value → World → Prop} (h : spec_l08Table w R) : Ret P 247 [] w R :=
  Ret.of_fsem Tryz.func247 rfl (Eq.mp (spec_l08Table_eq w R) h)
def spec_l03Small (a_p : Option Addr) (a_n : Nat) (a_c : Nat) (d : Int) (w : World) (R : Value → World → Prop) : Prop :=
  (0 ≤ (((a_n : Nat) : Int) : Int) ∧ (((a_n : Nat) : Int) : Int) ≤ ((a_n : Nat) : Int) ∧ ((8 : Nat) : Int) * ((a_n : Nat) : Int) ≤ 281474976710656) ∧
  ∀ (r : Nat) (wv : World), New w (.cells ⟨zeroRow (.int .i64 0) (a_n * 1)⟩ 3 (0, 0)) r wv →
  ∃ t15 : Int, t15 = IntKind.wrap .i64 (((a_n : Nat) : Int) - 1) ∧ ∃ (Inv : Int → Int → World → Prop) (mu : Int → Int → World → Nat), Inv 0 t15 wv ∧
  ∀ (junk : Fr) (wv_1 : World) (rest : Int) (i : Int), Inv rest i wv_1 →
    ((decide ((0 : Int) ≤ i)) = true →
      ∃ t21 : Int, t21 = IntKind.wrap .i64 (rest * 1000000000) ∧ (0 ≤ (i : Int) ∧ (i : Int) < (a_n : Nat)) ∧ ptrS a_p fun ad => ∃ (t25 : Int), Loads P 3 (ad.add (i.toNat * 1)) (.int .i64 t25) wv_1 ∧ ∃ t26 : Int, t26 = IntKind.wrap .i64 (t21 + t25) ∧ (d : Int) ≠ 0 ∧ ∃ t31 : Int, t31 = IntKind.wrap .i64 (Int.tdiv t26 d) ∧ (0 ≤ (i : Int) ∧ (i : Int) < (a_n : Nat)) ∧ ∃ wv_2, Stores P 3 ((⟨r, 0, none⟩ : Addr).add (i.toNat * 1)) (.int .i64 t31) wv_1 wv_2 ∧
      (d : Int) ≠ 0 ∧ ∃ t35 : Int, t35 = Int.tmod t26 d ∧ ∃ t19 : Int, t19 = IntKind.wrap .i64 (i - 1) ∧ Inv t35 t19 wv_2 ∧ mu t35 t19 wv_2 < mu rest i wv_1) ∧
    ((decide ((0 : Int) ≤ i)) = false →
      Calls P 243 ⟨[(.slice (some ⟨r, 0, none⟩) a_n a_n)]⟩ wv_1 fun e wv_3 =>
      ∃ (t37_p : Option Addr) (t37_n : Nat) (t37_c : Nat), e = .returned (.slice t37_p t37_n t37_c) ∧
      R (.tuple #[(.slice t37_p t37_n t37_c), (.int .i64 rest)]) wv_3)
theorem spec_l03Small_eq (a_p : Option Addr) (a_n : Nat) (a_c : Nat) (d : Int) (w : World) (R : Value → World → Prop) : spec_l03Small a_p a_n a_c d w R = fsem P Tryz.f273 (fun k => cond (Nat.beq k 5) [(7, .one (.int .i64)), (8, .one (.int .i64))] ([])) [(.slice a_p a_n a_c), (.int .i64 d)] R w := by kernel_rfl
theorem spec_l03Small_ret {a_p : Option Addr} {a_n : Nat} {a_c : Nat} {d : Int} {w : World} {R : Value → World → Prop} (h : spec_l03Small a_p a_n a_c d w R) : Ret P 273 [(.slice a_p a_n a_c), (.int .i64 d)] w R :=
  Ret.of_fsem Tryz.func273 rfl (Eq.mp (spec_l03Small_eq a_p a_n a_c d w R) h)
def spec_l03Digit (r_p : Option Addr) (r_n : Nat) (r_c : Nat) (b_p : Option Addr) (b_n : Nat) (b_c : Nat) (w : World) (R : Value → World → Prop) : Prop :=
  ∃ (Inv : Int → Int → World → Prop) (mu : Int → Int → World → Nat), Inv 0 999999999 w ∧
  ∀ (junk : Fr) (wv : World) (lo : Int) (hi : Int), Inv lo hi wv →
    ((decide ((lo : Int) < hi)) = true →
      ∃ t13 : Int, t13 = IntKind.wrap .i64 (lo + hi) ∧ ∃ t14 : Int, t14 = IntKind.wrap .i64 (t13 + 1) ∧ (2 : Int) ≠ 0 ∧ ∃ t15 : Int, t15 = IntKind.wrap .i64 (Int.tdiv t14 2) ∧ Calls P 221 ⟨[(.int .i64 t15)]⟩ wv fun e wv_1 =>
      ∃ (t18_p : Option Addr) (t18_n : Nat) (t18_c : Nat), e = .returned (.slice t18_p t18_n t18_c) ∧
      Calls P 175 ⟨[(.slice b_p b_n b_c), (.slice t18_p t18_n t18_c)]⟩ wv_1 fun e_1 wv_2 =>
      ∃ (t19_p : Option Addr) (t19_n : Nat) (t19_c : Nat), e_1 = .returned (.slice t19_p t19_n t19_c) ∧
      Calls P 222 ⟨[(.slice t19_p t19_n t19_c), (.slice r_p r_n r_c)]⟩ wv_2 fun e_2 wv_3 =>
      ∃ (t21 : Int), e_2 = .returned (.int .i64 t21) ∧
      ((decide ((t21 : Int) ≤ 0)) = true →
        Inv t15 hi wv_3 ∧ mu t15 hi wv_3 < mu lo hi wv) ∧
      ((decide ((t21 : Int) ≤ 0)) = false →
        ∃ t25 : Int, t25 = IntKind.wrap .i64 (t15 - 1) ∧ Inv lo t25 wv_3 ∧ mu lo t25 wv_3 < mu lo hi wv)) ∧
    ((decide ((lo : Int) < hi)) = false →
      R (.int .i64 lo) wv)
theorem spec_l03Digit_eq (r_p : Option Addr) (r_n : Nat) (r_c : Nat) (b_p : Option Addr) (b_n : Nat) (b_c : Nat) (w : World) (R : Value → World → Prop) : spec_l03Digit r_p r_n r_c b_p b_n b_c w R = fsem P Tryz.f274 (fun k => cond (Nat.beq k 4) [(5, .one (.int .i64)), (6, .one (.int .i64))] ([])) [(.slice r_p r_n r_c), (.slice b_p b_n b_c)] R w := by kernel_rfl
theorem spec_l03Digit_ret {r_p : Option Addr} {r_n : Nat} {r_c : Nat} {b_p : Option Addr} {b_n : Nat} {b_c : Nat} {w : World} {R : Value → World → Prop} (h : spec_l03Digit r_p r_n r_c b_p b_n b_c w R) : Ret P 274 [(.slice r_p r_n r_c), (.slice b_p b_n b_c)] w R :=
  Ret.of_fsem Tryz.func274 rfl (Eq.mp (spec_l03Digit_eq r_p r_n r_c b_p b_n b_c w R) h)
def impl_subTimes_j0 (u_p : Option Addr) (u_n : Nat) (wv : World) (Inv : Int → Int → World → Prop) (mu : Int → Int → World → Nat) (borrow : Int) (t13 : Int) (borrow_1 : Int) (n : Int) (W : World) (R : Value → World → Prop) : Prop :=
  (0 ≤ (t13 : Int) ∧ (t13 : Int) < (u_n : Nat)) ∧ ptrS u_p fun ad_2 => ∃ wv_1, Stores P 3 (ad_2.add (t13.toNat * 1)) (.int .i64 n) W wv_1 ∧
  ∃ t43 : Int, t43 = IntKind.wrap .i64 (t13 + 1) ∧ Inv borrow_1 t43 wv_1 ∧ mu borrow_1 t43 wv_1 < mu borrow t13 wv
def impl_subTimes (u_p : Option Addr) (u_n : Nat) (u_c : Nat) (v_p : Option Addr) (v_n : Nat) (v_c : Nat) (q : Int) (w : World) (R : Value → World → Prop) : Prop :=
  ∃ (Inv : Int → Int → World → Prop) (mu : Int → Int → World → Nat), Inv 0 0 w ∧
  ∀ (junk : Fr) (wv : World) (borrow : Int) (t13 : Int), Inv borrow t13 wv →
    ((decide ((t13 : Int) < ((v_n : Nat) : Int))) = true →
      (0 ≤ (t13 : Int) ∧ (t13 : Int) < (v_n : Nat)) ∧ ptrS v_p fun ad => ∃ (t17 : Int), Loads P 3 (ad.add (t13.toNat * 1)) (.int .i64 t17) wv ∧ (0 ≤ (t13 : Int) ∧ (t13 : Int) < (u_n : Nat)) ∧ ptrS u_p fun ad_1 => ∃ (t21 : Int), Loads P 3 (ad_1.add (t13.toNat * 1)) (.int .i64 t21) wv ∧ ∃ t24 : Int, t24 = IntKind.wrap .i64 (t17 * q) ∧ ∃ t25 : Int, t25 = IntKind.wrap .i64 (t21 - t24) ∧ ∃ t27 : Int, t27 = IntKind.wrap .i64 (t25 - borrow) ∧ ((decide ((t27 : Int) < 0)) = true →
        ∃ t31 : Int, t31 = IntKind.wrap .i64 (0 - t27) ∧ ∃ t32 : Int, t32 = IntKind.wrap .i64 (t31 + 1000000000) ∧ ∃ t33 : Int, t33 = IntKind.wrap .i64 (t32 - 1) ∧ (1000000000 : Int) ≠ 0 ∧ ∃ t34 : Int, t34 = IntKind.wrap .i64 (Int.tdiv t33 1000000000) ∧ ∃ t37 : Int, t37 = IntKind.wrap .i64 (t34 * 1000000000) ∧ ∃ t38 : Int, t38 = IntKind.wrap .i64 (t27 + t37) ∧ impl_subTimes_j0 u_p u_n wv Inv mu borrow t13 t34 t38 wv R) ∧
      ((decide ((t27 : Int) < 0)) = false →
        impl_subTimes_j0 u_p u_n wv Inv mu borrow t13 0 t27 wv R)) ∧
    ((decide ((t13 : Int) < ((v_n : Nat) : Int))) = false →
      (0 ≤ (((v_n : Nat) : Int) : Int) ∧ (((v_n : Nat) : Int) : Int) < (u_n : Nat)) ∧ ptrS u_p fun ad_3 => ∃ (t48 : Int), Loads P 3 (ad_3.add (v_n * 1)) (.int .i64 t48) wv ∧ ∃ t50 : Int, t50 = IntKind.wrap .i64 (t48 - borrow) ∧ (0 ≤ (((v_n : Nat) : Int) : Int) ∧ (((v_n : Nat) : Int) : Int) < (u_n : Nat)) ∧ ptrS u_p fun ad_4 => ∃ wv_2, Stores P 3 (ad_4.add (v_n * 1)) (.int .i64 t50) wv wv_2 ∧
      (0 ≤ (((v_n : Nat) : Int) : Int) ∧ (((v_n : Nat) : Int) : Int) < (u_n : Nat)) ∧ ptrS u_p fun ad_5 => ∃ (t56 : Int), Loads P 3 (ad_5.add (v_n * 1)) (.int .i64 t56) wv_2 ∧ R (.bool (decide ((t56 : Int) < 0))) wv_2)
theorem impl_subTimes_eq (u_p : Option Addr) (u_n : Nat) (u_c : Nat) (v_p : Option Addr) (v_n : Nat) (v_c : Nat) (q : Int) (w : World) (R : Value → World → Prop) : impl_subTimes u_p u_n u_c v_p v_n v_c q w R = fsem P Tryz.f279 (fun k => cond (Nat.beq k 4) [(7, .one (.int .i64)), (13, .one (.int .i64))] ([])) [(.slice u_p u_n u_c), (.slice v_p v_n v_c), (.int .i64 q)] R w := by kernel_rfl
theorem impl_subTimes_ret {u_p : Option Addr} {u_n : Nat} {u_c : Nat} {v_p : Option Addr} {v_n : Nat} {v_c : Nat} {q : Int} {w : World} {R : Value → World → Prop} (h : impl_subTimes u_p u_n u_c v_p v_n v_c q w R) : Ret P 279 [(.slice u_p u_n u_c), (.slice v_p v_n v_c), (.int .i64 q)] w R :=
  Ret.of_fsem Tryz.func279 rfl (Eq.mp (impl_subTimes_eq u_p u_n u_c v_p v_n v_c q w R) h)
def impl_addBack (u_p : Option Addr) (u_n : Nat) (u_c : Nat) (v_p : Option Addr) (v_n : Nat) (v_c : Nat) (w : World) (R : Value → World → Prop) : Prop :=
  ∃ (Inv : Int → Int → World → Prop) (mu : Int → Int → World → Nat), Inv 0 0 w ∧
  ∀ (junk : Fr) (wv : World) (carry : Int) (t9 : Int), Inv carry t9 wv →
    ((decide ((t9 : Int) < ((v_n : Nat) : Int))) = true →
      (0 ≤ (t9 : Int) ∧ (t9 : Int) < (v_n : Nat)) ∧ ptrS v_p fun ad => ∃ (t13 : Int), Loads P 3 (ad.add (t9.toNat * 1)) (.int .i64 t13) wv ∧ (0 ≤ (t9 : Int) ∧ (t9 : Int) < (u_n : Nat)) ∧ ptrS u_p fun ad_1 => ∃ (t18 : Int), Loads P 3 (ad_1.add (t9.toNat * 1)) (.int .i64 t18) wv ∧ ∃ t20 : Int, t20 = IntKind.wrap .i64 (t18 + t13) ∧ ∃ t21 : Int, t21 = IntKind.wrap .i64 (carry + t20) ∧ (1000000000 : Int) ≠ 0 ∧ ∃ t25 : Int, t25 = Int.tmod t21 1000000000 ∧ (0 ≤ (t9 : Int) ∧ (t9 : Int) < (u_n : Nat)) ∧ ptrS u_p fun ad_2 => ∃ wv_1, Stores P 3 (ad_2.add (t9.toNat * 1)) (.int .i64 t25) wv wv_1 ∧
      (1000000000 : Int) ≠ 0 ∧ ∃ t28 : Int, t28 = IntKind.wrap .i64 (Int.tdiv t21 1000000000) ∧ ∃ t29 : Int, t29 = IntKind.wrap .i64 (t9 + 1) ∧ Inv t28 t29 wv_1 ∧ mu t28 t29 wv_1 < mu carry t9 wv) ∧
    ((decide ((t9 : Int) < ((v_n : Nat) : Int))) = false →
      (0 ≤ (((v_n : Nat) : Int) : Int) ∧ (((v_n : Nat) : Int) : Int) < (u_n : Nat)) ∧ ptrS u_p fun ad_3 => ∃ (t34 : Int), Loads P 3 (ad_3.add (v_n * 1)) (.int .i64 t34) wv ∧ ∃ t36 : Int, t36 = IntKind.wrap .i64 (t34 + carry) ∧ (0 ≤ (((v_n : Nat) : Int) : Int) ∧ (((v_n : Nat) : Int) : Int) < (u_n : Nat)) ∧ ptrS u_p fun ad_4 => ∃ wv_2, Stores P 3 (ad_4.add (v_n * 1)) (.int .i64 t36) wv wv_2 ∧
      R (.tuple #[]) wv_2)
theorem impl_addBack_eq (u_p : Option Addr) (u_n : Nat) (u_c : Nat) (v_p : Option Addr) (v_n : Nat) (v_c : Nat) (w : World) (R : Value → World → Prop) : impl_addBack u_p u_n u_c v_p v_n v_c w R = fsem P Tryz.f280 (fun k => cond (Nat.beq k 3) [(4, .one (.int .i64)), (9, .one (.int .i64))] ([])) [(.slice u_p u_n u_c), (.slice v_p v_n v_c)] R w := by kernel_rfl
theorem impl_addBack_ret {u_p : Option Addr} {u_n : Nat} {u_c : Nat} {v_p : Option Addr} {v_n : Nat} {v_c : Nat} {w : World} {R : Value → World → Prop} (h : impl_addBack u_p u_n u_c v_p v_n v_c w R) : Ret P 280 [(.slice u_p u_n u_c), (.slice v_p v_n v_c)] w R :=
  Ret.of_fsem Tryz.func280 rfl (Eq.mp (impl_addBack_eq u_p u_n u_c v_p v_n v_c w R) h)
end Go.Proofs.YtfehpaekbbmkcaaGreatDoor
