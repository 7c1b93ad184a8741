/-
  The frame-free forms of some Go functions, printed by a program of mine; each with the theorem that it is sound.
-/
import Derived.Test.YtfbmjimhjlmhkaaDoorP
namespace Go.Proofs.YtfbmjimhjlmhkaaDoor
open Go Go.Proofs.YtfbmjimhjlmhkaaDoor.Sx
set_option linter.unusedVariables false
set_option maxRecDepth 100000

def laws_szLegS (a_p : Option Addr) (a_n : Nat) (a_c : Nat) (left : Int) (w : World) (R : Value → World → Prop) : Prop :=
  ∃ t9 : Int, t9 = IntKind.wrap .i64 (left - ((a_n : Nat) : Int)) ∧ ((decide ((t9 : Int) < 0)) = true →
    R (.int .i64 (-1)) w) ∧
  ((decide ((t9 : Int) < 0)) = false →
    ∃ (Inv : Int → Int → World → Prop) (mu : Int → Int → World → Nat), Inv t9 0 w ∧
    ∀ (junk : Fr) (wv : World) (left_1 : Int) (i : Int), Inv left_1 i wv →
      ((decide ((i : Int) < ((a_n : Nat) : Int))) = true →
        (0 ≤ (i : Int) ∧ (i : Int) < (a_n : Nat)) ∧ ptrS a_p fun ad => ∃ (t210 : ByteArray) (t211 : ByteArray) (t212 : Bool) (t213_p : Option Addr) (t213_n : Nat) (t213_c : Nat), Loads P 84 (ad.add (i.toNat * 4)) (.agg #[(.string t210), (.string t211), (.bool t212), (.slice t213_p t213_n t213_c)]) wv ∧ Calls P 50 ⟨[(.agg #[(.string t210), (.string t211), (.bool t212), (.slice t213_p t213_n t213_c)]), (.int .i64 left_1)]⟩ wv fun e wv_1 =>
        ∃ (t23 : Int), e = .returned (.int .i64 t23) ∧
        ((decide ((t23 : Int) < 0)) = true →
          R (.int .i64 (-1)) wv_1) ∧
        ((decide ((t23 : Int) < 0)) = false →
          ∃ t17 : Int, t17 = IntKind.wrap .i64 (i + 1) ∧ Inv t23 t17 wv_1 ∧ mu t23 t17 wv_1 < mu left_1 i wv)) ∧
      ((decide ((i : Int) < ((a_n : Nat) : Int))) = false →
        R (.int .i64 left_1) wv))
theorem laws_szLegS_eq (a_p : Option Addr) (a_n : Nat) (a_c : Nat) (left : Int) (w : World) (R : Value → World → Prop) : laws_szLegS a_p a_n a_c left w R = fsem P Tryd.f10 (fun k => cond (Nat.beq k 6) [(1, .one (.int .i64)), (5, .one (.int .i64))] ([])) [(.slice a_p a_n a_c), (.int .i64 left)] R w := by kernel_rfl
theorem laws_szLegS_ret {a_p : Option Addr} {a_n : Nat} {a_c : Nat} {left : Int} {w : World} {R : Value → World → Prop} (h : laws_szLegS a_p a_n a_c left w R) : Ret P 10 [(.slice a_p a_n a_c), (.int .i64 left)] w R :=
  Ret.of_fsem Tryd.func10 rfl (Eq.mp (laws_szLegS_eq a_p a_n a_c left w R) h)

def laws_toLegS (a_p : Option Addr) (a_n : Nat) (a_c : Nat) (w : World) (R : Value → World → Prop) : Prop :=
  (0 ≤ (((a_n : Nat) : Int) : Int) ∧ (((a_n : Nat) : Int) : Int) ≤ ((a_n : Nat) : Int) ∧ ((64 : Nat) : Int) * ((a_n : Nat) : Int) ≤ 281474976710656) ∧
  ∀ (r : Nat) (wv : World), New w (.cells ⟨zeroRow (.agg #[(.string ByteArray.empty), (.string ByteArray.empty), (.bool false), (.slice none 0 0)]) (a_n * 4)⟩ 86 (0, 0)) r wv →
  ∃ (Inv : Int → World → Prop) (mu : Int → World → Nat), Inv 0 wv ∧
  ∀ (junk : Fr) (wv_1 : World) (i : Int), Inv i wv_1 →
    ((decide ((i : Int) < ((a_n : Nat) : Int))) = true →
      (0 ≤ (i : Int) ∧ (i : Int) < (a_n : Nat)) ∧ ptrS a_p fun ad => ∃ (t190 : ByteArray) (t191 : ByteArray) (t192 : Bool) (t193_p : Option Addr) (t193_n : Nat) (t193_c : Nat), Loads P 84 (ad.add (i.toNat * 4)) (.agg #[(.string t190), (.string t191), (.bool t192), (.slice t193_p t193_n t193_c)]) wv_1 ∧ Calls P 54 ⟨[(.agg #[(.string t190), (.string t191), (.bool t192), (.slice t193_p t193_n t193_c)])]⟩ wv_1 fun e wv_2 =>
      ∃ (t200 : ByteArray) (t201 : ByteArray) (t202 : Bool) (t203_p : Option Addr) (t203_n : Nat) (t203_c : Nat), e = .returned (.agg #[(.string t200), (.string t201), (.bool t202), (.slice t203_p t203_n t203_c)]) ∧
      (0 ≤ (i : Int) ∧ (i : Int) < (a_n : Nat)) ∧ ∃ wv_3, Stores P 86 ((⟨r, 0, none⟩ : Addr).add (i.toNat * 4)) (.agg #[(.string t200), (.string t201), (.bool t202), (.slice t203_p t203_n t203_c)]) wv_2 wv_3 ∧
      ∃ t13 : Int, t13 = IntKind.wrap .i64 (i + 1) ∧ Inv t13 wv_3 ∧ mu t13 wv_3 < mu i wv_1) ∧
    ((decide ((i : Int) < ((a_n : Nat) : Int))) = false →
      R (.slice (some ⟨r, 0, none⟩) a_n a_n) wv_1)
theorem laws_toLegS_eq (a_p : Option Addr) (a_n : Nat) (a_c : Nat) (w : World) (R : Value → World → Prop) : laws_toLegS a_p a_n a_c w R = fsem P Tryd.f12 (fun k => cond (Nat.beq k 4) [(4, .one (.int .i64))] ([])) [(.slice a_p a_n a_c)] R w := by kernel_rfl
theorem laws_toLegS_ret {a_p : Option Addr} {a_n : Nat} {a_c : Nat} {w : World} {R : Value → World → Prop} (h : laws_toLegS a_p a_n a_c w R) : Ret P 12 [(.slice a_p a_n a_c)] w R :=
  Ret.of_fsem Tryd.func12 rfl (Eq.mp (laws_toLegS_eq a_p a_n a_c w R) h)

def laws_eqLegS (a_p : Option Addr) (a_n : Nat) (a_c : Nat) (b_p : Option Addr) (b_n : Nat) (b_c : Nat) (w : World) (R : Value → World → Prop) : Prop :=
  ((decide ((((a_n : Nat) : Int) : Int) ≠ ((b_n : Nat) : Int))) = true →
    R (.bool false) w) ∧
  ((decide ((((a_n : Nat) : Int) : Int) ≠ ((b_n : Nat) : Int))) = false →
    ∃ (Inv : Int → World → Prop) (mu : Int → World → Nat), Inv 0 w ∧
    ∀ (junk : Fr) (wv : World) (i : Int), Inv i wv →
      ((decide ((i : Int) < ((a_n : Nat) : Int))) = true →
        (0 ≤ (i : Int) ∧ (i : Int) < (a_n : Nat)) ∧ ptrS a_p fun ad => ∃ (t200 : ByteArray) (t201 : ByteArray) (t202 : Bool) (t203_p : Option Addr) (t203_n : Nat) (t203_c : Nat), (∀ wv_1, Ext wv.drew wv_1 → Loads P 86 (ad.add (i.toNat * 4)) (.agg #[(.string t200), (.string t201), (.bool t202), (.slice t203_p t203_n t203_c)]) wv_1) ∧ (0 ≤ (i : Int) ∧ (i : Int) < (b_n : Nat)) ∧ ptrS b_p fun ad_1 => ∃ (t240 : ByteArray) (t241 : ByteArray) (t242 : Bool) (t243_p : Option Addr) (t243_n : Nat) (t243_c : Nat), (∀ wv_2, Ext wv.drew wv_2 → Loads P 86 (ad_1.add (i.toNat * 4)) (.agg #[(.string t240), (.string t241), (.bool t242), (.slice t243_p t243_n t243_c)]) wv_2) ∧ Calls P 57 ⟨[(.agg #[(.string t200), (.string t201), (.bool t202), (.slice t203_p t203_n t203_c)]), (.agg #[(.string t240), (.string t241), (.bool t242), (.slice t243_p t243_n t243_c)])]⟩ wv.drew fun e wv_3 =>
        ∃ (t25 : Bool), e = .returned (.bool t25) ∧
        ((!t25) = true →
          R (.bool false) wv_3) ∧
        ((!t25) = false →
          ∃ t16 : Int, t16 = IntKind.wrap .i64 (i + 1) ∧ Inv t16 wv_3 ∧ mu t16 wv_3 < mu i wv)) ∧
      ((decide ((i : Int) < ((a_n : Nat) : Int))) = false →
        R (.bool true) wv))
theorem laws_eqLegS_eq (a_p : Option Addr) (a_n : Nat) (a_c : Nat) (b_p : Option Addr) (b_n : Nat) (b_c : Nat) (w : World) (R : Value → World → Prop) : laws_eqLegS a_p a_n a_c b_p b_n b_c w R = fsem P Tryd.f14 (fun k => cond (Nat.beq k 5) [(5, .one (.int .i64))] ([])) [(.slice a_p a_n a_c), (.slice b_p b_n b_c)] R w := by kernel_rfl
theorem laws_eqLegS_ret {a_p : Option Addr} {a_n : Nat} {a_c : Nat} {b_p : Option Addr} {b_n : Nat} {b_c : Nat} {w : World} {R : Value → World → Prop} (h : laws_eqLegS a_p a_n a_c b_p b_n b_c w R) : Ret P 14 [(.slice a_p a_n a_c), (.slice b_p b_n b_c)] w R :=
  Ret.of_fsem Tryd.func14 rfl (Eq.mp (laws_eqLegS_eq a_p a_n a_c b_p b_n b_c w R) h)

def laws_szBook (a0_p : Option Addr) (a0_n : Nat) (a0_c : Nat) (left : Int) (w : World) (R : Value → World → Prop) : Prop :=
  ∀ (r : Nat) (wv : World), New w (.cells ⟨[(.slice a0_p a0_n a0_c)]⟩ 31 (0, 0)) r wv →
  ∃ (t6_p : Option Addr) (t6_n : Nat) (t6_c : Nat), Loads P 29 ((⟨r, 0, none⟩ : Addr).add 0) (.slice t6_p t6_n t6_c) wv ∧ Calls P 58 ⟨[(.slice t6_p t6_n t6_c), (.int .i64 left)]⟩ wv fun e wv_1 =>
  ∃ (t8 : Int), e = .returned (.int .i64 t8) ∧
  ((decide ((t8 : Int) < 0)) = true →
    R (.int .i64 (-1)) wv_1) ∧
  ((decide ((t8 : Int) < 0)) = false →
    R (.int .i64 t8) wv_1)
theorem laws_szBook_eq (a0_p : Option Addr) (a0_n : Nat) (a0_c : Nat) (left : Int) (w : World) (R : Value → World → Prop) : laws_szBook a0_p a0_n a0_c left w R = fsem P Tryd.f15 (fun k => []) [(.agg #[(.slice a0_p a0_n a0_c)]), (.int .i64 left)] R w := by kernel_rfl
theorem laws_szBook_ret {a0_p : Option Addr} {a0_n : Nat} {a0_c : Nat} {left : Int} {w : World} {R : Value → World → Prop} (h : laws_szBook a0_p a0_n a0_c left w R) : Ret P 15 [(.agg #[(.slice a0_p a0_n a0_c)]), (.int .i64 left)] w R :=
  Ret.of_fsem Tryd.func15 rfl (Eq.mp (laws_szBook_eq a0_p a0_n a0_c left w R) h)

def laws_toBook (a0_p : Option Addr) (a0_n : Nat) (a0_c : Nat) (w : World) (R : Value → World → Prop) : Prop :=
  ∀ (r : Nat) (wv : World), New w (.cells ⟨[(.slice a0_p a0_n a0_c)]⟩ 31 (0, 0)) r wv →
  ∀ (r_1 : Nat) (wv_1 : World), New wv (.cells ⟨[(.slice none 0 0)]⟩ 36 (0, 0)) r_1 wv_1 →
  ∀ (r_2 : Nat) (wv_2 : World), New wv_1 (.cells ⟨[(.slice none 0 0)]⟩ 36 (0, 0)) r_2 wv_2 →
  ∃ (t5_p : Option Addr) (t5_n : Nat) (t5_c : Nat), Loads P 29 ((⟨r, 0, none⟩ : Addr).add 0) (.slice t5_p t5_n t5_c) wv_2 ∧ Calls P 59 ⟨[(.slice t5_p t5_n t5_c)]⟩ wv_2 fun e wv_3 =>
  ∃ (t6_p : Option Addr) (t6_n : Nat) (t6_c : Nat), e = .returned (.slice t6_p t6_n t6_c) ∧
  ∃ wv_4, Stores P 34 ((⟨r_2, 0, none⟩ : Addr).add 0) (.slice t6_p t6_n t6_c) wv_3 wv_4 ∧
  ∃ (t80_p : Option Addr) (t80_n : Nat) (t80_c : Nat), Loads P 36 ⟨r_2, 0, none⟩ (.agg #[(.slice t80_p t80_n t80_c)]) wv_4 ∧ ∃ wv_5, Stores P 36 ⟨r_1, 0, none⟩ (.agg #[(.slice t80_p t80_n t80_c)]) wv_4 wv_5 ∧
  ∃ (r0_p : Option Addr) (r0_n : Nat) (r0_c : Nat), Loads P 36 ⟨r_1, 0, none⟩ (.agg #[(.slice r0_p r0_n r0_c)]) wv_5 ∧ R (.agg #[(.slice r0_p r0_n r0_c)]) wv_5
theorem laws_toBook_eq (a0_p : Option Addr) (a0_n : Nat) (a0_c : Nat) (w : World) (R : Value → World → Prop) : laws_toBook a0_p a0_n a0_c w R = fsem P Tryd.f17 (fun k => []) [(.agg #[(.slice a0_p a0_n a0_c)])] R w := by kernel_rfl
theorem laws_toBook_ret {a0_p : Option Addr} {a0_n : Nat} {a0_c : Nat} {w : World} {R : Value → World → Prop} (h : laws_toBook a0_p a0_n a0_c w R) : Ret P 17 [(.agg #[(.slice a0_p a0_n a0_c)])] w R :=
  Ret.of_fsem Tryd.func17 rfl (Eq.mp (laws_toBook_eq a0_p a0_n a0_c w R) h)

def laws_eqBook (a0_p : Option Addr) (a0_n : Nat) (a0_c : Nat) (b0_p : Option Addr) (b0_n : Nat) (b0_c : Nat) (w : World) (R : Value → World → Prop) : Prop :=
  ∀ (r : Nat) (wv : World), New w (.cells ⟨[(.slice a0_p a0_n a0_c)]⟩ 36 (0, 0)) r wv →
  ∀ (r_1 : Nat) (wv_1 : World), New wv (.cells ⟨[(.slice b0_p b0_n b0_c)]⟩ 36 (0, 0)) r_1 wv_1 →
  ∃ (t6_p : Option Addr) (t6_n : Nat) (t6_c : Nat), Loads P 34 ((⟨r, 0, none⟩ : Addr).add 0) (.slice t6_p t6_n t6_c) wv_1 ∧ ∃ (t8_p : Option Addr) (t8_n : Nat) (t8_c : Nat), Loads P 34 ((⟨r_1, 0, none⟩ : Addr).add 0) (.slice t8_p t8_n t8_c) wv_1 ∧ Calls P 60 ⟨[(.slice t6_p t6_n t6_c), (.slice t8_p t8_n t8_c)]⟩ wv_1 fun e wv_2 =>
  ∃ (t9 : Bool), e = .returned (.bool t9) ∧
  ((!t9) = true →
    R (.bool false) wv_2) ∧
  ((!t9) = false →
    R (.bool true) wv_2)
theorem laws_eqBook_eq (a0_p : Option Addr) (a0_n : Nat) (a0_c : Nat) (b0_p : Option Addr) (b0_n : Nat) (b0_c : Nat) (w : World) (R : Value → World → Prop) : laws_eqBook a0_p a0_n a0_c b0_p b0_n b0_c w R = fsem P Tryd.f19 (fun k => []) [(.agg #[(.slice a0_p a0_n a0_c)]), (.agg #[(.slice b0_p b0_n b0_c)])] R w := by kernel_rfl
theorem laws_eqBook_ret {a0_p : Option Addr} {a0_n : Nat} {a0_c : Nat} {b0_p : Option Addr} {b0_n : Nat} {b0_c : Nat} {w : World} {R : Value → World → Prop} (h : laws_eqBook a0_p a0_n a0_c b0_p b0_n b0_c w R) : Ret P 19 [(.agg #[(.slice a0_p a0_n a0_c)]), (.agg #[(.slice b0_p b0_n b0_c)])] w R :=
  Ret.of_fsem Tryd.func19 rfl (Eq.mp (laws_eqBook_eq a0_p a0_n a0_c b0_p b0_n b0_c w R) h)

def laws_szDebtS (a_p : Option Addr) (a_n : Nat) (a_c : Nat) (left : Int) (w : World) (R : Value → World → Prop) : Prop :=
  ∃ t9 : Int, t9 = IntKind.wrap .i64 (left - ((a_n : Nat) : Int)) ∧ ((decide ((t9 : Int) < 0)) = true →
    R (.int .i64 (-1)) w) ∧
  ((decide ((t9 : Int) < 0)) = false →
    ∃ (Inv : Int → Int → World → Prop) (mu : Int → Int → World → Nat), Inv t9 0 w ∧
    ∀ (junk : Fr) (wv : World) (left_1 : Int) (i : Int), Inv left_1 i wv →
      ((decide ((i : Int) < ((a_n : Nat) : Int))) = true →
        (0 ≤ (i : Int) ∧ (i : Int) < (a_n : Nat)) ∧ ptrS a_p fun ad => ∃ (t210 : ByteArray) (t211 : ByteArray) (t212 : ByteArray) (t213 : Bool) (t214_p : Option Addr) (t214_n : Nat) (t214_c : Nat), Loads P 98 (ad.add (i.toNat * 5)) (.agg #[(.string t210), (.string t211), (.string t212), (.bool t213), (.slice t214_p t214_n t214_c)]) wv ∧ Calls P 61 ⟨[(.agg #[(.string t210), (.string t211), (.string t212), (.bool t213), (.slice t214_p t214_n t214_c)]), (.int .i64 left_1)]⟩ wv fun e wv_1 =>
        ∃ (t23 : Int), e = .returned (.int .i64 t23) ∧
        ((decide ((t23 : Int) < 0)) = true →
          R (.int .i64 (-1)) wv_1) ∧
        ((decide ((t23 : Int) < 0)) = false →
          ∃ t17 : Int, t17 = IntKind.wrap .i64 (i + 1) ∧ Inv t23 t17 wv_1 ∧ mu t23 t17 wv_1 < mu left_1 i wv)) ∧
      ((decide ((i : Int) < ((a_n : Nat) : Int))) = false →
        R (.int .i64 left_1) wv))
theorem laws_szDebtS_eq (a_p : Option Addr) (a_n : Nat) (a_c : Nat) (left : Int) (w : World) (R : Value → World → Prop) : laws_szDebtS a_p a_n a_c left w R = fsem P Tryd.f20 (fun k => cond (Nat.beq k 6) [(1, .one (.int .i64)), (5, .one (.int .i64))] ([])) [(.slice a_p a_n a_c), (.int .i64 left)] R w := by kernel_rfl
theorem laws_szDebtS_ret {a_p : Option Addr} {a_n : Nat} {a_c : Nat} {left : Int} {w : World} {R : Value → World → Prop} (h : laws_szDebtS a_p a_n a_c left w R) : Ret P 20 [(.slice a_p a_n a_c), (.int .i64 left)] w R :=
  Ret.of_fsem Tryd.func20 rfl (Eq.mp (laws_szDebtS_eq a_p a_n a_c left w R) h)

def laws_toDebtS (a_p : Option Addr) (a_n : Nat) (a_c : Nat) (w : World) (R : Value → World → Prop) : Prop :=
  (0 ≤ (((a_n : Nat) : Int) : Int) ∧ (((a_n : Nat) : Int) : Int) ≤ ((a_n : Nat) : Int) ∧ ((80 : Nat) : Int) * ((a_n : Nat) : Int) ≤ 281474976710656) ∧
  ∀ (r : Nat) (wv : World), New w (.cells ⟨zeroRow (.agg #[(.string ByteArray.empty), (.string ByteArray.empty), (.string ByteArray.empty), (.bool false), (.slice none 0 0)]) (a_n * 5)⟩ 100 (0, 0)) r wv →
  ∃ (Inv : Int → World → Prop) (mu : Int → World → Nat), Inv 0 wv ∧
  ∀ (junk : Fr) (wv_1 : World) (i : Int), Inv i wv_1 →
    ((decide ((i : Int) < ((a_n : Nat) : Int))) = true →
      (0 ≤ (i : Int) ∧ (i : Int) < (a_n : Nat)) ∧ ptrS a_p fun ad => ∃ (t190 : ByteArray) (t191 : ByteArray) (t192 : ByteArray) (t193 : Bool) (t194_p : Option Addr) (t194_n : Nat) (t194_c : Nat), Loads P 98 (ad.add (i.toNat * 5)) (.agg #[(.string t190), (.string t191), (.string t192), (.bool t193), (.slice t194_p t194_n t194_c)]) wv_1 ∧ Calls P 64 ⟨[(.agg #[(.string t190), (.string t191), (.string t192), (.bool t193), (.slice t194_p t194_n t194_c)])]⟩ wv_1 fun e wv_2 =>
      ∃ (t200 : ByteArray) (t201 : ByteArray) (t202 : ByteArray) (t203 : Bool) (t204_p : Option Addr) (t204_n : Nat) (t204_c : Nat), e = .returned (.agg #[(.string t200), (.string t201), (.string t202), (.bool t203), (.slice t204_p t204_n t204_c)]) ∧
      (0 ≤ (i : Int) ∧ (i : Int) < (a_n : Nat)) ∧ ∃ wv_3, Stores P 100 ((⟨r, 0, none⟩ : Addr).add (i.toNat * 5)) (.agg #[(.string t200), (.string t201), (.string t202), (.bool t203), (.slice t204_p t204_n t204_c)]) wv_2 wv_3 ∧
      ∃ t13 : Int, t13 = IntKind.wrap .i64 (i + 1) ∧ Inv t13 wv_3 ∧ mu t13 wv_3 < mu i wv_1) ∧
    ((decide ((i : Int) < ((a_n : Nat) : Int))) = false →
      R (.slice (some ⟨r, 0, none⟩) a_n a_n) wv_1)
theorem laws_toDebtS_eq (a_p : Option Addr) (a_n : Nat) (a_c : Nat) (w : World) (R : Value → World → Prop) : laws_toDebtS a_p a_n a_c w R = fsem P Tryd.f22 (fun k => cond (Nat.beq k 4) [(4, .one (.int .i64))] ([])) [(.slice a_p a_n a_c)] R w := by kernel_rfl
theorem laws_toDebtS_ret {a_p : Option Addr} {a_n : Nat} {a_c : Nat} {w : World} {R : Value → World → Prop} (h : laws_toDebtS a_p a_n a_c w R) : Ret P 22 [(.slice a_p a_n a_c)] w R :=
  Ret.of_fsem Tryd.func22 rfl (Eq.mp (laws_toDebtS_eq a_p a_n a_c w R) h)

def laws_eqDebtS (a_p : Option Addr) (a_n : Nat) (a_c : Nat) (b_p : Option Addr) (b_n : Nat) (b_c : Nat) (w : World) (R : Value → World → Prop) : Prop :=
  ((decide ((((a_n : Nat) : Int) : Int) ≠ ((b_n : Nat) : Int))) = true →
    R (.bool false) w) ∧
  ((decide ((((a_n : Nat) : Int) : Int) ≠ ((b_n : Nat) : Int))) = false →
    ∃ (Inv : Int → World → Prop) (mu : Int → World → Nat), Inv 0 w ∧
    ∀ (junk : Fr) (wv : World) (i : Int), Inv i wv →
      ((decide ((i : Int) < ((a_n : Nat) : Int))) = true →
        (0 ≤ (i : Int) ∧ (i : Int) < (a_n : Nat)) ∧ ptrS a_p fun ad => ∃ (t200 : ByteArray) (t201 : ByteArray) (t202 : ByteArray) (t203 : Bool) (t204_p : Option Addr) (t204_n : Nat) (t204_c : Nat), (∀ wv_1, Ext wv.drew wv_1 → Loads P 100 (ad.add (i.toNat * 5)) (.agg #[(.string t200), (.string t201), (.string t202), (.bool t203), (.slice t204_p t204_n t204_c)]) wv_1) ∧ (0 ≤ (i : Int) ∧ (i : Int) < (b_n : Nat)) ∧ ptrS b_p fun ad_1 => ∃ (t240 : ByteArray) (t241 : ByteArray) (t242 : ByteArray) (t243 : Bool) (t244_p : Option Addr) (t244_n : Nat) (t244_c : Nat), (∀ wv_2, Ext wv.drew wv_2 → Loads P 100 (ad_1.add (i.toNat * 5)) (.agg #[(.string t240), (.string t241), (.string t242), (.bool t243), (.slice t244_p t244_n t244_c)]) wv_2) ∧ Calls P 67 ⟨[(.agg #[(.string t200), (.string t201), (.string t202), (.bool t203), (.slice t204_p t204_n t204_c)]), (.agg #[(.string t240), (.string t241), (.string t242), (.bool t243), (.slice t244_p t244_n t244_c)])]⟩ wv.drew fun e wv_3 =>
        ∃ (t25 : Bool), e = .returned (.bool t25) ∧
        ((!t25) = true →
          R (.bool false) wv_3) ∧
        ((!t25) = false →
          ∃ t16 : Int, t16 = IntKind.wrap .i64 (i + 1) ∧ Inv t16 wv_3 ∧ mu t16 wv_3 < mu i wv)) ∧
      ((decide ((i : Int) < ((a_n : Nat) : Int))) = false →
        R (.bool true) wv))
theorem laws_eqDebtS_eq (a_p : Option Addr) (a_n : Nat) (a_c : Nat) (b_p : Option Addr) (b_n : Nat) (b_c : Nat) (w : World) (R : Value → World → Prop) : laws_eqDebtS a_p a_n a_c b_p b_n b_c w R = fsem P Tryd.f24 (fun k => cond (Nat.beq k 5) [(5, .one (.int .i64))] ([])) [(.slice a_p a_n a_c), (.slice b_p b_n b_c)] R w := by kernel_rfl
theorem laws_eqDebtS_ret {a_p : Option Addr} {a_n : Nat} {a_c : Nat} {b_p : Option Addr} {b_n : Nat} {b_c : Nat} {w : World} {R : Value → World → Prop} (h : laws_eqDebtS a_p a_n a_c b_p b_n b_c w R) : Ret P 24 [(.slice a_p a_n a_c), (.slice b_p b_n b_c)] w R :=
  Ret.of_fsem Tryd.func24 rfl (Eq.mp (laws_eqDebtS_eq a_p a_n a_c b_p b_n b_c w R) h)

def laws_markLegS (a_p : Option Addr) (a_n : Nat) (a_c : Nat) (k : Int) (w : World) (R : Value → World → Prop) : Prop :=
  ∃ (Inv : Int → Int → World → Prop) (mu : Int → Int → World → Nat), Inv k 0 w ∧
  ∀ (junk : Fr) (wv : World) (k_1 : Int) (i : Int), Inv k_1 i wv →
    ((decide ((i : Int) < ((a_n : Nat) : Int))) = true →
      Calls P 70 ⟨[(.int .i64 k_1)]⟩ wv fun e wv_1 =>
      ∃ (t15 : ByteArray), e = .returned (.string t15) ∧
      (0 ≤ (i : Int) ∧ (i : Int) < (a_n : Nat)) ∧ ptrS a_p fun ad => ∃ wv_2, Stores P 9 ((ad.add (i.toNat * 4)).add 0) (.string t15) wv_1 wv_2 ∧
      ∃ t19 : Int, t19 = IntKind.wrap .i64 (k_1 + 1) ∧ Calls P 70 ⟨[(.int .i64 t19)]⟩ wv_2 fun e_1 wv_3 =>
      ∃ (t23 : ByteArray), e_1 = .returned (.string t23) ∧
      (0 ≤ (i : Int) ∧ (i : Int) < (a_n : Nat)) ∧ ptrS a_p fun ad_1 => ∃ wv_4, Stores P 9 (((ad_1.add (i.toNat * 4)).add 1).add 0) (.string t23) wv_3 wv_4 ∧
      ∃ t28 : Int, t28 = IntKind.wrap .i64 (t19 + 1) ∧ (3 : Int) ≠ 0 ∧ ∃ t32 : Int, t32 = Int.tmod t28 3 ∧ (0 ≤ (i : Int) ∧ (i : Int) < (a_n : Nat)) ∧ ptrS a_p fun ad_2 => ∃ wv_5, Stores P 4 ((((ad_2.add (i.toNat * 4)).add 1).add 1).add 0) (.bool (decide ((t32 : Int) = 0))) wv_4 wv_5 ∧
      ∃ t39 : Int, t39 = IntKind.wrap .i64 (t28 + 1) ∧ (0 ≤ (i : Int) ∧ (i : Int) < (a_n : Nat)) ∧ ptrS a_p fun ad_3 => ∃ (t46_p : Option Addr) (t46_n : Nat) (t46_c : Nat), Loads P 52 ((((ad_3.add (i.toNat * 4)).add 1).add 1).add 1) (.slice t46_p t46_n t46_c) wv_5 ∧ Calls P 71 ⟨[(.slice t46_p t46_n t46_c), (.int .i64 t39)]⟩ wv_5 fun e_2 wv_6 =>
      ∃ (t48 : Int), e_2 = .returned (.int .i64 t48) ∧
      ∃ t11 : Int, t11 = IntKind.wrap .i64 (i + 1) ∧ Inv t48 t11 wv_6 ∧ mu t48 t11 wv_6 < mu k_1 i wv) ∧
    ((decide ((i : Int) < ((a_n : Nat) : Int))) = false →
      R (.int .i64 k_1) wv)
theorem laws_markLegS_eq (a_p : Option Addr) (a_n : Nat) (a_c : Nat) (k : Int) (w : World) (R : Value → World → Prop) : laws_markLegS a_p a_n a_c k w R = fsem P Tryd.f27 (fun k => cond (Nat.beq k 3) [(1, .one (.int .i64)), (5, .one (.int .i64))] ([])) [(.slice a_p a_n a_c), (.int .i64 k)] R w := by kernel_rfl
theorem laws_markLegS_ret {a_p : Option Addr} {a_n : Nat} {a_c : Nat} {k : Int} {w : World} {R : Value → World → Prop} (h : laws_markLegS a_p a_n a_c k w R) : Ret P 27 [(.slice a_p a_n a_c), (.int .i64 k)] w R :=
  Ret.of_fsem Tryd.func27 rfl (Eq.mp (laws_markLegS_eq a_p a_n a_c k w R) h)

def laws_heldLegS (a_p : Option Addr) (a_n : Nat) (a_c : Nat) (k : Int) (w : World) (R : Value → World → Prop) : Prop :=
  ∃ (Inv : Int → Int → World → Prop) (mu : Int → Int → World → Nat), Inv k 0 w ∧
  ∀ (junk : Fr) (wv : World) (k_1 : Int) (i : Int), Inv k_1 i wv →
    ((decide ((i : Int) < ((a_n : Nat) : Int))) = true →
      (0 ≤ (i : Int) ∧ (i : Int) < (a_n : Nat)) ∧ ptrS a_p fun ad => ∃ (t16 : ByteArray), (∀ wv_1, Ext wv.drew wv_1 → Loads P 9 ((ad.add (i.toNat * 4)).add 0) (.string t16) wv_1) ∧ Calls P 70 ⟨[(.int .i64 k_1)]⟩ wv.drew fun e wv_2 =>
      ∃ (t18 : ByteArray), e = .returned (.string t18) ∧
      Ext wv.drew wv_2 ∧ ((decide (t16 ≠ t18)) = true →
        R (.int .i64 (-1)) wv_2) ∧
      ((decide (t16 ≠ t18)) = false →
        ∃ t21 : Int, t21 = IntKind.wrap .i64 (k_1 + 1) ∧ (0 ≤ (i : Int) ∧ (i : Int) < (a_n : Nat)) ∧ ptrS a_p fun ad_1 => ∃ (t27 : ByteArray), (∀ wv_3, Ext wv_2.drew wv_3 → Loads P 9 (((ad_1.add (i.toNat * 4)).add 1).add 0) (.string t27) wv_3) ∧ Calls P 70 ⟨[(.int .i64 t21)]⟩ wv_2.drew fun e_1 wv_4 =>
        ∃ (t29 : ByteArray), e_1 = .returned (.string t29) ∧
        Ext wv_2.drew wv_4 ∧ ((decide (t27 ≠ t29)) = true →
          R (.int .i64 (-1)) wv_4) ∧
        ((decide (t27 ≠ t29)) = false →
          ∃ t32 : Int, t32 = IntKind.wrap .i64 (t21 + 1) ∧ (0 ≤ (i : Int) ∧ (i : Int) < (a_n : Nat)) ∧ ptrS a_p fun ad_2 => ∃ (t39 : Bool), Loads P 4 ((((ad_2.add (i.toNat * 4)).add 1).add 1).add 0) (.bool t39) wv_4 ∧ (3 : Int) ≠ 0 ∧ ∃ t41 : Int, t41 = Int.tmod t32 3 ∧ ((!(t39 == (decide ((t41 : Int) = 0)))) = true →
            R (.int .i64 (-1)) wv_4) ∧
          ((!(t39 == (decide ((t41 : Int) = 0)))) = false →
            ∃ t45 : Int, t45 = IntKind.wrap .i64 (t32 + 1) ∧ (0 ≤ (i : Int) ∧ (i : Int) < (a_n : Nat)) ∧ ptrS a_p fun ad_3 => ∃ (t52_p : Option Addr) (t52_n : Nat) (t52_c : Nat), Loads P 52 ((((ad_3.add (i.toNat * 4)).add 1).add 1).add 1) (.slice t52_p t52_n t52_c) wv_4 ∧ Calls P 72 ⟨[(.slice t52_p t52_n t52_c), (.int .i64 t45)]⟩ wv_4 fun e_2 wv_5 =>
            ∃ (t54 : Int), e_2 = .returned (.int .i64 t54) ∧
            ((decide ((t54 : Int) < 0)) = true →
              R (.int .i64 (-1)) wv_5) ∧
            ((decide ((t54 : Int) < 0)) = false →
              ∃ t11 : Int, t11 = IntKind.wrap .i64 (i + 1) ∧ Inv t54 t11 wv_5 ∧ mu t54 t11 wv_5 < mu k_1 i wv))))) ∧
    ((decide ((i : Int) < ((a_n : Nat) : Int))) = false →
      R (.int .i64 k_1) wv)
theorem laws_heldLegS_eq (a_p : Option Addr) (a_n : Nat) (a_c : Nat) (k : Int) (w : World) (R : Value → World → Prop) : laws_heldLegS a_p a_n a_c k w R = fsem P Tryd.f28 (fun k => cond (Nat.beq k 3) [(1, .one (.int .i64)), (5, .one (.int .i64))] ([])) [(.slice a_p a_n a_c), (.int .i64 k)] R w := by kernel_rfl
theorem laws_heldLegS_ret {a_p : Option Addr} {a_n : Nat} {a_c : Nat} {k : Int} {w : World} {R : Value → World → Prop} (h : laws_heldLegS a_p a_n a_c k w R) : Ret P 28 [(.slice a_p a_n a_c), (.int .i64 k)] w R :=
  Ret.of_fsem Tryd.func28 rfl (Eq.mp (laws_heldLegS_eq a_p a_n a_c k w R) h)

def laws_szRowS (a_p : Option Addr) (a_n : Nat) (a_c : Nat) (left : Int) (w : World) (R : Value → World → Prop) : Prop :=
  ∃ t9 : Int, t9 = IntKind.wrap .i64 (left - ((a_n : Nat) : Int)) ∧ ((decide ((t9 : Int) < 0)) = true →
    R (.int .i64 (-1)) w) ∧
  ((decide ((t9 : Int) < 0)) = false →
    ∃ (Inv : Int → Int → World → Prop) (mu : Int → Int → World → Nat), Inv t9 0 w ∧
    ∀ (junk : Fr) (wv : World) (left_1 : Int) (i : Int), Inv left_1 i wv →
      ((decide ((i : Int) < ((a_n : Nat) : Int))) = true →
        (0 ≤ (i : Int) ∧ (i : Int) < (a_n : Nat)) ∧ ptrS a_p fun ad => ∃ (t210 : ByteArray) (t211 : Bool) (t212_p : Option Addr) (t212_n : Nat) (t212_c : Nat) (t213 : ByteArray) (t214 : Bool) (t215_p : Option Addr) (t215_n : Nat) (t215_c : Nat) (t216 : ByteArray) (t217 : Bool) (t218_p : Option Addr) (t218_n : Nat) (t218_c : Nat), Loads P 111 (ad.add (i.toNat * 9)) (.agg #[(.string t210), (.bool t211), (.slice t212_p t212_n t212_c), (.string t213), (.bool t214), (.slice t215_p t215_n t215_c), (.string t216), (.bool t217), (.slice t218_p t218_n t218_c)]) wv ∧ Calls P 73 ⟨[(.agg #[(.string t210), (.bool t211), (.slice t212_p t212_n t212_c), (.string t213), (.bool t214), (.slice t215_p t215_n t215_c), (.string t216), (.bool t217), (.slice t218_p t218_n t218_c)]), (.int .i64 left_1)]⟩ wv fun e wv_1 =>
        ∃ (t23 : Int), e = .returned (.int .i64 t23) ∧
        ((decide ((t23 : Int) < 0)) = true →
          R (.int .i64 (-1)) wv_1) ∧
        ((decide ((t23 : Int) < 0)) = false →
          ∃ t17 : Int, t17 = IntKind.wrap .i64 (i + 1) ∧ Inv t23 t17 wv_1 ∧ mu t23 t17 wv_1 < mu left_1 i wv)) ∧
      ((decide ((i : Int) < ((a_n : Nat) : Int))) = false →
        R (.int .i64 left_1) wv))
theorem laws_szRowS_eq (a_p : Option Addr) (a_n : Nat) (a_c : Nat) (left : Int) (w : World) (R : Value → World → Prop) : laws_szRowS a_p a_n a_c left w R = fsem P Tryd.f29 (fun k => cond (Nat.beq k 6) [(1, .one (.int .i64)), (5, .one (.int .i64))] ([])) [(.slice a_p a_n a_c), (.int .i64 left)] R w := by kernel_rfl
theorem laws_szRowS_ret {a_p : Option Addr} {a_n : Nat} {a_c : Nat} {left : Int} {w : World} {R : Value → World → Prop} (h : laws_szRowS a_p a_n a_c left w R) : Ret P 29 [(.slice a_p a_n a_c), (.int .i64 left)] w R :=
  Ret.of_fsem Tryd.func29 rfl (Eq.mp (laws_szRowS_eq a_p a_n a_c left w R) h)

def laws_toRowS (a_p : Option Addr) (a_n : Nat) (a_c : Nat) (w : World) (R : Value → World → Prop) : Prop :=
  (0 ≤ (((a_n : Nat) : Int) : Int) ∧ (((a_n : Nat) : Int) : Int) ≤ ((a_n : Nat) : Int) ∧ ((144 : Nat) : Int) * ((a_n : Nat) : Int) ≤ 281474976710656) ∧
  ∀ (r : Nat) (wv : World), New w (.cells ⟨zeroRow (.agg #[(.string ByteArray.empty), (.bool false), (.slice none 0 0), (.string ByteArray.empty), (.bool false), (.slice none 0 0), (.string ByteArray.empty), (.bool false), (.slice none 0 0)]) (a_n * 9)⟩ 114 (0, 0)) r wv →
  ∃ (Inv : Int → World → Prop) (mu : Int → World → Nat), Inv 0 wv ∧
  ∀ (junk : Fr) (wv_1 : World) (i : Int), Inv i wv_1 →
    ((decide ((i : Int) < ((a_n : Nat) : Int))) = true →
      (0 ≤ (i : Int) ∧ (i : Int) < (a_n : Nat)) ∧ ptrS a_p fun ad => ∃ (t190 : ByteArray) (t191 : Bool) (t192_p : Option Addr) (t192_n : Nat) (t192_c : Nat) (t193 : ByteArray) (t194 : Bool) (t195_p : Option Addr) (t195_n : Nat) (t195_c : Nat) (t196 : ByteArray) (t197 : Bool) (t198_p : Option Addr) (t198_n : Nat) (t198_c : Nat), Loads P 111 (ad.add (i.toNat * 9)) (.agg #[(.string t190), (.bool t191), (.slice t192_p t192_n t192_c), (.string t193), (.bool t194), (.slice t195_p t195_n t195_c), (.string t196), (.bool t197), (.slice t198_p t198_n t198_c)]) wv_1 ∧ Calls P 75 ⟨[(.agg #[(.string t190), (.bool t191), (.slice t192_p t192_n t192_c), (.string t193), (.bool t194), (.slice t195_p t195_n t195_c), (.string t196), (.bool t197), (.slice t198_p t198_n t198_c)])]⟩ wv_1 fun e wv_2 =>
      ∃ (t200 : ByteArray) (t201 : Bool) (t202_p : Option Addr) (t202_n : Nat) (t202_c : Nat) (t203 : ByteArray) (t204 : Bool) (t205_p : Option Addr) (t205_n : Nat) (t205_c : Nat) (t206 : ByteArray) (t207 : Bool) (t208_p : Option Addr) (t208_n : Nat) (t208_c : Nat), e = .returned (.agg #[(.string t200), (.bool t201), (.slice t202_p t202_n t202_c), (.string t203), (.bool t204), (.slice t205_p t205_n t205_c), (.string t206), (.bool t207), (.slice t208_p t208_n t208_c)]) ∧
      (0 ≤ (i : Int) ∧ (i : Int) < (a_n : Nat)) ∧ ∃ wv_3, Stores P 114 ((⟨r, 0, none⟩ : Addr).add (i.toNat * 9)) (.agg #[(.string t200), (.bool t201), (.slice t202_p t202_n t202_c), (.string t203), (.bool t204), (.slice t205_p t205_n t205_c), (.string t206), (.bool t207), (.slice t208_p t208_n t208_c)]) wv_2 wv_3 ∧
      ∃ t13 : Int, t13 = IntKind.wrap .i64 (i + 1) ∧ Inv t13 wv_3 ∧ mu t13 wv_3 < mu i wv_1) ∧
    ((decide ((i : Int) < ((a_n : Nat) : Int))) = false →
      R (.slice (some ⟨r, 0, none⟩) a_n a_n) wv_1)
theorem laws_toRowS_eq (a_p : Option Addr) (a_n : Nat) (a_c : Nat) (w : World) (R : Value → World → Prop) : laws_toRowS a_p a_n a_c w R = fsem P Tryd.f31 (fun k => cond (Nat.beq k 4) [(4, .one (.int .i64))] ([])) [(.slice a_p a_n a_c)] R w := by kernel_rfl
theorem laws_toRowS_ret {a_p : Option Addr} {a_n : Nat} {a_c : Nat} {w : World} {R : Value → World → Prop} (h : laws_toRowS a_p a_n a_c w R) : Ret P 31 [(.slice a_p a_n a_c)] w R :=
  Ret.of_fsem Tryd.func31 rfl (Eq.mp (laws_toRowS_eq a_p a_n a_c w R) h)

def laws_eqMoney (a0 : ByteArray) (a1 : Bool) (a2_p : Option Addr) (a2_n : Nat) (a2_c : Nat) (b0 : ByteArray) (b1 : Bool) (b2_p : Option Addr) (b2_n : Nat) (b2_c : Nat) (w : World) (R : Value → World → Prop) : Prop :=
  ∀ (r : Nat) (wv : World), New w (.cells ⟨[(.string a0), (.bool a1), (.slice a2_p a2_n a2_c)]⟩ 56 (0, 0)) r wv →
  ∀ (r_1 : Nat) (wv_1 : World), New wv (.cells ⟨[(.string b0), (.bool b1), (.slice b2_p b2_n b2_c)]⟩ 56 (0, 0)) r_1 wv_1 →
  ∃ (t6 : ByteArray), Loads P 9 ((⟨r, 0, none⟩ : Addr).add 0) (.string t6) wv_1 ∧ ∃ (t8 : ByteArray), Loads P 9 ((⟨r_1, 0, none⟩ : Addr).add 0) (.string t8) wv_1 ∧ ((decide (t6 ≠ t8)) = true →
    R (.bool false) wv_1) ∧
  ((decide (t6 ≠ t8)) = false →
    ∃ (t110 : Bool) (t111_p : Option Addr) (t111_n : Nat) (t111_c : Nat), Loads P 54 ((⟨r, 0, none⟩ : Addr).add 1) (.agg #[(.bool t110), (.slice t111_p t111_n t111_c)]) wv_1 ∧ ∃ (t130 : Bool) (t131_p : Option Addr) (t131_n : Nat) (t131_c : Nat), Loads P 54 ((⟨r_1, 0, none⟩ : Addr).add 1) (.agg #[(.bool t130), (.slice t131_p t131_n t131_c)]) wv_1 ∧ Calls P 40 ⟨[(.agg #[(.bool t110), (.slice t111_p t111_n t111_c)]), (.agg #[(.bool t130), (.slice t131_p t131_n t131_c)])]⟩ wv_1 fun e wv_2 =>
    ∃ (t14 : Bool), e = .returned (.bool t14) ∧
    ((!t14) = true →
      R (.bool false) wv_2) ∧
    ((!t14) = false →
      R (.bool true) wv_2))
theorem laws_eqMoney_eq (a0 : ByteArray) (a1 : Bool) (a2_p : Option Addr) (a2_n : Nat) (a2_c : Nat) (b0 : ByteArray) (b1 : Bool) (b2_p : Option Addr) (b2_n : Nat) (b2_c : Nat) (w : World) (R : Value → World → Prop) : laws_eqMoney a0 a1 a2_p a2_n a2_c b0 b1 b2_p b2_n b2_c w R = fsem P Tryd.f33 (fun k => []) [(.agg #[(.string a0), (.bool a1), (.slice a2_p a2_n a2_c)]), (.agg #[(.string b0), (.bool b1), (.slice b2_p b2_n b2_c)])] R w := by kernel_rfl
theorem laws_eqMoney_ret {a0 : ByteArray} {a1 : Bool} {a2_p : Option Addr} {a2_n : Nat} {a2_c : Nat} {b0 : ByteArray} {b1 : Bool} {b2_p : Option Addr} {b2_n : Nat} {b2_c : Nat} {w : World} {R : Value → World → Prop} (h : laws_eqMoney a0 a1 a2_p a2_n a2_c b0 b1 b2_p b2_n b2_c w R) : Ret P 33 [(.agg #[(.string a0), (.bool a1), (.slice a2_p a2_n a2_c)]), (.agg #[(.string b0), (.bool b1), (.slice b2_p b2_n b2_c)])] w R :=
  Ret.of_fsem Tryd.func33 rfl (Eq.mp (laws_eqMoney_eq a0 a1 a2_p a2_n a2_c b0 b1 b2_p b2_n b2_c w R) h)

def laws_eqRowS (a_p : Option Addr) (a_n : Nat) (a_c : Nat) (b_p : Option Addr) (b_n : Nat) (b_c : Nat) (w : World) (R : Value → World → Prop) : Prop :=
  ((decide ((((a_n : Nat) : Int) : Int) ≠ ((b_n : Nat) : Int))) = true →
    R (.bool false) w) ∧
  ((decide ((((a_n : Nat) : Int) : Int) ≠ ((b_n : Nat) : Int))) = false →
    ∃ (Inv : Int → World → Prop) (mu : Int → World → Nat), Inv 0 w ∧
    ∀ (junk : Fr) (wv : World) (i : Int), Inv i wv →
      ((decide ((i : Int) < ((a_n : Nat) : Int))) = true →
        (0 ≤ (i : Int) ∧ (i : Int) < (a_n : Nat)) ∧ ptrS a_p fun ad => ∃ (t200 : ByteArray) (t201 : Bool) (t202_p : Option Addr) (t202_n : Nat) (t202_c : Nat) (t203 : ByteArray) (t204 : Bool) (t205_p : Option Addr) (t205_n : Nat) (t205_c : Nat) (t206 : ByteArray) (t207 : Bool) (t208_p : Option Addr) (t208_n : Nat) (t208_c : Nat), (∀ wv_1, Ext wv.drew wv_1 → Loads P 114 (ad.add (i.toNat * 9)) (.agg #[(.string t200), (.bool t201), (.slice t202_p t202_n t202_c), (.string t203), (.bool t204), (.slice t205_p t205_n t205_c), (.string t206), (.bool t207), (.slice t208_p t208_n t208_c)]) wv_1) ∧ (0 ≤ (i : Int) ∧ (i : Int) < (b_n : Nat)) ∧ ptrS b_p fun ad_1 => ∃ (t240 : ByteArray) (t241 : Bool) (t242_p : Option Addr) (t242_n : Nat) (t242_c : Nat) (t243 : ByteArray) (t244 : Bool) (t245_p : Option Addr) (t245_n : Nat) (t245_c : Nat) (t246 : ByteArray) (t247 : Bool) (t248_p : Option Addr) (t248_n : Nat) (t248_c : Nat), (∀ wv_2, Ext wv.drew wv_2 → Loads P 114 (ad_1.add (i.toNat * 9)) (.agg #[(.string t240), (.bool t241), (.slice t242_p t242_n t242_c), (.string t243), (.bool t244), (.slice t245_p t245_n t245_c), (.string t246), (.bool t247), (.slice t248_p t248_n t248_c)]) wv_2) ∧ Calls P 77 ⟨[(.agg #[(.string t200), (.bool t201), (.slice t202_p t202_n t202_c), (.string t203), (.bool t204), (.slice t205_p t205_n t205_c), (.string t206), (.bool t207), (.slice t208_p t208_n t208_c)]), (.agg #[(.string t240), (.bool t241), (.slice t242_p t242_n t242_c), (.string t243), (.bool t244), (.slice t245_p t245_n t245_c), (.string t246), (.bool t247), (.slice t248_p t248_n t248_c)])]⟩ wv.drew fun e wv_3 =>
        ∃ (t25 : Bool), e = .returned (.bool t25) ∧
        ((!t25) = true →
          R (.bool false) wv_3) ∧
        ((!t25) = false →
          ∃ t16 : Int, t16 = IntKind.wrap .i64 (i + 1) ∧ Inv t16 wv_3 ∧ mu t16 wv_3 < mu i wv)) ∧
      ((decide ((i : Int) < ((a_n : Nat) : Int))) = false →
        R (.bool true) wv))
theorem laws_eqRowS_eq (a_p : Option Addr) (a_n : Nat) (a_c : Nat) (b_p : Option Addr) (b_n : Nat) (b_c : Nat) (w : World) (R : Value → World → Prop) : laws_eqRowS a_p a_n a_c b_p b_n b_c w R = fsem P Tryd.f34 (fun k => cond (Nat.beq k 5) [(5, .one (.int .i64))] ([])) [(.slice a_p a_n a_c), (.slice b_p b_n b_c)] R w := by kernel_rfl
theorem laws_eqRowS_ret {a_p : Option Addr} {a_n : Nat} {a_c : Nat} {b_p : Option Addr} {b_n : Nat} {b_c : Nat} {w : World} {R : Value → World → Prop} (h : laws_eqRowS a_p a_n a_c b_p b_n b_c w R) : Ret P 34 [(.slice a_p a_n a_c), (.slice b_p b_n b_c)] w R :=
  Ret.of_fsem Tryd.func34 rfl (Eq.mp (laws_eqRowS_eq a_p a_n a_c b_p b_n b_c w R) h)

def laws_markRowS (a_p : Option Addr) (a_n : Nat) (a_c : Nat) (k : Int) (w : World) (R : Value → World → Prop) : Prop :=
  ∃ (Inv : Int → Int → World → Prop) (mu : Int → Int → World → Nat), Inv k 0 w ∧
  ∀ (junk : Fr) (wv : World) (k_1 : Int) (i : Int), Inv k_1 i wv →
    ((decide ((i : Int) < ((a_n : Nat) : Int))) = true →
      Calls P 70 ⟨[(.int .i64 k_1)]⟩ wv fun e wv_1 =>
      ∃ (t15 : ByteArray), e = .returned (.string t15) ∧
      (0 ≤ (i : Int) ∧ (i : Int) < (a_n : Nat)) ∧ ptrS a_p fun ad => ∃ wv_2, Stores P 9 (((ad.add (i.toNat * 9)).add 0).add 0) (.string t15) wv_1 wv_2 ∧
      ∃ t20 : Int, t20 = IntKind.wrap .i64 (k_1 + 1) ∧ (3 : Int) ≠ 0 ∧ ∃ t24 : Int, t24 = Int.tmod t20 3 ∧ (0 ≤ (i : Int) ∧ (i : Int) < (a_n : Nat)) ∧ ptrS a_p fun ad_1 => ∃ wv_3, Stores P 4 ((((ad_1.add (i.toNat * 9)).add 0).add 1).add 0) (.bool (decide ((t24 : Int) = 0))) wv_2 wv_3 ∧
      ∃ t31 : Int, t31 = IntKind.wrap .i64 (t20 + 1) ∧ (0 ≤ (i : Int) ∧ (i : Int) < (a_n : Nat)) ∧ ptrS a_p fun ad_2 => ∃ (t38_p : Option Addr) (t38_n : Nat) (t38_c : Nat), Loads P 52 ((((ad_2.add (i.toNat * 9)).add 0).add 1).add 1) (.slice t38_p t38_n t38_c) wv_3 ∧ Calls P 71 ⟨[(.slice t38_p t38_n t38_c), (.int .i64 t31)]⟩ wv_3 fun e_1 wv_4 =>
      ∃ (t40 : Int), e_1 = .returned (.int .i64 t40) ∧
      Calls P 70 ⟨[(.int .i64 t40)]⟩ wv_4 fun e_2 wv_5 =>
      ∃ (t44 : ByteArray), e_2 = .returned (.string t44) ∧
      (0 ≤ (i : Int) ∧ (i : Int) < (a_n : Nat)) ∧ ptrS a_p fun ad_3 => ∃ wv_6, Stores P 9 (((ad_3.add (i.toNat * 9)).add 3).add 0) (.string t44) wv_5 wv_6 ∧
      ∃ t49 : Int, t49 = IntKind.wrap .i64 (t40 + 1) ∧ (3 : Int) ≠ 0 ∧ ∃ t53 : Int, t53 = Int.tmod t49 3 ∧ (0 ≤ (i : Int) ∧ (i : Int) < (a_n : Nat)) ∧ ptrS a_p fun ad_4 => ∃ wv_7, Stores P 4 ((((ad_4.add (i.toNat * 9)).add 3).add 1).add 0) (.bool (decide ((t53 : Int) = 0))) wv_6 wv_7 ∧
      ∃ t60 : Int, t60 = IntKind.wrap .i64 (t49 + 1) ∧ (0 ≤ (i : Int) ∧ (i : Int) < (a_n : Nat)) ∧ ptrS a_p fun ad_5 => ∃ (t67_p : Option Addr) (t67_n : Nat) (t67_c : Nat), Loads P 52 ((((ad_5.add (i.toNat * 9)).add 3).add 1).add 1) (.slice t67_p t67_n t67_c) wv_7 ∧ Calls P 71 ⟨[(.slice t67_p t67_n t67_c), (.int .i64 t60)]⟩ wv_7 fun e_3 wv_8 =>
      ∃ (t69 : Int), e_3 = .returned (.int .i64 t69) ∧
      Calls P 70 ⟨[(.int .i64 t69)]⟩ wv_8 fun e_4 wv_9 =>
      ∃ (t73 : ByteArray), e_4 = .returned (.string t73) ∧
      (0 ≤ (i : Int) ∧ (i : Int) < (a_n : Nat)) ∧ ptrS a_p fun ad_6 => ∃ wv_10, Stores P 9 (((ad_6.add (i.toNat * 9)).add 6).add 0) (.string t73) wv_9 wv_10 ∧
      ∃ t78 : Int, t78 = IntKind.wrap .i64 (t69 + 1) ∧ (3 : Int) ≠ 0 ∧ ∃ t82 : Int, t82 = Int.tmod t78 3 ∧ (0 ≤ (i : Int) ∧ (i : Int) < (a_n : Nat)) ∧ ptrS a_p fun ad_7 => ∃ wv_11, Stores P 4 ((((ad_7.add (i.toNat * 9)).add 6).add 1).add 0) (.bool (decide ((t82 : Int) = 0))) wv_10 wv_11 ∧
      ∃ t89 : Int, t89 = IntKind.wrap .i64 (t78 + 1) ∧ (0 ≤ (i : Int) ∧ (i : Int) < (a_n : Nat)) ∧ ptrS a_p fun ad_8 => ∃ (t96_p : Option Addr) (t96_n : Nat) (t96_c : Nat), Loads P 52 ((((ad_8.add (i.toNat * 9)).add 6).add 1).add 1) (.slice t96_p t96_n t96_c) wv_11 ∧ Calls P 71 ⟨[(.slice t96_p t96_n t96_c), (.int .i64 t89)]⟩ wv_11 fun e_5 wv_12 =>
      ∃ (t98 : Int), e_5 = .returned (.int .i64 t98) ∧
      ∃ t11 : Int, t11 = IntKind.wrap .i64 (i + 1) ∧ Inv t98 t11 wv_12 ∧ mu t98 t11 wv_12 < mu k_1 i wv) ∧
    ((decide ((i : Int) < ((a_n : Nat) : Int))) = false →
      R (.int .i64 k_1) wv)
theorem laws_markRowS_eq (a_p : Option Addr) (a_n : Nat) (a_c : Nat) (k : Int) (w : World) (R : Value → World → Prop) : laws_markRowS a_p a_n a_c k w R = fsem P Tryd.f35 (fun k => cond (Nat.beq k 3) [(1, .one (.int .i64)), (5, .one (.int .i64))] ([])) [(.slice a_p a_n a_c), (.int .i64 k)] R w := by kernel_rfl
theorem laws_markRowS_ret {a_p : Option Addr} {a_n : Nat} {a_c : Nat} {k : Int} {w : World} {R : Value → World → Prop} (h : laws_markRowS a_p a_n a_c k w R) : Ret P 35 [(.slice a_p a_n a_c), (.int .i64 k)] w R :=
  Ret.of_fsem Tryd.func35 rfl (Eq.mp (laws_markRowS_eq a_p a_n a_c k w R) h)

def laws_markMoney (a0 : ByteArray) (a1 : Bool) (a2_p : Option Addr) (a2_n : Nat) (a2_c : Nat) (k : Int) (w : World) (R : Value → World → Prop) : Prop :=
  ∀ (r : Nat) (wv : World), New w (.cells ⟨[(.string a0), (.bool a1), (.slice a2_p a2_n a2_c)]⟩ 56 (0, 0)) r wv →
  ∃ (t60 : Bool) (t61_p : Option Addr) (t61_n : Nat) (t61_c : Nat), Loads P 54 ((⟨r, 0, none⟩ : Addr).add 1) (.agg #[(.bool t60), (.slice t61_p t61_n t61_c)]) wv ∧ Calls P 42 ⟨[(.agg #[(.bool t60), (.slice t61_p t61_n t61_c)]), (.int .i64 k)]⟩ wv fun e wv_1 =>
  ∃ (t8 : Int), e = .returned (.int .i64 t8) ∧
  R (.int .i64 t8) wv_1
theorem laws_markMoney_eq (a0 : ByteArray) (a1 : Bool) (a2_p : Option Addr) (a2_n : Nat) (a2_c : Nat) (k : Int) (w : World) (R : Value → World → Prop) : laws_markMoney a0 a1 a2_p a2_n a2_c k w R = fsem P Tryd.f36 (fun k => []) [(.agg #[(.string a0), (.bool a1), (.slice a2_p a2_n a2_c)]), (.int .i64 k)] R w := by kernel_rfl
theorem laws_markMoney_ret {a0 : ByteArray} {a1 : Bool} {a2_p : Option Addr} {a2_n : Nat} {a2_c : Nat} {k : Int} {w : World} {R : Value → World → Prop} (h : laws_markMoney a0 a1 a2_p a2_n a2_c k w R) : Ret P 36 [(.agg #[(.string a0), (.bool a1), (.slice a2_p a2_n a2_c)]), (.int .i64 k)] w R :=
  Ret.of_fsem Tryd.func36 rfl (Eq.mp (laws_markMoney_eq a0 a1 a2_p a2_n a2_c k w R) h)

def laws_heldMoney (a0 : ByteArray) (a1 : Bool) (a2_p : Option Addr) (a2_n : Nat) (a2_c : Nat) (k : Int) (w : World) (R : Value → World → Prop) : Prop :=
  ∀ (r : Nat) (wv : World), New w (.cells ⟨[(.string a0), (.bool a1), (.slice a2_p a2_n a2_c)]⟩ 56 (0, 0)) r wv →
  ∃ (t60 : Bool) (t61_p : Option Addr) (t61_n : Nat) (t61_c : Nat), Loads P 54 ((⟨r, 0, none⟩ : Addr).add 1) (.agg #[(.bool t60), (.slice t61_p t61_n t61_c)]) wv ∧ Calls P 43 ⟨[(.agg #[(.bool t60), (.slice t61_p t61_n t61_c)]), (.int .i64 k)]⟩ wv fun e wv_1 =>
  ∃ (t8 : Int), e = .returned (.int .i64 t8) ∧
  ((decide ((t8 : Int) < 0)) = true →
    R (.int .i64 (-1)) wv_1) ∧
  ((decide ((t8 : Int) < 0)) = false →
    R (.int .i64 t8) wv_1)
theorem laws_heldMoney_eq (a0 : ByteArray) (a1 : Bool) (a2_p : Option Addr) (a2_n : Nat) (a2_c : Nat) (k : Int) (w : World) (R : Value → World → Prop) : laws_heldMoney a0 a1 a2_p a2_n a2_c k w R = fsem P Tryd.f37 (fun k => []) [(.agg #[(.string a0), (.bool a1), (.slice a2_p a2_n a2_c)]), (.int .i64 k)] R w := by kernel_rfl
theorem laws_heldMoney_ret {a0 : ByteArray} {a1 : Bool} {a2_p : Option Addr} {a2_n : Nat} {a2_c : Nat} {k : Int} {w : World} {R : Value → World → Prop} (h : laws_heldMoney a0 a1 a2_p a2_n a2_c k w R) : Ret P 37 [(.agg #[(.string a0), (.bool a1), (.slice a2_p a2_n a2_c)]), (.int .i64 k)] w R :=
  Ret.of_fsem Tryd.func37 rfl (Eq.mp (laws_heldMoney_eq a0 a1 a2_p a2_n a2_c k w R) h)

def laws_eqSigned (a0 : Bool) (a1_p : Option Addr) (a1_n : Nat) (a1_c : Nat) (b0 : Bool) (b1_p : Option Addr) (b1_n : Nat) (b1_c : Nat) (w : World) (R : Value → World → Prop) : Prop :=
  ∀ (r : Nat) (wv : World), New w (.cells ⟨[(.bool a0), (.slice a1_p a1_n a1_c)]⟩ 54 (0, 0)) r wv →
  ∀ (r_1 : Nat) (wv_1 : World), New wv (.cells ⟨[(.bool b0), (.slice b1_p b1_n b1_c)]⟩ 54 (0, 0)) r_1 wv_1 →
  ∃ (t6 : Bool), Loads P 4 ((⟨r, 0, none⟩ : Addr).add 0) (.bool t6) wv_1 ∧ ∃ (t8 : Bool), Loads P 4 ((⟨r_1, 0, none⟩ : Addr).add 0) (.bool t8) wv_1 ∧ ((!(t6 == t8)) = true →
    R (.bool false) wv_1) ∧
  ((!(t6 == t8)) = false →
    ∃ (t11_p : Option Addr) (t11_n : Nat) (t11_c : Nat), Loads P 52 ((⟨r, 0, none⟩ : Addr).add 1) (.slice t11_p t11_n t11_c) wv_1 ∧ ∃ (t13_p : Option Addr) (t13_n : Nat) (t13_c : Nat), Loads P 52 ((⟨r_1, 0, none⟩ : Addr).add 1) (.slice t13_p t13_n t13_c) wv_1 ∧ Calls P 80 ⟨[(.slice t11_p t11_n t11_c), (.slice t13_p t13_n t13_c)]⟩ wv_1 fun e wv_2 =>
    ∃ (t14 : Bool), e = .returned (.bool t14) ∧
    ((!t14) = true →
      R (.bool false) wv_2) ∧
    ((!t14) = false →
      R (.bool true) wv_2))
theorem laws_eqSigned_eq (a0 : Bool) (a1_p : Option Addr) (a1_n : Nat) (a1_c : Nat) (b0 : Bool) (b1_p : Option Addr) (b1_n : Nat) (b1_c : Nat) (w : World) (R : Value → World → Prop) : laws_eqSigned a0 a1_p a1_n a1_c b0 b1_p b1_n b1_c w R = fsem P Tryd.f40 (fun k => []) [(.agg #[(.bool a0), (.slice a1_p a1_n a1_c)]), (.agg #[(.bool b0), (.slice b1_p b1_n b1_c)])] R w := by kernel_rfl
theorem laws_eqSigned_ret {a0 : Bool} {a1_p : Option Addr} {a1_n : Nat} {a1_c : Nat} {b0 : Bool} {b1_p : Option Addr} {b1_n : Nat} {b1_c : Nat} {w : World} {R : Value → World → Prop} (h : laws_eqSigned a0 a1_p a1_n a1_c b0 b1_p b1_n b1_c w R) : Ret P 40 [(.agg #[(.bool a0), (.slice a1_p a1_n a1_c)]), (.agg #[(.bool b0), (.slice b1_p b1_n b1_c)])] w R :=
  Ret.of_fsem Tryd.func40 rfl (Eq.mp (laws_eqSigned_eq a0 a1_p a1_n a1_c b0 b1_p b1_n b1_c w R) h)

def laws_markBook (a0_p : Option Addr) (a0_n : Nat) (a0_c : Nat) (k : Int) (w : World) (R : Value → World → Prop) : Prop :=
  ∀ (r : Nat) (wv : World), New w (.cells ⟨[(.slice a0_p a0_n a0_c)]⟩ 36 (0, 0)) r wv →
  ∃ (t6_p : Option Addr) (t6_n : Nat) (t6_c : Nat), Loads P 34 ((⟨r, 0, none⟩ : Addr).add 0) (.slice t6_p t6_n t6_c) wv ∧ Calls P 81 ⟨[(.slice t6_p t6_n t6_c), (.int .i64 k)]⟩ wv fun e wv_1 =>
  ∃ (t8 : Int), e = .returned (.int .i64 t8) ∧
  R (.int .i64 t8) wv_1
theorem laws_markBook_eq (a0_p : Option Addr) (a0_n : Nat) (a0_c : Nat) (k : Int) (w : World) (R : Value → World → Prop) : laws_markBook a0_p a0_n a0_c k w R = fsem P Tryd.f41 (fun k => []) [(.agg #[(.slice a0_p a0_n a0_c)]), (.int .i64 k)] R w := by kernel_rfl
theorem laws_markBook_ret {a0_p : Option Addr} {a0_n : Nat} {a0_c : Nat} {k : Int} {w : World} {R : Value → World → Prop} (h : laws_markBook a0_p a0_n a0_c k w R) : Ret P 41 [(.agg #[(.slice a0_p a0_n a0_c)]), (.int .i64 k)] w R :=
  Ret.of_fsem Tryd.func41 rfl (Eq.mp (laws_markBook_eq a0_p a0_n a0_c k w R) h)

def laws_markSigned (a0 : Bool) (a1_p : Option Addr) (a1_n : Nat) (a1_c : Nat) (k : Int) (w : World) (R : Value → World → Prop) : Prop :=
  ∀ (r : Nat) (wv : World), New w (.cells ⟨[(.bool a0), (.slice a1_p a1_n a1_c)]⟩ 54 (0, 0)) r wv →
  ∃ (t6_p : Option Addr) (t6_n : Nat) (t6_c : Nat), Loads P 52 ((⟨r, 0, none⟩ : Addr).add 1) (.slice t6_p t6_n t6_c) wv ∧ Calls P 71 ⟨[(.slice t6_p t6_n t6_c), (.int .i64 k)]⟩ wv fun e wv_1 =>
  ∃ (t8 : Int), e = .returned (.int .i64 t8) ∧
  R (.int .i64 t8) wv_1
theorem laws_markSigned_eq (a0 : Bool) (a1_p : Option Addr) (a1_n : Nat) (a1_c : Nat) (k : Int) (w : World) (R : Value → World → Prop) : laws_markSigned a0 a1_p a1_n a1_c k w R = fsem P Tryd.f42 (fun k => []) [(.agg #[(.bool a0), (.slice a1_p a1_n a1_c)]), (.int .i64 k)] R w := by kernel_rfl
theorem laws_markSigned_ret {a0 : Bool} {a1_p : Option Addr} {a1_n : Nat} {a1_c : Nat} {k : Int} {w : World} {R : Value → World → Prop} (h : laws_markSigned a0 a1_p a1_n a1_c k w R) : Ret P 42 [(.agg #[(.bool a0), (.slice a1_p a1_n a1_c)]), (.int .i64 k)] w R :=
  Ret.of_fsem Tryd.func42 rfl (Eq.mp (laws_markSigned_eq a0 a1_p a1_n a1_c k w R) h)

def laws_heldSigned (a0 : Bool) (a1_p : Option Addr) (a1_n : Nat) (a1_c : Nat) (k : Int) (w : World) (R : Value → World → Prop) : Prop :=
  ∀ (r : Nat) (wv : World), New w (.cells ⟨[(.bool a0), (.slice a1_p a1_n a1_c)]⟩ 54 (0, 0)) r wv →
  ∃ (t6_p : Option Addr) (t6_n : Nat) (t6_c : Nat), Loads P 52 ((⟨r, 0, none⟩ : Addr).add 1) (.slice t6_p t6_n t6_c) wv ∧ Calls P 72 ⟨[(.slice t6_p t6_n t6_c), (.int .i64 k)]⟩ wv fun e wv_1 =>
  ∃ (t8 : Int), e = .returned (.int .i64 t8) ∧
  ((decide ((t8 : Int) < 0)) = true →
    R (.int .i64 (-1)) wv_1) ∧
  ((decide ((t8 : Int) < 0)) = false →
    R (.int .i64 t8) wv_1)
theorem laws_heldSigned_eq (a0 : Bool) (a1_p : Option Addr) (a1_n : Nat) (a1_c : Nat) (k : Int) (w : World) (R : Value → World → Prop) : laws_heldSigned a0 a1_p a1_n a1_c k w R = fsem P Tryd.f43 (fun k => []) [(.agg #[(.bool a0), (.slice a1_p a1_n a1_c)]), (.int .i64 k)] R w := by kernel_rfl
theorem laws_heldSigned_ret {a0 : Bool} {a1_p : Option Addr} {a1_n : Nat} {a1_c : Nat} {k : Int} {w : World} {R : Value → World → Prop} (h : laws_heldSigned a0 a1_p a1_n a1_c k w R) : Ret P 43 [(.agg #[(.bool a0), (.slice a1_p a1_n a1_c)]), (.int .i64 k)] w R :=
  Ret.of_fsem Tryd.func43 rfl (Eq.mp (laws_heldSigned_eq a0 a1_p a1_n a1_c k w R) h)

def laws_szTaxSumS (a_p : Option Addr) (a_n : Nat) (a_c : Nat) (left : Int) (w : World) (R : Value → World → Prop) : Prop :=
  ∃ t9 : Int, t9 = IntKind.wrap .i64 (left - ((a_n : Nat) : Int)) ∧ ((decide ((t9 : Int) < 0)) = true →
    R (.int .i64 (-1)) w) ∧
  ((decide ((t9 : Int) < 0)) = false →
    ∃ (Inv : Int → Int → World → Prop) (mu : Int → Int → World → Nat), Inv t9 0 w ∧
    ∀ (junk : Fr) (wv : World) (left_1 : Int) (i : Int), Inv left_1 i wv →
      ((decide ((i : Int) < ((a_n : Nat) : Int))) = true →
        (0 ≤ (i : Int) ∧ (i : Int) < (a_n : Nat)) ∧ ptrS a_p fun ad => ∃ (t210 : Bool) (t211_p : Option Addr) (t211_n : Nat) (t211_c : Nat) (t212 : Int) (t213 : ByteArray) (t214 : Bool) (t215_p : Option Addr) (t215_n : Nat) (t215_c : Nat) (t216 : ByteArray) (t217 : Bool) (t218_p : Option Addr) (t218_n : Nat) (t218_c : Nat), Loads P 125 (ad.add (i.toNat * 9)) (.agg #[(.bool t210), (.slice t211_p t211_n t211_c), (.int .i64 t212), (.string t213), (.bool t214), (.slice t215_p t215_n t215_c), (.string t216), (.bool t217), (.slice t218_p t218_n t218_c)]) wv ∧ Calls P 82 ⟨[(.agg #[(.bool t210), (.slice t211_p t211_n t211_c), (.int .i64 t212), (.string t213), (.bool t214), (.slice t215_p t215_n t215_c), (.string t216), (.bool t217), (.slice t218_p t218_n t218_c)]), (.int .i64 left_1)]⟩ wv fun e wv_1 =>
        ∃ (t23 : Int), e = .returned (.int .i64 t23) ∧
        ((decide ((t23 : Int) < 0)) = true →
          R (.int .i64 (-1)) wv_1) ∧
        ((decide ((t23 : Int) < 0)) = false →
          ∃ t17 : Int, t17 = IntKind.wrap .i64 (i + 1) ∧ Inv t23 t17 wv_1 ∧ mu t23 t17 wv_1 < mu left_1 i wv)) ∧
      ((decide ((i : Int) < ((a_n : Nat) : Int))) = false →
        R (.int .i64 left_1) wv))
theorem laws_szTaxSumS_eq (a_p : Option Addr) (a_n : Nat) (a_c : Nat) (left : Int) (w : World) (R : Value → World → Prop) : laws_szTaxSumS a_p a_n a_c left w R = fsem P Tryd.f44 (fun k => cond (Nat.beq k 6) [(1, .one (.int .i64)), (5, .one (.int .i64))] ([])) [(.slice a_p a_n a_c), (.int .i64 left)] R w := by kernel_rfl
theorem laws_szTaxSumS_ret {a_p : Option Addr} {a_n : Nat} {a_c : Nat} {left : Int} {w : World} {R : Value → World → Prop} (h : laws_szTaxSumS a_p a_n a_c left w R) : Ret P 44 [(.slice a_p a_n a_c), (.int .i64 left)] w R :=
  Ret.of_fsem Tryd.func44 rfl (Eq.mp (laws_szTaxSumS_eq a_p a_n a_c left w R) h)

def laws_toTaxSumS (a_p : Option Addr) (a_n : Nat) (a_c : Nat) (w : World) (R : Value → World → Prop) : Prop :=
  (0 ≤ (((a_n : Nat) : Int) : Int) ∧ (((a_n : Nat) : Int) : Int) ≤ ((a_n : Nat) : Int) ∧ ((136 : Nat) : Int) * ((a_n : Nat) : Int) ≤ 281474976710656) ∧
  ∀ (r : Nat) (wv : World), New w (.cells ⟨zeroRow (.agg #[(.bool false), (.slice none 0 0), (.int .i64 0), (.string ByteArray.empty), (.bool false), (.slice none 0 0), (.string ByteArray.empty), (.bool false), (.slice none 0 0)]) (a_n * 9)⟩ 129 (0, 0)) r wv →
  ∃ (Inv : Int → World → Prop) (mu : Int → World → Nat), Inv 0 wv ∧
  ∀ (junk : Fr) (wv_1 : World) (i : Int), Inv i wv_1 →
    ((decide ((i : Int) < ((a_n : Nat) : Int))) = true →
      (0 ≤ (i : Int) ∧ (i : Int) < (a_n : Nat)) ∧ ptrS a_p fun ad => ∃ (t190 : Bool) (t191_p : Option Addr) (t191_n : Nat) (t191_c : Nat) (t192 : Int) (t193 : ByteArray) (t194 : Bool) (t195_p : Option Addr) (t195_n : Nat) (t195_c : Nat) (t196 : ByteArray) (t197 : Bool) (t198_p : Option Addr) (t198_n : Nat) (t198_c : Nat), Loads P 125 (ad.add (i.toNat * 9)) (.agg #[(.bool t190), (.slice t191_p t191_n t191_c), (.int .i64 t192), (.string t193), (.bool t194), (.slice t195_p t195_n t195_c), (.string t196), (.bool t197), (.slice t198_p t198_n t198_c)]) wv_1 ∧ Calls P 83 ⟨[(.agg #[(.bool t190), (.slice t191_p t191_n t191_c), (.int .i64 t192), (.string t193), (.bool t194), (.slice t195_p t195_n t195_c), (.string t196), (.bool t197), (.slice t198_p t198_n t198_c)])]⟩ wv_1 fun e wv_2 =>
      ∃ (t200 : Bool) (t201_p : Option Addr) (t201_n : Nat) (t201_c : Nat) (t202 : Int) (t203 : ByteArray) (t204 : Bool) (t205_p : Option Addr) (t205_n : Nat) (t205_c : Nat) (t206 : ByteArray) (t207 : Bool) (t208_p : Option Addr) (t208_n : Nat) (t208_c : Nat), e = .returned (.agg #[(.bool t200), (.slice t201_p t201_n t201_c), (.int .i64 t202), (.string t203), (.bool t204), (.slice t205_p t205_n t205_c), (.string t206), (.bool t207), (.slice t208_p t208_n t208_c)]) ∧
      (0 ≤ (i : Int) ∧ (i : Int) < (a_n : Nat)) ∧ ∃ wv_3, Stores P 129 ((⟨r, 0, none⟩ : Addr).add (i.toNat * 9)) (.agg #[(.bool t200), (.slice t201_p t201_n t201_c), (.int .i64 t202), (.string t203), (.bool t204), (.slice t205_p t205_n t205_c), (.string t206), (.bool t207), (.slice t208_p t208_n t208_c)]) wv_2 wv_3 ∧
      ∃ t13 : Int, t13 = IntKind.wrap .i64 (i + 1) ∧ Inv t13 wv_3 ∧ mu t13 wv_3 < mu i wv_1) ∧
    ((decide ((i : Int) < ((a_n : Nat) : Int))) = false →
      R (.slice (some ⟨r, 0, none⟩) a_n a_n) wv_1)
theorem laws_toTaxSumS_eq (a_p : Option Addr) (a_n : Nat) (a_c : Nat) (w : World) (R : Value → World → Prop) : laws_toTaxSumS a_p a_n a_c w R = fsem P Tryd.f46 (fun k => cond (Nat.beq k 4) [(4, .one (.int .i64))] ([])) [(.slice a_p a_n a_c)] R w := by kernel_rfl
theorem laws_toTaxSumS_ret {a_p : Option Addr} {a_n : Nat} {a_c : Nat} {w : World} {R : Value → World → Prop} (h : laws_toTaxSumS a_p a_n a_c w R) : Ret P 46 [(.slice a_p a_n a_c)] w R :=
  Ret.of_fsem Tryd.func46 rfl (Eq.mp (laws_toTaxSumS_eq a_p a_n a_c w R) h)

def laws_eqTaxSumS (a_p : Option Addr) (a_n : Nat) (a_c : Nat) (b_p : Option Addr) (b_n : Nat) (b_c : Nat) (w : World) (R : Value → World → Prop) : Prop :=
  ((decide ((((a_n : Nat) : Int) : Int) ≠ ((b_n : Nat) : Int))) = true →
    R (.bool false) w) ∧
  ((decide ((((a_n : Nat) : Int) : Int) ≠ ((b_n : Nat) : Int))) = false →
    ∃ (Inv : Int → World → Prop) (mu : Int → World → Nat), Inv 0 w ∧
    ∀ (junk : Fr) (wv : World) (i : Int), Inv i wv →
      ((decide ((i : Int) < ((a_n : Nat) : Int))) = true →
        (0 ≤ (i : Int) ∧ (i : Int) < (a_n : Nat)) ∧ ptrS a_p fun ad => ∃ (t200 : Bool) (t201_p : Option Addr) (t201_n : Nat) (t201_c : Nat) (t202 : Int) (t203 : ByteArray) (t204 : Bool) (t205_p : Option Addr) (t205_n : Nat) (t205_c : Nat) (t206 : ByteArray) (t207 : Bool) (t208_p : Option Addr) (t208_n : Nat) (t208_c : Nat), (∀ wv_1, Ext wv.drew wv_1 → Loads P 129 (ad.add (i.toNat * 9)) (.agg #[(.bool t200), (.slice t201_p t201_n t201_c), (.int .i64 t202), (.string t203), (.bool t204), (.slice t205_p t205_n t205_c), (.string t206), (.bool t207), (.slice t208_p t208_n t208_c)]) wv_1) ∧ (0 ≤ (i : Int) ∧ (i : Int) < (b_n : Nat)) ∧ ptrS b_p fun ad_1 => ∃ (t240 : Bool) (t241_p : Option Addr) (t241_n : Nat) (t241_c : Nat) (t242 : Int) (t243 : ByteArray) (t244 : Bool) (t245_p : Option Addr) (t245_n : Nat) (t245_c : Nat) (t246 : ByteArray) (t247 : Bool) (t248_p : Option Addr) (t248_n : Nat) (t248_c : Nat), (∀ wv_2, Ext wv.drew wv_2 → Loads P 129 (ad_1.add (i.toNat * 9)) (.agg #[(.bool t240), (.slice t241_p t241_n t241_c), (.int .i64 t242), (.string t243), (.bool t244), (.slice t245_p t245_n t245_c), (.string t246), (.bool t247), (.slice t248_p t248_n t248_c)]) wv_2) ∧ Calls P 84 ⟨[(.agg #[(.bool t200), (.slice t201_p t201_n t201_c), (.int .i64 t202), (.string t203), (.bool t204), (.slice t205_p t205_n t205_c), (.string t206), (.bool t207), (.slice t208_p t208_n t208_c)]), (.agg #[(.bool t240), (.slice t241_p t241_n t241_c), (.int .i64 t242), (.string t243), (.bool t244), (.slice t245_p t245_n t245_c), (.string t246), (.bool t247), (.slice t248_p t248_n t248_c)])]⟩ wv.drew fun e wv_3 =>
        ∃ (t25 : Bool), e = .returned (.bool t25) ∧
        ((!t25) = true →
          R (.bool false) wv_3) ∧
        ((!t25) = false →
          ∃ t16 : Int, t16 = IntKind.wrap .i64 (i + 1) ∧ Inv t16 wv_3 ∧ mu t16 wv_3 < mu i wv)) ∧
      ((decide ((i : Int) < ((a_n : Nat) : Int))) = false →
        R (.bool true) wv))
theorem laws_eqTaxSumS_eq (a_p : Option Addr) (a_n : Nat) (a_c : Nat) (b_p : Option Addr) (b_n : Nat) (b_c : Nat) (w : World) (R : Value → World → Prop) : laws_eqTaxSumS a_p a_n a_c b_p b_n b_c w R = fsem P Tryd.f48 (fun k => cond (Nat.beq k 5) [(5, .one (.int .i64))] ([])) [(.slice a_p a_n a_c), (.slice b_p b_n b_c)] R w := by kernel_rfl
theorem laws_eqTaxSumS_ret {a_p : Option Addr} {a_n : Nat} {a_c : Nat} {b_p : Option Addr} {b_n : Nat} {b_c : Nat} {w : World} {R : Value → World → Prop} (h : laws_eqTaxSumS a_p a_n a_c b_p b_n b_c w R) : Ret P 48 [(.slice a_p a_n a_c), (.slice b_p b_n b_c)] w R :=
  Ret.of_fsem Tryd.func48 rfl (Eq.mp (laws_eqTaxSumS_eq a_p a_n a_c b_p b_n b_c w R) h)

def laws_markTaxSumS (a_p : Option Addr) (a_n : Nat) (a_c : Nat) (k : Int) (w : World) (R : Value → World → Prop) : Prop :=
  ∃ (Inv : Int → Int → World → Prop) (mu : Int → Int → World → Nat), Inv k 0 w ∧
  ∀ (junk : Fr) (wv : World) (k_1 : Int) (i : Int), Inv k_1 i wv →
    ((decide ((i : Int) < ((a_n : Nat) : Int))) = true →
      (3 : Int) ≠ 0 ∧ ∃ t15 : Int, t15 = Int.tmod k_1 3 ∧ (0 ≤ (i : Int) ∧ (i : Int) < (a_n : Nat)) ∧ ptrS a_p fun ad => ∃ wv_1, Stores P 4 ((((ad.add (i.toNat * 9)).add 0).add 0).add 0) (.bool (decide ((t15 : Int) = 0))) wv wv_1 ∧
      ∃ t22 : Int, t22 = IntKind.wrap .i64 (k_1 + 1) ∧ (0 ≤ (i : Int) ∧ (i : Int) < (a_n : Nat)) ∧ ptrS a_p fun ad_1 => ∃ (t29_p : Option Addr) (t29_n : Nat) (t29_c : Nat), Loads P 52 ((((ad_1.add (i.toNat * 9)).add 0).add 0).add 1) (.slice t29_p t29_n t29_c) wv_1 ∧ Calls P 71 ⟨[(.slice t29_p t29_n t29_c), (.int .i64 t22)]⟩ wv_1 fun e wv_2 =>
      ∃ (t31 : Int), e = .returned (.int .i64 t31) ∧
      (0 ≤ (i : Int) ∧ (i : Int) < (a_n : Nat)) ∧ ptrS a_p fun ad_2 => ∃ wv_3, Stores P 3 (((ad_2.add (i.toNat * 9)).add 0).add 2) (.int .i64 t31) wv_2 wv_3 ∧
      ∃ t39 : Int, t39 = IntKind.wrap .i64 (t31 + 1) ∧ Calls P 70 ⟨[(.int .i64 t39)]⟩ wv_3 fun e_1 wv_4 =>
      ∃ (t43 : ByteArray), e_1 = .returned (.string t43) ∧
      (0 ≤ (i : Int) ∧ (i : Int) < (a_n : Nat)) ∧ ptrS a_p fun ad_3 => ∃ wv_5, Stores P 9 (((ad_3.add (i.toNat * 9)).add 3).add 0) (.string t43) wv_4 wv_5 ∧
      ∃ t48 : Int, t48 = IntKind.wrap .i64 (t39 + 1) ∧ (3 : Int) ≠ 0 ∧ ∃ t52 : Int, t52 = Int.tmod t48 3 ∧ (0 ≤ (i : Int) ∧ (i : Int) < (a_n : Nat)) ∧ ptrS a_p fun ad_4 => ∃ wv_6, Stores P 4 ((((ad_4.add (i.toNat * 9)).add 3).add 1).add 0) (.bool (decide ((t52 : Int) = 0))) wv_5 wv_6 ∧
      ∃ t59 : Int, t59 = IntKind.wrap .i64 (t48 + 1) ∧ (0 ≤ (i : Int) ∧ (i : Int) < (a_n : Nat)) ∧ ptrS a_p fun ad_5 => ∃ (t66_p : Option Addr) (t66_n : Nat) (t66_c : Nat), Loads P 52 ((((ad_5.add (i.toNat * 9)).add 3).add 1).add 1) (.slice t66_p t66_n t66_c) wv_6 ∧ Calls P 71 ⟨[(.slice t66_p t66_n t66_c), (.int .i64 t59)]⟩ wv_6 fun e_2 wv_7 =>
      ∃ (t68 : Int), e_2 = .returned (.int .i64 t68) ∧
      Calls P 70 ⟨[(.int .i64 t68)]⟩ wv_7 fun e_3 wv_8 =>
      ∃ (t72 : ByteArray), e_3 = .returned (.string t72) ∧
      (0 ≤ (i : Int) ∧ (i : Int) < (a_n : Nat)) ∧ ptrS a_p fun ad_6 => ∃ wv_9, Stores P 9 (((ad_6.add (i.toNat * 9)).add 6).add 0) (.string t72) wv_8 wv_9 ∧
      ∃ t77 : Int, t77 = IntKind.wrap .i64 (t68 + 1) ∧ (3 : Int) ≠ 0 ∧ ∃ t81 : Int, t81 = Int.tmod t77 3 ∧ (0 ≤ (i : Int) ∧ (i : Int) < (a_n : Nat)) ∧ ptrS a_p fun ad_7 => ∃ wv_10, Stores P 4 ((((ad_7.add (i.toNat * 9)).add 6).add 1).add 0) (.bool (decide ((t81 : Int) = 0))) wv_9 wv_10 ∧
      ∃ t88 : Int, t88 = IntKind.wrap .i64 (t77 + 1) ∧ (0 ≤ (i : Int) ∧ (i : Int) < (a_n : Nat)) ∧ ptrS a_p fun ad_8 => ∃ (t95_p : Option Addr) (t95_n : Nat) (t95_c : Nat), Loads P 52 ((((ad_8.add (i.toNat * 9)).add 6).add 1).add 1) (.slice t95_p t95_n t95_c) wv_10 ∧ Calls P 71 ⟨[(.slice t95_p t95_n t95_c), (.int .i64 t88)]⟩ wv_10 fun e_4 wv_11 =>
      ∃ (t97 : Int), e_4 = .returned (.int .i64 t97) ∧
      ∃ t11 : Int, t11 = IntKind.wrap .i64 (i + 1) ∧ Inv t97 t11 wv_11 ∧ mu t97 t11 wv_11 < mu k_1 i wv) ∧
    ((decide ((i : Int) < ((a_n : Nat) : Int))) = false →
      R (.int .i64 k_1) wv)
theorem laws_markTaxSumS_eq (a_p : Option Addr) (a_n : Nat) (a_c : Nat) (k : Int) (w : World) (R : Value → World → Prop) : laws_markTaxSumS a_p a_n a_c k w R = fsem P Tryd.f49 (fun k => cond (Nat.beq k 3) [(1, .one (.int .i64)), (5, .one (.int .i64))] ([])) [(.slice a_p a_n a_c), (.int .i64 k)] R w := by kernel_rfl
theorem laws_markTaxSumS_ret {a_p : Option Addr} {a_n : Nat} {a_c : Nat} {k : Int} {w : World} {R : Value → World → Prop} (h : laws_markTaxSumS a_p a_n a_c k w R) : Ret P 49 [(.slice a_p a_n a_c), (.int .i64 k)] w R :=
  Ret.of_fsem Tryd.func49 rfl (Eq.mp (laws_markTaxSumS_eq a_p a_n a_c k w R) h)

def laws_szLeg (a0 : ByteArray) (a1 : ByteArray) (a2 : Bool) (a3_p : Option Addr) (a3_n : Nat) (a3_c : Nat) (left : Int) (w : World) (R : Value → World → Prop) : Prop :=
  ∀ (r : Nat) (wv : World), New w (.cells ⟨[(.string a0), (.string a1), (.bool a2), (.slice a3_p a3_n a3_c)]⟩ 84 (0, 0)) r wv →
  ∃ (t7 : ByteArray), Loads P 9 ((⟨r, 0, none⟩ : Addr).add 0) (.string t7) wv ∧ ∃ t9 : Int, t9 = IntKind.wrap .i64 (left - ((t7.size : Nat) : Int)) ∧ ((decide ((t9 : Int) < 0)) = true →
    R (.int .i64 (-1)) wv) ∧
  ((decide ((t9 : Int) < 0)) = false →
    ∃ (t130 : ByteArray) (t131 : Bool) (t132_p : Option Addr) (t132_n : Nat) (t132_c : Nat), Loads P 82 ((⟨r, 0, none⟩ : Addr).add 1) (.agg #[(.string t130), (.bool t131), (.slice t132_p t132_n t132_c)]) wv ∧ Calls P 85 ⟨[(.agg #[(.string t130), (.bool t131), (.slice t132_p t132_n t132_c)]), (.int .i64 t9)]⟩ wv fun e wv_1 =>
    ∃ (t15 : Int), e = .returned (.int .i64 t15) ∧
    ((decide ((t15 : Int) < 0)) = true →
      R (.int .i64 (-1)) wv_1) ∧
    ((decide ((t15 : Int) < 0)) = false →
      R (.int .i64 t15) wv_1))
theorem laws_szLeg_eq (a0 : ByteArray) (a1 : ByteArray) (a2 : Bool) (a3_p : Option Addr) (a3_n : Nat) (a3_c : Nat) (left : Int) (w : World) (R : Value → World → Prop) : laws_szLeg a0 a1 a2 a3_p a3_n a3_c left w R = fsem P Tryd.f50 (fun k => []) [(.agg #[(.string a0), (.string a1), (.bool a2), (.slice a3_p a3_n a3_c)]), (.int .i64 left)] R w := by kernel_rfl
theorem laws_szLeg_ret {a0 : ByteArray} {a1 : ByteArray} {a2 : Bool} {a3_p : Option Addr} {a3_n : Nat} {a3_c : Nat} {left : Int} {w : World} {R : Value → World → Prop} (h : laws_szLeg a0 a1 a2 a3_p a3_n a3_c left w R) : Ret P 50 [(.agg #[(.string a0), (.string a1), (.bool a2), (.slice a3_p a3_n a3_c)]), (.int .i64 left)] w R :=
  Ret.of_fsem Tryd.func50 rfl (Eq.mp (laws_szLeg_eq a0 a1 a2 a3_p a3_n a3_c left w R) h)

def laws_toLeg (a0 : ByteArray) (a1 : ByteArray) (a2 : Bool) (a3_p : Option Addr) (a3_n : Nat) (a3_c : Nat) (w : World) (R : Value → World → Prop) : Prop :=
  ∀ (r : Nat) (wv : World), New w (.cells ⟨[(.string a0), (.string a1), (.bool a2), (.slice a3_p a3_n a3_c)]⟩ 84 (0, 0)) r wv →
  ∀ (r_1 : Nat) (wv_1 : World), New wv (.cells ⟨[(.string ByteArray.empty), (.string ByteArray.empty), (.bool false), (.slice none 0 0)]⟩ 86 (0, 0)) r_1 wv_1 →
  ∀ (r_2 : Nat) (wv_2 : World), New wv_1 (.cells ⟨[(.string ByteArray.empty), (.string ByteArray.empty), (.bool false), (.slice none 0 0)]⟩ 86 (0, 0)) r_2 wv_2 →
  ∃ (t5 : ByteArray), Loads P 9 ((⟨r, 0, none⟩ : Addr).add 0) (.string t5) wv_2 ∧ ∃ wv_3, Stores P 9 ((⟨r_2, 0, none⟩ : Addr).add 0) (.string t5) wv_2 wv_3 ∧
  ∃ (t80 : ByteArray) (t81 : Bool) (t82_p : Option Addr) (t82_n : Nat) (t82_c : Nat), Loads P 82 ((⟨r, 0, none⟩ : Addr).add 1) (.agg #[(.string t80), (.bool t81), (.slice t82_p t82_n t82_c)]) wv_3 ∧ Calls P 88 ⟨[(.agg #[(.string t80), (.bool t81), (.slice t82_p t82_n t82_c)])]⟩ wv_3 fun e wv_4 =>
  ∃ (t90 : ByteArray) (t91 : Bool) (t92_p : Option Addr) (t92_n : Nat) (t92_c : Nat), e = .returned (.agg #[(.string t90), (.bool t91), (.slice t92_p t92_n t92_c)]) ∧
  ∃ wv_5, Stores P 56 ((⟨r_2, 0, none⟩ : Addr).add 1) (.agg #[(.string t90), (.bool t91), (.slice t92_p t92_n t92_c)]) wv_4 wv_5 ∧
  ∃ (t110 : ByteArray) (t111 : ByteArray) (t112 : Bool) (t113_p : Option Addr) (t113_n : Nat) (t113_c : Nat), Loads P 86 ⟨r_2, 0, none⟩ (.agg #[(.string t110), (.string t111), (.bool t112), (.slice t113_p t113_n t113_c)]) wv_5 ∧ ∃ wv_6, Stores P 86 ⟨r_1, 0, none⟩ (.agg #[(.string t110), (.string t111), (.bool t112), (.slice t113_p t113_n t113_c)]) wv_5 wv_6 ∧
  ∃ (r0 : ByteArray) (r1 : ByteArray) (r2 : Bool) (r3_p : Option Addr) (r3_n : Nat) (r3_c : Nat), Loads P 86 ⟨r_1, 0, none⟩ (.agg #[(.string r0), (.string r1), (.bool r2), (.slice r3_p r3_n r3_c)]) wv_6 ∧ R (.agg #[(.string r0), (.string r1), (.bool r2), (.slice r3_p r3_n r3_c)]) wv_6
theorem laws_toLeg_eq (a0 : ByteArray) (a1 : ByteArray) (a2 : Bool) (a3_p : Option Addr) (a3_n : Nat) (a3_c : Nat) (w : World) (R : Value → World → Prop) : laws_toLeg a0 a1 a2 a3_p a3_n a3_c w R = fsem P Tryd.f54 (fun k => []) [(.agg #[(.string a0), (.string a1), (.bool a2), (.slice a3_p a3_n a3_c)])] R w := by kernel_rfl
theorem laws_toLeg_ret {a0 : ByteArray} {a1 : ByteArray} {a2 : Bool} {a3_p : Option Addr} {a3_n : Nat} {a3_c : Nat} {w : World} {R : Value → World → Prop} (h : laws_toLeg a0 a1 a2 a3_p a3_n a3_c w R) : Ret P 54 [(.agg #[(.string a0), (.string a1), (.bool a2), (.slice a3_p a3_n a3_c)])] w R :=
  Ret.of_fsem Tryd.func54 rfl (Eq.mp (laws_toLeg_eq a0 a1 a2 a3_p a3_n a3_c w R) h)

def laws_eqLeg (a0 : ByteArray) (a1 : ByteArray) (a2 : Bool) (a3_p : Option Addr) (a3_n : Nat) (a3_c : Nat) (b0 : ByteArray) (b1 : ByteArray) (b2 : Bool) (b3_p : Option Addr) (b3_n : Nat) (b3_c : Nat) (w : World) (R : Value → World → Prop) : Prop :=
  ∀ (r : Nat) (wv : World), New w (.cells ⟨[(.string a0), (.string a1), (.bool a2), (.slice a3_p a3_n a3_c)]⟩ 86 (0, 0)) r wv →
  ∀ (r_1 : Nat) (wv_1 : World), New wv (.cells ⟨[(.string b0), (.string b1), (.bool b2), (.slice b3_p b3_n b3_c)]⟩ 86 (0, 0)) r_1 wv_1 →
  ∃ (t6 : ByteArray), Loads P 9 ((⟨r, 0, none⟩ : Addr).add 0) (.string t6) wv_1 ∧ ∃ (t8 : ByteArray), Loads P 9 ((⟨r_1, 0, none⟩ : Addr).add 0) (.string t8) wv_1 ∧ ((decide (t6 ≠ t8)) = true →
    R (.bool false) wv_1) ∧
  ((decide (t6 ≠ t8)) = false →
    ∃ (t110 : ByteArray) (t111 : Bool) (t112_p : Option Addr) (t112_n : Nat) (t112_c : Nat), Loads P 56 ((⟨r, 0, none⟩ : Addr).add 1) (.agg #[(.string t110), (.bool t111), (.slice t112_p t112_n t112_c)]) wv_1 ∧ ∃ (t130 : ByteArray) (t131 : Bool) (t132_p : Option Addr) (t132_n : Nat) (t132_c : Nat), Loads P 56 ((⟨r_1, 0, none⟩ : Addr).add 1) (.agg #[(.string t130), (.bool t131), (.slice t132_p t132_n t132_c)]) wv_1 ∧ Calls P 33 ⟨[(.agg #[(.string t110), (.bool t111), (.slice t112_p t112_n t112_c)]), (.agg #[(.string t130), (.bool t131), (.slice t132_p t132_n t132_c)])]⟩ wv_1 fun e wv_2 =>
    ∃ (t14 : Bool), e = .returned (.bool t14) ∧
    ((!t14) = true →
      R (.bool false) wv_2) ∧
    ((!t14) = false →
      R (.bool true) wv_2))
theorem laws_eqLeg_eq (a0 : ByteArray) (a1 : ByteArray) (a2 : Bool) (a3_p : Option Addr) (a3_n : Nat) (a3_c : Nat) (b0 : ByteArray) (b1 : ByteArray) (b2 : Bool) (b3_p : Option Addr) (b3_n : Nat) (b3_c : Nat) (w : World) (R : Value → World → Prop) : laws_eqLeg a0 a1 a2 a3_p a3_n a3_c b0 b1 b2 b3_p b3_n b3_c w R = fsem P Tryd.f57 (fun k => []) [(.agg #[(.string a0), (.string a1), (.bool a2), (.slice a3_p a3_n a3_c)]), (.agg #[(.string b0), (.string b1), (.bool b2), (.slice b3_p b3_n b3_c)])] R w := by kernel_rfl
theorem laws_eqLeg_ret {a0 : ByteArray} {a1 : ByteArray} {a2 : Bool} {a3_p : Option Addr} {a3_n : Nat} {a3_c : Nat} {b0 : ByteArray} {b1 : ByteArray} {b2 : Bool} {b3_p : Option Addr} {b3_n : Nat} {b3_c : Nat} {w : World} {R : Value → World → Prop} (h : laws_eqLeg a0 a1 a2 a3_p a3_n a3_c b0 b1 b2 b3_p b3_n b3_c w R) : Ret P 57 [(.agg #[(.string a0), (.string a1), (.bool a2), (.slice a3_p a3_n a3_c)]), (.agg #[(.string b0), (.string b1), (.bool b2), (.slice b3_p b3_n b3_c)])] w R :=
  Ret.of_fsem Tryd.func57 rfl (Eq.mp (laws_eqLeg_eq a0 a1 a2 a3_p a3_n a3_c b0 b1 b2 b3_p b3_n b3_c w R) h)

def laws_szAcctS (a_p : Option Addr) (a_n : Nat) (a_c : Nat) (left : Int) (w : World) (R : Value → World → Prop) : Prop :=
  ∃ t9 : Int, t9 = IntKind.wrap .i64 (left - ((a_n : Nat) : Int)) ∧ ((decide ((t9 : Int) < 0)) = true →
    R (.int .i64 (-1)) w) ∧
  ((decide ((t9 : Int) < 0)) = false →
    ∃ (Inv : Int → Int → World → Prop) (mu : Int → Int → World → Nat), Inv t9 0 w ∧
    ∀ (junk : Fr) (wv : World) (left_1 : Int) (i : Int), Inv left_1 i wv →
      ((decide ((i : Int) < ((a_n : Nat) : Int))) = true →
        (0 ≤ (i : Int) ∧ (i : Int) < (a_n : Nat)) ∧ ptrS a_p fun ad => ∃ (t210 : ByteArray) (t211 : ByteArray) (t212 : Bool) (t213_p : Option Addr) (t213_n : Nat) (t213_c : Nat), Loads P 138 (ad.add (i.toNat * 4)) (.agg #[(.string t210), (.string t211), (.bool t212), (.slice t213_p t213_n t213_c)]) wv ∧ Calls P 92 ⟨[(.agg #[(.string t210), (.string t211), (.bool t212), (.slice t213_p t213_n t213_c)]), (.int .i64 left_1)]⟩ wv fun e wv_1 =>
        ∃ (t23 : Int), e = .returned (.int .i64 t23) ∧
        ((decide ((t23 : Int) < 0)) = true →
          R (.int .i64 (-1)) wv_1) ∧
        ((decide ((t23 : Int) < 0)) = false →
          ∃ t17 : Int, t17 = IntKind.wrap .i64 (i + 1) ∧ Inv t23 t17 wv_1 ∧ mu t23 t17 wv_1 < mu left_1 i wv)) ∧
      ((decide ((i : Int) < ((a_n : Nat) : Int))) = false →
        R (.int .i64 left_1) wv))
theorem laws_szAcctS_eq (a_p : Option Addr) (a_n : Nat) (a_c : Nat) (left : Int) (w : World) (R : Value → World → Prop) : laws_szAcctS a_p a_n a_c left w R = fsem P Tryd.f58 (fun k => cond (Nat.beq k 6) [(1, .one (.int .i64)), (5, .one (.int .i64))] ([])) [(.slice a_p a_n a_c), (.int .i64 left)] R w := by kernel_rfl
theorem laws_szAcctS_ret {a_p : Option Addr} {a_n : Nat} {a_c : Nat} {left : Int} {w : World} {R : Value → World → Prop} (h : laws_szAcctS a_p a_n a_c left w R) : Ret P 58 [(.slice a_p a_n a_c), (.int .i64 left)] w R :=
  Ret.of_fsem Tryd.func58 rfl (Eq.mp (laws_szAcctS_eq a_p a_n a_c left w R) h)

def laws_toAcctS (a_p : Option Addr) (a_n : Nat) (a_c : Nat) (w : World) (R : Value → World → Prop) : Prop :=
  (0 ≤ (((a_n : Nat) : Int) : Int) ∧ (((a_n : Nat) : Int) : Int) ≤ ((a_n : Nat) : Int) ∧ ((64 : Nat) : Int) * ((a_n : Nat) : Int) ≤ 281474976710656) ∧
  ∀ (r : Nat) (wv : World), New w (.cells ⟨zeroRow (.agg #[(.string ByteArray.empty), (.string ByteArray.empty), (.bool false), (.slice none 0 0)]) (a_n * 4)⟩ 93 (0, 0)) r wv →
  ∃ (Inv : Int → World → Prop) (mu : Int → World → Nat), Inv 0 wv ∧
  ∀ (junk : Fr) (wv_1 : World) (i : Int), Inv i wv_1 →
    ((decide ((i : Int) < ((a_n : Nat) : Int))) = true →
      (0 ≤ (i : Int) ∧ (i : Int) < (a_n : Nat)) ∧ ptrS a_p fun ad => ∃ (t190 : ByteArray) (t191 : ByteArray) (t192 : Bool) (t193_p : Option Addr) (t193_n : Nat) (t193_c : Nat), Loads P 138 (ad.add (i.toNat * 4)) (.agg #[(.string t190), (.string t191), (.bool t192), (.slice t193_p t193_n t193_c)]) wv_1 ∧ Calls P 93 ⟨[(.agg #[(.string t190), (.string t191), (.bool t192), (.slice t193_p t193_n t193_c)])]⟩ wv_1 fun e wv_2 =>
      ∃ (t200 : ByteArray) (t201 : ByteArray) (t202 : Bool) (t203_p : Option Addr) (t203_n : Nat) (t203_c : Nat), e = .returned (.agg #[(.string t200), (.string t201), (.bool t202), (.slice t203_p t203_n t203_c)]) ∧
      (0 ≤ (i : Int) ∧ (i : Int) < (a_n : Nat)) ∧ ∃ wv_3, Stores P 93 ((⟨r, 0, none⟩ : Addr).add (i.toNat * 4)) (.agg #[(.string t200), (.string t201), (.bool t202), (.slice t203_p t203_n t203_c)]) wv_2 wv_3 ∧
      ∃ t13 : Int, t13 = IntKind.wrap .i64 (i + 1) ∧ Inv t13 wv_3 ∧ mu t13 wv_3 < mu i wv_1) ∧
    ((decide ((i : Int) < ((a_n : Nat) : Int))) = false →
      R (.slice (some ⟨r, 0, none⟩) a_n a_n) wv_1)
theorem laws_toAcctS_eq (a_p : Option Addr) (a_n : Nat) (a_c : Nat) (w : World) (R : Value → World → Prop) : laws_toAcctS a_p a_n a_c w R = fsem P Tryd.f59 (fun k => cond (Nat.beq k 4) [(4, .one (.int .i64))] ([])) [(.slice a_p a_n a_c)] R w := by kernel_rfl
theorem laws_toAcctS_ret {a_p : Option Addr} {a_n : Nat} {a_c : Nat} {w : World} {R : Value → World → Prop} (h : laws_toAcctS a_p a_n a_c w R) : Ret P 59 [(.slice a_p a_n a_c)] w R :=
  Ret.of_fsem Tryd.func59 rfl (Eq.mp (laws_toAcctS_eq a_p a_n a_c w R) h)

def laws_eqAcctS (a_p : Option Addr) (a_n : Nat) (a_c : Nat) (b_p : Option Addr) (b_n : Nat) (b_c : Nat) (w : World) (R : Value → World → Prop) : Prop :=
  ((decide ((((a_n : Nat) : Int) : Int) ≠ ((b_n : Nat) : Int))) = true →
    R (.bool false) w) ∧
  ((decide ((((a_n : Nat) : Int) : Int) ≠ ((b_n : Nat) : Int))) = false →
    ∃ (Inv : Int → World → Prop) (mu : Int → World → Nat), Inv 0 w ∧
    ∀ (junk : Fr) (wv : World) (i : Int), Inv i wv →
      ((decide ((i : Int) < ((a_n : Nat) : Int))) = true →
        (0 ≤ (i : Int) ∧ (i : Int) < (a_n : Nat)) ∧ ptrS a_p fun ad => ∃ (t200 : ByteArray) (t201 : ByteArray) (t202 : Bool) (t203_p : Option Addr) (t203_n : Nat) (t203_c : Nat), (∀ wv_1, Ext wv.drew wv_1 → Loads P 93 (ad.add (i.toNat * 4)) (.agg #[(.string t200), (.string t201), (.bool t202), (.slice t203_p t203_n t203_c)]) wv_1) ∧ (0 ≤ (i : Int) ∧ (i : Int) < (b_n : Nat)) ∧ ptrS b_p fun ad_1 => ∃ (t240 : ByteArray) (t241 : ByteArray) (t242 : Bool) (t243_p : Option Addr) (t243_n : Nat) (t243_c : Nat), (∀ wv_2, Ext wv.drew wv_2 → Loads P 93 (ad_1.add (i.toNat * 4)) (.agg #[(.string t240), (.string t241), (.bool t242), (.slice t243_p t243_n t243_c)]) wv_2) ∧ Calls P 94 ⟨[(.agg #[(.string t200), (.string t201), (.bool t202), (.slice t203_p t203_n t203_c)]), (.agg #[(.string t240), (.string t241), (.bool t242), (.slice t243_p t243_n t243_c)])]⟩ wv.drew fun e wv_3 =>
        ∃ (t25 : Bool), e = .returned (.bool t25) ∧
        ((!t25) = true →
          R (.bool false) wv_3) ∧
        ((!t25) = false →
          ∃ t16 : Int, t16 = IntKind.wrap .i64 (i + 1) ∧ Inv t16 wv_3 ∧ mu t16 wv_3 < mu i wv)) ∧
      ((decide ((i : Int) < ((a_n : Nat) : Int))) = false →
        R (.bool true) wv))
theorem laws_eqAcctS_eq (a_p : Option Addr) (a_n : Nat) (a_c : Nat) (b_p : Option Addr) (b_n : Nat) (b_c : Nat) (w : World) (R : Value → World → Prop) : laws_eqAcctS a_p a_n a_c b_p b_n b_c w R = fsem P Tryd.f60 (fun k => cond (Nat.beq k 5) [(5, .one (.int .i64))] ([])) [(.slice a_p a_n a_c), (.slice b_p b_n b_c)] R w := by kernel_rfl
theorem laws_eqAcctS_ret {a_p : Option Addr} {a_n : Nat} {a_c : Nat} {b_p : Option Addr} {b_n : Nat} {b_c : Nat} {w : World} {R : Value → World → Prop} (h : laws_eqAcctS a_p a_n a_c b_p b_n b_c w R) : Ret P 60 [(.slice a_p a_n a_c), (.slice b_p b_n b_c)] w R :=
  Ret.of_fsem Tryd.func60 rfl (Eq.mp (laws_eqAcctS_eq a_p a_n a_c b_p b_n b_c w R) h)

def laws_szDebt (a0 : ByteArray) (a1 : ByteArray) (a2 : ByteArray) (a3 : Bool) (a4_p : Option Addr) (a4_n : Nat) (a4_c : Nat) (left : Int) (w : World) (R : Value → World → Prop) : Prop :=
  ∀ (r : Nat) (wv : World), New w (.cells ⟨[(.string a0), (.string a1), (.string a2), (.bool a3), (.slice a4_p a4_n a4_c)]⟩ 98 (0, 0)) r wv →
  ∃ (t7 : ByteArray), Loads P 9 ((⟨r, 0, none⟩ : Addr).add 0) (.string t7) wv ∧ ∃ t9 : Int, t9 = IntKind.wrap .i64 (left - ((t7.size : Nat) : Int)) ∧ ((decide ((t9 : Int) < 0)) = true →
    R (.int .i64 (-1)) wv) ∧
  ((decide ((t9 : Int) < 0)) = false →
    ∃ (t14 : ByteArray), Loads P 9 ((⟨r, 0, none⟩ : Addr).add 1) (.string t14) wv ∧ ∃ t16 : Int, t16 = IntKind.wrap .i64 (t9 - ((t14.size : Nat) : Int)) ∧ ((decide ((t16 : Int) < 0)) = true →
      R (.int .i64 (-1)) wv) ∧
    ((decide ((t16 : Int) < 0)) = false →
      ∃ (t200 : ByteArray) (t201 : Bool) (t202_p : Option Addr) (t202_n : Nat) (t202_c : Nat), Loads P 82 ((⟨r, 0, none⟩ : Addr).add 2) (.agg #[(.string t200), (.bool t201), (.slice t202_p t202_n t202_c)]) wv ∧ Calls P 85 ⟨[(.agg #[(.string t200), (.bool t201), (.slice t202_p t202_n t202_c)]), (.int .i64 t16)]⟩ wv fun e wv_1 =>
      ∃ (t22 : Int), e = .returned (.int .i64 t22) ∧
      ((decide ((t22 : Int) < 0)) = true →
        R (.int .i64 (-1)) wv_1) ∧
      ((decide ((t22 : Int) < 0)) = false →
        R (.int .i64 t22) wv_1)))
theorem laws_szDebt_eq (a0 : ByteArray) (a1 : ByteArray) (a2 : ByteArray) (a3 : Bool) (a4_p : Option Addr) (a4_n : Nat) (a4_c : Nat) (left : Int) (w : World) (R : Value → World → Prop) : laws_szDebt a0 a1 a2 a3 a4_p a4_n a4_c left w R = fsem P Tryd.f61 (fun k => []) [(.agg #[(.string a0), (.string a1), (.string a2), (.bool a3), (.slice a4_p a4_n a4_c)]), (.int .i64 left)] R w := by kernel_rfl
theorem laws_szDebt_ret {a0 : ByteArray} {a1 : ByteArray} {a2 : ByteArray} {a3 : Bool} {a4_p : Option Addr} {a4_n : Nat} {a4_c : Nat} {left : Int} {w : World} {R : Value → World → Prop} (h : laws_szDebt a0 a1 a2 a3 a4_p a4_n a4_c left w R) : Ret P 61 [(.agg #[(.string a0), (.string a1), (.string a2), (.bool a3), (.slice a4_p a4_n a4_c)]), (.int .i64 left)] w R :=
  Ret.of_fsem Tryd.func61 rfl (Eq.mp (laws_szDebt_eq a0 a1 a2 a3 a4_p a4_n a4_c left w R) h)

def laws_toDebt (a0 : ByteArray) (a1 : ByteArray) (a2 : ByteArray) (a3 : Bool) (a4_p : Option Addr) (a4_n : Nat) (a4_c : Nat) (w : World) (R : Value → World → Prop) : Prop :=
  ∀ (r : Nat) (wv : World), New w (.cells ⟨[(.string a0), (.string a1), (.string a2), (.bool a3), (.slice a4_p a4_n a4_c)]⟩ 98 (0, 0)) r wv →
  ∀ (r_1 : Nat) (wv_1 : World), New wv (.cells ⟨[(.string ByteArray.empty), (.string ByteArray.empty), (.string ByteArray.empty), (.bool false), (.slice none 0 0)]⟩ 100 (0, 0)) r_1 wv_1 →
  ∀ (r_2 : Nat) (wv_2 : World), New wv_1 (.cells ⟨[(.string ByteArray.empty), (.string ByteArray.empty), (.string ByteArray.empty), (.bool false), (.slice none 0 0)]⟩ 100 (0, 0)) r_2 wv_2 →
  ∃ (t5 : ByteArray), Loads P 9 ((⟨r, 0, none⟩ : Addr).add 0) (.string t5) wv_2 ∧ ∃ wv_3, Stores P 9 ((⟨r_2, 0, none⟩ : Addr).add 0) (.string t5) wv_2 wv_3 ∧
  ∃ (t8 : ByteArray), Loads P 9 ((⟨r, 0, none⟩ : Addr).add 1) (.string t8) wv_3 ∧ ∃ wv_4, Stores P 9 ((⟨r_2, 0, none⟩ : Addr).add 1) (.string t8) wv_3 wv_4 ∧
  ∃ (t110 : ByteArray) (t111 : Bool) (t112_p : Option Addr) (t112_n : Nat) (t112_c : Nat), Loads P 82 ((⟨r, 0, none⟩ : Addr).add 2) (.agg #[(.string t110), (.bool t111), (.slice t112_p t112_n t112_c)]) wv_4 ∧ Calls P 88 ⟨[(.agg #[(.string t110), (.bool t111), (.slice t112_p t112_n t112_c)])]⟩ wv_4 fun e wv_5 =>
  ∃ (t120 : ByteArray) (t121 : Bool) (t122_p : Option Addr) (t122_n : Nat) (t122_c : Nat), e = .returned (.agg #[(.string t120), (.bool t121), (.slice t122_p t122_n t122_c)]) ∧
  ∃ wv_6, Stores P 56 ((⟨r_2, 0, none⟩ : Addr).add 2) (.agg #[(.string t120), (.bool t121), (.slice t122_p t122_n t122_c)]) wv_5 wv_6 ∧
  ∃ (t140 : ByteArray) (t141 : ByteArray) (t142 : ByteArray) (t143 : Bool) (t144_p : Option Addr) (t144_n : Nat) (t144_c : Nat), Loads P 100 ⟨r_2, 0, none⟩ (.agg #[(.string t140), (.string t141), (.string t142), (.bool t143), (.slice t144_p t144_n t144_c)]) wv_6 ∧ ∃ wv_7, Stores P 100 ⟨r_1, 0, none⟩ (.agg #[(.string t140), (.string t141), (.string t142), (.bool t143), (.slice t144_p t144_n t144_c)]) wv_6 wv_7 ∧
  ∃ (r0 : ByteArray) (r1 : ByteArray) (r2 : ByteArray) (r3 : Bool) (r4_p : Option Addr) (r4_n : Nat) (r4_c : Nat), Loads P 100 ⟨r_1, 0, none⟩ (.agg #[(.string r0), (.string r1), (.string r2), (.bool r3), (.slice r4_p r4_n r4_c)]) wv_7 ∧ R (.agg #[(.string r0), (.string r1), (.string r2), (.bool r3), (.slice r4_p r4_n r4_c)]) wv_7
theorem laws_toDebt_eq (a0 : ByteArray) (a1 : ByteArray) (a2 : ByteArray) (a3 : Bool) (a4_p : Option Addr) (a4_n : Nat) (a4_c : Nat) (w : World) (R : Value → World → Prop) : laws_toDebt a0 a1 a2 a3 a4_p a4_n a4_c w R = fsem P Tryd.f64 (fun k => []) [(.agg #[(.string a0), (.string a1), (.string a2), (.bool a3), (.slice a4_p a4_n a4_c)])] R w := by kernel_rfl
theorem laws_toDebt_ret {a0 : ByteArray} {a1 : ByteArray} {a2 : ByteArray} {a3 : Bool} {a4_p : Option Addr} {a4_n : Nat} {a4_c : Nat} {w : World} {R : Value → World → Prop} (h : laws_toDebt a0 a1 a2 a3 a4_p a4_n a4_c w R) : Ret P 64 [(.agg #[(.string a0), (.string a1), (.string a2), (.bool a3), (.slice a4_p a4_n a4_c)])] w R :=
  Ret.of_fsem Tryd.func64 rfl (Eq.mp (laws_toDebt_eq a0 a1 a2 a3 a4_p a4_n a4_c w R) h)

def laws_eqDebt (a0 : ByteArray) (a1 : ByteArray) (a2 : ByteArray) (a3 : Bool) (a4_p : Option Addr) (a4_n : Nat) (a4_c : Nat) (b0 : ByteArray) (b1 : ByteArray) (b2 : ByteArray) (b3 : Bool) (b4_p : Option Addr) (b4_n : Nat) (b4_c : Nat) (w : World) (R : Value → World → Prop) : Prop :=
  ∀ (r : Nat) (wv : World), New w (.cells ⟨[(.string a0), (.string a1), (.string a2), (.bool a3), (.slice a4_p a4_n a4_c)]⟩ 100 (0, 0)) r wv →
  ∀ (r_1 : Nat) (wv_1 : World), New wv (.cells ⟨[(.string b0), (.string b1), (.string b2), (.bool b3), (.slice b4_p b4_n b4_c)]⟩ 100 (0, 0)) r_1 wv_1 →
  ∃ (t6 : ByteArray), Loads P 9 ((⟨r, 0, none⟩ : Addr).add 0) (.string t6) wv_1 ∧ ∃ (t8 : ByteArray), Loads P 9 ((⟨r_1, 0, none⟩ : Addr).add 0) (.string t8) wv_1 ∧ ((decide (t6 ≠ t8)) = true →
    R (.bool false) wv_1) ∧
  ((decide (t6 ≠ t8)) = false →
    ∃ (t11 : ByteArray), Loads P 9 ((⟨r, 0, none⟩ : Addr).add 1) (.string t11) wv_1 ∧ ∃ (t13 : ByteArray), Loads P 9 ((⟨r_1, 0, none⟩ : Addr).add 1) (.string t13) wv_1 ∧ ((decide (t11 ≠ t13)) = true →
      R (.bool false) wv_1) ∧
    ((decide (t11 ≠ t13)) = false →
      ∃ (t160 : ByteArray) (t161 : Bool) (t162_p : Option Addr) (t162_n : Nat) (t162_c : Nat), Loads P 56 ((⟨r, 0, none⟩ : Addr).add 2) (.agg #[(.string t160), (.bool t161), (.slice t162_p t162_n t162_c)]) wv_1 ∧ ∃ (t180 : ByteArray) (t181 : Bool) (t182_p : Option Addr) (t182_n : Nat) (t182_c : Nat), Loads P 56 ((⟨r_1, 0, none⟩ : Addr).add 2) (.agg #[(.string t180), (.bool t181), (.slice t182_p t182_n t182_c)]) wv_1 ∧ Calls P 33 ⟨[(.agg #[(.string t160), (.bool t161), (.slice t162_p t162_n t162_c)]), (.agg #[(.string t180), (.bool t181), (.slice t182_p t182_n t182_c)])]⟩ wv_1 fun e wv_2 =>
      ∃ (t19 : Bool), e = .returned (.bool t19) ∧
      ((!t19) = true →
        R (.bool false) wv_2) ∧
      ((!t19) = false →
        R (.bool true) wv_2)))
theorem laws_eqDebt_eq (a0 : ByteArray) (a1 : ByteArray) (a2 : ByteArray) (a3 : Bool) (a4_p : Option Addr) (a4_n : Nat) (a4_c : Nat) (b0 : ByteArray) (b1 : ByteArray) (b2 : ByteArray) (b3 : Bool) (b4_p : Option Addr) (b4_n : Nat) (b4_c : Nat) (w : World) (R : Value → World → Prop) : laws_eqDebt a0 a1 a2 a3 a4_p a4_n a4_c b0 b1 b2 b3 b4_p b4_n b4_c w R = fsem P Tryd.f67 (fun k => []) [(.agg #[(.string a0), (.string a1), (.string a2), (.bool a3), (.slice a4_p a4_n a4_c)]), (.agg #[(.string b0), (.string b1), (.string b2), (.bool b3), (.slice b4_p b4_n b4_c)])] R w := by kernel_rfl
theorem laws_eqDebt_ret {a0 : ByteArray} {a1 : ByteArray} {a2 : ByteArray} {a3 : Bool} {a4_p : Option Addr} {a4_n : Nat} {a4_c : Nat} {b0 : ByteArray} {b1 : ByteArray} {b2 : ByteArray} {b3 : Bool} {b4_p : Option Addr} {b4_n : Nat} {b4_c : Nat} {w : World} {R : Value → World → Prop} (h : laws_eqDebt a0 a1 a2 a3 a4_p a4_n a4_c b0 b1 b2 b3 b4_p b4_n b4_c w R) : Ret P 67 [(.agg #[(.string a0), (.string a1), (.string a2), (.bool a3), (.slice a4_p a4_n a4_c)]), (.agg #[(.string b0), (.string b1), (.string b2), (.bool b3), (.slice b4_p b4_n b4_c)])] w R :=
  Ret.of_fsem Tryd.func67 rfl (Eq.mp (laws_eqDebt_eq a0 a1 a2 a3 a4_p a4_n a4_c b0 b1 b2 b3 b4_p b4_n b4_c w R) h)

def laws_markText (k : Int) (w : World) (R : Value → World → Prop) : Prop :=
  ((decide ((k : Int) ≤ 0)) = true →
    R (.string (S [109, 48])) w) ∧
  ((decide ((k : Int) ≤ 0)) = false →
    ∃ (Inv : Int → ByteArray → World → Prop) (mu : Int → ByteArray → World → Nat), Inv k (S []) w ∧
    ∀ (junk : Fr) (wv : World) (k_1 : Int) (out : ByteArray), Inv k_1 out wv →
      ((decide ((0 : Int) < k_1)) = true →
        (10 : Int) ≠ 0 ∧ ∃ t9 : Int, t9 = Int.tmod k_1 10 ∧ ∃ t10 : Int, t10 = IntKind.wrap .i64 (48 + t9) ∧ ∃ t11 : Int, t11 = IntKind.wrap .u8 t10 ∧ ∀ (r : Nat) (wv_1 : World), New wv (.cells ⟨[(.int .u8 t11)]⟩ 5 (0, 0)) r wv_1 →
        ∃ (t13 : ByteArray), Convs P 152 9 (.slice (some ⟨r, 0, none⟩) 1 1) (.string t13) wv_1 ∧ t13.size + out.size ≤ 9223372036854775807 ∧ ∃ t15 : ByteArray, t15 = t13 ++ out ∧ (10 : Int) ≠ 0 ∧ ∃ t17 : Int, t17 = IntKind.wrap .i64 (Int.tdiv k_1 10) ∧ Inv t17 t15 wv_1 ∧ mu t17 t15 wv_1 < mu k_1 out wv) ∧
      ((decide ((0 : Int) < k_1)) = false →
        (S [109]).size + out.size ≤ 9223372036854775807 ∧ ∃ t19 : ByteArray, t19 = (S [109]) ++ out ∧ R (.string t19) wv))
theorem laws_markText_eq (k : Int) (w : World) (R : Value → World → Prop) : laws_markText k w R = fsem P Tryd.f70 (fun k => cond (Nat.beq k 5) [(0, .one (.int .i64)), (3, .one .str)] ([])) [(.int .i64 k)] R w := by kernel_rfl
theorem laws_markText_ret {k : Int} {w : World} {R : Value → World → Prop} (h : laws_markText k w R) : Ret P 70 [(.int .i64 k)] w R :=
  Ret.of_fsem Tryd.func70 rfl (Eq.mp (laws_markText_eq k w R) h)

def laws_markIntS (a_p : Option Addr) (a_n : Nat) (a_c : Nat) (k : Int) (w : World) (R : Value → World → Prop) : Prop :=
  ∃ (Inv : Int → Int → World → Prop) (mu : Int → Int → World → Nat), Inv k 0 w ∧
  ∀ (junk : Fr) (wv : World) (k_1 : Int) (i : Int), Inv k_1 i wv →
    ((decide ((i : Int) < ((a_n : Nat) : Int))) = true →
      (0 ≤ (i : Int) ∧ (i : Int) < (a_n : Nat)) ∧ ptrS a_p fun ad => ∃ wv_1, Stores P 3 (ad.add (i.toNat * 1)) (.int .i64 k_1) wv wv_1 ∧
      ∃ t17 : Int, t17 = IntKind.wrap .i64 (k_1 + 1) ∧ ∃ t11 : Int, t11 = IntKind.wrap .i64 (i + 1) ∧ Inv t17 t11 wv_1 ∧ mu t17 t11 wv_1 < mu k_1 i wv) ∧
    ((decide ((i : Int) < ((a_n : Nat) : Int))) = false →
      R (.int .i64 k_1) wv)
theorem laws_markIntS_eq (a_p : Option Addr) (a_n : Nat) (a_c : Nat) (k : Int) (w : World) (R : Value → World → Prop) : laws_markIntS a_p a_n a_c k w R = fsem P Tryd.f71 (fun k => cond (Nat.beq k 3) [(1, .one (.int .i64)), (5, .one (.int .i64))] ([])) [(.slice a_p a_n a_c), (.int .i64 k)] R w := by kernel_rfl
theorem laws_markIntS_ret {a_p : Option Addr} {a_n : Nat} {a_c : Nat} {k : Int} {w : World} {R : Value → World → Prop} (h : laws_markIntS a_p a_n a_c k w R) : Ret P 71 [(.slice a_p a_n a_c), (.int .i64 k)] w R :=
  Ret.of_fsem Tryd.func71 rfl (Eq.mp (laws_markIntS_eq a_p a_n a_c k w R) h)

def laws_heldIntS (a_p : Option Addr) (a_n : Nat) (a_c : Nat) (k : Int) (w : World) (R : Value → World → Prop) : Prop :=
  ∃ (Inv : Int → Int → World → Prop) (mu : Int → Int → World → Nat), Inv k 0 w ∧
  ∀ (junk : Fr) (wv : World) (k_1 : Int) (i : Int), Inv k_1 i wv →
    ((decide ((i : Int) < ((a_n : Nat) : Int))) = true →
      (0 ≤ (i : Int) ∧ (i : Int) < (a_n : Nat)) ∧ ptrS a_p fun ad => ∃ (t15 : Int), Loads P 3 (ad.add (i.toNat * 1)) (.int .i64 t15) wv ∧ ((decide ((t15 : Int) ≠ k_1)) = true →
        R (.int .i64 (-1)) wv) ∧
      ((decide ((t15 : Int) ≠ k_1)) = false →
        ∃ t19 : Int, t19 = IntKind.wrap .i64 (k_1 + 1) ∧ ∃ t11 : Int, t11 = IntKind.wrap .i64 (i + 1) ∧ Inv t19 t11 wv ∧ mu t19 t11 wv < mu k_1 i wv)) ∧
    ((decide ((i : Int) < ((a_n : Nat) : Int))) = false →
      R (.int .i64 k_1) wv)
theorem laws_heldIntS_eq (a_p : Option Addr) (a_n : Nat) (a_c : Nat) (k : Int) (w : World) (R : Value → World → Prop) : laws_heldIntS a_p a_n a_c k w R = fsem P Tryd.f72 (fun k => cond (Nat.beq k 3) [(1, .one (.int .i64)), (5, .one (.int .i64))] ([])) [(.slice a_p a_n a_c), (.int .i64 k)] R w := by kernel_rfl
theorem laws_heldIntS_ret {a_p : Option Addr} {a_n : Nat} {a_c : Nat} {k : Int} {w : World} {R : Value → World → Prop} (h : laws_heldIntS a_p a_n a_c k w R) : Ret P 72 [(.slice a_p a_n a_c), (.int .i64 k)] w R :=
  Ret.of_fsem Tryd.func72 rfl (Eq.mp (laws_heldIntS_eq a_p a_n a_c k w R) h)

def laws_szRow (a0 : ByteArray) (a1 : Bool) (a2_p : Option Addr) (a2_n : Nat) (a2_c : Nat) (a3 : ByteArray) (a4 : Bool) (a5_p : Option Addr) (a5_n : Nat) (a5_c : Nat) (a6 : ByteArray) (a7 : Bool) (a8_p : Option Addr) (a8_n : Nat) (a8_c : Nat) (left : Int) (w : World) (R : Value → World → Prop) : Prop :=
  ∀ (r : Nat) (wv : World), New w (.cells ⟨[(.string a0), (.bool a1), (.slice a2_p a2_n a2_c), (.string a3), (.bool a4), (.slice a5_p a5_n a5_c), (.string a6), (.bool a7), (.slice a8_p a8_n a8_c)]⟩ 111 (0, 0)) r wv →
  ∃ (t60 : ByteArray) (t61 : Bool) (t62_p : Option Addr) (t62_n : Nat) (t62_c : Nat), Loads P 82 ((⟨r, 0, none⟩ : Addr).add 0) (.agg #[(.string t60), (.bool t61), (.slice t62_p t62_n t62_c)]) wv ∧ Calls P 85 ⟨[(.agg #[(.string t60), (.bool t61), (.slice t62_p t62_n t62_c)]), (.int .i64 left)]⟩ wv fun e wv_1 =>
  ∃ (t8 : Int), e = .returned (.int .i64 t8) ∧
  ((decide ((t8 : Int) < 0)) = true →
    R (.int .i64 (-1)) wv_1) ∧
  ((decide ((t8 : Int) < 0)) = false →
    ∃ (t120 : ByteArray) (t121 : Bool) (t122_p : Option Addr) (t122_n : Nat) (t122_c : Nat), Loads P 82 ((⟨r, 0, none⟩ : Addr).add 3) (.agg #[(.string t120), (.bool t121), (.slice t122_p t122_n t122_c)]) wv_1 ∧ Calls P 85 ⟨[(.agg #[(.string t120), (.bool t121), (.slice t122_p t122_n t122_c)]), (.int .i64 t8)]⟩ wv_1 fun e_1 wv_2 =>
    ∃ (t14 : Int), e_1 = .returned (.int .i64 t14) ∧
    ((decide ((t14 : Int) < 0)) = true →
      R (.int .i64 (-1)) wv_2) ∧
    ((decide ((t14 : Int) < 0)) = false →
      ∃ (t180 : ByteArray) (t181 : Bool) (t182_p : Option Addr) (t182_n : Nat) (t182_c : Nat), Loads P 82 ((⟨r, 0, none⟩ : Addr).add 6) (.agg #[(.string t180), (.bool t181), (.slice t182_p t182_n t182_c)]) wv_2 ∧ Calls P 85 ⟨[(.agg #[(.string t180), (.bool t181), (.slice t182_p t182_n t182_c)]), (.int .i64 t14)]⟩ wv_2 fun e_2 wv_3 =>
      ∃ (t20 : Int), e_2 = .returned (.int .i64 t20) ∧
      ((decide ((t20 : Int) < 0)) = true →
        R (.int .i64 (-1)) wv_3) ∧
      ((decide ((t20 : Int) < 0)) = false →
        R (.int .i64 t20) wv_3)))
theorem laws_szRow_eq (a0 : ByteArray) (a1 : Bool) (a2_p : Option Addr) (a2_n : Nat) (a2_c : Nat) (a3 : ByteArray) (a4 : Bool) (a5_p : Option Addr) (a5_n : Nat) (a5_c : Nat) (a6 : ByteArray) (a7 : Bool) (a8_p : Option Addr) (a8_n : Nat) (a8_c : Nat) (left : Int) (w : World) (R : Value → World → Prop) : laws_szRow a0 a1 a2_p a2_n a2_c a3 a4 a5_p a5_n a5_c a6 a7 a8_p a8_n a8_c left w R = fsem P Tryd.f73 (fun k => []) [(.agg #[(.string a0), (.bool a1), (.slice a2_p a2_n a2_c), (.string a3), (.bool a4), (.slice a5_p a5_n a5_c), (.string a6), (.bool a7), (.slice a8_p a8_n a8_c)]), (.int .i64 left)] R w := by kernel_rfl
theorem laws_szRow_ret {a0 : ByteArray} {a1 : Bool} {a2_p : Option Addr} {a2_n : Nat} {a2_c : Nat} {a3 : ByteArray} {a4 : Bool} {a5_p : Option Addr} {a5_n : Nat} {a5_c : Nat} {a6 : ByteArray} {a7 : Bool} {a8_p : Option Addr} {a8_n : Nat} {a8_c : Nat} {left : Int} {w : World} {R : Value → World → Prop} (h : laws_szRow a0 a1 a2_p a2_n a2_c a3 a4 a5_p a5_n a5_c a6 a7 a8_p a8_n a8_c left w R) : Ret P 73 [(.agg #[(.string a0), (.bool a1), (.slice a2_p a2_n a2_c), (.string a3), (.bool a4), (.slice a5_p a5_n a5_c), (.string a6), (.bool a7), (.slice a8_p a8_n a8_c)]), (.int .i64 left)] w R :=
  Ret.of_fsem Tryd.func73 rfl (Eq.mp (laws_szRow_eq a0 a1 a2_p a2_n a2_c a3 a4 a5_p a5_n a5_c a6 a7 a8_p a8_n a8_c left w R) h)

def laws_toRow (a0 : ByteArray) (a1 : Bool) (a2_p : Option Addr) (a2_n : Nat) (a2_c : Nat) (a3 : ByteArray) (a4 : Bool) (a5_p : Option Addr) (a5_n : Nat) (a5_c : Nat) (a6 : ByteArray) (a7 : Bool) (a8_p : Option Addr) (a8_n : Nat) (a8_c : Nat) (w : World) (R : Value → World → Prop) : Prop :=
  ∀ (r : Nat) (wv : World), New w (.cells ⟨[(.string a0), (.bool a1), (.slice a2_p a2_n a2_c), (.string a3), (.bool a4), (.slice a5_p a5_n a5_c), (.string a6), (.bool a7), (.slice a8_p a8_n a8_c)]⟩ 111 (0, 0)) r wv →
  ∀ (r_1 : Nat) (wv_1 : World), New wv (.cells ⟨[(.string ByteArray.empty), (.bool false), (.slice none 0 0), (.string ByteArray.empty), (.bool false), (.slice none 0 0), (.string ByteArray.empty), (.bool false), (.slice none 0 0)]⟩ 114 (0, 0)) r_1 wv_1 →
  ∀ (r_2 : Nat) (wv_2 : World), New wv_1 (.cells ⟨[(.string ByteArray.empty), (.bool false), (.slice none 0 0), (.string ByteArray.empty), (.bool false), (.slice none 0 0), (.string ByteArray.empty), (.bool false), (.slice none 0 0)]⟩ 114 (0, 0)) r_2 wv_2 →
  ∃ (t50 : ByteArray) (t51 : Bool) (t52_p : Option Addr) (t52_n : Nat) (t52_c : Nat), Loads P 82 ((⟨r, 0, none⟩ : Addr).add 0) (.agg #[(.string t50), (.bool t51), (.slice t52_p t52_n t52_c)]) wv_2 ∧ Calls P 88 ⟨[(.agg #[(.string t50), (.bool t51), (.slice t52_p t52_n t52_c)])]⟩ wv_2 fun e wv_3 =>
  ∃ (t60 : ByteArray) (t61 : Bool) (t62_p : Option Addr) (t62_n : Nat) (t62_c : Nat), e = .returned (.agg #[(.string t60), (.bool t61), (.slice t62_p t62_n t62_c)]) ∧
  ∃ wv_4, Stores P 56 ((⟨r_2, 0, none⟩ : Addr).add 0) (.agg #[(.string t60), (.bool t61), (.slice t62_p t62_n t62_c)]) wv_3 wv_4 ∧
  ∃ (t90 : ByteArray) (t91 : Bool) (t92_p : Option Addr) (t92_n : Nat) (t92_c : Nat), Loads P 82 ((⟨r, 0, none⟩ : Addr).add 3) (.agg #[(.string t90), (.bool t91), (.slice t92_p t92_n t92_c)]) wv_4 ∧ Calls P 88 ⟨[(.agg #[(.string t90), (.bool t91), (.slice t92_p t92_n t92_c)])]⟩ wv_4 fun e_1 wv_5 =>
  ∃ (t100 : ByteArray) (t101 : Bool) (t102_p : Option Addr) (t102_n : Nat) (t102_c : Nat), e_1 = .returned (.agg #[(.string t100), (.bool t101), (.slice t102_p t102_n t102_c)]) ∧
  ∃ wv_6, Stores P 56 ((⟨r_2, 0, none⟩ : Addr).add 3) (.agg #[(.string t100), (.bool t101), (.slice t102_p t102_n t102_c)]) wv_5 wv_6 ∧
  ∃ (t130 : ByteArray) (t131 : Bool) (t132_p : Option Addr) (t132_n : Nat) (t132_c : Nat), Loads P 82 ((⟨r, 0, none⟩ : Addr).add 6) (.agg #[(.string t130), (.bool t131), (.slice t132_p t132_n t132_c)]) wv_6 ∧ Calls P 88 ⟨[(.agg #[(.string t130), (.bool t131), (.slice t132_p t132_n t132_c)])]⟩ wv_6 fun e_2 wv_7 =>
  ∃ (t140 : ByteArray) (t141 : Bool) (t142_p : Option Addr) (t142_n : Nat) (t142_c : Nat), e_2 = .returned (.agg #[(.string t140), (.bool t141), (.slice t142_p t142_n t142_c)]) ∧
  ∃ wv_8, Stores P 56 ((⟨r_2, 0, none⟩ : Addr).add 6) (.agg #[(.string t140), (.bool t141), (.slice t142_p t142_n t142_c)]) wv_7 wv_8 ∧
  ∃ (t160 : ByteArray) (t161 : Bool) (t162_p : Option Addr) (t162_n : Nat) (t162_c : Nat) (t163 : ByteArray) (t164 : Bool) (t165_p : Option Addr) (t165_n : Nat) (t165_c : Nat) (t166 : ByteArray) (t167 : Bool) (t168_p : Option Addr) (t168_n : Nat) (t168_c : Nat), Loads P 114 ⟨r_2, 0, none⟩ (.agg #[(.string t160), (.bool t161), (.slice t162_p t162_n t162_c), (.string t163), (.bool t164), (.slice t165_p t165_n t165_c), (.string t166), (.bool t167), (.slice t168_p t168_n t168_c)]) wv_8 ∧ ∃ wv_9, Stores P 114 ⟨r_1, 0, none⟩ (.agg #[(.string t160), (.bool t161), (.slice t162_p t162_n t162_c), (.string t163), (.bool t164), (.slice t165_p t165_n t165_c), (.string t166), (.bool t167), (.slice t168_p t168_n t168_c)]) wv_8 wv_9 ∧
  ∃ (r0 : ByteArray) (r1 : Bool) (r2_p : Option Addr) (r2_n : Nat) (r2_c : Nat) (r3 : ByteArray) (r4 : Bool) (r5_p : Option Addr) (r5_n : Nat) (r5_c : Nat) (r6 : ByteArray) (r7 : Bool) (r8_p : Option Addr) (r8_n : Nat) (r8_c : Nat), Loads P 114 ⟨r_1, 0, none⟩ (.agg #[(.string r0), (.bool r1), (.slice r2_p r2_n r2_c), (.string r3), (.bool r4), (.slice r5_p r5_n r5_c), (.string r6), (.bool r7), (.slice r8_p r8_n r8_c)]) wv_9 ∧ R (.agg #[(.string r0), (.bool r1), (.slice r2_p r2_n r2_c), (.string r3), (.bool r4), (.slice r5_p r5_n r5_c), (.string r6), (.bool r7), (.slice r8_p r8_n r8_c)]) wv_9
theorem laws_toRow_eq (a0 : ByteArray) (a1 : Bool) (a2_p : Option Addr) (a2_n : Nat) (a2_c : Nat) (a3 : ByteArray) (a4 : Bool) (a5_p : Option Addr) (a5_n : Nat) (a5_c : Nat) (a6 : ByteArray) (a7 : Bool) (a8_p : Option Addr) (a8_n : Nat) (a8_c : Nat) (w : World) (R : Value → World → Prop) : laws_toRow a0 a1 a2_p a2_n a2_c a3 a4 a5_p a5_n a5_c a6 a7 a8_p a8_n a8_c w R = fsem P Tryd.f75 (fun k => []) [(.agg #[(.string a0), (.bool a1), (.slice a2_p a2_n a2_c), (.string a3), (.bool a4), (.slice a5_p a5_n a5_c), (.string a6), (.bool a7), (.slice a8_p a8_n a8_c)])] R w := by kernel_rfl
theorem laws_toRow_ret {a0 : ByteArray} {a1 : Bool} {a2_p : Option Addr} {a2_n : Nat} {a2_c : Nat} {a3 : ByteArray} {a4 : Bool} {a5_p : Option Addr} {a5_n : Nat} {a5_c : Nat} {a6 : ByteArray} {a7 : Bool} {a8_p : Option Addr} {a8_n : Nat} {a8_c : Nat} {w : World} {R : Value → World → Prop} (h : laws_toRow a0 a1 a2_p a2_n a2_c a3 a4 a5_p a5_n a5_c a6 a7 a8_p a8_n a8_c w R) : Ret P 75 [(.agg #[(.string a0), (.bool a1), (.slice a2_p a2_n a2_c), (.string a3), (.bool a4), (.slice a5_p a5_n a5_c), (.string a6), (.bool a7), (.slice a8_p a8_n a8_c)])] w R :=
  Ret.of_fsem Tryd.func75 rfl (Eq.mp (laws_toRow_eq a0 a1 a2_p a2_n a2_c a3 a4 a5_p a5_n a5_c a6 a7 a8_p a8_n a8_c w R) h)

def laws_eqRow (a0 : ByteArray) (a1 : Bool) (a2_p : Option Addr) (a2_n : Nat) (a2_c : Nat) (a3 : ByteArray) (a4 : Bool) (a5_p : Option Addr) (a5_n : Nat) (a5_c : Nat) (a6 : ByteArray) (a7 : Bool) (a8_p : Option Addr) (a8_n : Nat) (a8_c : Nat) (b0 : ByteArray) (b1 : Bool) (b2_p : Option Addr) (b2_n : Nat) (b2_c : Nat) (b3 : ByteArray) (b4 : Bool) (b5_p : Option Addr) (b5_n : Nat) (b5_c : Nat) (b6 : ByteArray) (b7 : Bool) (b8_p : Option Addr) (b8_n : Nat) (b8_c : Nat) (w : World) (R : Value → World → Prop) : Prop :=
  ∀ (r : Nat) (wv : World), New w (.cells ⟨[(.string a0), (.bool a1), (.slice a2_p a2_n a2_c), (.string a3), (.bool a4), (.slice a5_p a5_n a5_c), (.string a6), (.bool a7), (.slice a8_p a8_n a8_c)]⟩ 114 (0, 0)) r wv →
  ∀ (r_1 : Nat) (wv_1 : World), New wv (.cells ⟨[(.string b0), (.bool b1), (.slice b2_p b2_n b2_c), (.string b3), (.bool b4), (.slice b5_p b5_n b5_c), (.string b6), (.bool b7), (.slice b8_p b8_n b8_c)]⟩ 114 (0, 0)) r_1 wv_1 →
  ∃ (t60 : ByteArray) (t61 : Bool) (t62_p : Option Addr) (t62_n : Nat) (t62_c : Nat), Loads P 56 ((⟨r, 0, none⟩ : Addr).add 0) (.agg #[(.string t60), (.bool t61), (.slice t62_p t62_n t62_c)]) wv_1 ∧ ∃ (t80 : ByteArray) (t81 : Bool) (t82_p : Option Addr) (t82_n : Nat) (t82_c : Nat), Loads P 56 ((⟨r_1, 0, none⟩ : Addr).add 0) (.agg #[(.string t80), (.bool t81), (.slice t82_p t82_n t82_c)]) wv_1 ∧ Calls P 33 ⟨[(.agg #[(.string t60), (.bool t61), (.slice t62_p t62_n t62_c)]), (.agg #[(.string t80), (.bool t81), (.slice t82_p t82_n t82_c)])]⟩ wv_1 fun e wv_2 =>
  ∃ (t9 : Bool), e = .returned (.bool t9) ∧
  ((!t9) = true →
    R (.bool false) wv_2) ∧
  ((!t9) = false →
    ∃ (t120 : ByteArray) (t121 : Bool) (t122_p : Option Addr) (t122_n : Nat) (t122_c : Nat), Loads P 56 ((⟨r, 0, none⟩ : Addr).add 3) (.agg #[(.string t120), (.bool t121), (.slice t122_p t122_n t122_c)]) wv_2 ∧ ∃ (t140 : ByteArray) (t141 : Bool) (t142_p : Option Addr) (t142_n : Nat) (t142_c : Nat), Loads P 56 ((⟨r_1, 0, none⟩ : Addr).add 3) (.agg #[(.string t140), (.bool t141), (.slice t142_p t142_n t142_c)]) wv_2 ∧ Calls P 33 ⟨[(.agg #[(.string t120), (.bool t121), (.slice t122_p t122_n t122_c)]), (.agg #[(.string t140), (.bool t141), (.slice t142_p t142_n t142_c)])]⟩ wv_2 fun e_1 wv_3 =>
    ∃ (t15 : Bool), e_1 = .returned (.bool t15) ∧
    ((!t15) = true →
      R (.bool false) wv_3) ∧
    ((!t15) = false →
      ∃ (t180 : ByteArray) (t181 : Bool) (t182_p : Option Addr) (t182_n : Nat) (t182_c : Nat), Loads P 56 ((⟨r, 0, none⟩ : Addr).add 6) (.agg #[(.string t180), (.bool t181), (.slice t182_p t182_n t182_c)]) wv_3 ∧ ∃ (t200 : ByteArray) (t201 : Bool) (t202_p : Option Addr) (t202_n : Nat) (t202_c : Nat), Loads P 56 ((⟨r_1, 0, none⟩ : Addr).add 6) (.agg #[(.string t200), (.bool t201), (.slice t202_p t202_n t202_c)]) wv_3 ∧ Calls P 33 ⟨[(.agg #[(.string t180), (.bool t181), (.slice t182_p t182_n t182_c)]), (.agg #[(.string t200), (.bool t201), (.slice t202_p t202_n t202_c)])]⟩ wv_3 fun e_2 wv_4 =>
      ∃ (t21 : Bool), e_2 = .returned (.bool t21) ∧
      ((!t21) = true →
        R (.bool false) wv_4) ∧
      ((!t21) = false →
        R (.bool true) wv_4)))
theorem laws_eqRow_eq (a0 : ByteArray) (a1 : Bool) (a2_p : Option Addr) (a2_n : Nat) (a2_c : Nat) (a3 : ByteArray) (a4 : Bool) (a5_p : Option Addr) (a5_n : Nat) (a5_c : Nat) (a6 : ByteArray) (a7 : Bool) (a8_p : Option Addr) (a8_n : Nat) (a8_c : Nat) (b0 : ByteArray) (b1 : Bool) (b2_p : Option Addr) (b2_n : Nat) (b2_c : Nat) (b3 : ByteArray) (b4 : Bool) (b5_p : Option Addr) (b5_n : Nat) (b5_c : Nat) (b6 : ByteArray) (b7 : Bool) (b8_p : Option Addr) (b8_n : Nat) (b8_c : Nat) (w : World) (R : Value → World → Prop) : laws_eqRow a0 a1 a2_p a2_n a2_c a3 a4 a5_p a5_n a5_c a6 a7 a8_p a8_n a8_c b0 b1 b2_p b2_n b2_c b3 b4 b5_p b5_n b5_c b6 b7 b8_p b8_n b8_c w R = fsem P Tryd.f77 (fun k => []) [(.agg #[(.string a0), (.bool a1), (.slice a2_p a2_n a2_c), (.string a3), (.bool a4), (.slice a5_p a5_n a5_c), (.string a6), (.bool a7), (.slice a8_p a8_n a8_c)]), (.agg #[(.string b0), (.bool b1), (.slice b2_p b2_n b2_c), (.string b3), (.bool b4), (.slice b5_p b5_n b5_c), (.string b6), (.bool b7), (.slice b8_p b8_n b8_c)])] R w := by kernel_rfl
theorem laws_eqRow_ret {a0 : ByteArray} {a1 : Bool} {a2_p : Option Addr} {a2_n : Nat} {a2_c : Nat} {a3 : ByteArray} {a4 : Bool} {a5_p : Option Addr} {a5_n : Nat} {a5_c : Nat} {a6 : ByteArray} {a7 : Bool} {a8_p : Option Addr} {a8_n : Nat} {a8_c : Nat} {b0 : ByteArray} {b1 : Bool} {b2_p : Option Addr} {b2_n : Nat} {b2_c : Nat} {b3 : ByteArray} {b4 : Bool} {b5_p : Option Addr} {b5_n : Nat} {b5_c : Nat} {b6 : ByteArray} {b7 : Bool} {b8_p : Option Addr} {b8_n : Nat} {b8_c : Nat} {w : World} {R : Value → World → Prop} (h : laws_eqRow a0 a1 a2_p a2_n a2_c a3 a4 a5_p a5_n a5_c a6 a7 a8_p a8_n a8_c b0 b1 b2_p b2_n b2_c b3 b4 b5_p b5_n b5_c b6 b7 b8_p b8_n b8_c w R) : Ret P 77 [(.agg #[(.string a0), (.bool a1), (.slice a2_p a2_n a2_c), (.string a3), (.bool a4), (.slice a5_p a5_n a5_c), (.string a6), (.bool a7), (.slice a8_p a8_n a8_c)]), (.agg #[(.string b0), (.bool b1), (.slice b2_p b2_n b2_c), (.string b3), (.bool b4), (.slice b5_p b5_n b5_c), (.string b6), (.bool b7), (.slice b8_p b8_n b8_c)])] w R :=
  Ret.of_fsem Tryd.func77 rfl (Eq.mp (laws_eqRow_eq a0 a1 a2_p a2_n a2_c a3 a4 a5_p a5_n a5_c a6 a7 a8_p a8_n a8_c b0 b1 b2_p b2_n b2_c b3 b4 b5_p b5_n b5_c b6 b7 b8_p b8_n b8_c w R) h)

def laws_eqIntS (a_p : Option Addr) (a_n : Nat) (a_c : Nat) (b_p : Option Addr) (b_n : Nat) (b_c : Nat) (w : World) (R : Value → World → Prop) : Prop :=
  ((decide ((((a_n : Nat) : Int) : Int) ≠ ((b_n : Nat) : Int))) = true →
    R (.bool false) w) ∧
  ((decide ((((a_n : Nat) : Int) : Int) ≠ ((b_n : Nat) : Int))) = false →
    ∃ (Inv : Int → World → Prop) (mu : Int → World → Nat), Inv 0 w ∧
    ∀ (junk : Fr) (wv : World) (i : Int), Inv i wv →
      ((decide ((i : Int) < ((a_n : Nat) : Int))) = true →
        (0 ≤ (i : Int) ∧ (i : Int) < (a_n : Nat)) ∧ ptrS a_p fun ad => ∃ (t20 : Int), (∀ wv_1, Ext wv.drew wv_1 → Loads P 3 (ad.add (i.toNat * 1)) (.int .i64 t20) wv_1) ∧ (0 ≤ (i : Int) ∧ (i : Int) < (b_n : Nat)) ∧ ptrS b_p fun ad_1 => ∃ (t24 : Int), (∀ wv_2, Ext wv.drew wv_2 → Loads P 3 (ad_1.add (i.toNat * 1)) (.int .i64 t24) wv_2) ∧ ((decide ((t20 : Int) ≠ t24)) = true →
          R (.bool false) wv.drew) ∧
        ((decide ((t20 : Int) ≠ t24)) = false →
          ∃ t16 : Int, t16 = IntKind.wrap .i64 (i + 1) ∧ Inv t16 wv.drew ∧ mu t16 wv.drew < mu i wv)) ∧
      ((decide ((i : Int) < ((a_n : Nat) : Int))) = false →
        R (.bool true) wv))
theorem laws_eqIntS_eq (a_p : Option Addr) (a_n : Nat) (a_c : Nat) (b_p : Option Addr) (b_n : Nat) (b_c : Nat) (w : World) (R : Value → World → Prop) : laws_eqIntS a_p a_n a_c b_p b_n b_c w R = fsem P Tryd.f80 (fun k => cond (Nat.beq k 5) [(5, .one (.int .i64))] ([])) [(.slice a_p a_n a_c), (.slice b_p b_n b_c)] R w := by kernel_rfl
theorem laws_eqIntS_ret {a_p : Option Addr} {a_n : Nat} {a_c : Nat} {b_p : Option Addr} {b_n : Nat} {b_c : Nat} {w : World} {R : Value → World → Prop} (h : laws_eqIntS a_p a_n a_c b_p b_n b_c w R) : Ret P 80 [(.slice a_p a_n a_c), (.slice b_p b_n b_c)] w R :=
  Ret.of_fsem Tryd.func80 rfl (Eq.mp (laws_eqIntS_eq a_p a_n a_c b_p b_n b_c w R) h)

def laws_markAcctS (a_p : Option Addr) (a_n : Nat) (a_c : Nat) (k : Int) (w : World) (R : Value → World → Prop) : Prop :=
  ∃ (Inv : Int → Int → World → Prop) (mu : Int → Int → World → Nat), Inv k 0 w ∧
  ∀ (junk : Fr) (wv : World) (k_1 : Int) (i : Int), Inv k_1 i wv →
    ((decide ((i : Int) < ((a_n : Nat) : Int))) = true →
      Calls P 70 ⟨[(.int .i64 k_1)]⟩ wv fun e wv_1 =>
      ∃ (t15 : ByteArray), e = .returned (.string t15) ∧
      (0 ≤ (i : Int) ∧ (i : Int) < (a_n : Nat)) ∧ ptrS a_p fun ad => ∃ wv_2, Stores P 9 ((ad.add (i.toNat * 4)).add 0) (.string t15) wv_1 wv_2 ∧
      ∃ t19 : Int, t19 = IntKind.wrap .i64 (k_1 + 1) ∧ Calls P 70 ⟨[(.int .i64 t19)]⟩ wv_2 fun e_1 wv_3 =>
      ∃ (t23 : ByteArray), e_1 = .returned (.string t23) ∧
      (0 ≤ (i : Int) ∧ (i : Int) < (a_n : Nat)) ∧ ptrS a_p fun ad_1 => ∃ wv_4, Stores P 9 (((ad_1.add (i.toNat * 4)).add 1).add 0) (.string t23) wv_3 wv_4 ∧
      ∃ t28 : Int, t28 = IntKind.wrap .i64 (t19 + 1) ∧ (3 : Int) ≠ 0 ∧ ∃ t32 : Int, t32 = Int.tmod t28 3 ∧ (0 ≤ (i : Int) ∧ (i : Int) < (a_n : Nat)) ∧ ptrS a_p fun ad_2 => ∃ wv_5, Stores P 4 ((((ad_2.add (i.toNat * 4)).add 1).add 1).add 0) (.bool (decide ((t32 : Int) = 0))) wv_4 wv_5 ∧
      ∃ t39 : Int, t39 = IntKind.wrap .i64 (t28 + 1) ∧ (0 ≤ (i : Int) ∧ (i : Int) < (a_n : Nat)) ∧ ptrS a_p fun ad_3 => ∃ (t46_p : Option Addr) (t46_n : Nat) (t46_c : Nat), Loads P 52 ((((ad_3.add (i.toNat * 4)).add 1).add 1).add 1) (.slice t46_p t46_n t46_c) wv_5 ∧ Calls P 71 ⟨[(.slice t46_p t46_n t46_c), (.int .i64 t39)]⟩ wv_5 fun e_2 wv_6 =>
      ∃ (t48 : Int), e_2 = .returned (.int .i64 t48) ∧
      ∃ t11 : Int, t11 = IntKind.wrap .i64 (i + 1) ∧ Inv t48 t11 wv_6 ∧ mu t48 t11 wv_6 < mu k_1 i wv) ∧
    ((decide ((i : Int) < ((a_n : Nat) : Int))) = false →
      R (.int .i64 k_1) wv)
theorem laws_markAcctS_eq (a_p : Option Addr) (a_n : Nat) (a_c : Nat) (k : Int) (w : World) (R : Value → World → Prop) : laws_markAcctS a_p a_n a_c k w R = fsem P Tryd.f81 (fun k => cond (Nat.beq k 3) [(1, .one (.int .i64)), (5, .one (.int .i64))] ([])) [(.slice a_p a_n a_c), (.int .i64 k)] R w := by kernel_rfl
theorem laws_markAcctS_ret {a_p : Option Addr} {a_n : Nat} {a_c : Nat} {k : Int} {w : World} {R : Value → World → Prop} (h : laws_markAcctS a_p a_n a_c k w R) : Ret P 81 [(.slice a_p a_n a_c), (.int .i64 k)] w R :=
  Ret.of_fsem Tryd.func81 rfl (Eq.mp (laws_markAcctS_eq a_p a_n a_c k w R) h)

def laws_szTaxSum (a0 : Bool) (a1_p : Option Addr) (a1_n : Nat) (a1_c : Nat) (a2 : Int) (a3 : ByteArray) (a4 : Bool) (a5_p : Option Addr) (a5_n : Nat) (a5_c : Nat) (a6 : ByteArray) (a7 : Bool) (a8_p : Option Addr) (a8_n : Nat) (a8_c : Nat) (left : Int) (w : World) (R : Value → World → Prop) : Prop :=
  ∀ (r : Nat) (wv : World), New w (.cells ⟨[(.bool a0), (.slice a1_p a1_n a1_c), (.int .i64 a2), (.string a3), (.bool a4), (.slice a5_p a5_n a5_c), (.string a6), (.bool a7), (.slice a8_p a8_n a8_c)]⟩ 125 (0, 0)) r wv →
  ∃ (t60 : Bool) (t61_p : Option Addr) (t61_n : Nat) (t61_c : Nat) (t62 : Int), Loads P 123 ((⟨r, 0, none⟩ : Addr).add 0) (.agg #[(.bool t60), (.slice t61_p t61_n t61_c), (.int .i64 t62)]) wv ∧ Calls P 107 ⟨[(.agg #[(.bool t60), (.slice t61_p t61_n t61_c), (.int .i64 t62)]), (.int .i64 left)]⟩ wv fun e wv_1 =>
  ∃ (t8 : Int), e = .returned (.int .i64 t8) ∧
  ((decide ((t8 : Int) < 0)) = true →
    R (.int .i64 (-1)) wv_1) ∧
  ((decide ((t8 : Int) < 0)) = false →
    ∃ (t120 : ByteArray) (t121 : Bool) (t122_p : Option Addr) (t122_n : Nat) (t122_c : Nat), Loads P 82 ((⟨r, 0, none⟩ : Addr).add 3) (.agg #[(.string t120), (.bool t121), (.slice t122_p t122_n t122_c)]) wv_1 ∧ Calls P 85 ⟨[(.agg #[(.string t120), (.bool t121), (.slice t122_p t122_n t122_c)]), (.int .i64 t8)]⟩ wv_1 fun e_1 wv_2 =>
    ∃ (t14 : Int), e_1 = .returned (.int .i64 t14) ∧
    ((decide ((t14 : Int) < 0)) = true →
      R (.int .i64 (-1)) wv_2) ∧
    ((decide ((t14 : Int) < 0)) = false →
      ∃ (t180 : ByteArray) (t181 : Bool) (t182_p : Option Addr) (t182_n : Nat) (t182_c : Nat), Loads P 82 ((⟨r, 0, none⟩ : Addr).add 6) (.agg #[(.string t180), (.bool t181), (.slice t182_p t182_n t182_c)]) wv_2 ∧ Calls P 85 ⟨[(.agg #[(.string t180), (.bool t181), (.slice t182_p t182_n t182_c)]), (.int .i64 t14)]⟩ wv_2 fun e_2 wv_3 =>
      ∃ (t20 : Int), e_2 = .returned (.int .i64 t20) ∧
      ((decide ((t20 : Int) < 0)) = true →
        R (.int .i64 (-1)) wv_3) ∧
      ((decide ((t20 : Int) < 0)) = false →
        R (.int .i64 t20) wv_3)))
theorem laws_szTaxSum_eq (a0 : Bool) (a1_p : Option Addr) (a1_n : Nat) (a1_c : Nat) (a2 : Int) (a3 : ByteArray) (a4 : Bool) (a5_p : Option Addr) (a5_n : Nat) (a5_c : Nat) (a6 : ByteArray) (a7 : Bool) (a8_p : Option Addr) (a8_n : Nat) (a8_c : Nat) (left : Int) (w : World) (R : Value → World → Prop) : laws_szTaxSum a0 a1_p a1_n a1_c a2 a3 a4 a5_p a5_n a5_c a6 a7 a8_p a8_n a8_c left w R = fsem P Tryd.f82 (fun k => []) [(.agg #[(.bool a0), (.slice a1_p a1_n a1_c), (.int .i64 a2), (.string a3), (.bool a4), (.slice a5_p a5_n a5_c), (.string a6), (.bool a7), (.slice a8_p a8_n a8_c)]), (.int .i64 left)] R w := by kernel_rfl
theorem laws_szTaxSum_ret {a0 : Bool} {a1_p : Option Addr} {a1_n : Nat} {a1_c : Nat} {a2 : Int} {a3 : ByteArray} {a4 : Bool} {a5_p : Option Addr} {a5_n : Nat} {a5_c : Nat} {a6 : ByteArray} {a7 : Bool} {a8_p : Option Addr} {a8_n : Nat} {a8_c : Nat} {left : Int} {w : World} {R : Value → World → Prop} (h : laws_szTaxSum a0 a1_p a1_n a1_c a2 a3 a4 a5_p a5_n a5_c a6 a7 a8_p a8_n a8_c left w R) : Ret P 82 [(.agg #[(.bool a0), (.slice a1_p a1_n a1_c), (.int .i64 a2), (.string a3), (.bool a4), (.slice a5_p a5_n a5_c), (.string a6), (.bool a7), (.slice a8_p a8_n a8_c)]), (.int .i64 left)] w R :=
  Ret.of_fsem Tryd.func82 rfl (Eq.mp (laws_szTaxSum_eq a0 a1_p a1_n a1_c a2 a3 a4 a5_p a5_n a5_c a6 a7 a8_p a8_n a8_c left w R) h)

def laws_toTaxSum (a0 : Bool) (a1_p : Option Addr) (a1_n : Nat) (a1_c : Nat) (a2 : Int) (a3 : ByteArray) (a4 : Bool) (a5_p : Option Addr) (a5_n : Nat) (a5_c : Nat) (a6 : ByteArray) (a7 : Bool) (a8_p : Option Addr) (a8_n : Nat) (a8_c : Nat) (w : World) (R : Value → World → Prop) : Prop :=
  ∀ (r : Nat) (wv : World), New w (.cells ⟨[(.bool a0), (.slice a1_p a1_n a1_c), (.int .i64 a2), (.string a3), (.bool a4), (.slice a5_p a5_n a5_c), (.string a6), (.bool a7), (.slice a8_p a8_n a8_c)]⟩ 125 (0, 0)) r wv →
  ∀ (r_1 : Nat) (wv_1 : World), New wv (.cells ⟨[(.bool false), (.slice none 0 0), (.int .i64 0), (.string ByteArray.empty), (.bool false), (.slice none 0 0), (.string ByteArray.empty), (.bool false), (.slice none 0 0)]⟩ 129 (0, 0)) r_1 wv_1 →
  ∀ (r_2 : Nat) (wv_2 : World), New wv_1 (.cells ⟨[(.bool false), (.slice none 0 0), (.int .i64 0), (.string ByteArray.empty), (.bool false), (.slice none 0 0), (.string ByteArray.empty), (.bool false), (.slice none 0 0)]⟩ 129 (0, 0)) r_2 wv_2 →
  ∃ (t50 : Bool) (t51_p : Option Addr) (t51_n : Nat) (t51_c : Nat) (t52 : Int), Loads P 123 ((⟨r, 0, none⟩ : Addr).add 0) (.agg #[(.bool t50), (.slice t51_p t51_n t51_c), (.int .i64 t52)]) wv_2 ∧ Calls P 108 ⟨[(.agg #[(.bool t50), (.slice t51_p t51_n t51_c), (.int .i64 t52)])]⟩ wv_2 fun e wv_3 =>
  ∃ (t60 : Bool) (t61_p : Option Addr) (t61_n : Nat) (t61_c : Nat) (t62 : Int), e = .returned (.agg #[(.bool t60), (.slice t61_p t61_n t61_c), (.int .i64 t62)]) ∧
  ∃ wv_4, Stores P 127 ((⟨r_2, 0, none⟩ : Addr).add 0) (.agg #[(.bool t60), (.slice t61_p t61_n t61_c), (.int .i64 t62)]) wv_3 wv_4 ∧
  ∃ (t90 : ByteArray) (t91 : Bool) (t92_p : Option Addr) (t92_n : Nat) (t92_c : Nat), Loads P 82 ((⟨r, 0, none⟩ : Addr).add 3) (.agg #[(.string t90), (.bool t91), (.slice t92_p t92_n t92_c)]) wv_4 ∧ Calls P 88 ⟨[(.agg #[(.string t90), (.bool t91), (.slice t92_p t92_n t92_c)])]⟩ wv_4 fun e_1 wv_5 =>
  ∃ (t100 : ByteArray) (t101 : Bool) (t102_p : Option Addr) (t102_n : Nat) (t102_c : Nat), e_1 = .returned (.agg #[(.string t100), (.bool t101), (.slice t102_p t102_n t102_c)]) ∧
  ∃ wv_6, Stores P 56 ((⟨r_2, 0, none⟩ : Addr).add 3) (.agg #[(.string t100), (.bool t101), (.slice t102_p t102_n t102_c)]) wv_5 wv_6 ∧
  ∃ (t130 : ByteArray) (t131 : Bool) (t132_p : Option Addr) (t132_n : Nat) (t132_c : Nat), Loads P 82 ((⟨r, 0, none⟩ : Addr).add 6) (.agg #[(.string t130), (.bool t131), (.slice t132_p t132_n t132_c)]) wv_6 ∧ Calls P 88 ⟨[(.agg #[(.string t130), (.bool t131), (.slice t132_p t132_n t132_c)])]⟩ wv_6 fun e_2 wv_7 =>
  ∃ (t140 : ByteArray) (t141 : Bool) (t142_p : Option Addr) (t142_n : Nat) (t142_c : Nat), e_2 = .returned (.agg #[(.string t140), (.bool t141), (.slice t142_p t142_n t142_c)]) ∧
  ∃ wv_8, Stores P 56 ((⟨r_2, 0, none⟩ : Addr).add 6) (.agg #[(.string t140), (.bool t141), (.slice t142_p t142_n t142_c)]) wv_7 wv_8 ∧
  ∃ (t160 : Bool) (t161_p : Option Addr) (t161_n : Nat) (t161_c : Nat) (t162 : Int) (t163 : ByteArray) (t164 : Bool) (t165_p : Option Addr) (t165_n : Nat) (t165_c : Nat) (t166 : ByteArray) (t167 : Bool) (t168_p : Option Addr) (t168_n : Nat) (t168_c : Nat), Loads P 129 ⟨r_2, 0, none⟩ (.agg #[(.bool t160), (.slice t161_p t161_n t161_c), (.int .i64 t162), (.string t163), (.bool t164), (.slice t165_p t165_n t165_c), (.string t166), (.bool t167), (.slice t168_p t168_n t168_c)]) wv_8 ∧ ∃ wv_9, Stores P 129 ⟨r_1, 0, none⟩ (.agg #[(.bool t160), (.slice t161_p t161_n t161_c), (.int .i64 t162), (.string t163), (.bool t164), (.slice t165_p t165_n t165_c), (.string t166), (.bool t167), (.slice t168_p t168_n t168_c)]) wv_8 wv_9 ∧
  ∃ (r0 : Bool) (r1_p : Option Addr) (r1_n : Nat) (r1_c : Nat) (r2 : Int) (r3 : ByteArray) (r4 : Bool) (r5_p : Option Addr) (r5_n : Nat) (r5_c : Nat) (r6 : ByteArray) (r7 : Bool) (r8_p : Option Addr) (r8_n : Nat) (r8_c : Nat), Loads P 129 ⟨r_1, 0, none⟩ (.agg #[(.bool r0), (.slice r1_p r1_n r1_c), (.int .i64 r2), (.string r3), (.bool r4), (.slice r5_p r5_n r5_c), (.string r6), (.bool r7), (.slice r8_p r8_n r8_c)]) wv_9 ∧ R (.agg #[(.bool r0), (.slice r1_p r1_n r1_c), (.int .i64 r2), (.string r3), (.bool r4), (.slice r5_p r5_n r5_c), (.string r6), (.bool r7), (.slice r8_p r8_n r8_c)]) wv_9
theorem laws_toTaxSum_eq (a0 : Bool) (a1_p : Option Addr) (a1_n : Nat) (a1_c : Nat) (a2 : Int) (a3 : ByteArray) (a4 : Bool) (a5_p : Option Addr) (a5_n : Nat) (a5_c : Nat) (a6 : ByteArray) (a7 : Bool) (a8_p : Option Addr) (a8_n : Nat) (a8_c : Nat) (w : World) (R : Value → World → Prop) : laws_toTaxSum a0 a1_p a1_n a1_c a2 a3 a4 a5_p a5_n a5_c a6 a7 a8_p a8_n a8_c w R = fsem P Tryd.f83 (fun k => []) [(.agg #[(.bool a0), (.slice a1_p a1_n a1_c), (.int .i64 a2), (.string a3), (.bool a4), (.slice a5_p a5_n a5_c), (.string a6), (.bool a7), (.slice a8_p a8_n a8_c)])] R w := by kernel_rfl
theorem laws_toTaxSum_ret {a0 : Bool} {a1_p : Option Addr} {a1_n : Nat} {a1_c : Nat} {a2 : Int} {a3 : ByteArray} {a4 : Bool} {a5_p : Option Addr} {a5_n : Nat} {a5_c : Nat} {a6 : ByteArray} {a7 : Bool} {a8_p : Option Addr} {a8_n : Nat} {a8_c : Nat} {w : World} {R : Value → World → Prop} (h : laws_toTaxSum a0 a1_p a1_n a1_c a2 a3 a4 a5_p a5_n a5_c a6 a7 a8_p a8_n a8_c w R) : Ret P 83 [(.agg #[(.bool a0), (.slice a1_p a1_n a1_c), (.int .i64 a2), (.string a3), (.bool a4), (.slice a5_p a5_n a5_c), (.string a6), (.bool a7), (.slice a8_p a8_n a8_c)])] w R :=
  Ret.of_fsem Tryd.func83 rfl (Eq.mp (laws_toTaxSum_eq a0 a1_p a1_n a1_c a2 a3 a4 a5_p a5_n a5_c a6 a7 a8_p a8_n a8_c w R) h)

def laws_eqTaxSum (a0 : Bool) (a1_p : Option Addr) (a1_n : Nat) (a1_c : Nat) (a2 : Int) (a3 : ByteArray) (a4 : Bool) (a5_p : Option Addr) (a5_n : Nat) (a5_c : Nat) (a6 : ByteArray) (a7 : Bool) (a8_p : Option Addr) (a8_n : Nat) (a8_c : Nat) (b0 : Bool) (b1_p : Option Addr) (b1_n : Nat) (b1_c : Nat) (b2 : Int) (b3 : ByteArray) (b4 : Bool) (b5_p : Option Addr) (b5_n : Nat) (b5_c : Nat) (b6 : ByteArray) (b7 : Bool) (b8_p : Option Addr) (b8_n : Nat) (b8_c : Nat) (w : World) (R : Value → World → Prop) : Prop :=
  ∀ (r : Nat) (wv : World), New w (.cells ⟨[(.bool a0), (.slice a1_p a1_n a1_c), (.int .i64 a2), (.string a3), (.bool a4), (.slice a5_p a5_n a5_c), (.string a6), (.bool a7), (.slice a8_p a8_n a8_c)]⟩ 129 (0, 0)) r wv →
  ∀ (r_1 : Nat) (wv_1 : World), New wv (.cells ⟨[(.bool b0), (.slice b1_p b1_n b1_c), (.int .i64 b2), (.string b3), (.bool b4), (.slice b5_p b5_n b5_c), (.string b6), (.bool b7), (.slice b8_p b8_n b8_c)]⟩ 129 (0, 0)) r_1 wv_1 →
  ∃ (t60 : Bool) (t61_p : Option Addr) (t61_n : Nat) (t61_c : Nat) (t62 : Int), Loads P 127 ((⟨r, 0, none⟩ : Addr).add 0) (.agg #[(.bool t60), (.slice t61_p t61_n t61_c), (.int .i64 t62)]) wv_1 ∧ ∃ (t80 : Bool) (t81_p : Option Addr) (t81_n : Nat) (t81_c : Nat) (t82 : Int), Loads P 127 ((⟨r_1, 0, none⟩ : Addr).add 0) (.agg #[(.bool t80), (.slice t81_p t81_n t81_c), (.int .i64 t82)]) wv_1 ∧ Calls P 109 ⟨[(.agg #[(.bool t60), (.slice t61_p t61_n t61_c), (.int .i64 t62)]), (.agg #[(.bool t80), (.slice t81_p t81_n t81_c), (.int .i64 t82)])]⟩ wv_1 fun e wv_2 =>
  ∃ (t9 : Bool), e = .returned (.bool t9) ∧
  ((!t9) = true →
    R (.bool false) wv_2) ∧
  ((!t9) = false →
    ∃ (t120 : ByteArray) (t121 : Bool) (t122_p : Option Addr) (t122_n : Nat) (t122_c : Nat), Loads P 56 ((⟨r, 0, none⟩ : Addr).add 3) (.agg #[(.string t120), (.bool t121), (.slice t122_p t122_n t122_c)]) wv_2 ∧ ∃ (t140 : ByteArray) (t141 : Bool) (t142_p : Option Addr) (t142_n : Nat) (t142_c : Nat), Loads P 56 ((⟨r_1, 0, none⟩ : Addr).add 3) (.agg #[(.string t140), (.bool t141), (.slice t142_p t142_n t142_c)]) wv_2 ∧ Calls P 33 ⟨[(.agg #[(.string t120), (.bool t121), (.slice t122_p t122_n t122_c)]), (.agg #[(.string t140), (.bool t141), (.slice t142_p t142_n t142_c)])]⟩ wv_2 fun e_1 wv_3 =>
    ∃ (t15 : Bool), e_1 = .returned (.bool t15) ∧
    ((!t15) = true →
      R (.bool false) wv_3) ∧
    ((!t15) = false →
      ∃ (t180 : ByteArray) (t181 : Bool) (t182_p : Option Addr) (t182_n : Nat) (t182_c : Nat), Loads P 56 ((⟨r, 0, none⟩ : Addr).add 6) (.agg #[(.string t180), (.bool t181), (.slice t182_p t182_n t182_c)]) wv_3 ∧ ∃ (t200 : ByteArray) (t201 : Bool) (t202_p : Option Addr) (t202_n : Nat) (t202_c : Nat), Loads P 56 ((⟨r_1, 0, none⟩ : Addr).add 6) (.agg #[(.string t200), (.bool t201), (.slice t202_p t202_n t202_c)]) wv_3 ∧ Calls P 33 ⟨[(.agg #[(.string t180), (.bool t181), (.slice t182_p t182_n t182_c)]), (.agg #[(.string t200), (.bool t201), (.slice t202_p t202_n t202_c)])]⟩ wv_3 fun e_2 wv_4 =>
      ∃ (t21 : Bool), e_2 = .returned (.bool t21) ∧
      ((!t21) = true →
        R (.bool false) wv_4) ∧
      ((!t21) = false →
        R (.bool true) wv_4)))
theorem laws_eqTaxSum_eq (a0 : Bool) (a1_p : Option Addr) (a1_n : Nat) (a1_c : Nat) (a2 : Int) (a3 : ByteArray) (a4 : Bool) (a5_p : Option Addr) (a5_n : Nat) (a5_c : Nat) (a6 : ByteArray) (a7 : Bool) (a8_p : Option Addr) (a8_n : Nat) (a8_c : Nat) (b0 : Bool) (b1_p : Option Addr) (b1_n : Nat) (b1_c : Nat) (b2 : Int) (b3 : ByteArray) (b4 : Bool) (b5_p : Option Addr) (b5_n : Nat) (b5_c : Nat) (b6 : ByteArray) (b7 : Bool) (b8_p : Option Addr) (b8_n : Nat) (b8_c : Nat) (w : World) (R : Value → World → Prop) : laws_eqTaxSum a0 a1_p a1_n a1_c a2 a3 a4 a5_p a5_n a5_c a6 a7 a8_p a8_n a8_c b0 b1_p b1_n b1_c b2 b3 b4 b5_p b5_n b5_c b6 b7 b8_p b8_n b8_c w R = fsem P Tryd.f84 (fun k => []) [(.agg #[(.bool a0), (.slice a1_p a1_n a1_c), (.int .i64 a2), (.string a3), (.bool a4), (.slice a5_p a5_n a5_c), (.string a6), (.bool a7), (.slice a8_p a8_n a8_c)]), (.agg #[(.bool b0), (.slice b1_p b1_n b1_c), (.int .i64 b2), (.string b3), (.bool b4), (.slice b5_p b5_n b5_c), (.string b6), (.bool b7), (.slice b8_p b8_n b8_c)])] R w := by kernel_rfl
theorem laws_eqTaxSum_ret {a0 : Bool} {a1_p : Option Addr} {a1_n : Nat} {a1_c : Nat} {a2 : Int} {a3 : ByteArray} {a4 : Bool} {a5_p : Option Addr} {a5_n : Nat} {a5_c : Nat} {a6 : ByteArray} {a7 : Bool} {a8_p : Option Addr} {a8_n : Nat} {a8_c : Nat} {b0 : Bool} {b1_p : Option Addr} {b1_n : Nat} {b1_c : Nat} {b2 : Int} {b3 : ByteArray} {b4 : Bool} {b5_p : Option Addr} {b5_n : Nat} {b5_c : Nat} {b6 : ByteArray} {b7 : Bool} {b8_p : Option Addr} {b8_n : Nat} {b8_c : Nat} {w : World} {R : Value → World → Prop} (h : laws_eqTaxSum a0 a1_p a1_n a1_c a2 a3 a4 a5_p a5_n a5_c a6 a7 a8_p a8_n a8_c b0 b1_p b1_n b1_c b2 b3 b4 b5_p b5_n b5_c b6 b7 b8_p b8_n b8_c w R) : Ret P 84 [(.agg #[(.bool a0), (.slice a1_p a1_n a1_c), (.int .i64 a2), (.string a3), (.bool a4), (.slice a5_p a5_n a5_c), (.string a6), (.bool a7), (.slice a8_p a8_n a8_c)]), (.agg #[(.bool b0), (.slice b1_p b1_n b1_c), (.int .i64 b2), (.string b3), (.bool b4), (.slice b5_p b5_n b5_c), (.string b6), (.bool b7), (.slice b8_p b8_n b8_c)])] w R :=
  Ret.of_fsem Tryd.func84 rfl (Eq.mp (laws_eqTaxSum_eq a0 a1_p a1_n a1_c a2 a3 a4 a5_p a5_n a5_c a6 a7 a8_p a8_n a8_c b0 b1_p b1_n b1_c b2 b3 b4 b5_p b5_n b5_c b6 b7 b8_p b8_n b8_c w R) h)

def laws_szMoney (a0 : ByteArray) (a1 : Bool) (a2_p : Option Addr) (a2_n : Nat) (a2_c : Nat) (left : Int) (w : World) (R : Value → World → Prop) : Prop :=
  ∀ (r : Nat) (wv : World), New w (.cells ⟨[(.string a0), (.bool a1), (.slice a2_p a2_n a2_c)]⟩ 82 (0, 0)) r wv →
  ∃ (t7 : ByteArray), Loads P 9 ((⟨r, 0, none⟩ : Addr).add 0) (.string t7) wv ∧ ∃ t9 : Int, t9 = IntKind.wrap .i64 (left - ((t7.size : Nat) : Int)) ∧ ((decide ((t9 : Int) < 0)) = true →
    R (.int .i64 (-1)) wv) ∧
  ((decide ((t9 : Int) < 0)) = false →
    ∃ (t130 : Bool) (t131_p : Option Addr) (t131_n : Nat) (t131_c : Nat), Loads P 80 ((⟨r, 0, none⟩ : Addr).add 1) (.agg #[(.bool t130), (.slice t131_p t131_n t131_c)]) wv ∧ Calls P 110 ⟨[(.agg #[(.bool t130), (.slice t131_p t131_n t131_c)]), (.int .i64 t9)]⟩ wv fun e wv_1 =>
    ∃ (t15 : Int), e = .returned (.int .i64 t15) ∧
    ((decide ((t15 : Int) < 0)) = true →
      R (.int .i64 (-1)) wv_1) ∧
    ((decide ((t15 : Int) < 0)) = false →
      R (.int .i64 t15) wv_1))
theorem laws_szMoney_eq (a0 : ByteArray) (a1 : Bool) (a2_p : Option Addr) (a2_n : Nat) (a2_c : Nat) (left : Int) (w : World) (R : Value → World → Prop) : laws_szMoney a0 a1 a2_p a2_n a2_c left w R = fsem P Tryd.f85 (fun k => []) [(.agg #[(.string a0), (.bool a1), (.slice a2_p a2_n a2_c)]), (.int .i64 left)] R w := by kernel_rfl
theorem laws_szMoney_ret {a0 : ByteArray} {a1 : Bool} {a2_p : Option Addr} {a2_n : Nat} {a2_c : Nat} {left : Int} {w : World} {R : Value → World → Prop} (h : laws_szMoney a0 a1 a2_p a2_n a2_c left w R) : Ret P 85 [(.agg #[(.string a0), (.bool a1), (.slice a2_p a2_n a2_c)]), (.int .i64 left)] w R :=
  Ret.of_fsem Tryd.func85 rfl (Eq.mp (laws_szMoney_eq a0 a1 a2_p a2_n a2_c left w R) h)

def laws_toMoney (a0 : ByteArray) (a1 : Bool) (a2_p : Option Addr) (a2_n : Nat) (a2_c : Nat) (w : World) (R : Value → World → Prop) : Prop :=
  ∀ (r : Nat) (wv : World), New w (.cells ⟨[(.string a0), (.bool a1), (.slice a2_p a2_n a2_c)]⟩ 82 (0, 0)) r wv →
  ∀ (r_1 : Nat) (wv_1 : World), New wv (.cells ⟨[(.string ByteArray.empty), (.bool false), (.slice none 0 0)]⟩ 56 (0, 0)) r_1 wv_1 →
  ∀ (r_2 : Nat) (wv_2 : World), New wv_1 (.cells ⟨[(.string ByteArray.empty), (.bool false), (.slice none 0 0)]⟩ 56 (0, 0)) r_2 wv_2 →
  ∃ (t5 : ByteArray), Loads P 9 ((⟨r, 0, none⟩ : Addr).add 0) (.string t5) wv_2 ∧ ∃ wv_3, Stores P 9 ((⟨r_2, 0, none⟩ : Addr).add 0) (.string t5) wv_2 wv_3 ∧
  ∃ (t80 : Bool) (t81_p : Option Addr) (t81_n : Nat) (t81_c : Nat), Loads P 80 ((⟨r, 0, none⟩ : Addr).add 1) (.agg #[(.bool t80), (.slice t81_p t81_n t81_c)]) wv_3 ∧ Calls P 112 ⟨[(.agg #[(.bool t80), (.slice t81_p t81_n t81_c)])]⟩ wv_3 fun e wv_4 =>
  ∃ (t90 : Bool) (t91_p : Option Addr) (t91_n : Nat) (t91_c : Nat), e = .returned (.agg #[(.bool t90), (.slice t91_p t91_n t91_c)]) ∧
  ∃ wv_5, Stores P 54 ((⟨r_2, 0, none⟩ : Addr).add 1) (.agg #[(.bool t90), (.slice t91_p t91_n t91_c)]) wv_4 wv_5 ∧
  ∃ (t110 : ByteArray) (t111 : Bool) (t112_p : Option Addr) (t112_n : Nat) (t112_c : Nat), Loads P 56 ⟨r_2, 0, none⟩ (.agg #[(.string t110), (.bool t111), (.slice t112_p t112_n t112_c)]) wv_5 ∧ ∃ wv_6, Stores P 56 ⟨r_1, 0, none⟩ (.agg #[(.string t110), (.bool t111), (.slice t112_p t112_n t112_c)]) wv_5 wv_6 ∧
  ∃ (r0 : ByteArray) (r1 : Bool) (r2_p : Option Addr) (r2_n : Nat) (r2_c : Nat), Loads P 56 ⟨r_1, 0, none⟩ (.agg #[(.string r0), (.bool r1), (.slice r2_p r2_n r2_c)]) wv_6 ∧ R (.agg #[(.string r0), (.bool r1), (.slice r2_p r2_n r2_c)]) wv_6
theorem laws_toMoney_eq (a0 : ByteArray) (a1 : Bool) (a2_p : Option Addr) (a2_n : Nat) (a2_c : Nat) (w : World) (R : Value → World → Prop) : laws_toMoney a0 a1 a2_p a2_n a2_c w R = fsem P Tryd.f88 (fun k => []) [(.agg #[(.string a0), (.bool a1), (.slice a2_p a2_n a2_c)])] R w := by kernel_rfl
theorem laws_toMoney_ret {a0 : ByteArray} {a1 : Bool} {a2_p : Option Addr} {a2_n : Nat} {a2_c : Nat} {w : World} {R : Value → World → Prop} (h : laws_toMoney a0 a1 a2_p a2_n a2_c w R) : Ret P 88 [(.agg #[(.string a0), (.bool a1), (.slice a2_p a2_n a2_c)])] w R :=
  Ret.of_fsem Tryd.func88 rfl (Eq.mp (laws_toMoney_eq a0 a1 a2_p a2_n a2_c w R) h)

def laws_szAcct (a0 : ByteArray) (a1 : ByteArray) (a2 : Bool) (a3_p : Option Addr) (a3_n : Nat) (a3_c : Nat) (left : Int) (w : World) (R : Value → World → Prop) : Prop :=
  ∀ (r : Nat) (wv : World), New w (.cells ⟨[(.string a0), (.string a1), (.bool a2), (.slice a3_p a3_n a3_c)]⟩ 138 (0, 0)) r wv →
  ∃ (t7 : ByteArray), Loads P 9 ((⟨r, 0, none⟩ : Addr).add 0) (.string t7) wv ∧ ∃ t9 : Int, t9 = IntKind.wrap .i64 (left - ((t7.size : Nat) : Int)) ∧ ((decide ((t9 : Int) < 0)) = true →
    R (.int .i64 (-1)) wv) ∧
  ((decide ((t9 : Int) < 0)) = false →
    ∃ (t130 : ByteArray) (t131 : Bool) (t132_p : Option Addr) (t132_n : Nat) (t132_c : Nat), Loads P 82 ((⟨r, 0, none⟩ : Addr).add 1) (.agg #[(.string t130), (.bool t131), (.slice t132_p t132_n t132_c)]) wv ∧ Calls P 85 ⟨[(.agg #[(.string t130), (.bool t131), (.slice t132_p t132_n t132_c)]), (.int .i64 t9)]⟩ wv fun e wv_1 =>
    ∃ (t15 : Int), e = .returned (.int .i64 t15) ∧
    ((decide ((t15 : Int) < 0)) = true →
      R (.int .i64 (-1)) wv_1) ∧
    ((decide ((t15 : Int) < 0)) = false →
      R (.int .i64 t15) wv_1))
theorem laws_szAcct_eq (a0 : ByteArray) (a1 : ByteArray) (a2 : Bool) (a3_p : Option Addr) (a3_n : Nat) (a3_c : Nat) (left : Int) (w : World) (R : Value → World → Prop) : laws_szAcct a0 a1 a2 a3_p a3_n a3_c left w R = fsem P Tryd.f92 (fun k => []) [(.agg #[(.string a0), (.string a1), (.bool a2), (.slice a3_p a3_n a3_c)]), (.int .i64 left)] R w := by kernel_rfl
theorem laws_szAcct_ret {a0 : ByteArray} {a1 : ByteArray} {a2 : Bool} {a3_p : Option Addr} {a3_n : Nat} {a3_c : Nat} {left : Int} {w : World} {R : Value → World → Prop} (h : laws_szAcct a0 a1 a2 a3_p a3_n a3_c left w R) : Ret P 92 [(.agg #[(.string a0), (.string a1), (.bool a2), (.slice a3_p a3_n a3_c)]), (.int .i64 left)] w R :=
  Ret.of_fsem Tryd.func92 rfl (Eq.mp (laws_szAcct_eq a0 a1 a2 a3_p a3_n a3_c left w R) h)

def laws_toAcct (a0 : ByteArray) (a1 : ByteArray) (a2 : Bool) (a3_p : Option Addr) (a3_n : Nat) (a3_c : Nat) (w : World) (R : Value → World → Prop) : Prop :=
  ∀ (r : Nat) (wv : World), New w (.cells ⟨[(.string a0), (.string a1), (.bool a2), (.slice a3_p a3_n a3_c)]⟩ 138 (0, 0)) r wv →
  ∀ (r_1 : Nat) (wv_1 : World), New wv (.cells ⟨[(.string ByteArray.empty), (.string ByteArray.empty), (.bool false), (.slice none 0 0)]⟩ 93 (0, 0)) r_1 wv_1 →
  ∀ (r_2 : Nat) (wv_2 : World), New wv_1 (.cells ⟨[(.string ByteArray.empty), (.string ByteArray.empty), (.bool false), (.slice none 0 0)]⟩ 93 (0, 0)) r_2 wv_2 →
  ∃ (t5 : ByteArray), Loads P 9 ((⟨r, 0, none⟩ : Addr).add 0) (.string t5) wv_2 ∧ ∃ wv_3, Stores P 9 ((⟨r_2, 0, none⟩ : Addr).add 0) (.string t5) wv_2 wv_3 ∧
  ∃ (t80 : ByteArray) (t81 : Bool) (t82_p : Option Addr) (t82_n : Nat) (t82_c : Nat), Loads P 82 ((⟨r, 0, none⟩ : Addr).add 1) (.agg #[(.string t80), (.bool t81), (.slice t82_p t82_n t82_c)]) wv_3 ∧ Calls P 88 ⟨[(.agg #[(.string t80), (.bool t81), (.slice t82_p t82_n t82_c)])]⟩ wv_3 fun e wv_4 =>
  ∃ (t90 : ByteArray) (t91 : Bool) (t92_p : Option Addr) (t92_n : Nat) (t92_c : Nat), e = .returned (.agg #[(.string t90), (.bool t91), (.slice t92_p t92_n t92_c)]) ∧
  ∃ wv_5, Stores P 56 ((⟨r_2, 0, none⟩ : Addr).add 1) (.agg #[(.string t90), (.bool t91), (.slice t92_p t92_n t92_c)]) wv_4 wv_5 ∧
  ∃ (t110 : ByteArray) (t111 : ByteArray) (t112 : Bool) (t113_p : Option Addr) (t113_n : Nat) (t113_c : Nat), Loads P 93 ⟨r_2, 0, none⟩ (.agg #[(.string t110), (.string t111), (.bool t112), (.slice t113_p t113_n t113_c)]) wv_5 ∧ ∃ wv_6, Stores P 93 ⟨r_1, 0, none⟩ (.agg #[(.string t110), (.string t111), (.bool t112), (.slice t113_p t113_n t113_c)]) wv_5 wv_6 ∧
  ∃ (r0 : ByteArray) (r1 : ByteArray) (r2 : Bool) (r3_p : Option Addr) (r3_n : Nat) (r3_c : Nat), Loads P 93 ⟨r_1, 0, none⟩ (.agg #[(.string r0), (.string r1), (.bool r2), (.slice r3_p r3_n r3_c)]) wv_6 ∧ R (.agg #[(.string r0), (.string r1), (.bool r2), (.slice r3_p r3_n r3_c)]) wv_6
theorem laws_toAcct_eq (a0 : ByteArray) (a1 : ByteArray) (a2 : Bool) (a3_p : Option Addr) (a3_n : Nat) (a3_c : Nat) (w : World) (R : Value → World → Prop) : laws_toAcct a0 a1 a2 a3_p a3_n a3_c w R = fsem P Tryd.f93 (fun k => []) [(.agg #[(.string a0), (.string a1), (.bool a2), (.slice a3_p a3_n a3_c)])] R w := by kernel_rfl
theorem laws_toAcct_ret {a0 : ByteArray} {a1 : ByteArray} {a2 : Bool} {a3_p : Option Addr} {a3_n : Nat} {a3_c : Nat} {w : World} {R : Value → World → Prop} (h : laws_toAcct a0 a1 a2 a3_p a3_n a3_c w R) : Ret P 93 [(.agg #[(.string a0), (.string a1), (.bool a2), (.slice a3_p a3_n a3_c)])] w R :=
  Ret.of_fsem Tryd.func93 rfl (Eq.mp (laws_toAcct_eq a0 a1 a2 a3_p a3_n a3_c w R) h)

def laws_eqAcct (a0 : ByteArray) (a1 : ByteArray) (a2 : Bool) (a3_p : Option Addr) (a3_n : Nat) (a3_c : Nat) (b0 : ByteArray) (b1 : ByteArray) (b2 : Bool) (b3_p : Option Addr) (b3_n : Nat) (b3_c : Nat) (w : World) (R : Value → World → Prop) : Prop :=
  ∀ (r : Nat) (wv : World), New w (.cells ⟨[(.string a0), (.string a1), (.bool a2), (.slice a3_p a3_n a3_c)]⟩ 93 (0, 0)) r wv →
  ∀ (r_1 : Nat) (wv_1 : World), New wv (.cells ⟨[(.string b0), (.string b1), (.bool b2), (.slice b3_p b3_n b3_c)]⟩ 93 (0, 0)) r_1 wv_1 →
  ∃ (t6 : ByteArray), Loads P 9 ((⟨r, 0, none⟩ : Addr).add 0) (.string t6) wv_1 ∧ ∃ (t8 : ByteArray), Loads P 9 ((⟨r_1, 0, none⟩ : Addr).add 0) (.string t8) wv_1 ∧ ((decide (t6 ≠ t8)) = true →
    R (.bool false) wv_1) ∧
  ((decide (t6 ≠ t8)) = false →
    ∃ (t110 : ByteArray) (t111 : Bool) (t112_p : Option Addr) (t112_n : Nat) (t112_c : Nat), Loads P 56 ((⟨r, 0, none⟩ : Addr).add 1) (.agg #[(.string t110), (.bool t111), (.slice t112_p t112_n t112_c)]) wv_1 ∧ ∃ (t130 : ByteArray) (t131 : Bool) (t132_p : Option Addr) (t132_n : Nat) (t132_c : Nat), Loads P 56 ((⟨r_1, 0, none⟩ : Addr).add 1) (.agg #[(.string t130), (.bool t131), (.slice t132_p t132_n t132_c)]) wv_1 ∧ Calls P 33 ⟨[(.agg #[(.string t110), (.bool t111), (.slice t112_p t112_n t112_c)]), (.agg #[(.string t130), (.bool t131), (.slice t132_p t132_n t132_c)])]⟩ wv_1 fun e wv_2 =>
    ∃ (t14 : Bool), e = .returned (.bool t14) ∧
    ((!t14) = true →
      R (.bool false) wv_2) ∧
    ((!t14) = false →
      R (.bool true) wv_2))
theorem laws_eqAcct_eq (a0 : ByteArray) (a1 : ByteArray) (a2 : Bool) (a3_p : Option Addr) (a3_n : Nat) (a3_c : Nat) (b0 : ByteArray) (b1 : ByteArray) (b2 : Bool) (b3_p : Option Addr) (b3_n : Nat) (b3_c : Nat) (w : World) (R : Value → World → Prop) : laws_eqAcct a0 a1 a2 a3_p a3_n a3_c b0 b1 b2 b3_p b3_n b3_c w R = fsem P Tryd.f94 (fun k => []) [(.agg #[(.string a0), (.string a1), (.bool a2), (.slice a3_p a3_n a3_c)]), (.agg #[(.string b0), (.string b1), (.bool b2), (.slice b3_p b3_n b3_c)])] R w := by kernel_rfl
theorem laws_eqAcct_ret {a0 : ByteArray} {a1 : ByteArray} {a2 : Bool} {a3_p : Option Addr} {a3_n : Nat} {a3_c : Nat} {b0 : ByteArray} {b1 : ByteArray} {b2 : Bool} {b3_p : Option Addr} {b3_n : Nat} {b3_c : Nat} {w : World} {R : Value → World → Prop} (h : laws_eqAcct a0 a1 a2 a3_p a3_n a3_c b0 b1 b2 b3_p b3_n b3_c w R) : Ret P 94 [(.agg #[(.string a0), (.string a1), (.bool a2), (.slice a3_p a3_n a3_c)]), (.agg #[(.string b0), (.string b1), (.bool b2), (.slice b3_p b3_n b3_c)])] w R :=
  Ret.of_fsem Tryd.func94 rfl (Eq.mp (laws_eqAcct_eq a0 a1 a2 a3_p a3_n a3_c b0 b1 b2 b3_p b3_n b3_c w R) h)

def laws_szDec (a0 : Bool) (a1_p : Option Addr) (a1_n : Nat) (a1_c : Nat) (a2 : Int) (left : Int) (w : World) (R : Value → World → Prop) : Prop :=
  ∀ (r : Nat) (wv : World), New w (.cells ⟨[(.bool a0), (.slice a1_p a1_n a1_c), (.int .i64 a2)]⟩ 123 (0, 0)) r wv →
  ∃ (t60 : Bool) (t61_p : Option Addr) (t61_n : Nat) (t61_c : Nat), Loads P 80 ((⟨r, 0, none⟩ : Addr).add 0) (.agg #[(.bool t60), (.slice t61_p t61_n t61_c)]) wv ∧ Calls P 110 ⟨[(.agg #[(.bool t60), (.slice t61_p t61_n t61_c)]), (.int .i64 left)]⟩ wv fun e wv_1 =>
  ∃ (t8 : Int), e = .returned (.int .i64 t8) ∧
  ((decide ((t8 : Int) < 0)) = true →
    R (.int .i64 (-1)) wv_1) ∧
  ((decide ((t8 : Int) < 0)) = false →
    R (.int .i64 t8) wv_1)
theorem laws_szDec_eq (a0 : Bool) (a1_p : Option Addr) (a1_n : Nat) (a1_c : Nat) (a2 : Int) (left : Int) (w : World) (R : Value → World → Prop) : laws_szDec a0 a1_p a1_n a1_c a2 left w R = fsem P Tryd.f107 (fun k => []) [(.agg #[(.bool a0), (.slice a1_p a1_n a1_c), (.int .i64 a2)]), (.int .i64 left)] R w := by kernel_rfl
theorem laws_szDec_ret {a0 : Bool} {a1_p : Option Addr} {a1_n : Nat} {a1_c : Nat} {a2 : Int} {left : Int} {w : World} {R : Value → World → Prop} (h : laws_szDec a0 a1_p a1_n a1_c a2 left w R) : Ret P 107 [(.agg #[(.bool a0), (.slice a1_p a1_n a1_c), (.int .i64 a2)]), (.int .i64 left)] w R :=
  Ret.of_fsem Tryd.func107 rfl (Eq.mp (laws_szDec_eq a0 a1_p a1_n a1_c a2 left w R) h)

def laws_toDec (a0 : Bool) (a1_p : Option Addr) (a1_n : Nat) (a1_c : Nat) (a2 : Int) (w : World) (R : Value → World → Prop) : Prop :=
  ∀ (r : Nat) (wv : World), New w (.cells ⟨[(.bool a0), (.slice a1_p a1_n a1_c), (.int .i64 a2)]⟩ 123 (0, 0)) r wv →
  ∀ (r_1 : Nat) (wv_1 : World), New wv (.cells ⟨[(.bool false), (.slice none 0 0), (.int .i64 0)]⟩ 127 (0, 0)) r_1 wv_1 →
  ∀ (r_2 : Nat) (wv_2 : World), New wv_1 (.cells ⟨[(.bool false), (.slice none 0 0), (.int .i64 0)]⟩ 127 (0, 0)) r_2 wv_2 →
  ∃ (t50 : Bool) (t51_p : Option Addr) (t51_n : Nat) (t51_c : Nat), Loads P 80 ((⟨r, 0, none⟩ : Addr).add 0) (.agg #[(.bool t50), (.slice t51_p t51_n t51_c)]) wv_2 ∧ Calls P 112 ⟨[(.agg #[(.bool t50), (.slice t51_p t51_n t51_c)])]⟩ wv_2 fun e wv_3 =>
  ∃ (t60 : Bool) (t61_p : Option Addr) (t61_n : Nat) (t61_c : Nat), e = .returned (.agg #[(.bool t60), (.slice t61_p t61_n t61_c)]) ∧
  ∃ wv_4, Stores P 54 ((⟨r_2, 0, none⟩ : Addr).add 0) (.agg #[(.bool t60), (.slice t61_p t61_n t61_c)]) wv_3 wv_4 ∧
  ∃ (t9 : Int), Loads P 3 ((⟨r, 0, none⟩ : Addr).add 2) (.int .i64 t9) wv_4 ∧ ∃ wv_5, Stores P 3 ((⟨r_2, 0, none⟩ : Addr).add 2) (.int .i64 t9) wv_4 wv_5 ∧
  ∃ (t110 : Bool) (t111_p : Option Addr) (t111_n : Nat) (t111_c : Nat) (t112 : Int), Loads P 127 ⟨r_2, 0, none⟩ (.agg #[(.bool t110), (.slice t111_p t111_n t111_c), (.int .i64 t112)]) wv_5 ∧ ∃ wv_6, Stores P 127 ⟨r_1, 0, none⟩ (.agg #[(.bool t110), (.slice t111_p t111_n t111_c), (.int .i64 t112)]) wv_5 wv_6 ∧
  ∃ (r0 : Bool) (r1_p : Option Addr) (r1_n : Nat) (r1_c : Nat) (r2 : Int), Loads P 127 ⟨r_1, 0, none⟩ (.agg #[(.bool r0), (.slice r1_p r1_n r1_c), (.int .i64 r2)]) wv_6 ∧ R (.agg #[(.bool r0), (.slice r1_p r1_n r1_c), (.int .i64 r2)]) wv_6
theorem laws_toDec_eq (a0 : Bool) (a1_p : Option Addr) (a1_n : Nat) (a1_c : Nat) (a2 : Int) (w : World) (R : Value → World → Prop) : laws_toDec a0 a1_p a1_n a1_c a2 w R = fsem P Tryd.f108 (fun k => []) [(.agg #[(.bool a0), (.slice a1_p a1_n a1_c), (.int .i64 a2)])] R w := by kernel_rfl
theorem laws_toDec_ret {a0 : Bool} {a1_p : Option Addr} {a1_n : Nat} {a1_c : Nat} {a2 : Int} {w : World} {R : Value → World → Prop} (h : laws_toDec a0 a1_p a1_n a1_c a2 w R) : Ret P 108 [(.agg #[(.bool a0), (.slice a1_p a1_n a1_c), (.int .i64 a2)])] w R :=
  Ret.of_fsem Tryd.func108 rfl (Eq.mp (laws_toDec_eq a0 a1_p a1_n a1_c a2 w R) h)

def laws_eqDec (a0 : Bool) (a1_p : Option Addr) (a1_n : Nat) (a1_c : Nat) (a2 : Int) (b0 : Bool) (b1_p : Option Addr) (b1_n : Nat) (b1_c : Nat) (b2 : Int) (w : World) (R : Value → World → Prop) : Prop :=
  ∀ (r : Nat) (wv : World), New w (.cells ⟨[(.bool a0), (.slice a1_p a1_n a1_c), (.int .i64 a2)]⟩ 127 (0, 0)) r wv →
  ∀ (r_1 : Nat) (wv_1 : World), New wv (.cells ⟨[(.bool b0), (.slice b1_p b1_n b1_c), (.int .i64 b2)]⟩ 127 (0, 0)) r_1 wv_1 →
  ∃ (t60 : Bool) (t61_p : Option Addr) (t61_n : Nat) (t61_c : Nat), Loads P 54 ((⟨r, 0, none⟩ : Addr).add 0) (.agg #[(.bool t60), (.slice t61_p t61_n t61_c)]) wv_1 ∧ ∃ (t80 : Bool) (t81_p : Option Addr) (t81_n : Nat) (t81_c : Nat), Loads P 54 ((⟨r_1, 0, none⟩ : Addr).add 0) (.agg #[(.bool t80), (.slice t81_p t81_n t81_c)]) wv_1 ∧ Calls P 40 ⟨[(.agg #[(.bool t60), (.slice t61_p t61_n t61_c)]), (.agg #[(.bool t80), (.slice t81_p t81_n t81_c)])]⟩ wv_1 fun e wv_2 =>
  ∃ (t9 : Bool), e = .returned (.bool t9) ∧
  ((!t9) = true →
    R (.bool false) wv_2) ∧
  ((!t9) = false →
    ∃ (t12 : Int), Loads P 3 ((⟨r, 0, none⟩ : Addr).add 2) (.int .i64 t12) wv_2 ∧ ∃ (t14 : Int), Loads P 3 ((⟨r_1, 0, none⟩ : Addr).add 2) (.int .i64 t14) wv_2 ∧ ((decide ((t12 : Int) ≠ t14)) = true →
      R (.bool false) wv_2) ∧
    ((decide ((t12 : Int) ≠ t14)) = false →
      R (.bool true) wv_2))
theorem laws_eqDec_eq (a0 : Bool) (a1_p : Option Addr) (a1_n : Nat) (a1_c : Nat) (a2 : Int) (b0 : Bool) (b1_p : Option Addr) (b1_n : Nat) (b1_c : Nat) (b2 : Int) (w : World) (R : Value → World → Prop) : laws_eqDec a0 a1_p a1_n a1_c a2 b0 b1_p b1_n b1_c b2 w R = fsem P Tryd.f109 (fun k => []) [(.agg #[(.bool a0), (.slice a1_p a1_n a1_c), (.int .i64 a2)]), (.agg #[(.bool b0), (.slice b1_p b1_n b1_c), (.int .i64 b2)])] R w := by kernel_rfl
theorem laws_eqDec_ret {a0 : Bool} {a1_p : Option Addr} {a1_n : Nat} {a1_c : Nat} {a2 : Int} {b0 : Bool} {b1_p : Option Addr} {b1_n : Nat} {b1_c : Nat} {b2 : Int} {w : World} {R : Value → World → Prop} (h : laws_eqDec a0 a1_p a1_n a1_c a2 b0 b1_p b1_n b1_c b2 w R) : Ret P 109 [(.agg #[(.bool a0), (.slice a1_p a1_n a1_c), (.int .i64 a2)]), (.agg #[(.bool b0), (.slice b1_p b1_n b1_c), (.int .i64 b2)])] w R :=
  Ret.of_fsem Tryd.func109 rfl (Eq.mp (laws_eqDec_eq a0 a1_p a1_n a1_c a2 b0 b1_p b1_n b1_c b2 w R) h)

def laws_szSigned (a0 : Bool) (a1_p : Option Addr) (a1_n : Nat) (a1_c : Nat) (left : Int) (w : World) (R : Value → World → Prop) : Prop :=
  ∀ (r : Nat) (wv : World), New w (.cells ⟨[(.bool a0), (.slice a1_p a1_n a1_c)]⟩ 80 (0, 0)) r wv →
  ∃ (t6_p : Option Addr) (t6_n : Nat) (t6_c : Nat), Loads P 52 ((⟨r, 0, none⟩ : Addr).add 1) (.slice t6_p t6_n t6_c) wv ∧ Calls P 120 ⟨[(.slice t6_p t6_n t6_c), (.int .i64 left)]⟩ wv fun e wv_1 =>
  ∃ (t8 : Int), e = .returned (.int .i64 t8) ∧
  ((decide ((t8 : Int) < 0)) = true →
    R (.int .i64 (-1)) wv_1) ∧
  ((decide ((t8 : Int) < 0)) = false →
    R (.int .i64 t8) wv_1)
theorem laws_szSigned_eq (a0 : Bool) (a1_p : Option Addr) (a1_n : Nat) (a1_c : Nat) (left : Int) (w : World) (R : Value → World → Prop) : laws_szSigned a0 a1_p a1_n a1_c left w R = fsem P Tryd.f110 (fun k => []) [(.agg #[(.bool a0), (.slice a1_p a1_n a1_c)]), (.int .i64 left)] R w := by kernel_rfl
theorem laws_szSigned_ret {a0 : Bool} {a1_p : Option Addr} {a1_n : Nat} {a1_c : Nat} {left : Int} {w : World} {R : Value → World → Prop} (h : laws_szSigned a0 a1_p a1_n a1_c left w R) : Ret P 110 [(.agg #[(.bool a0), (.slice a1_p a1_n a1_c)]), (.int .i64 left)] w R :=
  Ret.of_fsem Tryd.func110 rfl (Eq.mp (laws_szSigned_eq a0 a1_p a1_n a1_c left w R) h)

def laws_toSigned (a0 : Bool) (a1_p : Option Addr) (a1_n : Nat) (a1_c : Nat) (w : World) (R : Value → World → Prop) : Prop :=
  ∀ (r : Nat) (wv : World), New w (.cells ⟨[(.bool a0), (.slice a1_p a1_n a1_c)]⟩ 80 (0, 0)) r wv →
  ∀ (r_1 : Nat) (wv_1 : World), New wv (.cells ⟨[(.bool false), (.slice none 0 0)]⟩ 54 (0, 0)) r_1 wv_1 →
  ∀ (r_2 : Nat) (wv_2 : World), New wv_1 (.cells ⟨[(.bool false), (.slice none 0 0)]⟩ 54 (0, 0)) r_2 wv_2 →
  ∃ (t5 : Bool), Loads P 4 ((⟨r, 0, none⟩ : Addr).add 0) (.bool t5) wv_2 ∧ ∃ wv_3, Stores P 4 ((⟨r_2, 0, none⟩ : Addr).add 0) (.bool t5) wv_2 wv_3 ∧
  ∃ (t8_p : Option Addr) (t8_n : Nat) (t8_c : Nat), Loads P 52 ((⟨r, 0, none⟩ : Addr).add 1) (.slice t8_p t8_n t8_c) wv_3 ∧ Calls P 121 ⟨[(.slice t8_p t8_n t8_c)]⟩ wv_3 fun e wv_4 =>
  ∃ (t9_p : Option Addr) (t9_n : Nat) (t9_c : Nat), e = .returned (.slice t9_p t9_n t9_c) ∧
  ∃ wv_5, Stores P 52 ((⟨r_2, 0, none⟩ : Addr).add 1) (.slice t9_p t9_n t9_c) wv_4 wv_5 ∧
  ∃ (t110 : Bool) (t111_p : Option Addr) (t111_n : Nat) (t111_c : Nat), Loads P 54 ⟨r_2, 0, none⟩ (.agg #[(.bool t110), (.slice t111_p t111_n t111_c)]) wv_5 ∧ ∃ wv_6, Stores P 54 ⟨r_1, 0, none⟩ (.agg #[(.bool t110), (.slice t111_p t111_n t111_c)]) wv_5 wv_6 ∧
  ∃ (r0 : Bool) (r1_p : Option Addr) (r1_n : Nat) (r1_c : Nat), Loads P 54 ⟨r_1, 0, none⟩ (.agg #[(.bool r0), (.slice r1_p r1_n r1_c)]) wv_6 ∧ R (.agg #[(.bool r0), (.slice r1_p r1_n r1_c)]) wv_6
theorem laws_toSigned_eq (a0 : Bool) (a1_p : Option Addr) (a1_n : Nat) (a1_c : Nat) (w : World) (R : Value → World → Prop) : laws_toSigned a0 a1_p a1_n a1_c w R = fsem P Tryd.f112 (fun k => []) [(.agg #[(.bool a0), (.slice a1_p a1_n a1_c)])] R w := by kernel_rfl
theorem laws_toSigned_ret {a0 : Bool} {a1_p : Option Addr} {a1_n : Nat} {a1_c : Nat} {w : World} {R : Value → World → Prop} (h : laws_toSigned a0 a1_p a1_n a1_c w R) : Ret P 112 [(.agg #[(.bool a0), (.slice a1_p a1_n a1_c)])] w R :=
  Ret.of_fsem Tryd.func112 rfl (Eq.mp (laws_toSigned_eq a0 a1_p a1_n a1_c w R) h)

def laws_szIntS (a_p : Option Addr) (a_n : Nat) (a_c : Nat) (left : Int) (w : World) (R : Value → World → Prop) : Prop :=
  ∃ t8 : Int, t8 = IntKind.wrap .i64 (left - ((a_n : Nat) : Int)) ∧ ((decide ((t8 : Int) < 0)) = true →
    R (.int .i64 (-1)) w) ∧
  ((decide ((t8 : Int) < 0)) = false →
    R (.int .i64 t8) w)
theorem laws_szIntS_eq (a_p : Option Addr) (a_n : Nat) (a_c : Nat) (left : Int) (w : World) (R : Value → World → Prop) : laws_szIntS a_p a_n a_c left w R = fsem P Tryd.f120 (fun k => []) [(.slice a_p a_n a_c), (.int .i64 left)] R w := by kernel_rfl
theorem laws_szIntS_ret {a_p : Option Addr} {a_n : Nat} {a_c : Nat} {left : Int} {w : World} {R : Value → World → Prop} (h : laws_szIntS a_p a_n a_c left w R) : Ret P 120 [(.slice a_p a_n a_c), (.int .i64 left)] w R :=
  Ret.of_fsem Tryd.func120 rfl (Eq.mp (laws_szIntS_eq a_p a_n a_c left w R) h)

def laws_toIntS (a_p : Option Addr) (a_n : Nat) (a_c : Nat) (w : World) (R : Value → World → Prop) : Prop :=
  (0 ≤ (((a_n : Nat) : Int) : Int) ∧ (((a_n : Nat) : Int) : Int) ≤ ((a_n : Nat) : Int) ∧ ((8 : Nat) : Int) * ((a_n : Nat) : Int) ≤ 281474976710656) ∧
  ∀ (r : Nat) (wv : World), New w (.cells ⟨zeroRow (.int .i64 0) (a_n * 1)⟩ 3 (0, 0)) r wv →
  ∃ (Inv : Int → World → Prop) (mu : Int → World → Nat), Inv 0 wv ∧
  ∀ (junk : Fr) (wv_1 : World) (i : Int), Inv i wv_1 →
    ((decide ((i : Int) < ((a_n : Nat) : Int))) = true →
      (0 ≤ (i : Int) ∧ (i : Int) < (a_n : Nat)) ∧ ptrS a_p fun ad => ∃ (t19 : Int), Loads P 3 (ad.add (i.toNat * 1)) (.int .i64 t19) wv_1 ∧ (0 ≤ (i : Int) ∧ (i : Int) < (a_n : Nat)) ∧ ∃ wv_2, Stores P 3 ((⟨r, 0, none⟩ : Addr).add (i.toNat * 1)) (.int .i64 t19) wv_1 wv_2 ∧
      ∃ t13 : Int, t13 = IntKind.wrap .i64 (i + 1) ∧ Inv t13 wv_2 ∧ mu t13 wv_2 < mu i wv_1) ∧
    ((decide ((i : Int) < ((a_n : Nat) : Int))) = false →
      R (.slice (some ⟨r, 0, none⟩) a_n a_n) wv_1)
theorem laws_toIntS_eq (a_p : Option Addr) (a_n : Nat) (a_c : Nat) (w : World) (R : Value → World → Prop) : laws_toIntS a_p a_n a_c w R = fsem P Tryd.f121 (fun k => cond (Nat.beq k 4) [(4, .one (.int .i64))] ([])) [(.slice a_p a_n a_c)] R w := by kernel_rfl
theorem laws_toIntS_ret {a_p : Option Addr} {a_n : Nat} {a_c : Nat} {w : World} {R : Value → World → Prop} (h : laws_toIntS a_p a_n a_c w R) : Ret P 121 [(.slice a_p a_n a_c)] w R :=
  Ret.of_fsem Tryd.func121 rfl (Eq.mp (laws_toIntS_eq a_p a_n a_c w R) h)

end Go.Proofs.YtfbmjimhjlmhkaaDoor
