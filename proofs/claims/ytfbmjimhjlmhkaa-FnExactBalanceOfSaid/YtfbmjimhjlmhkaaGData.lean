/-
  The frame-free forms of some Go functions, printed by a program of mine; each with the theorem that it is sound.
-/
import Derived.Test.YtfbmjimhjlmhkaaP
namespace Go.Proofs.Ytfbmjimhjlmhkaa
open Go Go.Proofs.Ytfbmjimhjlmhkaa.Sx
set_option linter.unusedVariables false
set_option maxRecDepth 100000

def laws_szRestS (a_p : Option Addr) (a_n : Nat) (a_c : Nat) (left : Int) (w : World) (R : Value → World → Prop) : Prop :=
  ∃ t9 : Int, t9 = IntKind.wrap .i64 (left - ((a_n : Nat) : Int)) ∧ ((decide ((t9 : Int) < 0)) = true →
    R (.int .i64 (-1)) w) ∧
  ((decide ((t9 : Int) < 0)) = false →
    ∃ (Inv : Int → Int → World → Prop) (mu : Int → Int → World → Nat), Inv t9 0 w ∧
    ∀ (junk : Fr) (wv : World) (left_1 : Int) (i : Int), Inv left_1 i wv →
      ((decide ((i : Int) < ((a_n : Nat) : Int))) = true →
        (0 ≤ (i : Int) ∧ (i : Int) < (a_n : Nat)) ∧ ptrS a_p fun ad => ∃ (t210 : ByteArray) (t211 : Bool) (t212_p : Option Addr) (t212_n : Nat) (t212_c : Nat) (t213_p : Option Addr) (t213_n : Nat) (t213_c : Nat), Loads P 80 (ad.add (i.toNat * 4)) (.agg #[(.string t210), (.bool t211), (.slice t212_p t212_n t212_c), (.slice t213_p t213_n t213_c)]) wv ∧ Calls P 41 ⟨[(.agg #[(.string t210), (.bool t211), (.slice t212_p t212_n t212_c), (.slice t213_p t213_n t213_c)]), (.int .i64 left_1)]⟩ wv fun e wv_1 =>
        ∃ (t23 : Int), e = .returned (.int .i64 t23) ∧
        ((decide ((t23 : Int) < 0)) = true →
          R (.int .i64 (-1)) wv_1) ∧
        ((decide ((t23 : Int) < 0)) = false →
          ∃ t17 : Int, t17 = IntKind.wrap .i64 (i + 1) ∧ Inv t23 t17 wv_1 ∧ mu t23 t17 wv_1 < mu left_1 i wv)) ∧
      ((decide ((i : Int) < ((a_n : Nat) : Int))) = false →
        R (.int .i64 left_1) wv))
theorem laws_szRestS_eq (a_p : Option Addr) (a_n : Nat) (a_c : Nat) (left : Int) (w : World) (R : Value → World → Prop) : laws_szRestS a_p a_n a_c left w R = fsem P Try.f8 (fun k => cond (Nat.beq k 6) [(1, .one (.int .i64)), (5, .one (.int .i64))] ([])) [(.slice a_p a_n a_c), (.int .i64 left)] R w := by kernel_rfl
theorem laws_szRestS_ret {a_p : Option Addr} {a_n : Nat} {a_c : Nat} {left : Int} {w : World} {R : Value → World → Prop} (h : laws_szRestS a_p a_n a_c left w R) : Ret P 8 [(.slice a_p a_n a_c), (.int .i64 left)] w R :=
  Ret.of_fsem Try.func8 rfl (Eq.mp (laws_szRestS_eq a_p a_n a_c left w R) h)

def laws_toRestS (a_p : Option Addr) (a_n : Nat) (a_c : Nat) (w : World) (R : Value → World → Prop) : Prop :=
  (0 ≤ (((a_n : Nat) : Int) : Int) ∧ (((a_n : Nat) : Int) : Int) ≤ ((a_n : Nat) : Int) ∧ ((72 : Nat) : Int) * ((a_n : Nat) : Int) ≤ 281474976710656) ∧
  ∀ (r : Nat) (wv : World), New w (.cells ⟨zeroRow (.agg #[(.string ByteArray.empty), (.bool false), (.slice none 0 0), (.slice none 0 0)]) (a_n * 4)⟩ 82 (0, 0)) r wv →
  ∃ (Inv : Int → World → Prop) (mu : Int → World → Nat), Inv 0 wv ∧
  ∀ (junk : Fr) (wv_1 : World) (i : Int), Inv i wv_1 →
    ((decide ((i : Int) < ((a_n : Nat) : Int))) = true →
      (0 ≤ (i : Int) ∧ (i : Int) < (a_n : Nat)) ∧ ptrS a_p fun ad => ∃ (t190 : ByteArray) (t191 : Bool) (t192_p : Option Addr) (t192_n : Nat) (t192_c : Nat) (t193_p : Option Addr) (t193_n : Nat) (t193_c : Nat), Loads P 80 (ad.add (i.toNat * 4)) (.agg #[(.string t190), (.bool t191), (.slice t192_p t192_n t192_c), (.slice t193_p t193_n t193_c)]) wv_1 ∧ Calls P 44 ⟨[(.agg #[(.string t190), (.bool t191), (.slice t192_p t192_n t192_c), (.slice t193_p t193_n t193_c)])]⟩ wv_1 fun e wv_2 =>
      ∃ (t200 : ByteArray) (t201 : Bool) (t202_p : Option Addr) (t202_n : Nat) (t202_c : Nat) (t203_p : Option Addr) (t203_n : Nat) (t203_c : Nat), e = .returned (.agg #[(.string t200), (.bool t201), (.slice t202_p t202_n t202_c), (.slice t203_p t203_n t203_c)]) ∧
      (0 ≤ (i : Int) ∧ (i : Int) < (a_n : Nat)) ∧ ∃ wv_3, Stores P 82 ((⟨r, 0, none⟩ : Addr).add (i.toNat * 4)) (.agg #[(.string t200), (.bool t201), (.slice t202_p t202_n t202_c), (.slice t203_p t203_n t203_c)]) wv_2 wv_3 ∧
      ∃ t13 : Int, t13 = IntKind.wrap .i64 (i + 1) ∧ Inv t13 wv_3 ∧ mu t13 wv_3 < mu i wv_1) ∧
    ((decide ((i : Int) < ((a_n : Nat) : Int))) = false →
      R (.slice (some ⟨r, 0, none⟩) a_n a_n) wv_1)
theorem laws_toRestS_eq (a_p : Option Addr) (a_n : Nat) (a_c : Nat) (w : World) (R : Value → World → Prop) : laws_toRestS a_p a_n a_c w R = fsem P Try.f10 (fun k => cond (Nat.beq k 4) [(4, .one (.int .i64))] ([])) [(.slice a_p a_n a_c)] R w := by kernel_rfl
theorem laws_toRestS_ret {a_p : Option Addr} {a_n : Nat} {a_c : Nat} {w : World} {R : Value → World → Prop} (h : laws_toRestS a_p a_n a_c w R) : Ret P 10 [(.slice a_p a_n a_c)] w R :=
  Ret.of_fsem Try.func10 rfl (Eq.mp (laws_toRestS_eq a_p a_n a_c w R) h)

def laws_eqRat (a0 : Bool) (a1_p : Option Addr) (a1_n : Nat) (a1_c : Nat) (a2_p : Option Addr) (a2_n : Nat) (a2_c : Nat) (b0 : Bool) (b1_p : Option Addr) (b1_n : Nat) (b1_c : Nat) (b2_p : Option Addr) (b2_n : Nat) (b2_c : Nat) (w : World) (R : Value → World → Prop) : Prop :=
  ∀ (r : Nat) (wv : World), New w (.cells ⟨[(.bool a0), (.slice a1_p a1_n a1_c), (.slice a2_p a2_n a2_c)]⟩ 28 (0, 0)) r wv →
  ∀ (r_1 : Nat) (wv_1 : World), New wv (.cells ⟨[(.bool b0), (.slice b1_p b1_n b1_c), (.slice b2_p b2_n b2_c)]⟩ 28 (0, 0)) r_1 wv_1 →
  ∃ (t60 : Bool) (t61_p : Option Addr) (t61_n : Nat) (t61_c : Nat), Loads P 26 ((⟨r, 0, none⟩ : Addr).add 0) (.agg #[(.bool t60), (.slice t61_p t61_n t61_c)]) wv_1 ∧ ∃ (t80 : Bool) (t81_p : Option Addr) (t81_n : Nat) (t81_c : Nat), Loads P 26 ((⟨r_1, 0, none⟩ : Addr).add 0) (.agg #[(.bool t80), (.slice t81_p t81_n t81_c)]) wv_1 ∧ Calls P 40 ⟨[(.agg #[(.bool t60), (.slice t61_p t61_n t61_c)]), (.agg #[(.bool t80), (.slice t81_p t81_n t81_c)])]⟩ wv_1 fun e wv_2 =>
  ∃ (t9 : Bool), e = .returned (.bool t9) ∧
  ((!t9) = true →
    R (.bool false) wv_2) ∧
  ((!t9) = false →
    ∃ (t12_p : Option Addr) (t12_n : Nat) (t12_c : Nat), Loads P 24 ((⟨r, 0, none⟩ : Addr).add 2) (.slice t12_p t12_n t12_c) wv_2 ∧ ∃ (t14_p : Option Addr) (t14_n : Nat) (t14_c : Nat), Loads P 24 ((⟨r_1, 0, none⟩ : Addr).add 2) (.slice t14_p t14_n t14_c) wv_2 ∧ Calls P 47 ⟨[(.slice t12_p t12_n t12_c), (.slice t14_p t14_n t14_c)]⟩ wv_2 fun e_1 wv_3 =>
    ∃ (t15 : Bool), e_1 = .returned (.bool t15) ∧
    ((!t15) = true →
      R (.bool false) wv_3) ∧
    ((!t15) = false →
      R (.bool true) wv_3))
theorem laws_eqRat_eq (a0 : Bool) (a1_p : Option Addr) (a1_n : Nat) (a1_c : Nat) (a2_p : Option Addr) (a2_n : Nat) (a2_c : Nat) (b0 : Bool) (b1_p : Option Addr) (b1_n : Nat) (b1_c : Nat) (b2_p : Option Addr) (b2_n : Nat) (b2_c : Nat) (w : World) (R : Value → World → Prop) : laws_eqRat a0 a1_p a1_n a1_c a2_p a2_n a2_c b0 b1_p b1_n b1_c b2_p b2_n b2_c w R = fsem P Try.f12 (fun k => []) [(.agg #[(.bool a0), (.slice a1_p a1_n a1_c), (.slice a2_p a2_n a2_c)]), (.agg #[(.bool b0), (.slice b1_p b1_n b1_c), (.slice b2_p b2_n b2_c)])] R w := by kernel_rfl
theorem laws_eqRat_ret {a0 : Bool} {a1_p : Option Addr} {a1_n : Nat} {a1_c : Nat} {a2_p : Option Addr} {a2_n : Nat} {a2_c : Nat} {b0 : Bool} {b1_p : Option Addr} {b1_n : Nat} {b1_c : Nat} {b2_p : Option Addr} {b2_n : Nat} {b2_c : Nat} {w : World} {R : Value → World → Prop} (h : laws_eqRat a0 a1_p a1_n a1_c a2_p a2_n a2_c b0 b1_p b1_n b1_c b2_p b2_n b2_c w R) : Ret P 12 [(.agg #[(.bool a0), (.slice a1_p a1_n a1_c), (.slice a2_p a2_n a2_c)]), (.agg #[(.bool b0), (.slice b1_p b1_n b1_c), (.slice b2_p b2_n b2_c)])] w R :=
  Ret.of_fsem Try.func12 rfl (Eq.mp (laws_eqRat_eq a0 a1_p a1_n a1_c a2_p a2_n a2_c b0 b1_p b1_n b1_c b2_p b2_n b2_c w R) h)

def laws_eqRestS (a_p : Option Addr) (a_n : Nat) (a_c : Nat) (b_p : Option Addr) (b_n : Nat) (b_c : Nat) (w : World) (R : Value → World → Prop) : Prop :=
  ((decide ((((a_n : Nat) : Int) : Int) ≠ ((b_n : Nat) : Int))) = true →
    R (.bool false) w) ∧
  ((decide ((((a_n : Nat) : Int) : Int) ≠ ((b_n : Nat) : Int))) = false →
    ∃ (Inv : Int → World → Prop) (mu : Int → World → Nat), Inv 0 w ∧
    ∀ (junk : Fr) (wv : World) (i : Int), Inv i wv →
      ((decide ((i : Int) < ((a_n : Nat) : Int))) = true →
        (0 ≤ (i : Int) ∧ (i : Int) < (a_n : Nat)) ∧ ptrS a_p fun ad => ∃ (t200 : ByteArray) (t201 : Bool) (t202_p : Option Addr) (t202_n : Nat) (t202_c : Nat) (t203_p : Option Addr) (t203_n : Nat) (t203_c : Nat), (∀ wv_1, Ext wv.drew wv_1 → Loads P 82 (ad.add (i.toNat * 4)) (.agg #[(.string t200), (.bool t201), (.slice t202_p t202_n t202_c), (.slice t203_p t203_n t203_c)]) wv_1) ∧ (0 ≤ (i : Int) ∧ (i : Int) < (b_n : Nat)) ∧ ptrS b_p fun ad_1 => ∃ (t240 : ByteArray) (t241 : Bool) (t242_p : Option Addr) (t242_n : Nat) (t242_c : Nat) (t243_p : Option Addr) (t243_n : Nat) (t243_c : Nat), (∀ wv_2, Ext wv.drew wv_2 → Loads P 82 (ad_1.add (i.toNat * 4)) (.agg #[(.string t240), (.bool t241), (.slice t242_p t242_n t242_c), (.slice t243_p t243_n t243_c)]) wv_2) ∧ Calls P 48 ⟨[(.agg #[(.string t200), (.bool t201), (.slice t202_p t202_n t202_c), (.slice t203_p t203_n t203_c)]), (.agg #[(.string t240), (.bool t241), (.slice t242_p t242_n t242_c), (.slice t243_p t243_n t243_c)])]⟩ wv.drew fun e wv_3 =>
        ∃ (t25 : Bool), e = .returned (.bool t25) ∧
        ((!t25) = true →
          R (.bool false) wv_3) ∧
        ((!t25) = false →
          ∃ t16 : Int, t16 = IntKind.wrap .i64 (i + 1) ∧ Inv t16 wv_3 ∧ mu t16 wv_3 < mu i wv)) ∧
      ((decide ((i : Int) < ((a_n : Nat) : Int))) = false →
        R (.bool true) wv))
theorem laws_eqRestS_eq (a_p : Option Addr) (a_n : Nat) (a_c : Nat) (b_p : Option Addr) (b_n : Nat) (b_c : Nat) (w : World) (R : Value → World → Prop) : laws_eqRestS a_p a_n a_c b_p b_n b_c w R = fsem P Try.f13 (fun k => cond (Nat.beq k 5) [(5, .one (.int .i64))] ([])) [(.slice a_p a_n a_c), (.slice b_p b_n b_c)] R w := by kernel_rfl
theorem laws_eqRestS_ret {a_p : Option Addr} {a_n : Nat} {a_c : Nat} {b_p : Option Addr} {b_n : Nat} {b_c : Nat} {w : World} {R : Value → World → Prop} (h : laws_eqRestS a_p a_n a_c b_p b_n b_c w R) : Ret P 13 [(.slice a_p a_n a_c), (.slice b_p b_n b_c)] w R :=
  Ret.of_fsem Try.func13 rfl (Eq.mp (laws_eqRestS_eq a_p a_n a_c b_p b_n b_c w R) h)

def laws_markRestS (a_p : Option Addr) (a_n : Nat) (a_c : Nat) (k : Int) (w : World) (R : Value → World → Prop) : Prop :=
  ∃ (Inv : Int → Int → World → Prop) (mu : Int → Int → World → Nat), Inv k 0 w ∧
  ∀ (junk : Fr) (wv : World) (k_1 : Int) (i : Int), Inv k_1 i wv →
    ((decide ((i : Int) < ((a_n : Nat) : Int))) = true →
      Calls P 49 ⟨[(.int .i64 k_1)]⟩ wv fun e wv_1 =>
      ∃ (t15 : ByteArray), e = .returned (.string t15) ∧
      (0 ≤ (i : Int) ∧ (i : Int) < (a_n : Nat)) ∧ ptrS a_p fun ad => ∃ wv_2, Stores P 9 ((ad.add (i.toNat * 4)).add 0) (.string t15) wv_1 wv_2 ∧
      ∃ t19 : Int, t19 = IntKind.wrap .i64 (k_1 + 1) ∧ (3 : Int) ≠ 0 ∧ ∃ t23 : Int, t23 = Int.tmod t19 3 ∧ (0 ≤ (i : Int) ∧ (i : Int) < (a_n : Nat)) ∧ ptrS a_p fun ad_1 => ∃ wv_3, Stores P 4 ((((ad_1.add (i.toNat * 4)).add 1).add 0).add 0) (.bool (decide ((t23 : Int) = 0))) wv_2 wv_3 ∧
      ∃ t30 : Int, t30 = IntKind.wrap .i64 (t19 + 1) ∧ (0 ≤ (i : Int) ∧ (i : Int) < (a_n : Nat)) ∧ ptrS a_p fun ad_2 => ∃ (t37_p : Option Addr) (t37_n : Nat) (t37_c : Nat), Loads P 24 ((((ad_2.add (i.toNat * 4)).add 1).add 0).add 1) (.slice t37_p t37_n t37_c) wv_3 ∧ Calls P 50 ⟨[(.slice t37_p t37_n t37_c), (.int .i64 t30)]⟩ wv_3 fun e_1 wv_4 =>
      ∃ (t39 : Int), e_1 = .returned (.int .i64 t39) ∧
      (0 ≤ (i : Int) ∧ (i : Int) < (a_n : Nat)) ∧ ptrS a_p fun ad_3 => ∃ (t45_p : Option Addr) (t45_n : Nat) (t45_c : Nat), Loads P 24 (((ad_3.add (i.toNat * 4)).add 1).add 2) (.slice t45_p t45_n t45_c) wv_4 ∧ Calls P 50 ⟨[(.slice t45_p t45_n t45_c), (.int .i64 t39)]⟩ wv_4 fun e_2 wv_5 =>
      ∃ (t47 : Int), e_2 = .returned (.int .i64 t47) ∧
      ∃ t11 : Int, t11 = IntKind.wrap .i64 (i + 1) ∧ Inv t47 t11 wv_5 ∧ mu t47 t11 wv_5 < mu k_1 i wv) ∧
    ((decide ((i : Int) < ((a_n : Nat) : Int))) = false →
      R (.int .i64 k_1) wv)
theorem laws_markRestS_eq (a_p : Option Addr) (a_n : Nat) (a_c : Nat) (k : Int) (w : World) (R : Value → World → Prop) : laws_markRestS a_p a_n a_c k w R = fsem P Try.f14 (fun k => cond (Nat.beq k 3) [(1, .one (.int .i64)), (5, .one (.int .i64))] ([])) [(.slice a_p a_n a_c), (.int .i64 k)] R w := by kernel_rfl
theorem laws_markRestS_ret {a_p : Option Addr} {a_n : Nat} {a_c : Nat} {k : Int} {w : World} {R : Value → World → Prop} (h : laws_markRestS a_p a_n a_c k w R) : Ret P 14 [(.slice a_p a_n a_c), (.int .i64 k)] w R :=
  Ret.of_fsem Try.func14 rfl (Eq.mp (laws_markRestS_eq a_p a_n a_c k w R) h)

def laws_markRat (a0 : Bool) (a1_p : Option Addr) (a1_n : Nat) (a1_c : Nat) (a2_p : Option Addr) (a2_n : Nat) (a2_c : Nat) (k : Int) (w : World) (R : Value → World → Prop) : Prop :=
  ∀ (r : Nat) (wv : World), New w (.cells ⟨[(.bool a0), (.slice a1_p a1_n a1_c), (.slice a2_p a2_n a2_c)]⟩ 28 (0, 0)) r wv →
  ∃ (t60 : Bool) (t61_p : Option Addr) (t61_n : Nat) (t61_c : Nat), Loads P 26 ((⟨r, 0, none⟩ : Addr).add 0) (.agg #[(.bool t60), (.slice t61_p t61_n t61_c)]) wv ∧ Calls P 51 ⟨[(.agg #[(.bool t60), (.slice t61_p t61_n t61_c)]), (.int .i64 k)]⟩ wv fun e wv_1 =>
  ∃ (t8 : Int), e = .returned (.int .i64 t8) ∧
  ∃ (t10_p : Option Addr) (t10_n : Nat) (t10_c : Nat), Loads P 24 ((⟨r, 0, none⟩ : Addr).add 2) (.slice t10_p t10_n t10_c) wv_1 ∧ Calls P 50 ⟨[(.slice t10_p t10_n t10_c), (.int .i64 t8)]⟩ wv_1 fun e_1 wv_2 =>
  ∃ (t12 : Int), e_1 = .returned (.int .i64 t12) ∧
  R (.int .i64 t12) wv_2
theorem laws_markRat_eq (a0 : Bool) (a1_p : Option Addr) (a1_n : Nat) (a1_c : Nat) (a2_p : Option Addr) (a2_n : Nat) (a2_c : Nat) (k : Int) (w : World) (R : Value → World → Prop) : laws_markRat a0 a1_p a1_n a1_c a2_p a2_n a2_c k w R = fsem P Try.f15 (fun k => []) [(.agg #[(.bool a0), (.slice a1_p a1_n a1_c), (.slice a2_p a2_n a2_c)]), (.int .i64 k)] R w := by kernel_rfl
theorem laws_markRat_ret {a0 : Bool} {a1_p : Option Addr} {a1_n : Nat} {a1_c : Nat} {a2_p : Option Addr} {a2_n : Nat} {a2_c : Nat} {k : Int} {w : World} {R : Value → World → Prop} (h : laws_markRat a0 a1_p a1_n a1_c a2_p a2_n a2_c k w R) : Ret P 15 [(.agg #[(.bool a0), (.slice a1_p a1_n a1_c), (.slice a2_p a2_n a2_c)]), (.int .i64 k)] w R :=
  Ret.of_fsem Try.func15 rfl (Eq.mp (laws_markRat_eq a0 a1_p a1_n a1_c a2_p a2_n a2_c k w R) h)

def laws_heldRat (a0 : Bool) (a1_p : Option Addr) (a1_n : Nat) (a1_c : Nat) (a2_p : Option Addr) (a2_n : Nat) (a2_c : Nat) (k : Int) (w : World) (R : Value → World → Prop) : Prop :=
  ∀ (r : Nat) (wv : World), New w (.cells ⟨[(.bool a0), (.slice a1_p a1_n a1_c), (.slice a2_p a2_n a2_c)]⟩ 28 (0, 0)) r wv →
  ∃ (t60 : Bool) (t61_p : Option Addr) (t61_n : Nat) (t61_c : Nat), Loads P 26 ((⟨r, 0, none⟩ : Addr).add 0) (.agg #[(.bool t60), (.slice t61_p t61_n t61_c)]) wv ∧ Calls P 52 ⟨[(.agg #[(.bool t60), (.slice t61_p t61_n t61_c)]), (.int .i64 k)]⟩ wv fun e wv_1 =>
  ∃ (t8 : Int), e = .returned (.int .i64 t8) ∧
  ((decide ((t8 : Int) < 0)) = true →
    R (.int .i64 (-1)) wv_1) ∧
  ((decide ((t8 : Int) < 0)) = false →
    ∃ (t12_p : Option Addr) (t12_n : Nat) (t12_c : Nat), Loads P 24 ((⟨r, 0, none⟩ : Addr).add 2) (.slice t12_p t12_n t12_c) wv_1 ∧ Calls P 53 ⟨[(.slice t12_p t12_n t12_c), (.int .i64 t8)]⟩ wv_1 fun e_1 wv_2 =>
    ∃ (t14 : Int), e_1 = .returned (.int .i64 t14) ∧
    ((decide ((t14 : Int) < 0)) = true →
      R (.int .i64 (-1)) wv_2) ∧
    ((decide ((t14 : Int) < 0)) = false →
      R (.int .i64 t14) wv_2))
theorem laws_heldRat_eq (a0 : Bool) (a1_p : Option Addr) (a1_n : Nat) (a1_c : Nat) (a2_p : Option Addr) (a2_n : Nat) (a2_c : Nat) (k : Int) (w : World) (R : Value → World → Prop) : laws_heldRat a0 a1_p a1_n a1_c a2_p a2_n a2_c k w R = fsem P Try.f16 (fun k => []) [(.agg #[(.bool a0), (.slice a1_p a1_n a1_c), (.slice a2_p a2_n a2_c)]), (.int .i64 k)] R w := by kernel_rfl
theorem laws_heldRat_ret {a0 : Bool} {a1_p : Option Addr} {a1_n : Nat} {a1_c : Nat} {a2_p : Option Addr} {a2_n : Nat} {a2_c : Nat} {k : Int} {w : World} {R : Value → World → Prop} (h : laws_heldRat a0 a1_p a1_n a1_c a2_p a2_n a2_c k w R) : Ret P 16 [(.agg #[(.bool a0), (.slice a1_p a1_n a1_c), (.slice a2_p a2_n a2_c)]), (.int .i64 k)] w R :=
  Ret.of_fsem Try.func16 rfl (Eq.mp (laws_heldRat_eq a0 a1_p a1_n a1_c a2_p a2_n a2_c k w R) h)

def laws_szBook (a0_p : Option Addr) (a0_n : Nat) (a0_c : Nat) (left : Int) (w : World) (R : Value → World → Prop) : Prop :=
  ∀ (r : Nat) (wv : World), New w (.cells ⟨[(.slice a0_p a0_n a0_c)]⟩ 39 (0, 0)) r wv →
  ∃ (t6_p : Option Addr) (t6_n : Nat) (t6_c : Nat), Loads P 37 ((⟨r, 0, none⟩ : Addr).add 0) (.slice t6_p t6_n t6_c) wv ∧ Calls P 54 ⟨[(.slice t6_p t6_n t6_c), (.int .i64 left)]⟩ wv fun e wv_1 =>
  ∃ (t8 : Int), e = .returned (.int .i64 t8) ∧
  ((decide ((t8 : Int) < 0)) = true →
    R (.int .i64 (-1)) wv_1) ∧
  ((decide ((t8 : Int) < 0)) = false →
    R (.int .i64 t8) wv_1)
theorem laws_szBook_eq (a0_p : Option Addr) (a0_n : Nat) (a0_c : Nat) (left : Int) (w : World) (R : Value → World → Prop) : laws_szBook a0_p a0_n a0_c left w R = fsem P Try.f17 (fun k => []) [(.agg #[(.slice a0_p a0_n a0_c)]), (.int .i64 left)] R w := by kernel_rfl
theorem laws_szBook_ret {a0_p : Option Addr} {a0_n : Nat} {a0_c : Nat} {left : Int} {w : World} {R : Value → World → Prop} (h : laws_szBook a0_p a0_n a0_c left w R) : Ret P 17 [(.agg #[(.slice a0_p a0_n a0_c)]), (.int .i64 left)] w R :=
  Ret.of_fsem Try.func17 rfl (Eq.mp (laws_szBook_eq a0_p a0_n a0_c left w R) h)

def laws_toBook (a0_p : Option Addr) (a0_n : Nat) (a0_c : Nat) (w : World) (R : Value → World → Prop) : Prop :=
  ∀ (r : Nat) (wv : World), New w (.cells ⟨[(.slice a0_p a0_n a0_c)]⟩ 39 (0, 0)) r wv →
  ∀ (r_1 : Nat) (wv_1 : World), New wv (.cells ⟨[(.slice none 0 0)]⟩ 47 (0, 0)) r_1 wv_1 →
  ∀ (r_2 : Nat) (wv_2 : World), New wv_1 (.cells ⟨[(.slice none 0 0)]⟩ 47 (0, 0)) r_2 wv_2 →
  ∃ (t5_p : Option Addr) (t5_n : Nat) (t5_c : Nat), Loads P 37 ((⟨r, 0, none⟩ : Addr).add 0) (.slice t5_p t5_n t5_c) wv_2 ∧ Calls P 57 ⟨[(.slice t5_p t5_n t5_c)]⟩ wv_2 fun e wv_3 =>
  ∃ (t6_p : Option Addr) (t6_n : Nat) (t6_c : Nat), e = .returned (.slice t6_p t6_n t6_c) ∧
  ∃ wv_4, Stores P 45 ((⟨r_2, 0, none⟩ : Addr).add 0) (.slice t6_p t6_n t6_c) wv_3 wv_4 ∧
  ∃ (t80_p : Option Addr) (t80_n : Nat) (t80_c : Nat), Loads P 47 ⟨r_2, 0, none⟩ (.agg #[(.slice t80_p t80_n t80_c)]) wv_4 ∧ ∃ wv_5, Stores P 47 ⟨r_1, 0, none⟩ (.agg #[(.slice t80_p t80_n t80_c)]) wv_4 wv_5 ∧
  ∃ (r0_p : Option Addr) (r0_n : Nat) (r0_c : Nat), Loads P 47 ⟨r_1, 0, none⟩ (.agg #[(.slice r0_p r0_n r0_c)]) wv_5 ∧ R (.agg #[(.slice r0_p r0_n r0_c)]) wv_5
theorem laws_toBook_eq (a0_p : Option Addr) (a0_n : Nat) (a0_c : Nat) (w : World) (R : Value → World → Prop) : laws_toBook a0_p a0_n a0_c w R = fsem P Try.f19 (fun k => []) [(.agg #[(.slice a0_p a0_n a0_c)])] R w := by kernel_rfl
theorem laws_toBook_ret {a0_p : Option Addr} {a0_n : Nat} {a0_c : Nat} {w : World} {R : Value → World → Prop} (h : laws_toBook a0_p a0_n a0_c w R) : Ret P 19 [(.agg #[(.slice a0_p a0_n a0_c)])] w R :=
  Ret.of_fsem Try.func19 rfl (Eq.mp (laws_toBook_eq a0_p a0_n a0_c w R) h)

def laws_eqMoney (a0 : ByteArray) (a1 : Bool) (a2_p : Option Addr) (a2_n : Nat) (a2_c : Nat) (b0 : ByteArray) (b1 : Bool) (b2_p : Option Addr) (b2_n : Nat) (b2_c : Nat) (w : World) (R : Value → World → Prop) : Prop :=
  ∀ (r : Nat) (wv : World), New w (.cells ⟨[(.string a0), (.bool a1), (.slice a2_p a2_n a2_c)]⟩ 42 (0, 0)) r wv →
  ∀ (r_1 : Nat) (wv_1 : World), New wv (.cells ⟨[(.string b0), (.bool b1), (.slice b2_p b2_n b2_c)]⟩ 42 (0, 0)) r_1 wv_1 →
  ∃ (t6 : ByteArray), Loads P 9 ((⟨r, 0, none⟩ : Addr).add 0) (.string t6) wv_1 ∧ ∃ (t8 : ByteArray), Loads P 9 ((⟨r_1, 0, none⟩ : Addr).add 0) (.string t8) wv_1 ∧ ((decide (t6 ≠ t8)) = true →
    R (.bool false) wv_1) ∧
  ((decide (t6 ≠ t8)) = false →
    ∃ (t110 : Bool) (t111_p : Option Addr) (t111_n : Nat) (t111_c : Nat), Loads P 26 ((⟨r, 0, none⟩ : Addr).add 1) (.agg #[(.bool t110), (.slice t111_p t111_n t111_c)]) wv_1 ∧ ∃ (t130 : Bool) (t131_p : Option Addr) (t131_n : Nat) (t131_c : Nat), Loads P 26 ((⟨r_1, 0, none⟩ : Addr).add 1) (.agg #[(.bool t130), (.slice t131_p t131_n t131_c)]) wv_1 ∧ Calls P 40 ⟨[(.agg #[(.bool t110), (.slice t111_p t111_n t111_c)]), (.agg #[(.bool t130), (.slice t131_p t131_n t131_c)])]⟩ wv_1 fun e wv_2 =>
    ∃ (t14 : Bool), e = .returned (.bool t14) ∧
    ((!t14) = true →
      R (.bool false) wv_2) ∧
    ((!t14) = false →
      R (.bool true) wv_2))
theorem laws_eqMoney_eq (a0 : ByteArray) (a1 : Bool) (a2_p : Option Addr) (a2_n : Nat) (a2_c : Nat) (b0 : ByteArray) (b1 : Bool) (b2_p : Option Addr) (b2_n : Nat) (b2_c : Nat) (w : World) (R : Value → World → Prop) : laws_eqMoney a0 a1 a2_p a2_n a2_c b0 b1 b2_p b2_n b2_c w R = fsem P Try.f21 (fun k => []) [(.agg #[(.string a0), (.bool a1), (.slice a2_p a2_n a2_c)]), (.agg #[(.string b0), (.bool b1), (.slice b2_p b2_n b2_c)])] R w := by kernel_rfl
theorem laws_eqMoney_ret {a0 : ByteArray} {a1 : Bool} {a2_p : Option Addr} {a2_n : Nat} {a2_c : Nat} {b0 : ByteArray} {b1 : Bool} {b2_p : Option Addr} {b2_n : Nat} {b2_c : Nat} {w : World} {R : Value → World → Prop} (h : laws_eqMoney a0 a1 a2_p a2_n a2_c b0 b1 b2_p b2_n b2_c w R) : Ret P 21 [(.agg #[(.string a0), (.bool a1), (.slice a2_p a2_n a2_c)]), (.agg #[(.string b0), (.bool b1), (.slice b2_p b2_n b2_c)])] w R :=
  Ret.of_fsem Try.func21 rfl (Eq.mp (laws_eqMoney_eq a0 a1 a2_p a2_n a2_c b0 b1 b2_p b2_n b2_c w R) h)

def laws_eqBook (a0_p : Option Addr) (a0_n : Nat) (a0_c : Nat) (b0_p : Option Addr) (b0_n : Nat) (b0_c : Nat) (w : World) (R : Value → World → Prop) : Prop :=
  ∀ (r : Nat) (wv : World), New w (.cells ⟨[(.slice a0_p a0_n a0_c)]⟩ 47 (0, 0)) r wv →
  ∀ (r_1 : Nat) (wv_1 : World), New wv (.cells ⟨[(.slice b0_p b0_n b0_c)]⟩ 47 (0, 0)) r_1 wv_1 →
  ∃ (t6_p : Option Addr) (t6_n : Nat) (t6_c : Nat), Loads P 45 ((⟨r, 0, none⟩ : Addr).add 0) (.slice t6_p t6_n t6_c) wv_1 ∧ ∃ (t8_p : Option Addr) (t8_n : Nat) (t8_c : Nat), Loads P 45 ((⟨r_1, 0, none⟩ : Addr).add 0) (.slice t8_p t8_n t8_c) wv_1 ∧ Calls P 60 ⟨[(.slice t6_p t6_n t6_c), (.slice t8_p t8_n t8_c)]⟩ wv_1 fun e wv_2 =>
  ∃ (t9 : Bool), e = .returned (.bool t9) ∧
  ((!t9) = true →
    R (.bool false) wv_2) ∧
  ((!t9) = false →
    R (.bool true) wv_2)
theorem laws_eqBook_eq (a0_p : Option Addr) (a0_n : Nat) (a0_c : Nat) (b0_p : Option Addr) (b0_n : Nat) (b0_c : Nat) (w : World) (R : Value → World → Prop) : laws_eqBook a0_p a0_n a0_c b0_p b0_n b0_c w R = fsem P Try.f22 (fun k => []) [(.agg #[(.slice a0_p a0_n a0_c)]), (.agg #[(.slice b0_p b0_n b0_c)])] R w := by kernel_rfl
theorem laws_eqBook_ret {a0_p : Option Addr} {a0_n : Nat} {a0_c : Nat} {b0_p : Option Addr} {b0_n : Nat} {b0_c : Nat} {w : World} {R : Value → World → Prop} (h : laws_eqBook a0_p a0_n a0_c b0_p b0_n b0_c w R) : Ret P 22 [(.agg #[(.slice a0_p a0_n a0_c)]), (.agg #[(.slice b0_p b0_n b0_c)])] w R :=
  Ret.of_fsem Try.func22 rfl (Eq.mp (laws_eqBook_eq a0_p a0_n a0_c b0_p b0_n b0_c w R) h)

def laws_markBook (a0_p : Option Addr) (a0_n : Nat) (a0_c : Nat) (k : Int) (w : World) (R : Value → World → Prop) : Prop :=
  ∀ (r : Nat) (wv : World), New w (.cells ⟨[(.slice a0_p a0_n a0_c)]⟩ 47 (0, 0)) r wv →
  ∃ (t6_p : Option Addr) (t6_n : Nat) (t6_c : Nat), Loads P 45 ((⟨r, 0, none⟩ : Addr).add 0) (.slice t6_p t6_n t6_c) wv ∧ Calls P 61 ⟨[(.slice t6_p t6_n t6_c), (.int .i64 k)]⟩ wv fun e wv_1 =>
  ∃ (t8 : Int), e = .returned (.int .i64 t8) ∧
  R (.int .i64 t8) wv_1
theorem laws_markBook_eq (a0_p : Option Addr) (a0_n : Nat) (a0_c : Nat) (k : Int) (w : World) (R : Value → World → Prop) : laws_markBook a0_p a0_n a0_c k w R = fsem P Try.f23 (fun k => []) [(.agg #[(.slice a0_p a0_n a0_c)]), (.int .i64 k)] R w := by kernel_rfl
theorem laws_markBook_ret {a0_p : Option Addr} {a0_n : Nat} {a0_c : Nat} {k : Int} {w : World} {R : Value → World → Prop} (h : laws_markBook a0_p a0_n a0_c k w R) : Ret P 23 [(.agg #[(.slice a0_p a0_n a0_c)]), (.int .i64 k)] w R :=
  Ret.of_fsem Try.func23 rfl (Eq.mp (laws_markBook_eq a0_p a0_n a0_c k w R) h)

def laws_markMoney (a0 : ByteArray) (a1 : Bool) (a2_p : Option Addr) (a2_n : Nat) (a2_c : Nat) (k : Int) (w : World) (R : Value → World → Prop) : Prop :=
  ∀ (r : Nat) (wv : World), New w (.cells ⟨[(.string a0), (.bool a1), (.slice a2_p a2_n a2_c)]⟩ 42 (0, 0)) r wv →
  ∃ (t60 : Bool) (t61_p : Option Addr) (t61_n : Nat) (t61_c : Nat), Loads P 26 ((⟨r, 0, none⟩ : Addr).add 1) (.agg #[(.bool t60), (.slice t61_p t61_n t61_c)]) wv ∧ Calls P 51 ⟨[(.agg #[(.bool t60), (.slice t61_p t61_n t61_c)]), (.int .i64 k)]⟩ wv fun e wv_1 =>
  ∃ (t8 : Int), e = .returned (.int .i64 t8) ∧
  R (.int .i64 t8) wv_1
theorem laws_markMoney_eq (a0 : ByteArray) (a1 : Bool) (a2_p : Option Addr) (a2_n : Nat) (a2_c : Nat) (k : Int) (w : World) (R : Value → World → Prop) : laws_markMoney a0 a1 a2_p a2_n a2_c k w R = fsem P Try.f24 (fun k => []) [(.agg #[(.string a0), (.bool a1), (.slice a2_p a2_n a2_c)]), (.int .i64 k)] R w := by kernel_rfl
theorem laws_markMoney_ret {a0 : ByteArray} {a1 : Bool} {a2_p : Option Addr} {a2_n : Nat} {a2_c : Nat} {k : Int} {w : World} {R : Value → World → Prop} (h : laws_markMoney a0 a1 a2_p a2_n a2_c k w R) : Ret P 24 [(.agg #[(.string a0), (.bool a1), (.slice a2_p a2_n a2_c)]), (.int .i64 k)] w R :=
  Ret.of_fsem Try.func24 rfl (Eq.mp (laws_markMoney_eq a0 a1 a2_p a2_n a2_c k w R) h)

def laws_heldMoney (a0 : ByteArray) (a1 : Bool) (a2_p : Option Addr) (a2_n : Nat) (a2_c : Nat) (k : Int) (w : World) (R : Value → World → Prop) : Prop :=
  ∀ (r : Nat) (wv : World), New w (.cells ⟨[(.string a0), (.bool a1), (.slice a2_p a2_n a2_c)]⟩ 42 (0, 0)) r wv →
  ∃ (t60 : Bool) (t61_p : Option Addr) (t61_n : Nat) (t61_c : Nat), Loads P 26 ((⟨r, 0, none⟩ : Addr).add 1) (.agg #[(.bool t60), (.slice t61_p t61_n t61_c)]) wv ∧ Calls P 52 ⟨[(.agg #[(.bool t60), (.slice t61_p t61_n t61_c)]), (.int .i64 k)]⟩ wv fun e wv_1 =>
  ∃ (t8 : Int), e = .returned (.int .i64 t8) ∧
  ((decide ((t8 : Int) < 0)) = true →
    R (.int .i64 (-1)) wv_1) ∧
  ((decide ((t8 : Int) < 0)) = false →
    R (.int .i64 t8) wv_1)
theorem laws_heldMoney_eq (a0 : ByteArray) (a1 : Bool) (a2_p : Option Addr) (a2_n : Nat) (a2_c : Nat) (k : Int) (w : World) (R : Value → World → Prop) : laws_heldMoney a0 a1 a2_p a2_n a2_c k w R = fsem P Try.f25 (fun k => []) [(.agg #[(.string a0), (.bool a1), (.slice a2_p a2_n a2_c)]), (.int .i64 k)] R w := by kernel_rfl
theorem laws_heldMoney_ret {a0 : ByteArray} {a1 : Bool} {a2_p : Option Addr} {a2_n : Nat} {a2_c : Nat} {k : Int} {w : World} {R : Value → World → Prop} (h : laws_heldMoney a0 a1 a2_p a2_n a2_c k w R) : Ret P 25 [(.agg #[(.string a0), (.bool a1), (.slice a2_p a2_n a2_c)]), (.int .i64 k)] w R :=
  Ret.of_fsem Try.func25 rfl (Eq.mp (laws_heldMoney_eq a0 a1 a2_p a2_n a2_c k w R) h)

def laws_szDec (a0 : Bool) (a1_p : Option Addr) (a1_n : Nat) (a1_c : Nat) (a2 : Int) (left : Int) (w : World) (R : Value → World → Prop) : Prop :=
  ∀ (r : Nat) (wv : World), New w (.cells ⟨[(.bool a0), (.slice a1_p a1_n a1_c), (.int .i64 a2)]⟩ 56 (0, 0)) r wv →
  ∃ (t60 : Bool) (t61_p : Option Addr) (t61_n : Nat) (t61_c : Nat), Loads P 54 ((⟨r, 0, none⟩ : Addr).add 0) (.agg #[(.bool t60), (.slice t61_p t61_n t61_c)]) wv ∧ Calls P 36 ⟨[(.agg #[(.bool t60), (.slice t61_p t61_n t61_c)]), (.int .i64 left)]⟩ wv fun e wv_1 =>
  ∃ (t8 : Int), e = .returned (.int .i64 t8) ∧
  ((decide ((t8 : Int) < 0)) = true →
    R (.int .i64 (-1)) wv_1) ∧
  ((decide ((t8 : Int) < 0)) = false →
    R (.int .i64 t8) wv_1)
theorem laws_szDec_eq (a0 : Bool) (a1_p : Option Addr) (a1_n : Nat) (a1_c : Nat) (a2 : Int) (left : Int) (w : World) (R : Value → World → Prop) : laws_szDec a0 a1_p a1_n a1_c a2 left w R = fsem P Try.f26 (fun k => []) [(.agg #[(.bool a0), (.slice a1_p a1_n a1_c), (.int .i64 a2)]), (.int .i64 left)] R w := by kernel_rfl
theorem laws_szDec_ret {a0 : Bool} {a1_p : Option Addr} {a1_n : Nat} {a1_c : Nat} {a2 : Int} {left : Int} {w : World} {R : Value → World → Prop} (h : laws_szDec a0 a1_p a1_n a1_c a2 left w R) : Ret P 26 [(.agg #[(.bool a0), (.slice a1_p a1_n a1_c), (.int .i64 a2)]), (.int .i64 left)] w R :=
  Ret.of_fsem Try.func26 rfl (Eq.mp (laws_szDec_eq a0 a1_p a1_n a1_c a2 left w R) h)

def laws_toDec (a0 : Bool) (a1_p : Option Addr) (a1_n : Nat) (a1_c : Nat) (a2 : Int) (w : World) (R : Value → World → Prop) : Prop :=
  ∀ (r : Nat) (wv : World), New w (.cells ⟨[(.bool a0), (.slice a1_p a1_n a1_c), (.int .i64 a2)]⟩ 56 (0, 0)) r wv →
  ∀ (r_1 : Nat) (wv_1 : World), New wv (.cells ⟨[(.bool false), (.slice none 0 0), (.int .i64 0)]⟩ 60 (0, 0)) r_1 wv_1 →
  ∀ (r_2 : Nat) (wv_2 : World), New wv_1 (.cells ⟨[(.bool false), (.slice none 0 0), (.int .i64 0)]⟩ 60 (0, 0)) r_2 wv_2 →
  ∃ (t50 : Bool) (t51_p : Option Addr) (t51_n : Nat) (t51_c : Nat), Loads P 54 ((⟨r, 0, none⟩ : Addr).add 0) (.agg #[(.bool t50), (.slice t51_p t51_n t51_c)]) wv_2 ∧ Calls P 38 ⟨[(.agg #[(.bool t50), (.slice t51_p t51_n t51_c)])]⟩ wv_2 fun e wv_3 =>
  ∃ (t60 : Bool) (t61_p : Option Addr) (t61_n : Nat) (t61_c : Nat), e = .returned (.agg #[(.bool t60), (.slice t61_p t61_n t61_c)]) ∧
  ∃ wv_4, Stores P 26 ((⟨r_2, 0, none⟩ : Addr).add 0) (.agg #[(.bool t60), (.slice t61_p t61_n t61_c)]) wv_3 wv_4 ∧
  ∃ (t9 : Int), Loads P 3 ((⟨r, 0, none⟩ : Addr).add 2) (.int .i64 t9) wv_4 ∧ ∃ wv_5, Stores P 3 ((⟨r_2, 0, none⟩ : Addr).add 2) (.int .i64 t9) wv_4 wv_5 ∧
  ∃ (t110 : Bool) (t111_p : Option Addr) (t111_n : Nat) (t111_c : Nat) (t112 : Int), Loads P 60 ⟨r_2, 0, none⟩ (.agg #[(.bool t110), (.slice t111_p t111_n t111_c), (.int .i64 t112)]) wv_5 ∧ ∃ wv_6, Stores P 60 ⟨r_1, 0, none⟩ (.agg #[(.bool t110), (.slice t111_p t111_n t111_c), (.int .i64 t112)]) wv_5 wv_6 ∧
  ∃ (r0 : Bool) (r1_p : Option Addr) (r1_n : Nat) (r1_c : Nat) (r2 : Int), Loads P 60 ⟨r_1, 0, none⟩ (.agg #[(.bool r0), (.slice r1_p r1_n r1_c), (.int .i64 r2)]) wv_6 ∧ R (.agg #[(.bool r0), (.slice r1_p r1_n r1_c), (.int .i64 r2)]) wv_6
theorem laws_toDec_eq (a0 : Bool) (a1_p : Option Addr) (a1_n : Nat) (a1_c : Nat) (a2 : Int) (w : World) (R : Value → World → Prop) : laws_toDec a0 a1_p a1_n a1_c a2 w R = fsem P Try.f28 (fun k => []) [(.agg #[(.bool a0), (.slice a1_p a1_n a1_c), (.int .i64 a2)])] R w := by kernel_rfl
theorem laws_toDec_ret {a0 : Bool} {a1_p : Option Addr} {a1_n : Nat} {a1_c : Nat} {a2 : Int} {w : World} {R : Value → World → Prop} (h : laws_toDec a0 a1_p a1_n a1_c a2 w R) : Ret P 28 [(.agg #[(.bool a0), (.slice a1_p a1_n a1_c), (.int .i64 a2)])] w R :=
  Ret.of_fsem Try.func28 rfl (Eq.mp (laws_toDec_eq a0 a1_p a1_n a1_c a2 w R) h)

def laws_eqDec (a0 : Bool) (a1_p : Option Addr) (a1_n : Nat) (a1_c : Nat) (a2 : Int) (b0 : Bool) (b1_p : Option Addr) (b1_n : Nat) (b1_c : Nat) (b2 : Int) (w : World) (R : Value → World → Prop) : Prop :=
  ∀ (r : Nat) (wv : World), New w (.cells ⟨[(.bool a0), (.slice a1_p a1_n a1_c), (.int .i64 a2)]⟩ 60 (0, 0)) r wv →
  ∀ (r_1 : Nat) (wv_1 : World), New wv (.cells ⟨[(.bool b0), (.slice b1_p b1_n b1_c), (.int .i64 b2)]⟩ 60 (0, 0)) r_1 wv_1 →
  ∃ (t60 : Bool) (t61_p : Option Addr) (t61_n : Nat) (t61_c : Nat), Loads P 26 ((⟨r, 0, none⟩ : Addr).add 0) (.agg #[(.bool t60), (.slice t61_p t61_n t61_c)]) wv_1 ∧ ∃ (t80 : Bool) (t81_p : Option Addr) (t81_n : Nat) (t81_c : Nat), Loads P 26 ((⟨r_1, 0, none⟩ : Addr).add 0) (.agg #[(.bool t80), (.slice t81_p t81_n t81_c)]) wv_1 ∧ Calls P 40 ⟨[(.agg #[(.bool t60), (.slice t61_p t61_n t61_c)]), (.agg #[(.bool t80), (.slice t81_p t81_n t81_c)])]⟩ wv_1 fun e wv_2 =>
  ∃ (t9 : Bool), e = .returned (.bool t9) ∧
  ((!t9) = true →
    R (.bool false) wv_2) ∧
  ((!t9) = false →
    ∃ (t12 : Int), Loads P 3 ((⟨r, 0, none⟩ : Addr).add 2) (.int .i64 t12) wv_2 ∧ ∃ (t14 : Int), Loads P 3 ((⟨r_1, 0, none⟩ : Addr).add 2) (.int .i64 t14) wv_2 ∧ ((decide ((t12 : Int) ≠ t14)) = true →
      R (.bool false) wv_2) ∧
    ((decide ((t12 : Int) ≠ t14)) = false →
      R (.bool true) wv_2))
theorem laws_eqDec_eq (a0 : Bool) (a1_p : Option Addr) (a1_n : Nat) (a1_c : Nat) (a2 : Int) (b0 : Bool) (b1_p : Option Addr) (b1_n : Nat) (b1_c : Nat) (b2 : Int) (w : World) (R : Value → World → Prop) : laws_eqDec a0 a1_p a1_n a1_c a2 b0 b1_p b1_n b1_c b2 w R = fsem P Try.f30 (fun k => []) [(.agg #[(.bool a0), (.slice a1_p a1_n a1_c), (.int .i64 a2)]), (.agg #[(.bool b0), (.slice b1_p b1_n b1_c), (.int .i64 b2)])] R w := by kernel_rfl
theorem laws_eqDec_ret {a0 : Bool} {a1_p : Option Addr} {a1_n : Nat} {a1_c : Nat} {a2 : Int} {b0 : Bool} {b1_p : Option Addr} {b1_n : Nat} {b1_c : Nat} {b2 : Int} {w : World} {R : Value → World → Prop} (h : laws_eqDec a0 a1_p a1_n a1_c a2 b0 b1_p b1_n b1_c b2 w R) : Ret P 30 [(.agg #[(.bool a0), (.slice a1_p a1_n a1_c), (.int .i64 a2)]), (.agg #[(.bool b0), (.slice b1_p b1_n b1_c), (.int .i64 b2)])] w R :=
  Ret.of_fsem Try.func30 rfl (Eq.mp (laws_eqDec_eq a0 a1_p a1_n a1_c a2 b0 b1_p b1_n b1_c b2 w R) h)

def laws_szStepS (a_p : Option Addr) (a_n : Nat) (a_c : Nat) (left : Int) (w : World) (R : Value → World → Prop) : Prop :=
  ∃ t9 : Int, t9 = IntKind.wrap .i64 (left - ((a_n : Nat) : Int)) ∧ ((decide ((t9 : Int) < 0)) = true →
    R (.int .i64 (-1)) w) ∧
  ((decide ((t9 : Int) < 0)) = false →
    ∃ (Inv : Int → Int → World → Prop) (mu : Int → Int → World → Nat), Inv t9 0 w ∧
    ∀ (junk : Fr) (wv : World) (left_1 : Int) (i : Int), Inv left_1 i wv →
      ((decide ((i : Int) < ((a_n : Nat) : Int))) = true →
        (0 ≤ (i : Int) ∧ (i : Int) < (a_n : Nat)) ∧ ptrS a_p fun ad => ∃ (t210 : Int) (t211 : Bool) (t212_p : Option Addr) (t212_n : Nat) (t212_c : Nat) (t213 : Int), Loads P 103 (ad.add (i.toNat * 4)) (.agg #[(.int .i64 t210), (.bool t211), (.slice t212_p t212_n t212_c), (.int .i64 t213)]) wv ∧ Calls P 68 ⟨[(.agg #[(.int .i64 t210), (.bool t211), (.slice t212_p t212_n t212_c), (.int .i64 t213)]), (.int .i64 left_1)]⟩ wv fun e wv_1 =>
        ∃ (t23 : Int), e = .returned (.int .i64 t23) ∧
        ((decide ((t23 : Int) < 0)) = true →
          R (.int .i64 (-1)) wv_1) ∧
        ((decide ((t23 : Int) < 0)) = false →
          ∃ t17 : Int, t17 = IntKind.wrap .i64 (i + 1) ∧ Inv t23 t17 wv_1 ∧ mu t23 t17 wv_1 < mu left_1 i wv)) ∧
      ((decide ((i : Int) < ((a_n : Nat) : Int))) = false →
        R (.int .i64 left_1) wv))
theorem laws_szStepS_eq (a_p : Option Addr) (a_n : Nat) (a_c : Nat) (left : Int) (w : World) (R : Value → World → Prop) : laws_szStepS a_p a_n a_c left w R = fsem P Try.f31 (fun k => cond (Nat.beq k 6) [(1, .one (.int .i64)), (5, .one (.int .i64))] ([])) [(.slice a_p a_n a_c), (.int .i64 left)] R w := by kernel_rfl
theorem laws_szStepS_ret {a_p : Option Addr} {a_n : Nat} {a_c : Nat} {left : Int} {w : World} {R : Value → World → Prop} (h : laws_szStepS a_p a_n a_c left w R) : Ret P 31 [(.slice a_p a_n a_c), (.int .i64 left)] w R :=
  Ret.of_fsem Try.func31 rfl (Eq.mp (laws_szStepS_eq a_p a_n a_c left w R) h)

def laws_toStepS (a_p : Option Addr) (a_n : Nat) (a_c : Nat) (w : World) (R : Value → World → Prop) : Prop :=
  (0 ≤ (((a_n : Nat) : Int) : Int) ∧ (((a_n : Nat) : Int) : Int) ≤ ((a_n : Nat) : Int) ∧ ((48 : Nat) : Int) * ((a_n : Nat) : Int) ≤ 281474976710656) ∧
  ∀ (r : Nat) (wv : World), New w (.cells ⟨zeroRow (.agg #[(.int .i64 0), (.bool false), (.slice none 0 0), (.int .i64 0)]) (a_n * 4)⟩ 106 (0, 0)) r wv →
  ∃ (Inv : Int → World → Prop) (mu : Int → World → Nat), Inv 0 wv ∧
  ∀ (junk : Fr) (wv_1 : World) (i : Int), Inv i wv_1 →
    ((decide ((i : Int) < ((a_n : Nat) : Int))) = true →
      (0 ≤ (i : Int) ∧ (i : Int) < (a_n : Nat)) ∧ ptrS a_p fun ad => ∃ (t190 : Int) (t191 : Bool) (t192_p : Option Addr) (t192_n : Nat) (t192_c : Nat) (t193 : Int), Loads P 103 (ad.add (i.toNat * 4)) (.agg #[(.int .i64 t190), (.bool t191), (.slice t192_p t192_n t192_c), (.int .i64 t193)]) wv_1 ∧ Calls P 70 ⟨[(.agg #[(.int .i64 t190), (.bool t191), (.slice t192_p t192_n t192_c), (.int .i64 t193)])]⟩ wv_1 fun e wv_2 =>
      ∃ (t200 : Int) (t201 : Bool) (t202_p : Option Addr) (t202_n : Nat) (t202_c : Nat) (t203 : Int), e = .returned (.agg #[(.int .i64 t200), (.bool t201), (.slice t202_p t202_n t202_c), (.int .i64 t203)]) ∧
      (0 ≤ (i : Int) ∧ (i : Int) < (a_n : Nat)) ∧ ∃ wv_3, Stores P 106 ((⟨r, 0, none⟩ : Addr).add (i.toNat * 4)) (.agg #[(.int .i64 t200), (.bool t201), (.slice t202_p t202_n t202_c), (.int .i64 t203)]) wv_2 wv_3 ∧
      ∃ t13 : Int, t13 = IntKind.wrap .i64 (i + 1) ∧ Inv t13 wv_3 ∧ mu t13 wv_3 < mu i wv_1) ∧
    ((decide ((i : Int) < ((a_n : Nat) : Int))) = false →
      R (.slice (some ⟨r, 0, none⟩) a_n a_n) wv_1)
theorem laws_toStepS_eq (a_p : Option Addr) (a_n : Nat) (a_c : Nat) (w : World) (R : Value → World → Prop) : laws_toStepS a_p a_n a_c w R = fsem P Try.f33 (fun k => cond (Nat.beq k 4) [(4, .one (.int .i64))] ([])) [(.slice a_p a_n a_c)] R w := by kernel_rfl
theorem laws_toStepS_ret {a_p : Option Addr} {a_n : Nat} {a_c : Nat} {w : World} {R : Value → World → Prop} (h : laws_toStepS a_p a_n a_c w R) : Ret P 33 [(.slice a_p a_n a_c)] w R :=
  Ret.of_fsem Try.func33 rfl (Eq.mp (laws_toStepS_eq a_p a_n a_c w R) h)

def laws_eqStepS (a_p : Option Addr) (a_n : Nat) (a_c : Nat) (b_p : Option Addr) (b_n : Nat) (b_c : Nat) (w : World) (R : Value → World → Prop) : Prop :=
  ((decide ((((a_n : Nat) : Int) : Int) ≠ ((b_n : Nat) : Int))) = true →
    R (.bool false) w) ∧
  ((decide ((((a_n : Nat) : Int) : Int) ≠ ((b_n : Nat) : Int))) = false →
    ∃ (Inv : Int → World → Prop) (mu : Int → World → Nat), Inv 0 w ∧
    ∀ (junk : Fr) (wv : World) (i : Int), Inv i wv →
      ((decide ((i : Int) < ((a_n : Nat) : Int))) = true →
        (0 ≤ (i : Int) ∧ (i : Int) < (a_n : Nat)) ∧ ptrS a_p fun ad => ∃ (t200 : Int) (t201 : Bool) (t202_p : Option Addr) (t202_n : Nat) (t202_c : Nat) (t203 : Int), (∀ wv_1, Ext wv.drew wv_1 → Loads P 106 (ad.add (i.toNat * 4)) (.agg #[(.int .i64 t200), (.bool t201), (.slice t202_p t202_n t202_c), (.int .i64 t203)]) wv_1) ∧ (0 ≤ (i : Int) ∧ (i : Int) < (b_n : Nat)) ∧ ptrS b_p fun ad_1 => ∃ (t240 : Int) (t241 : Bool) (t242_p : Option Addr) (t242_n : Nat) (t242_c : Nat) (t243 : Int), (∀ wv_2, Ext wv.drew wv_2 → Loads P 106 (ad_1.add (i.toNat * 4)) (.agg #[(.int .i64 t240), (.bool t241), (.slice t242_p t242_n t242_c), (.int .i64 t243)]) wv_2) ∧ Calls P 71 ⟨[(.agg #[(.int .i64 t200), (.bool t201), (.slice t202_p t202_n t202_c), (.int .i64 t203)]), (.agg #[(.int .i64 t240), (.bool t241), (.slice t242_p t242_n t242_c), (.int .i64 t243)])]⟩ wv.drew fun e wv_3 =>
        ∃ (t25 : Bool), e = .returned (.bool t25) ∧
        ((!t25) = true →
          R (.bool false) wv_3) ∧
        ((!t25) = false →
          ∃ t16 : Int, t16 = IntKind.wrap .i64 (i + 1) ∧ Inv t16 wv_3 ∧ mu t16 wv_3 < mu i wv)) ∧
      ((decide ((i : Int) < ((a_n : Nat) : Int))) = false →
        R (.bool true) wv))
theorem laws_eqStepS_eq (a_p : Option Addr) (a_n : Nat) (a_c : Nat) (b_p : Option Addr) (b_n : Nat) (b_c : Nat) (w : World) (R : Value → World → Prop) : laws_eqStepS a_p a_n a_c b_p b_n b_c w R = fsem P Try.f35 (fun k => cond (Nat.beq k 5) [(5, .one (.int .i64))] ([])) [(.slice a_p a_n a_c), (.slice b_p b_n b_c)] R w := by kernel_rfl
theorem laws_eqStepS_ret {a_p : Option Addr} {a_n : Nat} {a_c : Nat} {b_p : Option Addr} {b_n : Nat} {b_c : Nat} {w : World} {R : Value → World → Prop} (h : laws_eqStepS a_p a_n a_c b_p b_n b_c w R) : Ret P 35 [(.slice a_p a_n a_c), (.slice b_p b_n b_c)] w R :=
  Ret.of_fsem Try.func35 rfl (Eq.mp (laws_eqStepS_eq a_p a_n a_c b_p b_n b_c w R) h)

def laws_szSigned (a0 : Bool) (a1_p : Option Addr) (a1_n : Nat) (a1_c : Nat) (left : Int) (w : World) (R : Value → World → Prop) : Prop :=
  ∀ (r : Nat) (wv : World), New w (.cells ⟨[(.bool a0), (.slice a1_p a1_n a1_c)]⟩ 54 (0, 0)) r wv →
  ∃ (t6_p : Option Addr) (t6_n : Nat) (t6_c : Nat), Loads P 24 ((⟨r, 0, none⟩ : Addr).add 1) (.slice t6_p t6_n t6_c) wv ∧ Calls P 72 ⟨[(.slice t6_p t6_n t6_c), (.int .i64 left)]⟩ wv fun e wv_1 =>
  ∃ (t8 : Int), e = .returned (.int .i64 t8) ∧
  ((decide ((t8 : Int) < 0)) = true →
    R (.int .i64 (-1)) wv_1) ∧
  ((decide ((t8 : Int) < 0)) = false →
    R (.int .i64 t8) wv_1)
theorem laws_szSigned_eq (a0 : Bool) (a1_p : Option Addr) (a1_n : Nat) (a1_c : Nat) (left : Int) (w : World) (R : Value → World → Prop) : laws_szSigned a0 a1_p a1_n a1_c left w R = fsem P Try.f36 (fun k => []) [(.agg #[(.bool a0), (.slice a1_p a1_n a1_c)]), (.int .i64 left)] R w := by kernel_rfl
theorem laws_szSigned_ret {a0 : Bool} {a1_p : Option Addr} {a1_n : Nat} {a1_c : Nat} {left : Int} {w : World} {R : Value → World → Prop} (h : laws_szSigned a0 a1_p a1_n a1_c left w R) : Ret P 36 [(.agg #[(.bool a0), (.slice a1_p a1_n a1_c)]), (.int .i64 left)] w R :=
  Ret.of_fsem Try.func36 rfl (Eq.mp (laws_szSigned_eq a0 a1_p a1_n a1_c left w R) h)

def laws_toSigned (a0 : Bool) (a1_p : Option Addr) (a1_n : Nat) (a1_c : Nat) (w : World) (R : Value → World → Prop) : Prop :=
  ∀ (r : Nat) (wv : World), New w (.cells ⟨[(.bool a0), (.slice a1_p a1_n a1_c)]⟩ 54 (0, 0)) r wv →
  ∀ (r_1 : Nat) (wv_1 : World), New wv (.cells ⟨[(.bool false), (.slice none 0 0)]⟩ 26 (0, 0)) r_1 wv_1 →
  ∀ (r_2 : Nat) (wv_2 : World), New wv_1 (.cells ⟨[(.bool false), (.slice none 0 0)]⟩ 26 (0, 0)) r_2 wv_2 →
  ∃ (t5 : Bool), Loads P 4 ((⟨r, 0, none⟩ : Addr).add 0) (.bool t5) wv_2 ∧ ∃ wv_3, Stores P 4 ((⟨r_2, 0, none⟩ : Addr).add 0) (.bool t5) wv_2 wv_3 ∧
  ∃ (t8_p : Option Addr) (t8_n : Nat) (t8_c : Nat), Loads P 24 ((⟨r, 0, none⟩ : Addr).add 1) (.slice t8_p t8_n t8_c) wv_3 ∧ Calls P 76 ⟨[(.slice t8_p t8_n t8_c)]⟩ wv_3 fun e wv_4 =>
  ∃ (t9_p : Option Addr) (t9_n : Nat) (t9_c : Nat), e = .returned (.slice t9_p t9_n t9_c) ∧
  ∃ wv_5, Stores P 24 ((⟨r_2, 0, none⟩ : Addr).add 1) (.slice t9_p t9_n t9_c) wv_4 wv_5 ∧
  ∃ (t110 : Bool) (t111_p : Option Addr) (t111_n : Nat) (t111_c : Nat), Loads P 26 ⟨r_2, 0, none⟩ (.agg #[(.bool t110), (.slice t111_p t111_n t111_c)]) wv_5 ∧ ∃ wv_6, Stores P 26 ⟨r_1, 0, none⟩ (.agg #[(.bool t110), (.slice t111_p t111_n t111_c)]) wv_5 wv_6 ∧
  ∃ (r0 : Bool) (r1_p : Option Addr) (r1_n : Nat) (r1_c : Nat), Loads P 26 ⟨r_1, 0, none⟩ (.agg #[(.bool r0), (.slice r1_p r1_n r1_c)]) wv_6 ∧ R (.agg #[(.bool r0), (.slice r1_p r1_n r1_c)]) wv_6
theorem laws_toSigned_eq (a0 : Bool) (a1_p : Option Addr) (a1_n : Nat) (a1_c : Nat) (w : World) (R : Value → World → Prop) : laws_toSigned a0 a1_p a1_n a1_c w R = fsem P Try.f38 (fun k => []) [(.agg #[(.bool a0), (.slice a1_p a1_n a1_c)])] R w := by kernel_rfl
theorem laws_toSigned_ret {a0 : Bool} {a1_p : Option Addr} {a1_n : Nat} {a1_c : Nat} {w : World} {R : Value → World → Prop} (h : laws_toSigned a0 a1_p a1_n a1_c w R) : Ret P 38 [(.agg #[(.bool a0), (.slice a1_p a1_n a1_c)])] w R :=
  Ret.of_fsem Try.func38 rfl (Eq.mp (laws_toSigned_eq a0 a1_p a1_n a1_c w R) h)

def laws_eqSigned (a0 : Bool) (a1_p : Option Addr) (a1_n : Nat) (a1_c : Nat) (b0 : Bool) (b1_p : Option Addr) (b1_n : Nat) (b1_c : Nat) (w : World) (R : Value → World → Prop) : Prop :=
  ∀ (r : Nat) (wv : World), New w (.cells ⟨[(.bool a0), (.slice a1_p a1_n a1_c)]⟩ 26 (0, 0)) r wv →
  ∀ (r_1 : Nat) (wv_1 : World), New wv (.cells ⟨[(.bool b0), (.slice b1_p b1_n b1_c)]⟩ 26 (0, 0)) r_1 wv_1 →
  ∃ (t6 : Bool), Loads P 4 ((⟨r, 0, none⟩ : Addr).add 0) (.bool t6) wv_1 ∧ ∃ (t8 : Bool), Loads P 4 ((⟨r_1, 0, none⟩ : Addr).add 0) (.bool t8) wv_1 ∧ ((!(t6 == t8)) = true →
    R (.bool false) wv_1) ∧
  ((!(t6 == t8)) = false →
    ∃ (t11_p : Option Addr) (t11_n : Nat) (t11_c : Nat), Loads P 24 ((⟨r, 0, none⟩ : Addr).add 1) (.slice t11_p t11_n t11_c) wv_1 ∧ ∃ (t13_p : Option Addr) (t13_n : Nat) (t13_c : Nat), Loads P 24 ((⟨r_1, 0, none⟩ : Addr).add 1) (.slice t13_p t13_n t13_c) wv_1 ∧ Calls P 47 ⟨[(.slice t11_p t11_n t11_c), (.slice t13_p t13_n t13_c)]⟩ wv_1 fun e wv_2 =>
    ∃ (t14 : Bool), e = .returned (.bool t14) ∧
    ((!t14) = true →
      R (.bool false) wv_2) ∧
    ((!t14) = false →
      R (.bool true) wv_2))
theorem laws_eqSigned_eq (a0 : Bool) (a1_p : Option Addr) (a1_n : Nat) (a1_c : Nat) (b0 : Bool) (b1_p : Option Addr) (b1_n : Nat) (b1_c : Nat) (w : World) (R : Value → World → Prop) : laws_eqSigned a0 a1_p a1_n a1_c b0 b1_p b1_n b1_c w R = fsem P Try.f40 (fun k => []) [(.agg #[(.bool a0), (.slice a1_p a1_n a1_c)]), (.agg #[(.bool b0), (.slice b1_p b1_n b1_c)])] R w := by kernel_rfl
theorem laws_eqSigned_ret {a0 : Bool} {a1_p : Option Addr} {a1_n : Nat} {a1_c : Nat} {b0 : Bool} {b1_p : Option Addr} {b1_n : Nat} {b1_c : Nat} {w : World} {R : Value → World → Prop} (h : laws_eqSigned a0 a1_p a1_n a1_c b0 b1_p b1_n b1_c w R) : Ret P 40 [(.agg #[(.bool a0), (.slice a1_p a1_n a1_c)]), (.agg #[(.bool b0), (.slice b1_p b1_n b1_c)])] w R :=
  Ret.of_fsem Try.func40 rfl (Eq.mp (laws_eqSigned_eq a0 a1_p a1_n a1_c b0 b1_p b1_n b1_c w R) h)

def laws_szRest (a0 : ByteArray) (a1 : Bool) (a2_p : Option Addr) (a2_n : Nat) (a2_c : Nat) (a3_p : Option Addr) (a3_n : Nat) (a3_c : Nat) (left : Int) (w : World) (R : Value → World → Prop) : Prop :=
  ∀ (r : Nat) (wv : World), New w (.cells ⟨[(.string a0), (.bool a1), (.slice a2_p a2_n a2_c), (.slice a3_p a3_n a3_c)]⟩ 80 (0, 0)) r wv →
  ∃ (t7 : ByteArray), Loads P 9 ((⟨r, 0, none⟩ : Addr).add 0) (.string t7) wv ∧ ∃ t9 : Int, t9 = IntKind.wrap .i64 (left - ((t7.size : Nat) : Int)) ∧ ((decide ((t9 : Int) < 0)) = true →
    R (.int .i64 (-1)) wv) ∧
  ((decide ((t9 : Int) < 0)) = false →
    ∃ (t130 : Bool) (t131_p : Option Addr) (t131_n : Nat) (t131_c : Nat) (t132_p : Option Addr) (t132_n : Nat) (t132_c : Nat), Loads P 78 ((⟨r, 0, none⟩ : Addr).add 1) (.agg #[(.bool t130), (.slice t131_p t131_n t131_c), (.slice t132_p t132_n t132_c)]) wv ∧ Calls P 79 ⟨[(.agg #[(.bool t130), (.slice t131_p t131_n t131_c), (.slice t132_p t132_n t132_c)]), (.int .i64 t9)]⟩ wv fun e wv_1 =>
    ∃ (t15 : Int), e = .returned (.int .i64 t15) ∧
    ((decide ((t15 : Int) < 0)) = true →
      R (.int .i64 (-1)) wv_1) ∧
    ((decide ((t15 : Int) < 0)) = false →
      R (.int .i64 t15) wv_1))
theorem laws_szRest_eq (a0 : ByteArray) (a1 : Bool) (a2_p : Option Addr) (a2_n : Nat) (a2_c : Nat) (a3_p : Option Addr) (a3_n : Nat) (a3_c : Nat) (left : Int) (w : World) (R : Value → World → Prop) : laws_szRest a0 a1 a2_p a2_n a2_c a3_p a3_n a3_c left w R = fsem P Try.f41 (fun k => []) [(.agg #[(.string a0), (.bool a1), (.slice a2_p a2_n a2_c), (.slice a3_p a3_n a3_c)]), (.int .i64 left)] R w := by kernel_rfl
theorem laws_szRest_ret {a0 : ByteArray} {a1 : Bool} {a2_p : Option Addr} {a2_n : Nat} {a2_c : Nat} {a3_p : Option Addr} {a3_n : Nat} {a3_c : Nat} {left : Int} {w : World} {R : Value → World → Prop} (h : laws_szRest a0 a1 a2_p a2_n a2_c a3_p a3_n a3_c left w R) : Ret P 41 [(.agg #[(.string a0), (.bool a1), (.slice a2_p a2_n a2_c), (.slice a3_p a3_n a3_c)]), (.int .i64 left)] w R :=
  Ret.of_fsem Try.func41 rfl (Eq.mp (laws_szRest_eq a0 a1 a2_p a2_n a2_c a3_p a3_n a3_c left w R) h)

def laws_toRest (a0 : ByteArray) (a1 : Bool) (a2_p : Option Addr) (a2_n : Nat) (a2_c : Nat) (a3_p : Option Addr) (a3_n : Nat) (a3_c : Nat) (w : World) (R : Value → World → Prop) : Prop :=
  ∀ (r : Nat) (wv : World), New w (.cells ⟨[(.string a0), (.bool a1), (.slice a2_p a2_n a2_c), (.slice a3_p a3_n a3_c)]⟩ 80 (0, 0)) r wv →
  ∀ (r_1 : Nat) (wv_1 : World), New wv (.cells ⟨[(.string ByteArray.empty), (.bool false), (.slice none 0 0), (.slice none 0 0)]⟩ 82 (0, 0)) r_1 wv_1 →
  ∀ (r_2 : Nat) (wv_2 : World), New wv_1 (.cells ⟨[(.string ByteArray.empty), (.bool false), (.slice none 0 0), (.slice none 0 0)]⟩ 82 (0, 0)) r_2 wv_2 →
  ∃ (t5 : ByteArray), Loads P 9 ((⟨r, 0, none⟩ : Addr).add 0) (.string t5) wv_2 ∧ ∃ wv_3, Stores P 9 ((⟨r_2, 0, none⟩ : Addr).add 0) (.string t5) wv_2 wv_3 ∧
  ∃ (t80 : Bool) (t81_p : Option Addr) (t81_n : Nat) (t81_c : Nat) (t82_p : Option Addr) (t82_n : Nat) (t82_c : Nat), Loads P 78 ((⟨r, 0, none⟩ : Addr).add 1) (.agg #[(.bool t80), (.slice t81_p t81_n t81_c), (.slice t82_p t82_n t82_c)]) wv_3 ∧ Calls P 80 ⟨[(.agg #[(.bool t80), (.slice t81_p t81_n t81_c), (.slice t82_p t82_n t82_c)])]⟩ wv_3 fun e wv_4 =>
  ∃ (t90 : Bool) (t91_p : Option Addr) (t91_n : Nat) (t91_c : Nat) (t92_p : Option Addr) (t92_n : Nat) (t92_c : Nat), e = .returned (.agg #[(.bool t90), (.slice t91_p t91_n t91_c), (.slice t92_p t92_n t92_c)]) ∧
  ∃ wv_5, Stores P 28 ((⟨r_2, 0, none⟩ : Addr).add 1) (.agg #[(.bool t90), (.slice t91_p t91_n t91_c), (.slice t92_p t92_n t92_c)]) wv_4 wv_5 ∧
  ∃ (t110 : ByteArray) (t111 : Bool) (t112_p : Option Addr) (t112_n : Nat) (t112_c : Nat) (t113_p : Option Addr) (t113_n : Nat) (t113_c : Nat), Loads P 82 ⟨r_2, 0, none⟩ (.agg #[(.string t110), (.bool t111), (.slice t112_p t112_n t112_c), (.slice t113_p t113_n t113_c)]) wv_5 ∧ ∃ wv_6, Stores P 82 ⟨r_1, 0, none⟩ (.agg #[(.string t110), (.bool t111), (.slice t112_p t112_n t112_c), (.slice t113_p t113_n t113_c)]) wv_5 wv_6 ∧
  ∃ (r0 : ByteArray) (r1 : Bool) (r2_p : Option Addr) (r2_n : Nat) (r2_c : Nat) (r3_p : Option Addr) (r3_n : Nat) (r3_c : Nat), Loads P 82 ⟨r_1, 0, none⟩ (.agg #[(.string r0), (.bool r1), (.slice r2_p r2_n r2_c), (.slice r3_p r3_n r3_c)]) wv_6 ∧ R (.agg #[(.string r0), (.bool r1), (.slice r2_p r2_n r2_c), (.slice r3_p r3_n r3_c)]) wv_6
theorem laws_toRest_eq (a0 : ByteArray) (a1 : Bool) (a2_p : Option Addr) (a2_n : Nat) (a2_c : Nat) (a3_p : Option Addr) (a3_n : Nat) (a3_c : Nat) (w : World) (R : Value → World → Prop) : laws_toRest a0 a1 a2_p a2_n a2_c a3_p a3_n a3_c w R = fsem P Try.f44 (fun k => []) [(.agg #[(.string a0), (.bool a1), (.slice a2_p a2_n a2_c), (.slice a3_p a3_n a3_c)])] R w := by kernel_rfl
theorem laws_toRest_ret {a0 : ByteArray} {a1 : Bool} {a2_p : Option Addr} {a2_n : Nat} {a2_c : Nat} {a3_p : Option Addr} {a3_n : Nat} {a3_c : Nat} {w : World} {R : Value → World → Prop} (h : laws_toRest a0 a1 a2_p a2_n a2_c a3_p a3_n a3_c w R) : Ret P 44 [(.agg #[(.string a0), (.bool a1), (.slice a2_p a2_n a2_c), (.slice a3_p a3_n a3_c)])] w R :=
  Ret.of_fsem Try.func44 rfl (Eq.mp (laws_toRest_eq a0 a1 a2_p a2_n a2_c a3_p a3_n a3_c w R) h)

def laws_eqIntS (a_p : Option Addr) (a_n : Nat) (a_c : Nat) (b_p : Option Addr) (b_n : Nat) (b_c : Nat) (w : World) (R : Value → World → Prop) : Prop :=
  ((decide ((((a_n : Nat) : Int) : Int) ≠ ((b_n : Nat) : Int))) = true →
    R (.bool false) w) ∧
  ((decide ((((a_n : Nat) : Int) : Int) ≠ ((b_n : Nat) : Int))) = false →
    ∃ (Inv : Int → World → Prop) (mu : Int → World → Nat), Inv 0 w ∧
    ∀ (junk : Fr) (wv : World) (i : Int), Inv i wv →
      ((decide ((i : Int) < ((a_n : Nat) : Int))) = true →
        (0 ≤ (i : Int) ∧ (i : Int) < (a_n : Nat)) ∧ ptrS a_p fun ad => ∃ (t20 : Int), (∀ wv_1, Ext wv.drew wv_1 → Loads P 3 (ad.add (i.toNat * 1)) (.int .i64 t20) wv_1) ∧ (0 ≤ (i : Int) ∧ (i : Int) < (b_n : Nat)) ∧ ptrS b_p fun ad_1 => ∃ (t24 : Int), (∀ wv_2, Ext wv.drew wv_2 → Loads P 3 (ad_1.add (i.toNat * 1)) (.int .i64 t24) wv_2) ∧ ((decide ((t20 : Int) ≠ t24)) = true →
          R (.bool false) wv.drew) ∧
        ((decide ((t20 : Int) ≠ t24)) = false →
          ∃ t16 : Int, t16 = IntKind.wrap .i64 (i + 1) ∧ Inv t16 wv.drew ∧ mu t16 wv.drew < mu i wv)) ∧
      ((decide ((i : Int) < ((a_n : Nat) : Int))) = false →
        R (.bool true) wv))
theorem laws_eqIntS_eq (a_p : Option Addr) (a_n : Nat) (a_c : Nat) (b_p : Option Addr) (b_n : Nat) (b_c : Nat) (w : World) (R : Value → World → Prop) : laws_eqIntS a_p a_n a_c b_p b_n b_c w R = fsem P Try.f47 (fun k => cond (Nat.beq k 5) [(5, .one (.int .i64))] ([])) [(.slice a_p a_n a_c), (.slice b_p b_n b_c)] R w := by kernel_rfl
theorem laws_eqIntS_ret {a_p : Option Addr} {a_n : Nat} {a_c : Nat} {b_p : Option Addr} {b_n : Nat} {b_c : Nat} {w : World} {R : Value → World → Prop} (h : laws_eqIntS a_p a_n a_c b_p b_n b_c w R) : Ret P 47 [(.slice a_p a_n a_c), (.slice b_p b_n b_c)] w R :=
  Ret.of_fsem Try.func47 rfl (Eq.mp (laws_eqIntS_eq a_p a_n a_c b_p b_n b_c w R) h)

def laws_eqRest (a0 : ByteArray) (a1 : Bool) (a2_p : Option Addr) (a2_n : Nat) (a2_c : Nat) (a3_p : Option Addr) (a3_n : Nat) (a3_c : Nat) (b0 : ByteArray) (b1 : Bool) (b2_p : Option Addr) (b2_n : Nat) (b2_c : Nat) (b3_p : Option Addr) (b3_n : Nat) (b3_c : Nat) (w : World) (R : Value → World → Prop) : Prop :=
  ∀ (r : Nat) (wv : World), New w (.cells ⟨[(.string a0), (.bool a1), (.slice a2_p a2_n a2_c), (.slice a3_p a3_n a3_c)]⟩ 82 (0, 0)) r wv →
  ∀ (r_1 : Nat) (wv_1 : World), New wv (.cells ⟨[(.string b0), (.bool b1), (.slice b2_p b2_n b2_c), (.slice b3_p b3_n b3_c)]⟩ 82 (0, 0)) r_1 wv_1 →
  ∃ (t6 : ByteArray), Loads P 9 ((⟨r, 0, none⟩ : Addr).add 0) (.string t6) wv_1 ∧ ∃ (t8 : ByteArray), Loads P 9 ((⟨r_1, 0, none⟩ : Addr).add 0) (.string t8) wv_1 ∧ ((decide (t6 ≠ t8)) = true →
    R (.bool false) wv_1) ∧
  ((decide (t6 ≠ t8)) = false →
    ∃ (t110 : Bool) (t111_p : Option Addr) (t111_n : Nat) (t111_c : Nat) (t112_p : Option Addr) (t112_n : Nat) (t112_c : Nat), Loads P 28 ((⟨r, 0, none⟩ : Addr).add 1) (.agg #[(.bool t110), (.slice t111_p t111_n t111_c), (.slice t112_p t112_n t112_c)]) wv_1 ∧ ∃ (t130 : Bool) (t131_p : Option Addr) (t131_n : Nat) (t131_c : Nat) (t132_p : Option Addr) (t132_n : Nat) (t132_c : Nat), Loads P 28 ((⟨r_1, 0, none⟩ : Addr).add 1) (.agg #[(.bool t130), (.slice t131_p t131_n t131_c), (.slice t132_p t132_n t132_c)]) wv_1 ∧ Calls P 12 ⟨[(.agg #[(.bool t110), (.slice t111_p t111_n t111_c), (.slice t112_p t112_n t112_c)]), (.agg #[(.bool t130), (.slice t131_p t131_n t131_c), (.slice t132_p t132_n t132_c)])]⟩ wv_1 fun e wv_2 =>
    ∃ (t14 : Bool), e = .returned (.bool t14) ∧
    ((!t14) = true →
      R (.bool false) wv_2) ∧
    ((!t14) = false →
      R (.bool true) wv_2))
theorem laws_eqRest_eq (a0 : ByteArray) (a1 : Bool) (a2_p : Option Addr) (a2_n : Nat) (a2_c : Nat) (a3_p : Option Addr) (a3_n : Nat) (a3_c : Nat) (b0 : ByteArray) (b1 : Bool) (b2_p : Option Addr) (b2_n : Nat) (b2_c : Nat) (b3_p : Option Addr) (b3_n : Nat) (b3_c : Nat) (w : World) (R : Value → World → Prop) : laws_eqRest a0 a1 a2_p a2_n a2_c a3_p a3_n a3_c b0 b1 b2_p b2_n b2_c b3_p b3_n b3_c w R = fsem P Try.f48 (fun k => []) [(.agg #[(.string a0), (.bool a1), (.slice a2_p a2_n a2_c), (.slice a3_p a3_n a3_c)]), (.agg #[(.string b0), (.bool b1), (.slice b2_p b2_n b2_c), (.slice b3_p b3_n b3_c)])] R w := by kernel_rfl
theorem laws_eqRest_ret {a0 : ByteArray} {a1 : Bool} {a2_p : Option Addr} {a2_n : Nat} {a2_c : Nat} {a3_p : Option Addr} {a3_n : Nat} {a3_c : Nat} {b0 : ByteArray} {b1 : Bool} {b2_p : Option Addr} {b2_n : Nat} {b2_c : Nat} {b3_p : Option Addr} {b3_n : Nat} {b3_c : Nat} {w : World} {R : Value → World → Prop} (h : laws_eqRest a0 a1 a2_p a2_n a2_c a3_p a3_n a3_c b0 b1 b2_p b2_n b2_c b3_p b3_n b3_c w R) : Ret P 48 [(.agg #[(.string a0), (.bool a1), (.slice a2_p a2_n a2_c), (.slice a3_p a3_n a3_c)]), (.agg #[(.string b0), (.bool b1), (.slice b2_p b2_n b2_c), (.slice b3_p b3_n b3_c)])] w R :=
  Ret.of_fsem Try.func48 rfl (Eq.mp (laws_eqRest_eq a0 a1 a2_p a2_n a2_c a3_p a3_n a3_c b0 b1 b2_p b2_n b2_c b3_p b3_n b3_c w R) h)

def laws_markText (k : Int) (w : World) (R : Value → World → Prop) : Prop :=
  ((decide ((k : Int) ≤ 0)) = true →
    R (.string (S [109, 48])) w) ∧
  ((decide ((k : Int) ≤ 0)) = false →
    ∃ (Inv : Int → ByteArray → World → Prop) (mu : Int → ByteArray → World → Nat), Inv k (S []) w ∧
    ∀ (junk : Fr) (wv : World) (k_1 : Int) (out : ByteArray), Inv k_1 out wv →
      ((decide ((0 : Int) < k_1)) = true →
        (10 : Int) ≠ 0 ∧ ∃ t9 : Int, t9 = Int.tmod k_1 10 ∧ ∃ t10 : Int, t10 = IntKind.wrap .i64 (48 + t9) ∧ ∃ t11 : Int, t11 = IntKind.wrap .u8 t10 ∧ ∀ (r : Nat) (wv_1 : World), New wv (.cells ⟨[(.int .u8 t11)]⟩ 5 (0, 0)) r wv_1 →
        ∃ (t13 : ByteArray), Convs P 118 9 (.slice (some ⟨r, 0, none⟩) 1 1) (.string t13) wv_1 ∧ t13.size + out.size ≤ 9223372036854775807 ∧ ∃ t15 : ByteArray, t15 = t13 ++ out ∧ (10 : Int) ≠ 0 ∧ ∃ t17 : Int, t17 = IntKind.wrap .i64 (Int.tdiv k_1 10) ∧ Inv t17 t15 wv_1 ∧ mu t17 t15 wv_1 < mu k_1 out wv) ∧
      ((decide ((0 : Int) < k_1)) = false →
        (S [109]).size + out.size ≤ 9223372036854775807 ∧ ∃ t19 : ByteArray, t19 = (S [109]) ++ out ∧ R (.string t19) wv))
theorem laws_markText_eq (k : Int) (w : World) (R : Value → World → Prop) : laws_markText k w R = fsem P Try.f49 (fun k => cond (Nat.beq k 5) [(0, .one (.int .i64)), (3, .one .str)] ([])) [(.int .i64 k)] R w := by kernel_rfl
theorem laws_markText_ret {k : Int} {w : World} {R : Value → World → Prop} (h : laws_markText k w R) : Ret P 49 [(.int .i64 k)] w R :=
  Ret.of_fsem Try.func49 rfl (Eq.mp (laws_markText_eq k w R) h)

def laws_markIntS (a_p : Option Addr) (a_n : Nat) (a_c : Nat) (k : Int) (w : World) (R : Value → World → Prop) : Prop :=
  ∃ (Inv : Int → Int → World → Prop) (mu : Int → Int → World → Nat), Inv k 0 w ∧
  ∀ (junk : Fr) (wv : World) (k_1 : Int) (i : Int), Inv k_1 i wv →
    ((decide ((i : Int) < ((a_n : Nat) : Int))) = true →
      (0 ≤ (i : Int) ∧ (i : Int) < (a_n : Nat)) ∧ ptrS a_p fun ad => ∃ wv_1, Stores P 3 (ad.add (i.toNat * 1)) (.int .i64 k_1) wv wv_1 ∧
      ∃ t17 : Int, t17 = IntKind.wrap .i64 (k_1 + 1) ∧ ∃ t11 : Int, t11 = IntKind.wrap .i64 (i + 1) ∧ Inv t17 t11 wv_1 ∧ mu t17 t11 wv_1 < mu k_1 i wv) ∧
    ((decide ((i : Int) < ((a_n : Nat) : Int))) = false →
      R (.int .i64 k_1) wv)
theorem laws_markIntS_eq (a_p : Option Addr) (a_n : Nat) (a_c : Nat) (k : Int) (w : World) (R : Value → World → Prop) : laws_markIntS a_p a_n a_c k w R = fsem P Try.f50 (fun k => cond (Nat.beq k 3) [(1, .one (.int .i64)), (5, .one (.int .i64))] ([])) [(.slice a_p a_n a_c), (.int .i64 k)] R w := by kernel_rfl
theorem laws_markIntS_ret {a_p : Option Addr} {a_n : Nat} {a_c : Nat} {k : Int} {w : World} {R : Value → World → Prop} (h : laws_markIntS a_p a_n a_c k w R) : Ret P 50 [(.slice a_p a_n a_c), (.int .i64 k)] w R :=
  Ret.of_fsem Try.func50 rfl (Eq.mp (laws_markIntS_eq a_p a_n a_c k w R) h)

def laws_markSigned (a0 : Bool) (a1_p : Option Addr) (a1_n : Nat) (a1_c : Nat) (k : Int) (w : World) (R : Value → World → Prop) : Prop :=
  ∀ (r : Nat) (wv : World), New w (.cells ⟨[(.bool a0), (.slice a1_p a1_n a1_c)]⟩ 26 (0, 0)) r wv →
  ∃ (t6_p : Option Addr) (t6_n : Nat) (t6_c : Nat), Loads P 24 ((⟨r, 0, none⟩ : Addr).add 1) (.slice t6_p t6_n t6_c) wv ∧ Calls P 50 ⟨[(.slice t6_p t6_n t6_c), (.int .i64 k)]⟩ wv fun e wv_1 =>
  ∃ (t8 : Int), e = .returned (.int .i64 t8) ∧
  R (.int .i64 t8) wv_1
theorem laws_markSigned_eq (a0 : Bool) (a1_p : Option Addr) (a1_n : Nat) (a1_c : Nat) (k : Int) (w : World) (R : Value → World → Prop) : laws_markSigned a0 a1_p a1_n a1_c k w R = fsem P Try.f51 (fun k => []) [(.agg #[(.bool a0), (.slice a1_p a1_n a1_c)]), (.int .i64 k)] R w := by kernel_rfl
theorem laws_markSigned_ret {a0 : Bool} {a1_p : Option Addr} {a1_n : Nat} {a1_c : Nat} {k : Int} {w : World} {R : Value → World → Prop} (h : laws_markSigned a0 a1_p a1_n a1_c k w R) : Ret P 51 [(.agg #[(.bool a0), (.slice a1_p a1_n a1_c)]), (.int .i64 k)] w R :=
  Ret.of_fsem Try.func51 rfl (Eq.mp (laws_markSigned_eq a0 a1_p a1_n a1_c k w R) h)

def laws_heldSigned (a0 : Bool) (a1_p : Option Addr) (a1_n : Nat) (a1_c : Nat) (k : Int) (w : World) (R : Value → World → Prop) : Prop :=
  ∀ (r : Nat) (wv : World), New w (.cells ⟨[(.bool a0), (.slice a1_p a1_n a1_c)]⟩ 26 (0, 0)) r wv →
  ∃ (t6_p : Option Addr) (t6_n : Nat) (t6_c : Nat), Loads P 24 ((⟨r, 0, none⟩ : Addr).add 1) (.slice t6_p t6_n t6_c) wv ∧ Calls P 53 ⟨[(.slice t6_p t6_n t6_c), (.int .i64 k)]⟩ wv fun e wv_1 =>
  ∃ (t8 : Int), e = .returned (.int .i64 t8) ∧
  ((decide ((t8 : Int) < 0)) = true →
    R (.int .i64 (-1)) wv_1) ∧
  ((decide ((t8 : Int) < 0)) = false →
    R (.int .i64 t8) wv_1)
theorem laws_heldSigned_eq (a0 : Bool) (a1_p : Option Addr) (a1_n : Nat) (a1_c : Nat) (k : Int) (w : World) (R : Value → World → Prop) : laws_heldSigned a0 a1_p a1_n a1_c k w R = fsem P Try.f52 (fun k => []) [(.agg #[(.bool a0), (.slice a1_p a1_n a1_c)]), (.int .i64 k)] R w := by kernel_rfl
theorem laws_heldSigned_ret {a0 : Bool} {a1_p : Option Addr} {a1_n : Nat} {a1_c : Nat} {k : Int} {w : World} {R : Value → World → Prop} (h : laws_heldSigned a0 a1_p a1_n a1_c k w R) : Ret P 52 [(.agg #[(.bool a0), (.slice a1_p a1_n a1_c)]), (.int .i64 k)] w R :=
  Ret.of_fsem Try.func52 rfl (Eq.mp (laws_heldSigned_eq a0 a1_p a1_n a1_c k w R) h)

def laws_heldIntS (a_p : Option Addr) (a_n : Nat) (a_c : Nat) (k : Int) (w : World) (R : Value → World → Prop) : Prop :=
  ∃ (Inv : Int → Int → World → Prop) (mu : Int → Int → World → Nat), Inv k 0 w ∧
  ∀ (junk : Fr) (wv : World) (k_1 : Int) (i : Int), Inv k_1 i wv →
    ((decide ((i : Int) < ((a_n : Nat) : Int))) = true →
      (0 ≤ (i : Int) ∧ (i : Int) < (a_n : Nat)) ∧ ptrS a_p fun ad => ∃ (t15 : Int), Loads P 3 (ad.add (i.toNat * 1)) (.int .i64 t15) wv ∧ ((decide ((t15 : Int) ≠ k_1)) = true →
        R (.int .i64 (-1)) wv) ∧
      ((decide ((t15 : Int) ≠ k_1)) = false →
        ∃ t19 : Int, t19 = IntKind.wrap .i64 (k_1 + 1) ∧ ∃ t11 : Int, t11 = IntKind.wrap .i64 (i + 1) ∧ Inv t19 t11 wv ∧ mu t19 t11 wv < mu k_1 i wv)) ∧
    ((decide ((i : Int) < ((a_n : Nat) : Int))) = false →
      R (.int .i64 k_1) wv)
theorem laws_heldIntS_eq (a_p : Option Addr) (a_n : Nat) (a_c : Nat) (k : Int) (w : World) (R : Value → World → Prop) : laws_heldIntS a_p a_n a_c k w R = fsem P Try.f53 (fun k => cond (Nat.beq k 3) [(1, .one (.int .i64)), (5, .one (.int .i64))] ([])) [(.slice a_p a_n a_c), (.int .i64 k)] R w := by kernel_rfl
theorem laws_heldIntS_ret {a_p : Option Addr} {a_n : Nat} {a_c : Nat} {k : Int} {w : World} {R : Value → World → Prop} (h : laws_heldIntS a_p a_n a_c k w R) : Ret P 53 [(.slice a_p a_n a_c), (.int .i64 k)] w R :=
  Ret.of_fsem Try.func53 rfl (Eq.mp (laws_heldIntS_eq a_p a_n a_c k w R) h)

def laws_szAcctS (a_p : Option Addr) (a_n : Nat) (a_c : Nat) (left : Int) (w : World) (R : Value → World → Prop) : Prop :=
  ∃ t9 : Int, t9 = IntKind.wrap .i64 (left - ((a_n : Nat) : Int)) ∧ ((decide ((t9 : Int) < 0)) = true →
    R (.int .i64 (-1)) w) ∧
  ((decide ((t9 : Int) < 0)) = false →
    ∃ (Inv : Int → Int → World → Prop) (mu : Int → Int → World → Nat), Inv t9 0 w ∧
    ∀ (junk : Fr) (wv : World) (left_1 : Int) (i : Int), Inv left_1 i wv →
      ((decide ((i : Int) < ((a_n : Nat) : Int))) = true →
        (0 ≤ (i : Int) ∧ (i : Int) < (a_n : Nat)) ∧ ptrS a_p fun ad => ∃ (t210 : ByteArray) (t211 : ByteArray) (t212 : Bool) (t213_p : Option Addr) (t213_n : Nat) (t213_c : Nat), Loads P 123 (ad.add (i.toNat * 4)) (.agg #[(.string t210), (.string t211), (.bool t212), (.slice t213_p t213_n t213_c)]) wv ∧ Calls P 83 ⟨[(.agg #[(.string t210), (.string t211), (.bool t212), (.slice t213_p t213_n t213_c)]), (.int .i64 left_1)]⟩ wv fun e wv_1 =>
        ∃ (t23 : Int), e = .returned (.int .i64 t23) ∧
        ((decide ((t23 : Int) < 0)) = true →
          R (.int .i64 (-1)) wv_1) ∧
        ((decide ((t23 : Int) < 0)) = false →
          ∃ t17 : Int, t17 = IntKind.wrap .i64 (i + 1) ∧ Inv t23 t17 wv_1 ∧ mu t23 t17 wv_1 < mu left_1 i wv)) ∧
      ((decide ((i : Int) < ((a_n : Nat) : Int))) = false →
        R (.int .i64 left_1) wv))
theorem laws_szAcctS_eq (a_p : Option Addr) (a_n : Nat) (a_c : Nat) (left : Int) (w : World) (R : Value → World → Prop) : laws_szAcctS a_p a_n a_c left w R = fsem P Try.f54 (fun k => cond (Nat.beq k 6) [(1, .one (.int .i64)), (5, .one (.int .i64))] ([])) [(.slice a_p a_n a_c), (.int .i64 left)] R w := by kernel_rfl
theorem laws_szAcctS_ret {a_p : Option Addr} {a_n : Nat} {a_c : Nat} {left : Int} {w : World} {R : Value → World → Prop} (h : laws_szAcctS a_p a_n a_c left w R) : Ret P 54 [(.slice a_p a_n a_c), (.int .i64 left)] w R :=
  Ret.of_fsem Try.func54 rfl (Eq.mp (laws_szAcctS_eq a_p a_n a_c left w R) h)

def laws_toAcctS (a_p : Option Addr) (a_n : Nat) (a_c : Nat) (w : World) (R : Value → World → Prop) : Prop :=
  (0 ≤ (((a_n : Nat) : Int) : Int) ∧ (((a_n : Nat) : Int) : Int) ≤ ((a_n : Nat) : Int) ∧ ((64 : Nat) : Int) * ((a_n : Nat) : Int) ≤ 281474976710656) ∧
  ∀ (r : Nat) (wv : World), New w (.cells ⟨zeroRow (.agg #[(.string ByteArray.empty), (.string ByteArray.empty), (.bool false), (.slice none 0 0)]) (a_n * 4)⟩ 95 (0, 0)) r wv →
  ∃ (Inv : Int → World → Prop) (mu : Int → World → Nat), Inv 0 wv ∧
  ∀ (junk : Fr) (wv_1 : World) (i : Int), Inv i wv_1 →
    ((decide ((i : Int) < ((a_n : Nat) : Int))) = true →
      (0 ≤ (i : Int) ∧ (i : Int) < (a_n : Nat)) ∧ ptrS a_p fun ad => ∃ (t190 : ByteArray) (t191 : ByteArray) (t192 : Bool) (t193_p : Option Addr) (t193_n : Nat) (t193_c : Nat), Loads P 123 (ad.add (i.toNat * 4)) (.agg #[(.string t190), (.string t191), (.bool t192), (.slice t193_p t193_n t193_c)]) wv_1 ∧ Calls P 84 ⟨[(.agg #[(.string t190), (.string t191), (.bool t192), (.slice t193_p t193_n t193_c)])]⟩ wv_1 fun e wv_2 =>
      ∃ (t200 : ByteArray) (t201 : ByteArray) (t202 : Bool) (t203_p : Option Addr) (t203_n : Nat) (t203_c : Nat), e = .returned (.agg #[(.string t200), (.string t201), (.bool t202), (.slice t203_p t203_n t203_c)]) ∧
      (0 ≤ (i : Int) ∧ (i : Int) < (a_n : Nat)) ∧ ∃ wv_3, Stores P 95 ((⟨r, 0, none⟩ : Addr).add (i.toNat * 4)) (.agg #[(.string t200), (.string t201), (.bool t202), (.slice t203_p t203_n t203_c)]) wv_2 wv_3 ∧
      ∃ t13 : Int, t13 = IntKind.wrap .i64 (i + 1) ∧ Inv t13 wv_3 ∧ mu t13 wv_3 < mu i wv_1) ∧
    ((decide ((i : Int) < ((a_n : Nat) : Int))) = false →
      R (.slice (some ⟨r, 0, none⟩) a_n a_n) wv_1)
theorem laws_toAcctS_eq (a_p : Option Addr) (a_n : Nat) (a_c : Nat) (w : World) (R : Value → World → Prop) : laws_toAcctS a_p a_n a_c w R = fsem P Try.f57 (fun k => cond (Nat.beq k 4) [(4, .one (.int .i64))] ([])) [(.slice a_p a_n a_c)] R w := by kernel_rfl
theorem laws_toAcctS_ret {a_p : Option Addr} {a_n : Nat} {a_c : Nat} {w : World} {R : Value → World → Prop} (h : laws_toAcctS a_p a_n a_c w R) : Ret P 57 [(.slice a_p a_n a_c)] w R :=
  Ret.of_fsem Try.func57 rfl (Eq.mp (laws_toAcctS_eq a_p a_n a_c w R) h)

def laws_eqAcctS (a_p : Option Addr) (a_n : Nat) (a_c : Nat) (b_p : Option Addr) (b_n : Nat) (b_c : Nat) (w : World) (R : Value → World → Prop) : Prop :=
  ((decide ((((a_n : Nat) : Int) : Int) ≠ ((b_n : Nat) : Int))) = true →
    R (.bool false) w) ∧
  ((decide ((((a_n : Nat) : Int) : Int) ≠ ((b_n : Nat) : Int))) = false →
    ∃ (Inv : Int → World → Prop) (mu : Int → World → Nat), Inv 0 w ∧
    ∀ (junk : Fr) (wv : World) (i : Int), Inv i wv →
      ((decide ((i : Int) < ((a_n : Nat) : Int))) = true →
        (0 ≤ (i : Int) ∧ (i : Int) < (a_n : Nat)) ∧ ptrS a_p fun ad => ∃ (t200 : ByteArray) (t201 : ByteArray) (t202 : Bool) (t203_p : Option Addr) (t203_n : Nat) (t203_c : Nat), (∀ wv_1, Ext wv.drew wv_1 → Loads P 95 (ad.add (i.toNat * 4)) (.agg #[(.string t200), (.string t201), (.bool t202), (.slice t203_p t203_n t203_c)]) wv_1) ∧ (0 ≤ (i : Int) ∧ (i : Int) < (b_n : Nat)) ∧ ptrS b_p fun ad_1 => ∃ (t240 : ByteArray) (t241 : ByteArray) (t242 : Bool) (t243_p : Option Addr) (t243_n : Nat) (t243_c : Nat), (∀ wv_2, Ext wv.drew wv_2 → Loads P 95 (ad_1.add (i.toNat * 4)) (.agg #[(.string t240), (.string t241), (.bool t242), (.slice t243_p t243_n t243_c)]) wv_2) ∧ Calls P 87 ⟨[(.agg #[(.string t200), (.string t201), (.bool t202), (.slice t203_p t203_n t203_c)]), (.agg #[(.string t240), (.string t241), (.bool t242), (.slice t243_p t243_n t243_c)])]⟩ wv.drew fun e wv_3 =>
        ∃ (t25 : Bool), e = .returned (.bool t25) ∧
        ((!t25) = true →
          R (.bool false) wv_3) ∧
        ((!t25) = false →
          ∃ t16 : Int, t16 = IntKind.wrap .i64 (i + 1) ∧ Inv t16 wv_3 ∧ mu t16 wv_3 < mu i wv)) ∧
      ((decide ((i : Int) < ((a_n : Nat) : Int))) = false →
        R (.bool true) wv))
theorem laws_eqAcctS_eq (a_p : Option Addr) (a_n : Nat) (a_c : Nat) (b_p : Option Addr) (b_n : Nat) (b_c : Nat) (w : World) (R : Value → World → Prop) : laws_eqAcctS a_p a_n a_c b_p b_n b_c w R = fsem P Try.f60 (fun k => cond (Nat.beq k 5) [(5, .one (.int .i64))] ([])) [(.slice a_p a_n a_c), (.slice b_p b_n b_c)] R w := by kernel_rfl
theorem laws_eqAcctS_ret {a_p : Option Addr} {a_n : Nat} {a_c : Nat} {b_p : Option Addr} {b_n : Nat} {b_c : Nat} {w : World} {R : Value → World → Prop} (h : laws_eqAcctS a_p a_n a_c b_p b_n b_c w R) : Ret P 60 [(.slice a_p a_n a_c), (.slice b_p b_n b_c)] w R :=
  Ret.of_fsem Try.func60 rfl (Eq.mp (laws_eqAcctS_eq a_p a_n a_c b_p b_n b_c w R) h)

def laws_markAcctS (a_p : Option Addr) (a_n : Nat) (a_c : Nat) (k : Int) (w : World) (R : Value → World → Prop) : Prop :=
  ∃ (Inv : Int → Int → World → Prop) (mu : Int → Int → World → Nat), Inv k 0 w ∧
  ∀ (junk : Fr) (wv : World) (k_1 : Int) (i : Int), Inv k_1 i wv →
    ((decide ((i : Int) < ((a_n : Nat) : Int))) = true →
      Calls P 49 ⟨[(.int .i64 k_1)]⟩ wv fun e wv_1 =>
      ∃ (t15 : ByteArray), e = .returned (.string t15) ∧
      (0 ≤ (i : Int) ∧ (i : Int) < (a_n : Nat)) ∧ ptrS a_p fun ad => ∃ wv_2, Stores P 9 ((ad.add (i.toNat * 4)).add 0) (.string t15) wv_1 wv_2 ∧
      ∃ t19 : Int, t19 = IntKind.wrap .i64 (k_1 + 1) ∧ Calls P 49 ⟨[(.int .i64 t19)]⟩ wv_2 fun e_1 wv_3 =>
      ∃ (t23 : ByteArray), e_1 = .returned (.string t23) ∧
      (0 ≤ (i : Int) ∧ (i : Int) < (a_n : Nat)) ∧ ptrS a_p fun ad_1 => ∃ wv_4, Stores P 9 (((ad_1.add (i.toNat * 4)).add 1).add 0) (.string t23) wv_3 wv_4 ∧
      ∃ t28 : Int, t28 = IntKind.wrap .i64 (t19 + 1) ∧ (3 : Int) ≠ 0 ∧ ∃ t32 : Int, t32 = Int.tmod t28 3 ∧ (0 ≤ (i : Int) ∧ (i : Int) < (a_n : Nat)) ∧ ptrS a_p fun ad_2 => ∃ wv_5, Stores P 4 ((((ad_2.add (i.toNat * 4)).add 1).add 1).add 0) (.bool (decide ((t32 : Int) = 0))) wv_4 wv_5 ∧
      ∃ t39 : Int, t39 = IntKind.wrap .i64 (t28 + 1) ∧ (0 ≤ (i : Int) ∧ (i : Int) < (a_n : Nat)) ∧ ptrS a_p fun ad_3 => ∃ (t46_p : Option Addr) (t46_n : Nat) (t46_c : Nat), Loads P 24 ((((ad_3.add (i.toNat * 4)).add 1).add 1).add 1) (.slice t46_p t46_n t46_c) wv_5 ∧ Calls P 50 ⟨[(.slice t46_p t46_n t46_c), (.int .i64 t39)]⟩ wv_5 fun e_2 wv_6 =>
      ∃ (t48 : Int), e_2 = .returned (.int .i64 t48) ∧
      ∃ t11 : Int, t11 = IntKind.wrap .i64 (i + 1) ∧ Inv t48 t11 wv_6 ∧ mu t48 t11 wv_6 < mu k_1 i wv) ∧
    ((decide ((i : Int) < ((a_n : Nat) : Int))) = false →
      R (.int .i64 k_1) wv)
theorem laws_markAcctS_eq (a_p : Option Addr) (a_n : Nat) (a_c : Nat) (k : Int) (w : World) (R : Value → World → Prop) : laws_markAcctS a_p a_n a_c k w R = fsem P Try.f61 (fun k => cond (Nat.beq k 3) [(1, .one (.int .i64)), (5, .one (.int .i64))] ([])) [(.slice a_p a_n a_c), (.int .i64 k)] R w := by kernel_rfl
theorem laws_markAcctS_ret {a_p : Option Addr} {a_n : Nat} {a_c : Nat} {k : Int} {w : World} {R : Value → World → Prop} (h : laws_markAcctS a_p a_n a_c k w R) : Ret P 61 [(.slice a_p a_n a_c), (.int .i64 k)] w R :=
  Ret.of_fsem Try.func61 rfl (Eq.mp (laws_markAcctS_eq a_p a_n a_c k w R) h)

def laws_szStep (a0 : Int) (a1 : Bool) (a2_p : Option Addr) (a2_n : Nat) (a2_c : Nat) (a3 : Int) (left : Int) (w : World) (R : Value → World → Prop) : Prop :=
  ∀ (r : Nat) (wv : World), New w (.cells ⟨[(.int .i64 a0), (.bool a1), (.slice a2_p a2_n a2_c), (.int .i64 a3)]⟩ 103 (0, 0)) r wv →
  ∃ (t60 : Bool) (t61_p : Option Addr) (t61_n : Nat) (t61_c : Nat) (t62 : Int), Loads P 56 ((⟨r, 0, none⟩ : Addr).add 1) (.agg #[(.bool t60), (.slice t61_p t61_n t61_c), (.int .i64 t62)]) wv ∧ Calls P 26 ⟨[(.agg #[(.bool t60), (.slice t61_p t61_n t61_c), (.int .i64 t62)]), (.int .i64 left)]⟩ wv fun e wv_1 =>
  ∃ (t8 : Int), e = .returned (.int .i64 t8) ∧
  ((decide ((t8 : Int) < 0)) = true →
    R (.int .i64 (-1)) wv_1) ∧
  ((decide ((t8 : Int) < 0)) = false →
    R (.int .i64 t8) wv_1)
theorem laws_szStep_eq (a0 : Int) (a1 : Bool) (a2_p : Option Addr) (a2_n : Nat) (a2_c : Nat) (a3 : Int) (left : Int) (w : World) (R : Value → World → Prop) : laws_szStep a0 a1 a2_p a2_n a2_c a3 left w R = fsem P Try.f68 (fun k => []) [(.agg #[(.int .i64 a0), (.bool a1), (.slice a2_p a2_n a2_c), (.int .i64 a3)]), (.int .i64 left)] R w := by kernel_rfl
theorem laws_szStep_ret {a0 : Int} {a1 : Bool} {a2_p : Option Addr} {a2_n : Nat} {a2_c : Nat} {a3 : Int} {left : Int} {w : World} {R : Value → World → Prop} (h : laws_szStep a0 a1 a2_p a2_n a2_c a3 left w R) : Ret P 68 [(.agg #[(.int .i64 a0), (.bool a1), (.slice a2_p a2_n a2_c), (.int .i64 a3)]), (.int .i64 left)] w R :=
  Ret.of_fsem Try.func68 rfl (Eq.mp (laws_szStep_eq a0 a1 a2_p a2_n a2_c a3 left w R) h)

def laws_toStep (a0 : Int) (a1 : Bool) (a2_p : Option Addr) (a2_n : Nat) (a2_c : Nat) (a3 : Int) (w : World) (R : Value → World → Prop) : Prop :=
  ∀ (r : Nat) (wv : World), New w (.cells ⟨[(.int .i64 a0), (.bool a1), (.slice a2_p a2_n a2_c), (.int .i64 a3)]⟩ 103 (0, 0)) r wv →
  ∀ (r_1 : Nat) (wv_1 : World), New wv (.cells ⟨[(.int .i64 0), (.bool false), (.slice none 0 0), (.int .i64 0)]⟩ 106 (0, 0)) r_1 wv_1 →
  ∀ (r_2 : Nat) (wv_2 : World), New wv_1 (.cells ⟨[(.int .i64 0), (.bool false), (.slice none 0 0), (.int .i64 0)]⟩ 106 (0, 0)) r_2 wv_2 →
  ∃ (t5 : Int), Loads P 3 ((⟨r, 0, none⟩ : Addr).add 0) (.int .i64 t5) wv_2 ∧ ∃ wv_3, Stores P 3 ((⟨r_2, 0, none⟩ : Addr).add 0) (.int .i64 t5) wv_2 wv_3 ∧
  ∃ (t80 : Bool) (t81_p : Option Addr) (t81_n : Nat) (t81_c : Nat) (t82 : Int), Loads P 56 ((⟨r, 0, none⟩ : Addr).add 1) (.agg #[(.bool t80), (.slice t81_p t81_n t81_c), (.int .i64 t82)]) wv_3 ∧ Calls P 28 ⟨[(.agg #[(.bool t80), (.slice t81_p t81_n t81_c), (.int .i64 t82)])]⟩ wv_3 fun e wv_4 =>
  ∃ (t90 : Bool) (t91_p : Option Addr) (t91_n : Nat) (t91_c : Nat) (t92 : Int), e = .returned (.agg #[(.bool t90), (.slice t91_p t91_n t91_c), (.int .i64 t92)]) ∧
  ∃ wv_5, Stores P 60 ((⟨r_2, 0, none⟩ : Addr).add 1) (.agg #[(.bool t90), (.slice t91_p t91_n t91_c), (.int .i64 t92)]) wv_4 wv_5 ∧
  ∃ (t110 : Int) (t111 : Bool) (t112_p : Option Addr) (t112_n : Nat) (t112_c : Nat) (t113 : Int), Loads P 106 ⟨r_2, 0, none⟩ (.agg #[(.int .i64 t110), (.bool t111), (.slice t112_p t112_n t112_c), (.int .i64 t113)]) wv_5 ∧ ∃ wv_6, Stores P 106 ⟨r_1, 0, none⟩ (.agg #[(.int .i64 t110), (.bool t111), (.slice t112_p t112_n t112_c), (.int .i64 t113)]) wv_5 wv_6 ∧
  ∃ (r0 : Int) (r1 : Bool) (r2_p : Option Addr) (r2_n : Nat) (r2_c : Nat) (r3 : Int), Loads P 106 ⟨r_1, 0, none⟩ (.agg #[(.int .i64 r0), (.bool r1), (.slice r2_p r2_n r2_c), (.int .i64 r3)]) wv_6 ∧ R (.agg #[(.int .i64 r0), (.bool r1), (.slice r2_p r2_n r2_c), (.int .i64 r3)]) wv_6
theorem laws_toStep_eq (a0 : Int) (a1 : Bool) (a2_p : Option Addr) (a2_n : Nat) (a2_c : Nat) (a3 : Int) (w : World) (R : Value → World → Prop) : laws_toStep a0 a1 a2_p a2_n a2_c a3 w R = fsem P Try.f70 (fun k => []) [(.agg #[(.int .i64 a0), (.bool a1), (.slice a2_p a2_n a2_c), (.int .i64 a3)])] R w := by kernel_rfl
theorem laws_toStep_ret {a0 : Int} {a1 : Bool} {a2_p : Option Addr} {a2_n : Nat} {a2_c : Nat} {a3 : Int} {w : World} {R : Value → World → Prop} (h : laws_toStep a0 a1 a2_p a2_n a2_c a3 w R) : Ret P 70 [(.agg #[(.int .i64 a0), (.bool a1), (.slice a2_p a2_n a2_c), (.int .i64 a3)])] w R :=
  Ret.of_fsem Try.func70 rfl (Eq.mp (laws_toStep_eq a0 a1 a2_p a2_n a2_c a3 w R) h)

def laws_eqStep (a0 : Int) (a1 : Bool) (a2_p : Option Addr) (a2_n : Nat) (a2_c : Nat) (a3 : Int) (b0 : Int) (b1 : Bool) (b2_p : Option Addr) (b2_n : Nat) (b2_c : Nat) (b3 : Int) (w : World) (R : Value → World → Prop) : Prop :=
  ∀ (r : Nat) (wv : World), New w (.cells ⟨[(.int .i64 a0), (.bool a1), (.slice a2_p a2_n a2_c), (.int .i64 a3)]⟩ 106 (0, 0)) r wv →
  ∀ (r_1 : Nat) (wv_1 : World), New wv (.cells ⟨[(.int .i64 b0), (.bool b1), (.slice b2_p b2_n b2_c), (.int .i64 b3)]⟩ 106 (0, 0)) r_1 wv_1 →
  ∃ (t6 : Int), Loads P 3 ((⟨r, 0, none⟩ : Addr).add 0) (.int .i64 t6) wv_1 ∧ ∃ (t8 : Int), Loads P 3 ((⟨r_1, 0, none⟩ : Addr).add 0) (.int .i64 t8) wv_1 ∧ ((decide ((t6 : Int) ≠ t8)) = true →
    R (.bool false) wv_1) ∧
  ((decide ((t6 : Int) ≠ t8)) = false →
    ∃ (t110 : Bool) (t111_p : Option Addr) (t111_n : Nat) (t111_c : Nat) (t112 : Int), Loads P 60 ((⟨r, 0, none⟩ : Addr).add 1) (.agg #[(.bool t110), (.slice t111_p t111_n t111_c), (.int .i64 t112)]) wv_1 ∧ ∃ (t130 : Bool) (t131_p : Option Addr) (t131_n : Nat) (t131_c : Nat) (t132 : Int), Loads P 60 ((⟨r_1, 0, none⟩ : Addr).add 1) (.agg #[(.bool t130), (.slice t131_p t131_n t131_c), (.int .i64 t132)]) wv_1 ∧ Calls P 30 ⟨[(.agg #[(.bool t110), (.slice t111_p t111_n t111_c), (.int .i64 t112)]), (.agg #[(.bool t130), (.slice t131_p t131_n t131_c), (.int .i64 t132)])]⟩ wv_1 fun e wv_2 =>
    ∃ (t14 : Bool), e = .returned (.bool t14) ∧
    ((!t14) = true →
      R (.bool false) wv_2) ∧
    ((!t14) = false →
      R (.bool true) wv_2))
theorem laws_eqStep_eq (a0 : Int) (a1 : Bool) (a2_p : Option Addr) (a2_n : Nat) (a2_c : Nat) (a3 : Int) (b0 : Int) (b1 : Bool) (b2_p : Option Addr) (b2_n : Nat) (b2_c : Nat) (b3 : Int) (w : World) (R : Value → World → Prop) : laws_eqStep a0 a1 a2_p a2_n a2_c a3 b0 b1 b2_p b2_n b2_c b3 w R = fsem P Try.f71 (fun k => []) [(.agg #[(.int .i64 a0), (.bool a1), (.slice a2_p a2_n a2_c), (.int .i64 a3)]), (.agg #[(.int .i64 b0), (.bool b1), (.slice b2_p b2_n b2_c), (.int .i64 b3)])] R w := by kernel_rfl
theorem laws_eqStep_ret {a0 : Int} {a1 : Bool} {a2_p : Option Addr} {a2_n : Nat} {a2_c : Nat} {a3 : Int} {b0 : Int} {b1 : Bool} {b2_p : Option Addr} {b2_n : Nat} {b2_c : Nat} {b3 : Int} {w : World} {R : Value → World → Prop} (h : laws_eqStep a0 a1 a2_p a2_n a2_c a3 b0 b1 b2_p b2_n b2_c b3 w R) : Ret P 71 [(.agg #[(.int .i64 a0), (.bool a1), (.slice a2_p a2_n a2_c), (.int .i64 a3)]), (.agg #[(.int .i64 b0), (.bool b1), (.slice b2_p b2_n b2_c), (.int .i64 b3)])] w R :=
  Ret.of_fsem Try.func71 rfl (Eq.mp (laws_eqStep_eq a0 a1 a2_p a2_n a2_c a3 b0 b1 b2_p b2_n b2_c b3 w R) h)

def laws_szIntS (a_p : Option Addr) (a_n : Nat) (a_c : Nat) (left : Int) (w : World) (R : Value → World → Prop) : Prop :=
  ∃ t8 : Int, t8 = IntKind.wrap .i64 (left - ((a_n : Nat) : Int)) ∧ ((decide ((t8 : Int) < 0)) = true →
    R (.int .i64 (-1)) w) ∧
  ((decide ((t8 : Int) < 0)) = false →
    R (.int .i64 t8) w)
theorem laws_szIntS_eq (a_p : Option Addr) (a_n : Nat) (a_c : Nat) (left : Int) (w : World) (R : Value → World → Prop) : laws_szIntS a_p a_n a_c left w R = fsem P Try.f72 (fun k => []) [(.slice a_p a_n a_c), (.int .i64 left)] R w := by kernel_rfl
theorem laws_szIntS_ret {a_p : Option Addr} {a_n : Nat} {a_c : Nat} {left : Int} {w : World} {R : Value → World → Prop} (h : laws_szIntS a_p a_n a_c left w R) : Ret P 72 [(.slice a_p a_n a_c), (.int .i64 left)] w R :=
  Ret.of_fsem Try.func72 rfl (Eq.mp (laws_szIntS_eq a_p a_n a_c left w R) h)

def laws_toIntS (a_p : Option Addr) (a_n : Nat) (a_c : Nat) (w : World) (R : Value → World → Prop) : Prop :=
  (0 ≤ (((a_n : Nat) : Int) : Int) ∧ (((a_n : Nat) : Int) : Int) ≤ ((a_n : Nat) : Int) ∧ ((8 : Nat) : Int) * ((a_n : Nat) : Int) ≤ 281474976710656) ∧
  ∀ (r : Nat) (wv : World), New w (.cells ⟨zeroRow (.int .i64 0) (a_n * 1)⟩ 3 (0, 0)) r wv →
  ∃ (Inv : Int → World → Prop) (mu : Int → World → Nat), Inv 0 wv ∧
  ∀ (junk : Fr) (wv_1 : World) (i : Int), Inv i wv_1 →
    ((decide ((i : Int) < ((a_n : Nat) : Int))) = true →
      (0 ≤ (i : Int) ∧ (i : Int) < (a_n : Nat)) ∧ ptrS a_p fun ad => ∃ (t19 : Int), Loads P 3 (ad.add (i.toNat * 1)) (.int .i64 t19) wv_1 ∧ (0 ≤ (i : Int) ∧ (i : Int) < (a_n : Nat)) ∧ ∃ wv_2, Stores P 3 ((⟨r, 0, none⟩ : Addr).add (i.toNat * 1)) (.int .i64 t19) wv_1 wv_2 ∧
      ∃ t13 : Int, t13 = IntKind.wrap .i64 (i + 1) ∧ Inv t13 wv_2 ∧ mu t13 wv_2 < mu i wv_1) ∧
    ((decide ((i : Int) < ((a_n : Nat) : Int))) = false →
      R (.slice (some ⟨r, 0, none⟩) a_n a_n) wv_1)
theorem laws_toIntS_eq (a_p : Option Addr) (a_n : Nat) (a_c : Nat) (w : World) (R : Value → World → Prop) : laws_toIntS a_p a_n a_c w R = fsem P Try.f76 (fun k => cond (Nat.beq k 4) [(4, .one (.int .i64))] ([])) [(.slice a_p a_n a_c)] R w := by kernel_rfl
theorem laws_toIntS_ret {a_p : Option Addr} {a_n : Nat} {a_c : Nat} {w : World} {R : Value → World → Prop} (h : laws_toIntS a_p a_n a_c w R) : Ret P 76 [(.slice a_p a_n a_c)] w R :=
  Ret.of_fsem Try.func76 rfl (Eq.mp (laws_toIntS_eq a_p a_n a_c w R) h)

def laws_szRat (a0 : Bool) (a1_p : Option Addr) (a1_n : Nat) (a1_c : Nat) (a2_p : Option Addr) (a2_n : Nat) (a2_c : Nat) (left : Int) (w : World) (R : Value → World → Prop) : Prop :=
  ∀ (r : Nat) (wv : World), New w (.cells ⟨[(.bool a0), (.slice a1_p a1_n a1_c), (.slice a2_p a2_n a2_c)]⟩ 78 (0, 0)) r wv →
  ∃ (t60 : Bool) (t61_p : Option Addr) (t61_n : Nat) (t61_c : Nat), Loads P 54 ((⟨r, 0, none⟩ : Addr).add 0) (.agg #[(.bool t60), (.slice t61_p t61_n t61_c)]) wv ∧ Calls P 36 ⟨[(.agg #[(.bool t60), (.slice t61_p t61_n t61_c)]), (.int .i64 left)]⟩ wv fun e wv_1 =>
  ∃ (t8 : Int), e = .returned (.int .i64 t8) ∧
  ((decide ((t8 : Int) < 0)) = true →
    R (.int .i64 (-1)) wv_1) ∧
  ((decide ((t8 : Int) < 0)) = false →
    ∃ (t12_p : Option Addr) (t12_n : Nat) (t12_c : Nat), Loads P 24 ((⟨r, 0, none⟩ : Addr).add 2) (.slice t12_p t12_n t12_c) wv_1 ∧ Calls P 72 ⟨[(.slice t12_p t12_n t12_c), (.int .i64 t8)]⟩ wv_1 fun e_1 wv_2 =>
    ∃ (t14 : Int), e_1 = .returned (.int .i64 t14) ∧
    ((decide ((t14 : Int) < 0)) = true →
      R (.int .i64 (-1)) wv_2) ∧
    ((decide ((t14 : Int) < 0)) = false →
      R (.int .i64 t14) wv_2))
theorem laws_szRat_eq (a0 : Bool) (a1_p : Option Addr) (a1_n : Nat) (a1_c : Nat) (a2_p : Option Addr) (a2_n : Nat) (a2_c : Nat) (left : Int) (w : World) (R : Value → World → Prop) : laws_szRat a0 a1_p a1_n a1_c a2_p a2_n a2_c left w R = fsem P Try.f79 (fun k => []) [(.agg #[(.bool a0), (.slice a1_p a1_n a1_c), (.slice a2_p a2_n a2_c)]), (.int .i64 left)] R w := by kernel_rfl
theorem laws_szRat_ret {a0 : Bool} {a1_p : Option Addr} {a1_n : Nat} {a1_c : Nat} {a2_p : Option Addr} {a2_n : Nat} {a2_c : Nat} {left : Int} {w : World} {R : Value → World → Prop} (h : laws_szRat a0 a1_p a1_n a1_c a2_p a2_n a2_c left w R) : Ret P 79 [(.agg #[(.bool a0), (.slice a1_p a1_n a1_c), (.slice a2_p a2_n a2_c)]), (.int .i64 left)] w R :=
  Ret.of_fsem Try.func79 rfl (Eq.mp (laws_szRat_eq a0 a1_p a1_n a1_c a2_p a2_n a2_c left w R) h)

def laws_toRat (a0 : Bool) (a1_p : Option Addr) (a1_n : Nat) (a1_c : Nat) (a2_p : Option Addr) (a2_n : Nat) (a2_c : Nat) (w : World) (R : Value → World → Prop) : Prop :=
  ∀ (r : Nat) (wv : World), New w (.cells ⟨[(.bool a0), (.slice a1_p a1_n a1_c), (.slice a2_p a2_n a2_c)]⟩ 78 (0, 0)) r wv →
  ∀ (r_1 : Nat) (wv_1 : World), New wv (.cells ⟨[(.bool false), (.slice none 0 0), (.slice none 0 0)]⟩ 28 (0, 0)) r_1 wv_1 →
  ∀ (r_2 : Nat) (wv_2 : World), New wv_1 (.cells ⟨[(.bool false), (.slice none 0 0), (.slice none 0 0)]⟩ 28 (0, 0)) r_2 wv_2 →
  ∃ (t50 : Bool) (t51_p : Option Addr) (t51_n : Nat) (t51_c : Nat), Loads P 54 ((⟨r, 0, none⟩ : Addr).add 0) (.agg #[(.bool t50), (.slice t51_p t51_n t51_c)]) wv_2 ∧ Calls P 38 ⟨[(.agg #[(.bool t50), (.slice t51_p t51_n t51_c)])]⟩ wv_2 fun e wv_3 =>
  ∃ (t60 : Bool) (t61_p : Option Addr) (t61_n : Nat) (t61_c : Nat), e = .returned (.agg #[(.bool t60), (.slice t61_p t61_n t61_c)]) ∧
  ∃ wv_4, Stores P 26 ((⟨r_2, 0, none⟩ : Addr).add 0) (.agg #[(.bool t60), (.slice t61_p t61_n t61_c)]) wv_3 wv_4 ∧
  ∃ (t9_p : Option Addr) (t9_n : Nat) (t9_c : Nat), Loads P 24 ((⟨r, 0, none⟩ : Addr).add 2) (.slice t9_p t9_n t9_c) wv_4 ∧ Calls P 76 ⟨[(.slice t9_p t9_n t9_c)]⟩ wv_4 fun e_1 wv_5 =>
  ∃ (t10_p : Option Addr) (t10_n : Nat) (t10_c : Nat), e_1 = .returned (.slice t10_p t10_n t10_c) ∧
  ∃ wv_6, Stores P 24 ((⟨r_2, 0, none⟩ : Addr).add 2) (.slice t10_p t10_n t10_c) wv_5 wv_6 ∧
  ∃ (t120 : Bool) (t121_p : Option Addr) (t121_n : Nat) (t121_c : Nat) (t122_p : Option Addr) (t122_n : Nat) (t122_c : Nat), Loads P 28 ⟨r_2, 0, none⟩ (.agg #[(.bool t120), (.slice t121_p t121_n t121_c), (.slice t122_p t122_n t122_c)]) wv_6 ∧ ∃ wv_7, Stores P 28 ⟨r_1, 0, none⟩ (.agg #[(.bool t120), (.slice t121_p t121_n t121_c), (.slice t122_p t122_n t122_c)]) wv_6 wv_7 ∧
  ∃ (r0 : Bool) (r1_p : Option Addr) (r1_n : Nat) (r1_c : Nat) (r2_p : Option Addr) (r2_n : Nat) (r2_c : Nat), Loads P 28 ⟨r_1, 0, none⟩ (.agg #[(.bool r0), (.slice r1_p r1_n r1_c), (.slice r2_p r2_n r2_c)]) wv_7 ∧ R (.agg #[(.bool r0), (.slice r1_p r1_n r1_c), (.slice r2_p r2_n r2_c)]) wv_7
theorem laws_toRat_eq (a0 : Bool) (a1_p : Option Addr) (a1_n : Nat) (a1_c : Nat) (a2_p : Option Addr) (a2_n : Nat) (a2_c : Nat) (w : World) (R : Value → World → Prop) : laws_toRat a0 a1_p a1_n a1_c a2_p a2_n a2_c w R = fsem P Try.f80 (fun k => []) [(.agg #[(.bool a0), (.slice a1_p a1_n a1_c), (.slice a2_p a2_n a2_c)])] R w := by kernel_rfl
theorem laws_toRat_ret {a0 : Bool} {a1_p : Option Addr} {a1_n : Nat} {a1_c : Nat} {a2_p : Option Addr} {a2_n : Nat} {a2_c : Nat} {w : World} {R : Value → World → Prop} (h : laws_toRat a0 a1_p a1_n a1_c a2_p a2_n a2_c w R) : Ret P 80 [(.agg #[(.bool a0), (.slice a1_p a1_n a1_c), (.slice a2_p a2_n a2_c)])] w R :=
  Ret.of_fsem Try.func80 rfl (Eq.mp (laws_toRat_eq a0 a1_p a1_n a1_c a2_p a2_n a2_c w R) h)

def laws_szAcct (a0 : ByteArray) (a1 : ByteArray) (a2 : Bool) (a3_p : Option Addr) (a3_n : Nat) (a3_c : Nat) (left : Int) (w : World) (R : Value → World → Prop) : Prop :=
  ∀ (r : Nat) (wv : World), New w (.cells ⟨[(.string a0), (.string a1), (.bool a2), (.slice a3_p a3_n a3_c)]⟩ 123 (0, 0)) r wv →
  ∃ (t7 : ByteArray), Loads P 9 ((⟨r, 0, none⟩ : Addr).add 0) (.string t7) wv ∧ ∃ t9 : Int, t9 = IntKind.wrap .i64 (left - ((t7.size : Nat) : Int)) ∧ ((decide ((t9 : Int) < 0)) = true →
    R (.int .i64 (-1)) wv) ∧
  ((decide ((t9 : Int) < 0)) = false →
    ∃ (t130 : ByteArray) (t131 : Bool) (t132_p : Option Addr) (t132_n : Nat) (t132_c : Nat), Loads P 121 ((⟨r, 0, none⟩ : Addr).add 1) (.agg #[(.string t130), (.bool t131), (.slice t132_p t132_n t132_c)]) wv ∧ Calls P 101 ⟨[(.agg #[(.string t130), (.bool t131), (.slice t132_p t132_n t132_c)]), (.int .i64 t9)]⟩ wv fun e wv_1 =>
    ∃ (t15 : Int), e = .returned (.int .i64 t15) ∧
    ((decide ((t15 : Int) < 0)) = true →
      R (.int .i64 (-1)) wv_1) ∧
    ((decide ((t15 : Int) < 0)) = false →
      R (.int .i64 t15) wv_1))
theorem laws_szAcct_eq (a0 : ByteArray) (a1 : ByteArray) (a2 : Bool) (a3_p : Option Addr) (a3_n : Nat) (a3_c : Nat) (left : Int) (w : World) (R : Value → World → Prop) : laws_szAcct a0 a1 a2 a3_p a3_n a3_c left w R = fsem P Try.f83 (fun k => []) [(.agg #[(.string a0), (.string a1), (.bool a2), (.slice a3_p a3_n a3_c)]), (.int .i64 left)] R w := by kernel_rfl
theorem laws_szAcct_ret {a0 : ByteArray} {a1 : ByteArray} {a2 : Bool} {a3_p : Option Addr} {a3_n : Nat} {a3_c : Nat} {left : Int} {w : World} {R : Value → World → Prop} (h : laws_szAcct a0 a1 a2 a3_p a3_n a3_c left w R) : Ret P 83 [(.agg #[(.string a0), (.string a1), (.bool a2), (.slice a3_p a3_n a3_c)]), (.int .i64 left)] w R :=
  Ret.of_fsem Try.func83 rfl (Eq.mp (laws_szAcct_eq a0 a1 a2 a3_p a3_n a3_c left w R) h)

def laws_toAcct (a0 : ByteArray) (a1 : ByteArray) (a2 : Bool) (a3_p : Option Addr) (a3_n : Nat) (a3_c : Nat) (w : World) (R : Value → World → Prop) : Prop :=
  ∀ (r : Nat) (wv : World), New w (.cells ⟨[(.string a0), (.string a1), (.bool a2), (.slice a3_p a3_n a3_c)]⟩ 123 (0, 0)) r wv →
  ∀ (r_1 : Nat) (wv_1 : World), New wv (.cells ⟨[(.string ByteArray.empty), (.string ByteArray.empty), (.bool false), (.slice none 0 0)]⟩ 95 (0, 0)) r_1 wv_1 →
  ∀ (r_2 : Nat) (wv_2 : World), New wv_1 (.cells ⟨[(.string ByteArray.empty), (.string ByteArray.empty), (.bool false), (.slice none 0 0)]⟩ 95 (0, 0)) r_2 wv_2 →
  ∃ (t5 : ByteArray), Loads P 9 ((⟨r, 0, none⟩ : Addr).add 0) (.string t5) wv_2 ∧ ∃ wv_3, Stores P 9 ((⟨r_2, 0, none⟩ : Addr).add 0) (.string t5) wv_2 wv_3 ∧
  ∃ (t80 : ByteArray) (t81 : Bool) (t82_p : Option Addr) (t82_n : Nat) (t82_c : Nat), Loads P 121 ((⟨r, 0, none⟩ : Addr).add 1) (.agg #[(.string t80), (.bool t81), (.slice t82_p t82_n t82_c)]) wv_3 ∧ Calls P 102 ⟨[(.agg #[(.string t80), (.bool t81), (.slice t82_p t82_n t82_c)])]⟩ wv_3 fun e wv_4 =>
  ∃ (t90 : ByteArray) (t91 : Bool) (t92_p : Option Addr) (t92_n : Nat) (t92_c : Nat), e = .returned (.agg #[(.string t90), (.bool t91), (.slice t92_p t92_n t92_c)]) ∧
  ∃ wv_5, Stores P 42 ((⟨r_2, 0, none⟩ : Addr).add 1) (.agg #[(.string t90), (.bool t91), (.slice t92_p t92_n t92_c)]) wv_4 wv_5 ∧
  ∃ (t110 : ByteArray) (t111 : ByteArray) (t112 : Bool) (t113_p : Option Addr) (t113_n : Nat) (t113_c : Nat), Loads P 95 ⟨r_2, 0, none⟩ (.agg #[(.string t110), (.string t111), (.bool t112), (.slice t113_p t113_n t113_c)]) wv_5 ∧ ∃ wv_6, Stores P 95 ⟨r_1, 0, none⟩ (.agg #[(.string t110), (.string t111), (.bool t112), (.slice t113_p t113_n t113_c)]) wv_5 wv_6 ∧
  ∃ (r0 : ByteArray) (r1 : ByteArray) (r2 : Bool) (r3_p : Option Addr) (r3_n : Nat) (r3_c : Nat), Loads P 95 ⟨r_1, 0, none⟩ (.agg #[(.string r0), (.string r1), (.bool r2), (.slice r3_p r3_n r3_c)]) wv_6 ∧ R (.agg #[(.string r0), (.string r1), (.bool r2), (.slice r3_p r3_n r3_c)]) wv_6
theorem laws_toAcct_eq (a0 : ByteArray) (a1 : ByteArray) (a2 : Bool) (a3_p : Option Addr) (a3_n : Nat) (a3_c : Nat) (w : World) (R : Value → World → Prop) : laws_toAcct a0 a1 a2 a3_p a3_n a3_c w R = fsem P Try.f84 (fun k => []) [(.agg #[(.string a0), (.string a1), (.bool a2), (.slice a3_p a3_n a3_c)])] R w := by kernel_rfl
theorem laws_toAcct_ret {a0 : ByteArray} {a1 : ByteArray} {a2 : Bool} {a3_p : Option Addr} {a3_n : Nat} {a3_c : Nat} {w : World} {R : Value → World → Prop} (h : laws_toAcct a0 a1 a2 a3_p a3_n a3_c w R) : Ret P 84 [(.agg #[(.string a0), (.string a1), (.bool a2), (.slice a3_p a3_n a3_c)])] w R :=
  Ret.of_fsem Try.func84 rfl (Eq.mp (laws_toAcct_eq a0 a1 a2 a3_p a3_n a3_c w R) h)

def laws_eqAcct (a0 : ByteArray) (a1 : ByteArray) (a2 : Bool) (a3_p : Option Addr) (a3_n : Nat) (a3_c : Nat) (b0 : ByteArray) (b1 : ByteArray) (b2 : Bool) (b3_p : Option Addr) (b3_n : Nat) (b3_c : Nat) (w : World) (R : Value → World → Prop) : Prop :=
  ∀ (r : Nat) (wv : World), New w (.cells ⟨[(.string a0), (.string a1), (.bool a2), (.slice a3_p a3_n a3_c)]⟩ 95 (0, 0)) r wv →
  ∀ (r_1 : Nat) (wv_1 : World), New wv (.cells ⟨[(.string b0), (.string b1), (.bool b2), (.slice b3_p b3_n b3_c)]⟩ 95 (0, 0)) r_1 wv_1 →
  ∃ (t6 : ByteArray), Loads P 9 ((⟨r, 0, none⟩ : Addr).add 0) (.string t6) wv_1 ∧ ∃ (t8 : ByteArray), Loads P 9 ((⟨r_1, 0, none⟩ : Addr).add 0) (.string t8) wv_1 ∧ ((decide (t6 ≠ t8)) = true →
    R (.bool false) wv_1) ∧
  ((decide (t6 ≠ t8)) = false →
    ∃ (t110 : ByteArray) (t111 : Bool) (t112_p : Option Addr) (t112_n : Nat) (t112_c : Nat), Loads P 42 ((⟨r, 0, none⟩ : Addr).add 1) (.agg #[(.string t110), (.bool t111), (.slice t112_p t112_n t112_c)]) wv_1 ∧ ∃ (t130 : ByteArray) (t131 : Bool) (t132_p : Option Addr) (t132_n : Nat) (t132_c : Nat), Loads P 42 ((⟨r_1, 0, none⟩ : Addr).add 1) (.agg #[(.string t130), (.bool t131), (.slice t132_p t132_n t132_c)]) wv_1 ∧ Calls P 21 ⟨[(.agg #[(.string t110), (.bool t111), (.slice t112_p t112_n t112_c)]), (.agg #[(.string t130), (.bool t131), (.slice t132_p t132_n t132_c)])]⟩ wv_1 fun e wv_2 =>
    ∃ (t14 : Bool), e = .returned (.bool t14) ∧
    ((!t14) = true →
      R (.bool false) wv_2) ∧
    ((!t14) = false →
      R (.bool true) wv_2))
theorem laws_eqAcct_eq (a0 : ByteArray) (a1 : ByteArray) (a2 : Bool) (a3_p : Option Addr) (a3_n : Nat) (a3_c : Nat) (b0 : ByteArray) (b1 : ByteArray) (b2 : Bool) (b3_p : Option Addr) (b3_n : Nat) (b3_c : Nat) (w : World) (R : Value → World → Prop) : laws_eqAcct a0 a1 a2 a3_p a3_n a3_c b0 b1 b2 b3_p b3_n b3_c w R = fsem P Try.f87 (fun k => []) [(.agg #[(.string a0), (.string a1), (.bool a2), (.slice a3_p a3_n a3_c)]), (.agg #[(.string b0), (.string b1), (.bool b2), (.slice b3_p b3_n b3_c)])] R w := by kernel_rfl
theorem laws_eqAcct_ret {a0 : ByteArray} {a1 : ByteArray} {a2 : Bool} {a3_p : Option Addr} {a3_n : Nat} {a3_c : Nat} {b0 : ByteArray} {b1 : ByteArray} {b2 : Bool} {b3_p : Option Addr} {b3_n : Nat} {b3_c : Nat} {w : World} {R : Value → World → Prop} (h : laws_eqAcct a0 a1 a2 a3_p a3_n a3_c b0 b1 b2 b3_p b3_n b3_c w R) : Ret P 87 [(.agg #[(.string a0), (.string a1), (.bool a2), (.slice a3_p a3_n a3_c)]), (.agg #[(.string b0), (.string b1), (.bool b2), (.slice b3_p b3_n b3_c)])] w R :=
  Ret.of_fsem Try.func87 rfl (Eq.mp (laws_eqAcct_eq a0 a1 a2 a3_p a3_n a3_c b0 b1 b2 b3_p b3_n b3_c w R) h)

def laws_szMoney (a0 : ByteArray) (a1 : Bool) (a2_p : Option Addr) (a2_n : Nat) (a2_c : Nat) (left : Int) (w : World) (R : Value → World → Prop) : Prop :=
  ∀ (r : Nat) (wv : World), New w (.cells ⟨[(.string a0), (.bool a1), (.slice a2_p a2_n a2_c)]⟩ 121 (0, 0)) r wv →
  ∃ (t7 : ByteArray), Loads P 9 ((⟨r, 0, none⟩ : Addr).add 0) (.string t7) wv ∧ ∃ t9 : Int, t9 = IntKind.wrap .i64 (left - ((t7.size : Nat) : Int)) ∧ ((decide ((t9 : Int) < 0)) = true →
    R (.int .i64 (-1)) wv) ∧
  ((decide ((t9 : Int) < 0)) = false →
    ∃ (t130 : Bool) (t131_p : Option Addr) (t131_n : Nat) (t131_c : Nat), Loads P 54 ((⟨r, 0, none⟩ : Addr).add 1) (.agg #[(.bool t130), (.slice t131_p t131_n t131_c)]) wv ∧ Calls P 36 ⟨[(.agg #[(.bool t130), (.slice t131_p t131_n t131_c)]), (.int .i64 t9)]⟩ wv fun e wv_1 =>
    ∃ (t15 : Int), e = .returned (.int .i64 t15) ∧
    ((decide ((t15 : Int) < 0)) = true →
      R (.int .i64 (-1)) wv_1) ∧
    ((decide ((t15 : Int) < 0)) = false →
      R (.int .i64 t15) wv_1))
theorem laws_szMoney_eq (a0 : ByteArray) (a1 : Bool) (a2_p : Option Addr) (a2_n : Nat) (a2_c : Nat) (left : Int) (w : World) (R : Value → World → Prop) : laws_szMoney a0 a1 a2_p a2_n a2_c left w R = fsem P Try.f101 (fun k => []) [(.agg #[(.string a0), (.bool a1), (.slice a2_p a2_n a2_c)]), (.int .i64 left)] R w := by kernel_rfl
theorem laws_szMoney_ret {a0 : ByteArray} {a1 : Bool} {a2_p : Option Addr} {a2_n : Nat} {a2_c : Nat} {left : Int} {w : World} {R : Value → World → Prop} (h : laws_szMoney a0 a1 a2_p a2_n a2_c left w R) : Ret P 101 [(.agg #[(.string a0), (.bool a1), (.slice a2_p a2_n a2_c)]), (.int .i64 left)] w R :=
  Ret.of_fsem Try.func101 rfl (Eq.mp (laws_szMoney_eq a0 a1 a2_p a2_n a2_c left w R) h)

def laws_toMoney (a0 : ByteArray) (a1 : Bool) (a2_p : Option Addr) (a2_n : Nat) (a2_c : Nat) (w : World) (R : Value → World → Prop) : Prop :=
  ∀ (r : Nat) (wv : World), New w (.cells ⟨[(.string a0), (.bool a1), (.slice a2_p a2_n a2_c)]⟩ 121 (0, 0)) r wv →
  ∀ (r_1 : Nat) (wv_1 : World), New wv (.cells ⟨[(.string ByteArray.empty), (.bool false), (.slice none 0 0)]⟩ 42 (0, 0)) r_1 wv_1 →
  ∀ (r_2 : Nat) (wv_2 : World), New wv_1 (.cells ⟨[(.string ByteArray.empty), (.bool false), (.slice none 0 0)]⟩ 42 (0, 0)) r_2 wv_2 →
  ∃ (t5 : ByteArray), Loads P 9 ((⟨r, 0, none⟩ : Addr).add 0) (.string t5) wv_2 ∧ ∃ wv_3, Stores P 9 ((⟨r_2, 0, none⟩ : Addr).add 0) (.string t5) wv_2 wv_3 ∧
  ∃ (t80 : Bool) (t81_p : Option Addr) (t81_n : Nat) (t81_c : Nat), Loads P 54 ((⟨r, 0, none⟩ : Addr).add 1) (.agg #[(.bool t80), (.slice t81_p t81_n t81_c)]) wv_3 ∧ Calls P 38 ⟨[(.agg #[(.bool t80), (.slice t81_p t81_n t81_c)])]⟩ wv_3 fun e wv_4 =>
  ∃ (t90 : Bool) (t91_p : Option Addr) (t91_n : Nat) (t91_c : Nat), e = .returned (.agg #[(.bool t90), (.slice t91_p t91_n t91_c)]) ∧
  ∃ wv_5, Stores P 26 ((⟨r_2, 0, none⟩ : Addr).add 1) (.agg #[(.bool t90), (.slice t91_p t91_n t91_c)]) wv_4 wv_5 ∧
  ∃ (t110 : ByteArray) (t111 : Bool) (t112_p : Option Addr) (t112_n : Nat) (t112_c : Nat), Loads P 42 ⟨r_2, 0, none⟩ (.agg #[(.string t110), (.bool t111), (.slice t112_p t112_n t112_c)]) wv_5 ∧ ∃ wv_6, Stores P 42 ⟨r_1, 0, none⟩ (.agg #[(.string t110), (.bool t111), (.slice t112_p t112_n t112_c)]) wv_5 wv_6 ∧
  ∃ (r0 : ByteArray) (r1 : Bool) (r2_p : Option Addr) (r2_n : Nat) (r2_c : Nat), Loads P 42 ⟨r_1, 0, none⟩ (.agg #[(.string r0), (.bool r1), (.slice r2_p r2_n r2_c)]) wv_6 ∧ R (.agg #[(.string r0), (.bool r1), (.slice r2_p r2_n r2_c)]) wv_6
theorem laws_toMoney_eq (a0 : ByteArray) (a1 : Bool) (a2_p : Option Addr) (a2_n : Nat) (a2_c : Nat) (w : World) (R : Value → World → Prop) : laws_toMoney a0 a1 a2_p a2_n a2_c w R = fsem P Try.f102 (fun k => []) [(.agg #[(.string a0), (.bool a1), (.slice a2_p a2_n a2_c)])] R w := by kernel_rfl
theorem laws_toMoney_ret {a0 : ByteArray} {a1 : Bool} {a2_p : Option Addr} {a2_n : Nat} {a2_c : Nat} {w : World} {R : Value → World → Prop} (h : laws_toMoney a0 a1 a2_p a2_n a2_c w R) : Ret P 102 [(.agg #[(.string a0), (.bool a1), (.slice a2_p a2_n a2_c)])] w R :=
  Ret.of_fsem Try.func102 rfl (Eq.mp (laws_toMoney_eq a0 a1 a2_p a2_n a2_c w R) h)

end Go.Proofs.Ytfbmjimhjlmhkaa
