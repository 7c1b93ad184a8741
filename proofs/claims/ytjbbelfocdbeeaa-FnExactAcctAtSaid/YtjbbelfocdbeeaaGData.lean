/-
  The frame-free forms of some Go functions, printed by a program of mine; each with the theorem that it is sound.
-/
import Derived.Test.YtjbbelfocdbeeaaP
namespace Go.Proofs.Ytjbbelfocdbeeaa
open Go Go.Proofs.Ytjbbelfocdbeeaa.Sx
set_option linter.unusedVariables false
set_option maxRecDepth 100000

def laws_szBook (a0_p : Option Addr) (a0_n : Nat) (a0_c : Nat) (left : Int) (w : World) (R : Value → World → Prop) : Prop :=
  ∀ (r : Nat) (wv : World), New w (.cells ⟨[(.slice a0_p a0_n a0_c)]⟩ 26 (0, 0)) r wv →
  ∃ (t6_p : Option Addr) (t6_n : Nat) (t6_c : Nat), Loads P 24 ((⟨r, 0, none⟩ : Addr).add 0) (.slice t6_p t6_n t6_c) wv ∧ Calls P 14 ⟨[(.slice t6_p t6_n t6_c), (.int .i64 left)]⟩ wv fun e wv_1 =>
  ∃ (t8 : Int), e = .returned (.int .i64 t8) ∧
  ((decide ((t8 : Int) < 0)) = true →
    R (.int .i64 (-1)) wv_1) ∧
  ((decide ((t8 : Int) < 0)) = false →
    R (.int .i64 t8) wv_1)
theorem laws_szBook_eq (a0_p : Option Addr) (a0_n : Nat) (a0_c : Nat) (left : Int) (w : World) (R : Value → World → Prop) : laws_szBook a0_p a0_n a0_c left w R = fsem P Try.f7 (fun k => []) [(.agg #[(.slice a0_p a0_n a0_c)]), (.int .i64 left)] R w := by kernel_rfl
theorem laws_szBook_ret {a0_p : Option Addr} {a0_n : Nat} {a0_c : Nat} {left : Int} {w : World} {R : Value → World → Prop} (h : laws_szBook a0_p a0_n a0_c left w R) : Ret P 7 [(.agg #[(.slice a0_p a0_n a0_c)]), (.int .i64 left)] w R :=
  Ret.of_fsem Try.func7 rfl (Eq.mp (laws_szBook_eq a0_p a0_n a0_c left w R) h)

def laws_toBook (a0_p : Option Addr) (a0_n : Nat) (a0_c : Nat) (w : World) (R : Value → World → Prop) : Prop :=
  ∀ (r : Nat) (wv : World), New w (.cells ⟨[(.slice a0_p a0_n a0_c)]⟩ 26 (0, 0)) r wv →
  ∀ (r_1 : Nat) (wv_1 : World), New wv (.cells ⟨[(.slice none 0 0)]⟩ 31 (0, 0)) r_1 wv_1 →
  ∀ (r_2 : Nat) (wv_2 : World), New wv_1 (.cells ⟨[(.slice none 0 0)]⟩ 31 (0, 0)) r_2 wv_2 →
  ∃ (t5_p : Option Addr) (t5_n : Nat) (t5_c : Nat), Loads P 24 ((⟨r, 0, none⟩ : Addr).add 0) (.slice t5_p t5_n t5_c) wv_2 ∧ Calls P 15 ⟨[(.slice t5_p t5_n t5_c)]⟩ wv_2 fun e wv_3 =>
  ∃ (t6_p : Option Addr) (t6_n : Nat) (t6_c : Nat), e = .returned (.slice t6_p t6_n t6_c) ∧
  ∃ wv_4, Stores P 29 ((⟨r_2, 0, none⟩ : Addr).add 0) (.slice t6_p t6_n t6_c) wv_3 wv_4 ∧
  ∃ (t80_p : Option Addr) (t80_n : Nat) (t80_c : Nat), Loads P 31 ⟨r_2, 0, none⟩ (.agg #[(.slice t80_p t80_n t80_c)]) wv_4 ∧ ∃ wv_5, Stores P 31 ⟨r_1, 0, none⟩ (.agg #[(.slice t80_p t80_n t80_c)]) wv_4 wv_5 ∧
  ∃ (r0_p : Option Addr) (r0_n : Nat) (r0_c : Nat), Loads P 31 ⟨r_1, 0, none⟩ (.agg #[(.slice r0_p r0_n r0_c)]) wv_5 ∧ R (.agg #[(.slice r0_p r0_n r0_c)]) wv_5
theorem laws_toBook_eq (a0_p : Option Addr) (a0_n : Nat) (a0_c : Nat) (w : World) (R : Value → World → Prop) : laws_toBook a0_p a0_n a0_c w R = fsem P Try.f9 (fun k => []) [(.agg #[(.slice a0_p a0_n a0_c)])] R w := by kernel_rfl
theorem laws_toBook_ret {a0_p : Option Addr} {a0_n : Nat} {a0_c : Nat} {w : World} {R : Value → World → Prop} (h : laws_toBook a0_p a0_n a0_c w R) : Ret P 9 [(.agg #[(.slice a0_p a0_n a0_c)])] w R :=
  Ret.of_fsem Try.func9 rfl (Eq.mp (laws_toBook_eq a0_p a0_n a0_c w R) h)

def laws_eqBook (a0_p : Option Addr) (a0_n : Nat) (a0_c : Nat) (b0_p : Option Addr) (b0_n : Nat) (b0_c : Nat) (w : World) (R : Value → World → Prop) : Prop :=
  ∀ (r : Nat) (wv : World), New w (.cells ⟨[(.slice a0_p a0_n a0_c)]⟩ 31 (0, 0)) r wv →
  ∀ (r_1 : Nat) (wv_1 : World), New wv (.cells ⟨[(.slice b0_p b0_n b0_c)]⟩ 31 (0, 0)) r_1 wv_1 →
  ∃ (t6_p : Option Addr) (t6_n : Nat) (t6_c : Nat), Loads P 29 ((⟨r, 0, none⟩ : Addr).add 0) (.slice t6_p t6_n t6_c) wv_1 ∧ ∃ (t8_p : Option Addr) (t8_n : Nat) (t8_c : Nat), Loads P 29 ((⟨r_1, 0, none⟩ : Addr).add 0) (.slice t8_p t8_n t8_c) wv_1 ∧ Calls P 18 ⟨[(.slice t6_p t6_n t6_c), (.slice t8_p t8_n t8_c)]⟩ wv_1 fun e wv_2 =>
  ∃ (t9 : Bool), e = .returned (.bool t9) ∧
  ((!t9) = true →
    R (.bool false) wv_2) ∧
  ((!t9) = false →
    R (.bool true) wv_2)
theorem laws_eqBook_eq (a0_p : Option Addr) (a0_n : Nat) (a0_c : Nat) (b0_p : Option Addr) (b0_n : Nat) (b0_c : Nat) (w : World) (R : Value → World → Prop) : laws_eqBook a0_p a0_n a0_c b0_p b0_n b0_c w R = fsem P Try.f11 (fun k => []) [(.agg #[(.slice a0_p a0_n a0_c)]), (.agg #[(.slice b0_p b0_n b0_c)])] R w := by kernel_rfl
theorem laws_eqBook_ret {a0_p : Option Addr} {a0_n : Nat} {a0_c : Nat} {b0_p : Option Addr} {b0_n : Nat} {b0_c : Nat} {w : World} {R : Value → World → Prop} (h : laws_eqBook a0_p a0_n a0_c b0_p b0_n b0_c w R) : Ret P 11 [(.agg #[(.slice a0_p a0_n a0_c)]), (.agg #[(.slice b0_p b0_n b0_c)])] w R :=
  Ret.of_fsem Try.func11 rfl (Eq.mp (laws_eqBook_eq a0_p a0_n a0_c b0_p b0_n b0_c w R) h)

def laws_szAcctS (a_p : Option Addr) (a_n : Nat) (a_c : Nat) (left : Int) (w : World) (R : Value → World → Prop) : Prop :=
  ∃ t9 : Int, t9 = IntKind.wrap .i64 (left - ((a_n : Nat) : Int)) ∧ ((decide ((t9 : Int) < 0)) = true →
    R (.int .i64 (-1)) w) ∧
  ((decide ((t9 : Int) < 0)) = false →
    ∃ (Inv : Int → Int → World → Prop) (mu : Int → Int → World → Nat), Inv t9 0 w ∧
    ∀ (junk : Fr) (wv : World) (left_1 : Int) (i : Int), Inv left_1 i wv →
      ((decide ((i : Int) < ((a_n : Nat) : Int))) = true →
        (0 ≤ (i : Int) ∧ (i : Int) < (a_n : Nat)) ∧ ptrS a_p fun ad => ∃ (t210 : ByteArray) (t211 : ByteArray) (t212 : Bool) (t213_p : Option Addr) (t213_n : Nat) (t213_c : Nat), Loads P 55 (ad.add (i.toNat * 4)) (.agg #[(.string t210), (.string t211), (.bool t212), (.slice t213_p t213_n t213_c)]) wv ∧ Calls P 19 ⟨[(.agg #[(.string t210), (.string t211), (.bool t212), (.slice t213_p t213_n t213_c)]), (.int .i64 left_1)]⟩ wv fun e wv_1 =>
        ∃ (t23 : Int), e = .returned (.int .i64 t23) ∧
        ((decide ((t23 : Int) < 0)) = true →
          R (.int .i64 (-1)) wv_1) ∧
        ((decide ((t23 : Int) < 0)) = false →
          ∃ t17 : Int, t17 = IntKind.wrap .i64 (i + 1) ∧ Inv t23 t17 wv_1 ∧ mu t23 t17 wv_1 < mu left_1 i wv)) ∧
      ((decide ((i : Int) < ((a_n : Nat) : Int))) = false →
        R (.int .i64 left_1) wv))
theorem laws_szAcctS_eq (a_p : Option Addr) (a_n : Nat) (a_c : Nat) (left : Int) (w : World) (R : Value → World → Prop) : laws_szAcctS a_p a_n a_c left w R = fsem P Try.f14 (fun k => cond (Nat.beq k 6) [(1, .one (.int .i64)), (5, .one (.int .i64))] ([])) [(.slice a_p a_n a_c), (.int .i64 left)] R w := by kernel_rfl
theorem laws_szAcctS_ret {a_p : Option Addr} {a_n : Nat} {a_c : Nat} {left : Int} {w : World} {R : Value → World → Prop} (h : laws_szAcctS a_p a_n a_c left w R) : Ret P 14 [(.slice a_p a_n a_c), (.int .i64 left)] w R :=
  Ret.of_fsem Try.func14 rfl (Eq.mp (laws_szAcctS_eq a_p a_n a_c left w R) h)

def laws_toAcctS (a_p : Option Addr) (a_n : Nat) (a_c : Nat) (w : World) (R : Value → World → Prop) : Prop :=
  (0 ≤ (((a_n : Nat) : Int) : Int) ∧ (((a_n : Nat) : Int) : Int) ≤ ((a_n : Nat) : Int) ∧ ((64 : Nat) : Int) * ((a_n : Nat) : Int) ≤ 281474976710656) ∧
  ∀ (r : Nat) (wv : World), New w (.cells ⟨zeroRow (.agg #[(.string ByteArray.empty), (.string ByteArray.empty), (.bool false), (.slice none 0 0)]) (a_n * 4)⟩ 45 (0, 0)) r wv →
  ∃ (Inv : Int → World → Prop) (mu : Int → World → Nat), Inv 0 wv ∧
  ∀ (junk : Fr) (wv_1 : World) (i : Int), Inv i wv_1 →
    ((decide ((i : Int) < ((a_n : Nat) : Int))) = true →
      (0 ≤ (i : Int) ∧ (i : Int) < (a_n : Nat)) ∧ ptrS a_p fun ad => ∃ (t190 : ByteArray) (t191 : ByteArray) (t192 : Bool) (t193_p : Option Addr) (t193_n : Nat) (t193_c : Nat), Loads P 55 (ad.add (i.toNat * 4)) (.agg #[(.string t190), (.string t191), (.bool t192), (.slice t193_p t193_n t193_c)]) wv_1 ∧ Calls P 20 ⟨[(.agg #[(.string t190), (.string t191), (.bool t192), (.slice t193_p t193_n t193_c)])]⟩ wv_1 fun e wv_2 =>
      ∃ (t200 : ByteArray) (t201 : ByteArray) (t202 : Bool) (t203_p : Option Addr) (t203_n : Nat) (t203_c : Nat), e = .returned (.agg #[(.string t200), (.string t201), (.bool t202), (.slice t203_p t203_n t203_c)]) ∧
      (0 ≤ (i : Int) ∧ (i : Int) < (a_n : Nat)) ∧ ∃ wv_3, Stores P 45 ((⟨r, 0, none⟩ : Addr).add (i.toNat * 4)) (.agg #[(.string t200), (.string t201), (.bool t202), (.slice t203_p t203_n t203_c)]) wv_2 wv_3 ∧
      ∃ t13 : Int, t13 = IntKind.wrap .i64 (i + 1) ∧ Inv t13 wv_3 ∧ mu t13 wv_3 < mu i wv_1) ∧
    ((decide ((i : Int) < ((a_n : Nat) : Int))) = false →
      R (.slice (some ⟨r, 0, none⟩) a_n a_n) wv_1)
theorem laws_toAcctS_eq (a_p : Option Addr) (a_n : Nat) (a_c : Nat) (w : World) (R : Value → World → Prop) : laws_toAcctS a_p a_n a_c w R = fsem P Try.f15 (fun k => cond (Nat.beq k 4) [(4, .one (.int .i64))] ([])) [(.slice a_p a_n a_c)] R w := by kernel_rfl
theorem laws_toAcctS_ret {a_p : Option Addr} {a_n : Nat} {a_c : Nat} {w : World} {R : Value → World → Prop} (h : laws_toAcctS a_p a_n a_c w R) : Ret P 15 [(.slice a_p a_n a_c)] w R :=
  Ret.of_fsem Try.func15 rfl (Eq.mp (laws_toAcctS_eq a_p a_n a_c w R) h)

def laws_eqAcctS (a_p : Option Addr) (a_n : Nat) (a_c : Nat) (b_p : Option Addr) (b_n : Nat) (b_c : Nat) (w : World) (R : Value → World → Prop) : Prop :=
  ((decide ((((a_n : Nat) : Int) : Int) ≠ ((b_n : Nat) : Int))) = true →
    R (.bool false) w) ∧
  ((decide ((((a_n : Nat) : Int) : Int) ≠ ((b_n : Nat) : Int))) = false →
    ∃ (Inv : Int → World → Prop) (mu : Int → World → Nat), Inv 0 w ∧
    ∀ (junk : Fr) (wv : World) (i : Int), Inv i wv →
      ((decide ((i : Int) < ((a_n : Nat) : Int))) = true →
        (0 ≤ (i : Int) ∧ (i : Int) < (a_n : Nat)) ∧ ptrS a_p fun ad => ∃ (t200 : ByteArray) (t201 : ByteArray) (t202 : Bool) (t203_p : Option Addr) (t203_n : Nat) (t203_c : Nat), (∀ wv_1, Ext wv.drew wv_1 → Loads P 45 (ad.add (i.toNat * 4)) (.agg #[(.string t200), (.string t201), (.bool t202), (.slice t203_p t203_n t203_c)]) wv_1) ∧ (0 ≤ (i : Int) ∧ (i : Int) < (b_n : Nat)) ∧ ptrS b_p fun ad_1 => ∃ (t240 : ByteArray) (t241 : ByteArray) (t242 : Bool) (t243_p : Option Addr) (t243_n : Nat) (t243_c : Nat), (∀ wv_2, Ext wv.drew wv_2 → Loads P 45 (ad_1.add (i.toNat * 4)) (.agg #[(.string t240), (.string t241), (.bool t242), (.slice t243_p t243_n t243_c)]) wv_2) ∧ Calls P 21 ⟨[(.agg #[(.string t200), (.string t201), (.bool t202), (.slice t203_p t203_n t203_c)]), (.agg #[(.string t240), (.string t241), (.bool t242), (.slice t243_p t243_n t243_c)])]⟩ wv.drew fun e wv_3 =>
        ∃ (t25 : Bool), e = .returned (.bool t25) ∧
        ((!t25) = true →
          R (.bool false) wv_3) ∧
        ((!t25) = false →
          ∃ t16 : Int, t16 = IntKind.wrap .i64 (i + 1) ∧ Inv t16 wv_3 ∧ mu t16 wv_3 < mu i wv)) ∧
      ((decide ((i : Int) < ((a_n : Nat) : Int))) = false →
        R (.bool true) wv))
theorem laws_eqAcctS_eq (a_p : Option Addr) (a_n : Nat) (a_c : Nat) (b_p : Option Addr) (b_n : Nat) (b_c : Nat) (w : World) (R : Value → World → Prop) : laws_eqAcctS a_p a_n a_c b_p b_n b_c w R = fsem P Try.f18 (fun k => cond (Nat.beq k 5) [(5, .one (.int .i64))] ([])) [(.slice a_p a_n a_c), (.slice b_p b_n b_c)] R w := by kernel_rfl
theorem laws_eqAcctS_ret {a_p : Option Addr} {a_n : Nat} {a_c : Nat} {b_p : Option Addr} {b_n : Nat} {b_c : Nat} {w : World} {R : Value → World → Prop} (h : laws_eqAcctS a_p a_n a_c b_p b_n b_c w R) : Ret P 18 [(.slice a_p a_n a_c), (.slice b_p b_n b_c)] w R :=
  Ret.of_fsem Try.func18 rfl (Eq.mp (laws_eqAcctS_eq a_p a_n a_c b_p b_n b_c w R) h)

def laws_szAcct (a0 : ByteArray) (a1 : ByteArray) (a2 : Bool) (a3_p : Option Addr) (a3_n : Nat) (a3_c : Nat) (left : Int) (w : World) (R : Value → World → Prop) : Prop :=
  ∀ (r : Nat) (wv : World), New w (.cells ⟨[(.string a0), (.string a1), (.bool a2), (.slice a3_p a3_n a3_c)]⟩ 55 (0, 0)) r wv →
  ∃ (t7 : ByteArray), Loads P 9 ((⟨r, 0, none⟩ : Addr).add 0) (.string t7) wv ∧ ∃ t9 : Int, t9 = IntKind.wrap .i64 (left - ((t7.size : Nat) : Int)) ∧ ((decide ((t9 : Int) < 0)) = true →
    R (.int .i64 (-1)) wv) ∧
  ((decide ((t9 : Int) < 0)) = false →
    ∃ (t130 : ByteArray) (t131 : Bool) (t132_p : Option Addr) (t132_n : Nat) (t132_c : Nat), Loads P 53 ((⟨r, 0, none⟩ : Addr).add 1) (.agg #[(.string t130), (.bool t131), (.slice t132_p t132_n t132_c)]) wv ∧ Calls P 22 ⟨[(.agg #[(.string t130), (.bool t131), (.slice t132_p t132_n t132_c)]), (.int .i64 t9)]⟩ wv fun e wv_1 =>
    ∃ (t15 : Int), e = .returned (.int .i64 t15) ∧
    ((decide ((t15 : Int) < 0)) = true →
      R (.int .i64 (-1)) wv_1) ∧
    ((decide ((t15 : Int) < 0)) = false →
      R (.int .i64 t15) wv_1))
theorem laws_szAcct_eq (a0 : ByteArray) (a1 : ByteArray) (a2 : Bool) (a3_p : Option Addr) (a3_n : Nat) (a3_c : Nat) (left : Int) (w : World) (R : Value → World → Prop) : laws_szAcct a0 a1 a2 a3_p a3_n a3_c left w R = fsem P Try.f19 (fun k => []) [(.agg #[(.string a0), (.string a1), (.bool a2), (.slice a3_p a3_n a3_c)]), (.int .i64 left)] R w := by kernel_rfl
theorem laws_szAcct_ret {a0 : ByteArray} {a1 : ByteArray} {a2 : Bool} {a3_p : Option Addr} {a3_n : Nat} {a3_c : Nat} {left : Int} {w : World} {R : Value → World → Prop} (h : laws_szAcct a0 a1 a2 a3_p a3_n a3_c left w R) : Ret P 19 [(.agg #[(.string a0), (.string a1), (.bool a2), (.slice a3_p a3_n a3_c)]), (.int .i64 left)] w R :=
  Ret.of_fsem Try.func19 rfl (Eq.mp (laws_szAcct_eq a0 a1 a2 a3_p a3_n a3_c left w R) h)

def laws_toAcct (a0 : ByteArray) (a1 : ByteArray) (a2 : Bool) (a3_p : Option Addr) (a3_n : Nat) (a3_c : Nat) (w : World) (R : Value → World → Prop) : Prop :=
  ∀ (r : Nat) (wv : World), New w (.cells ⟨[(.string a0), (.string a1), (.bool a2), (.slice a3_p a3_n a3_c)]⟩ 55 (0, 0)) r wv →
  ∀ (r_1 : Nat) (wv_1 : World), New wv (.cells ⟨[(.string ByteArray.empty), (.string ByteArray.empty), (.bool false), (.slice none 0 0)]⟩ 45 (0, 0)) r_1 wv_1 →
  ∀ (r_2 : Nat) (wv_2 : World), New wv_1 (.cells ⟨[(.string ByteArray.empty), (.string ByteArray.empty), (.bool false), (.slice none 0 0)]⟩ 45 (0, 0)) r_2 wv_2 →
  ∃ (t5 : ByteArray), Loads P 9 ((⟨r, 0, none⟩ : Addr).add 0) (.string t5) wv_2 ∧ ∃ wv_3, Stores P 9 ((⟨r_2, 0, none⟩ : Addr).add 0) (.string t5) wv_2 wv_3 ∧
  ∃ (t80 : ByteArray) (t81 : Bool) (t82_p : Option Addr) (t82_n : Nat) (t82_c : Nat), Loads P 53 ((⟨r, 0, none⟩ : Addr).add 1) (.agg #[(.string t80), (.bool t81), (.slice t82_p t82_n t82_c)]) wv_3 ∧ Calls P 23 ⟨[(.agg #[(.string t80), (.bool t81), (.slice t82_p t82_n t82_c)])]⟩ wv_3 fun e wv_4 =>
  ∃ (t90 : ByteArray) (t91 : Bool) (t92_p : Option Addr) (t92_n : Nat) (t92_c : Nat), e = .returned (.agg #[(.string t90), (.bool t91), (.slice t92_p t92_n t92_c)]) ∧
  ∃ wv_5, Stores P 43 ((⟨r_2, 0, none⟩ : Addr).add 1) (.agg #[(.string t90), (.bool t91), (.slice t92_p t92_n t92_c)]) wv_4 wv_5 ∧
  ∃ (t110 : ByteArray) (t111 : ByteArray) (t112 : Bool) (t113_p : Option Addr) (t113_n : Nat) (t113_c : Nat), Loads P 45 ⟨r_2, 0, none⟩ (.agg #[(.string t110), (.string t111), (.bool t112), (.slice t113_p t113_n t113_c)]) wv_5 ∧ ∃ wv_6, Stores P 45 ⟨r_1, 0, none⟩ (.agg #[(.string t110), (.string t111), (.bool t112), (.slice t113_p t113_n t113_c)]) wv_5 wv_6 ∧
  ∃ (r0 : ByteArray) (r1 : ByteArray) (r2 : Bool) (r3_p : Option Addr) (r3_n : Nat) (r3_c : Nat), Loads P 45 ⟨r_1, 0, none⟩ (.agg #[(.string r0), (.string r1), (.bool r2), (.slice r3_p r3_n r3_c)]) wv_6 ∧ R (.agg #[(.string r0), (.string r1), (.bool r2), (.slice r3_p r3_n r3_c)]) wv_6
theorem laws_toAcct_eq (a0 : ByteArray) (a1 : ByteArray) (a2 : Bool) (a3_p : Option Addr) (a3_n : Nat) (a3_c : Nat) (w : World) (R : Value → World → Prop) : laws_toAcct a0 a1 a2 a3_p a3_n a3_c w R = fsem P Try.f20 (fun k => []) [(.agg #[(.string a0), (.string a1), (.bool a2), (.slice a3_p a3_n a3_c)])] R w := by kernel_rfl
theorem laws_toAcct_ret {a0 : ByteArray} {a1 : ByteArray} {a2 : Bool} {a3_p : Option Addr} {a3_n : Nat} {a3_c : Nat} {w : World} {R : Value → World → Prop} (h : laws_toAcct a0 a1 a2 a3_p a3_n a3_c w R) : Ret P 20 [(.agg #[(.string a0), (.string a1), (.bool a2), (.slice a3_p a3_n a3_c)])] w R :=
  Ret.of_fsem Try.func20 rfl (Eq.mp (laws_toAcct_eq a0 a1 a2 a3_p a3_n a3_c w R) h)

def laws_eqAcct (a0 : ByteArray) (a1 : ByteArray) (a2 : Bool) (a3_p : Option Addr) (a3_n : Nat) (a3_c : Nat) (b0 : ByteArray) (b1 : ByteArray) (b2 : Bool) (b3_p : Option Addr) (b3_n : Nat) (b3_c : Nat) (w : World) (R : Value → World → Prop) : Prop :=
  ∀ (r : Nat) (wv : World), New w (.cells ⟨[(.string a0), (.string a1), (.bool a2), (.slice a3_p a3_n a3_c)]⟩ 45 (0, 0)) r wv →
  ∀ (r_1 : Nat) (wv_1 : World), New wv (.cells ⟨[(.string b0), (.string b1), (.bool b2), (.slice b3_p b3_n b3_c)]⟩ 45 (0, 0)) r_1 wv_1 →
  ∃ (t6 : ByteArray), Loads P 9 ((⟨r, 0, none⟩ : Addr).add 0) (.string t6) wv_1 ∧ ∃ (t8 : ByteArray), Loads P 9 ((⟨r_1, 0, none⟩ : Addr).add 0) (.string t8) wv_1 ∧ ((decide (t6 ≠ t8)) = true →
    R (.bool false) wv_1) ∧
  ((decide (t6 ≠ t8)) = false →
    ∃ (t110 : ByteArray) (t111 : Bool) (t112_p : Option Addr) (t112_n : Nat) (t112_c : Nat), Loads P 43 ((⟨r, 0, none⟩ : Addr).add 1) (.agg #[(.string t110), (.bool t111), (.slice t112_p t112_n t112_c)]) wv_1 ∧ ∃ (t130 : ByteArray) (t131 : Bool) (t132_p : Option Addr) (t132_n : Nat) (t132_c : Nat), Loads P 43 ((⟨r_1, 0, none⟩ : Addr).add 1) (.agg #[(.string t130), (.bool t131), (.slice t132_p t132_n t132_c)]) wv_1 ∧ Calls P 24 ⟨[(.agg #[(.string t110), (.bool t111), (.slice t112_p t112_n t112_c)]), (.agg #[(.string t130), (.bool t131), (.slice t132_p t132_n t132_c)])]⟩ wv_1 fun e wv_2 =>
    ∃ (t14 : Bool), e = .returned (.bool t14) ∧
    ((!t14) = true →
      R (.bool false) wv_2) ∧
    ((!t14) = false →
      R (.bool true) wv_2))
theorem laws_eqAcct_eq (a0 : ByteArray) (a1 : ByteArray) (a2 : Bool) (a3_p : Option Addr) (a3_n : Nat) (a3_c : Nat) (b0 : ByteArray) (b1 : ByteArray) (b2 : Bool) (b3_p : Option Addr) (b3_n : Nat) (b3_c : Nat) (w : World) (R : Value → World → Prop) : laws_eqAcct a0 a1 a2 a3_p a3_n a3_c b0 b1 b2 b3_p b3_n b3_c w R = fsem P Try.f21 (fun k => []) [(.agg #[(.string a0), (.string a1), (.bool a2), (.slice a3_p a3_n a3_c)]), (.agg #[(.string b0), (.string b1), (.bool b2), (.slice b3_p b3_n b3_c)])] R w := by kernel_rfl
theorem laws_eqAcct_ret {a0 : ByteArray} {a1 : ByteArray} {a2 : Bool} {a3_p : Option Addr} {a3_n : Nat} {a3_c : Nat} {b0 : ByteArray} {b1 : ByteArray} {b2 : Bool} {b3_p : Option Addr} {b3_n : Nat} {b3_c : Nat} {w : World} {R : Value → World → Prop} (h : laws_eqAcct a0 a1 a2 a3_p a3_n a3_c b0 b1 b2 b3_p b3_n b3_c w R) : Ret P 21 [(.agg #[(.string a0), (.string a1), (.bool a2), (.slice a3_p a3_n a3_c)]), (.agg #[(.string b0), (.string b1), (.bool b2), (.slice b3_p b3_n b3_c)])] w R :=
  Ret.of_fsem Try.func21 rfl (Eq.mp (laws_eqAcct_eq a0 a1 a2 a3_p a3_n a3_c b0 b1 b2 b3_p b3_n b3_c w R) h)

def laws_szMoney (a0 : ByteArray) (a1 : Bool) (a2_p : Option Addr) (a2_n : Nat) (a2_c : Nat) (left : Int) (w : World) (R : Value → World → Prop) : Prop :=
  ∀ (r : Nat) (wv : World), New w (.cells ⟨[(.string a0), (.bool a1), (.slice a2_p a2_n a2_c)]⟩ 53 (0, 0)) r wv →
  ∃ (t7 : ByteArray), Loads P 9 ((⟨r, 0, none⟩ : Addr).add 0) (.string t7) wv ∧ ∃ t9 : Int, t9 = IntKind.wrap .i64 (left - ((t7.size : Nat) : Int)) ∧ ((decide ((t9 : Int) < 0)) = true →
    R (.int .i64 (-1)) wv) ∧
  ((decide ((t9 : Int) < 0)) = false →
    ∃ (t130 : Bool) (t131_p : Option Addr) (t131_n : Nat) (t131_c : Nat), Loads P 51 ((⟨r, 0, none⟩ : Addr).add 1) (.agg #[(.bool t130), (.slice t131_p t131_n t131_c)]) wv ∧ Calls P 25 ⟨[(.agg #[(.bool t130), (.slice t131_p t131_n t131_c)]), (.int .i64 t9)]⟩ wv fun e wv_1 =>
    ∃ (t15 : Int), e = .returned (.int .i64 t15) ∧
    ((decide ((t15 : Int) < 0)) = true →
      R (.int .i64 (-1)) wv_1) ∧
    ((decide ((t15 : Int) < 0)) = false →
      R (.int .i64 t15) wv_1))
theorem laws_szMoney_eq (a0 : ByteArray) (a1 : Bool) (a2_p : Option Addr) (a2_n : Nat) (a2_c : Nat) (left : Int) (w : World) (R : Value → World → Prop) : laws_szMoney a0 a1 a2_p a2_n a2_c left w R = fsem P Try.f22 (fun k => []) [(.agg #[(.string a0), (.bool a1), (.slice a2_p a2_n a2_c)]), (.int .i64 left)] R w := by kernel_rfl
theorem laws_szMoney_ret {a0 : ByteArray} {a1 : Bool} {a2_p : Option Addr} {a2_n : Nat} {a2_c : Nat} {left : Int} {w : World} {R : Value → World → Prop} (h : laws_szMoney a0 a1 a2_p a2_n a2_c left w R) : Ret P 22 [(.agg #[(.string a0), (.bool a1), (.slice a2_p a2_n a2_c)]), (.int .i64 left)] w R :=
  Ret.of_fsem Try.func22 rfl (Eq.mp (laws_szMoney_eq a0 a1 a2_p a2_n a2_c left w R) h)

def laws_toMoney (a0 : ByteArray) (a1 : Bool) (a2_p : Option Addr) (a2_n : Nat) (a2_c : Nat) (w : World) (R : Value → World → Prop) : Prop :=
  ∀ (r : Nat) (wv : World), New w (.cells ⟨[(.string a0), (.bool a1), (.slice a2_p a2_n a2_c)]⟩ 53 (0, 0)) r wv →
  ∀ (r_1 : Nat) (wv_1 : World), New wv (.cells ⟨[(.string ByteArray.empty), (.bool false), (.slice none 0 0)]⟩ 43 (0, 0)) r_1 wv_1 →
  ∀ (r_2 : Nat) (wv_2 : World), New wv_1 (.cells ⟨[(.string ByteArray.empty), (.bool false), (.slice none 0 0)]⟩ 43 (0, 0)) r_2 wv_2 →
  ∃ (t5 : ByteArray), Loads P 9 ((⟨r, 0, none⟩ : Addr).add 0) (.string t5) wv_2 ∧ ∃ wv_3, Stores P 9 ((⟨r_2, 0, none⟩ : Addr).add 0) (.string t5) wv_2 wv_3 ∧
  ∃ (t80 : Bool) (t81_p : Option Addr) (t81_n : Nat) (t81_c : Nat), Loads P 51 ((⟨r, 0, none⟩ : Addr).add 1) (.agg #[(.bool t80), (.slice t81_p t81_n t81_c)]) wv_3 ∧ Calls P 26 ⟨[(.agg #[(.bool t80), (.slice t81_p t81_n t81_c)])]⟩ wv_3 fun e wv_4 =>
  ∃ (t90 : Bool) (t91_p : Option Addr) (t91_n : Nat) (t91_c : Nat), e = .returned (.agg #[(.bool t90), (.slice t91_p t91_n t91_c)]) ∧
  ∃ wv_5, Stores P 41 ((⟨r_2, 0, none⟩ : Addr).add 1) (.agg #[(.bool t90), (.slice t91_p t91_n t91_c)]) wv_4 wv_5 ∧
  ∃ (t110 : ByteArray) (t111 : Bool) (t112_p : Option Addr) (t112_n : Nat) (t112_c : Nat), Loads P 43 ⟨r_2, 0, none⟩ (.agg #[(.string t110), (.bool t111), (.slice t112_p t112_n t112_c)]) wv_5 ∧ ∃ wv_6, Stores P 43 ⟨r_1, 0, none⟩ (.agg #[(.string t110), (.bool t111), (.slice t112_p t112_n t112_c)]) wv_5 wv_6 ∧
  ∃ (r0 : ByteArray) (r1 : Bool) (r2_p : Option Addr) (r2_n : Nat) (r2_c : Nat), Loads P 43 ⟨r_1, 0, none⟩ (.agg #[(.string r0), (.bool r1), (.slice r2_p r2_n r2_c)]) wv_6 ∧ R (.agg #[(.string r0), (.bool r1), (.slice r2_p r2_n r2_c)]) wv_6
theorem laws_toMoney_eq (a0 : ByteArray) (a1 : Bool) (a2_p : Option Addr) (a2_n : Nat) (a2_c : Nat) (w : World) (R : Value → World → Prop) : laws_toMoney a0 a1 a2_p a2_n a2_c w R = fsem P Try.f23 (fun k => []) [(.agg #[(.string a0), (.bool a1), (.slice a2_p a2_n a2_c)])] R w := by kernel_rfl
theorem laws_toMoney_ret {a0 : ByteArray} {a1 : Bool} {a2_p : Option Addr} {a2_n : Nat} {a2_c : Nat} {w : World} {R : Value → World → Prop} (h : laws_toMoney a0 a1 a2_p a2_n a2_c w R) : Ret P 23 [(.agg #[(.string a0), (.bool a1), (.slice a2_p a2_n a2_c)])] w R :=
  Ret.of_fsem Try.func23 rfl (Eq.mp (laws_toMoney_eq a0 a1 a2_p a2_n a2_c w R) h)

def laws_eqMoney (a0 : ByteArray) (a1 : Bool) (a2_p : Option Addr) (a2_n : Nat) (a2_c : Nat) (b0 : ByteArray) (b1 : Bool) (b2_p : Option Addr) (b2_n : Nat) (b2_c : Nat) (w : World) (R : Value → World → Prop) : Prop :=
  ∀ (r : Nat) (wv : World), New w (.cells ⟨[(.string a0), (.bool a1), (.slice a2_p a2_n a2_c)]⟩ 43 (0, 0)) r wv →
  ∀ (r_1 : Nat) (wv_1 : World), New wv (.cells ⟨[(.string b0), (.bool b1), (.slice b2_p b2_n b2_c)]⟩ 43 (0, 0)) r_1 wv_1 →
  ∃ (t6 : ByteArray), Loads P 9 ((⟨r, 0, none⟩ : Addr).add 0) (.string t6) wv_1 ∧ ∃ (t8 : ByteArray), Loads P 9 ((⟨r_1, 0, none⟩ : Addr).add 0) (.string t8) wv_1 ∧ ((decide (t6 ≠ t8)) = true →
    R (.bool false) wv_1) ∧
  ((decide (t6 ≠ t8)) = false →
    ∃ (t110 : Bool) (t111_p : Option Addr) (t111_n : Nat) (t111_c : Nat), Loads P 41 ((⟨r, 0, none⟩ : Addr).add 1) (.agg #[(.bool t110), (.slice t111_p t111_n t111_c)]) wv_1 ∧ ∃ (t130 : Bool) (t131_p : Option Addr) (t131_n : Nat) (t131_c : Nat), Loads P 41 ((⟨r_1, 0, none⟩ : Addr).add 1) (.agg #[(.bool t130), (.slice t131_p t131_n t131_c)]) wv_1 ∧ Calls P 27 ⟨[(.agg #[(.bool t110), (.slice t111_p t111_n t111_c)]), (.agg #[(.bool t130), (.slice t131_p t131_n t131_c)])]⟩ wv_1 fun e wv_2 =>
    ∃ (t14 : Bool), e = .returned (.bool t14) ∧
    ((!t14) = true →
      R (.bool false) wv_2) ∧
    ((!t14) = false →
      R (.bool true) wv_2))
theorem laws_eqMoney_eq (a0 : ByteArray) (a1 : Bool) (a2_p : Option Addr) (a2_n : Nat) (a2_c : Nat) (b0 : ByteArray) (b1 : Bool) (b2_p : Option Addr) (b2_n : Nat) (b2_c : Nat) (w : World) (R : Value → World → Prop) : laws_eqMoney a0 a1 a2_p a2_n a2_c b0 b1 b2_p b2_n b2_c w R = fsem P Try.f24 (fun k => []) [(.agg #[(.string a0), (.bool a1), (.slice a2_p a2_n a2_c)]), (.agg #[(.string b0), (.bool b1), (.slice b2_p b2_n b2_c)])] R w := by kernel_rfl
theorem laws_eqMoney_ret {a0 : ByteArray} {a1 : Bool} {a2_p : Option Addr} {a2_n : Nat} {a2_c : Nat} {b0 : ByteArray} {b1 : Bool} {b2_p : Option Addr} {b2_n : Nat} {b2_c : Nat} {w : World} {R : Value → World → Prop} (h : laws_eqMoney a0 a1 a2_p a2_n a2_c b0 b1 b2_p b2_n b2_c w R) : Ret P 24 [(.agg #[(.string a0), (.bool a1), (.slice a2_p a2_n a2_c)]), (.agg #[(.string b0), (.bool b1), (.slice b2_p b2_n b2_c)])] w R :=
  Ret.of_fsem Try.func24 rfl (Eq.mp (laws_eqMoney_eq a0 a1 a2_p a2_n a2_c b0 b1 b2_p b2_n b2_c w R) h)

def laws_szSigned (a0 : Bool) (a1_p : Option Addr) (a1_n : Nat) (a1_c : Nat) (left : Int) (w : World) (R : Value → World → Prop) : Prop :=
  ∀ (r : Nat) (wv : World), New w (.cells ⟨[(.bool a0), (.slice a1_p a1_n a1_c)]⟩ 51 (0, 0)) r wv →
  ∃ (t6_p : Option Addr) (t6_n : Nat) (t6_c : Nat), Loads P 39 ((⟨r, 0, none⟩ : Addr).add 1) (.slice t6_p t6_n t6_c) wv ∧ Calls P 28 ⟨[(.slice t6_p t6_n t6_c), (.int .i64 left)]⟩ wv fun e wv_1 =>
  ∃ (t8 : Int), e = .returned (.int .i64 t8) ∧
  ((decide ((t8 : Int) < 0)) = true →
    R (.int .i64 (-1)) wv_1) ∧
  ((decide ((t8 : Int) < 0)) = false →
    R (.int .i64 t8) wv_1)
theorem laws_szSigned_eq (a0 : Bool) (a1_p : Option Addr) (a1_n : Nat) (a1_c : Nat) (left : Int) (w : World) (R : Value → World → Prop) : laws_szSigned a0 a1_p a1_n a1_c left w R = fsem P Try.f25 (fun k => []) [(.agg #[(.bool a0), (.slice a1_p a1_n a1_c)]), (.int .i64 left)] R w := by kernel_rfl
theorem laws_szSigned_ret {a0 : Bool} {a1_p : Option Addr} {a1_n : Nat} {a1_c : Nat} {left : Int} {w : World} {R : Value → World → Prop} (h : laws_szSigned a0 a1_p a1_n a1_c left w R) : Ret P 25 [(.agg #[(.bool a0), (.slice a1_p a1_n a1_c)]), (.int .i64 left)] w R :=
  Ret.of_fsem Try.func25 rfl (Eq.mp (laws_szSigned_eq a0 a1_p a1_n a1_c left w R) h)

def laws_toSigned (a0 : Bool) (a1_p : Option Addr) (a1_n : Nat) (a1_c : Nat) (w : World) (R : Value → World → Prop) : Prop :=
  ∀ (r : Nat) (wv : World), New w (.cells ⟨[(.bool a0), (.slice a1_p a1_n a1_c)]⟩ 51 (0, 0)) r wv →
  ∀ (r_1 : Nat) (wv_1 : World), New wv (.cells ⟨[(.bool false), (.slice none 0 0)]⟩ 41 (0, 0)) r_1 wv_1 →
  ∀ (r_2 : Nat) (wv_2 : World), New wv_1 (.cells ⟨[(.bool false), (.slice none 0 0)]⟩ 41 (0, 0)) r_2 wv_2 →
  ∃ (t5 : Bool), Loads P 4 ((⟨r, 0, none⟩ : Addr).add 0) (.bool t5) wv_2 ∧ ∃ wv_3, Stores P 4 ((⟨r_2, 0, none⟩ : Addr).add 0) (.bool t5) wv_2 wv_3 ∧
  ∃ (t8_p : Option Addr) (t8_n : Nat) (t8_c : Nat), Loads P 39 ((⟨r, 0, none⟩ : Addr).add 1) (.slice t8_p t8_n t8_c) wv_3 ∧ Calls P 29 ⟨[(.slice t8_p t8_n t8_c)]⟩ wv_3 fun e wv_4 =>
  ∃ (t9_p : Option Addr) (t9_n : Nat) (t9_c : Nat), e = .returned (.slice t9_p t9_n t9_c) ∧
  ∃ wv_5, Stores P 39 ((⟨r_2, 0, none⟩ : Addr).add 1) (.slice t9_p t9_n t9_c) wv_4 wv_5 ∧
  ∃ (t110 : Bool) (t111_p : Option Addr) (t111_n : Nat) (t111_c : Nat), Loads P 41 ⟨r_2, 0, none⟩ (.agg #[(.bool t110), (.slice t111_p t111_n t111_c)]) wv_5 ∧ ∃ wv_6, Stores P 41 ⟨r_1, 0, none⟩ (.agg #[(.bool t110), (.slice t111_p t111_n t111_c)]) wv_5 wv_6 ∧
  ∃ (r0 : Bool) (r1_p : Option Addr) (r1_n : Nat) (r1_c : Nat), Loads P 41 ⟨r_1, 0, none⟩ (.agg #[(.bool r0), (.slice r1_p r1_n r1_c)]) wv_6 ∧ R (.agg #[(.bool r0), (.slice r1_p r1_n r1_c)]) wv_6
theorem laws_toSigned_eq (a0 : Bool) (a1_p : Option Addr) (a1_n : Nat) (a1_c : Nat) (w : World) (R : Value → World → Prop) : laws_toSigned a0 a1_p a1_n a1_c w R = fsem P Try.f26 (fun k => []) [(.agg #[(.bool a0), (.slice a1_p a1_n a1_c)])] R w := by kernel_rfl
theorem laws_toSigned_ret {a0 : Bool} {a1_p : Option Addr} {a1_n : Nat} {a1_c : Nat} {w : World} {R : Value → World → Prop} (h : laws_toSigned a0 a1_p a1_n a1_c w R) : Ret P 26 [(.agg #[(.bool a0), (.slice a1_p a1_n a1_c)])] w R :=
  Ret.of_fsem Try.func26 rfl (Eq.mp (laws_toSigned_eq a0 a1_p a1_n a1_c w R) h)

def laws_eqSigned (a0 : Bool) (a1_p : Option Addr) (a1_n : Nat) (a1_c : Nat) (b0 : Bool) (b1_p : Option Addr) (b1_n : Nat) (b1_c : Nat) (w : World) (R : Value → World → Prop) : Prop :=
  ∀ (r : Nat) (wv : World), New w (.cells ⟨[(.bool a0), (.slice a1_p a1_n a1_c)]⟩ 41 (0, 0)) r wv →
  ∀ (r_1 : Nat) (wv_1 : World), New wv (.cells ⟨[(.bool b0), (.slice b1_p b1_n b1_c)]⟩ 41 (0, 0)) r_1 wv_1 →
  ∃ (t6 : Bool), Loads P 4 ((⟨r, 0, none⟩ : Addr).add 0) (.bool t6) wv_1 ∧ ∃ (t8 : Bool), Loads P 4 ((⟨r_1, 0, none⟩ : Addr).add 0) (.bool t8) wv_1 ∧ ((!(t6 == t8)) = true →
    R (.bool false) wv_1) ∧
  ((!(t6 == t8)) = false →
    ∃ (t11_p : Option Addr) (t11_n : Nat) (t11_c : Nat), Loads P 39 ((⟨r, 0, none⟩ : Addr).add 1) (.slice t11_p t11_n t11_c) wv_1 ∧ ∃ (t13_p : Option Addr) (t13_n : Nat) (t13_c : Nat), Loads P 39 ((⟨r_1, 0, none⟩ : Addr).add 1) (.slice t13_p t13_n t13_c) wv_1 ∧ Calls P 30 ⟨[(.slice t11_p t11_n t11_c), (.slice t13_p t13_n t13_c)]⟩ wv_1 fun e wv_2 =>
    ∃ (t14 : Bool), e = .returned (.bool t14) ∧
    ((!t14) = true →
      R (.bool false) wv_2) ∧
    ((!t14) = false →
      R (.bool true) wv_2))
theorem laws_eqSigned_eq (a0 : Bool) (a1_p : Option Addr) (a1_n : Nat) (a1_c : Nat) (b0 : Bool) (b1_p : Option Addr) (b1_n : Nat) (b1_c : Nat) (w : World) (R : Value → World → Prop) : laws_eqSigned a0 a1_p a1_n a1_c b0 b1_p b1_n b1_c w R = fsem P Try.f27 (fun k => []) [(.agg #[(.bool a0), (.slice a1_p a1_n a1_c)]), (.agg #[(.bool b0), (.slice b1_p b1_n b1_c)])] R w := by kernel_rfl
theorem laws_eqSigned_ret {a0 : Bool} {a1_p : Option Addr} {a1_n : Nat} {a1_c : Nat} {b0 : Bool} {b1_p : Option Addr} {b1_n : Nat} {b1_c : Nat} {w : World} {R : Value → World → Prop} (h : laws_eqSigned a0 a1_p a1_n a1_c b0 b1_p b1_n b1_c w R) : Ret P 27 [(.agg #[(.bool a0), (.slice a1_p a1_n a1_c)]), (.agg #[(.bool b0), (.slice b1_p b1_n b1_c)])] w R :=
  Ret.of_fsem Try.func27 rfl (Eq.mp (laws_eqSigned_eq a0 a1_p a1_n a1_c b0 b1_p b1_n b1_c w R) h)

def laws_szIntS (a_p : Option Addr) (a_n : Nat) (a_c : Nat) (left : Int) (w : World) (R : Value → World → Prop) : Prop :=
  ∃ t8 : Int, t8 = IntKind.wrap .i64 (left - ((a_n : Nat) : Int)) ∧ ((decide ((t8 : Int) < 0)) = true →
    R (.int .i64 (-1)) w) ∧
  ((decide ((t8 : Int) < 0)) = false →
    R (.int .i64 t8) w)
theorem laws_szIntS_eq (a_p : Option Addr) (a_n : Nat) (a_c : Nat) (left : Int) (w : World) (R : Value → World → Prop) : laws_szIntS a_p a_n a_c left w R = fsem P Try.f28 (fun k => []) [(.slice a_p a_n a_c), (.int .i64 left)] R w := by kernel_rfl
theorem laws_szIntS_ret {a_p : Option Addr} {a_n : Nat} {a_c : Nat} {left : Int} {w : World} {R : Value → World → Prop} (h : laws_szIntS a_p a_n a_c left w R) : Ret P 28 [(.slice a_p a_n a_c), (.int .i64 left)] w R :=
  Ret.of_fsem Try.func28 rfl (Eq.mp (laws_szIntS_eq a_p a_n a_c left w R) h)

def laws_toIntS (a_p : Option Addr) (a_n : Nat) (a_c : Nat) (w : World) (R : Value → World → Prop) : Prop :=
  (0 ≤ (((a_n : Nat) : Int) : Int) ∧ (((a_n : Nat) : Int) : Int) ≤ ((a_n : Nat) : Int) ∧ ((8 : Nat) : Int) * ((a_n : Nat) : Int) ≤ 281474976710656) ∧
  ∀ (r : Nat) (wv : World), New w (.cells ⟨zeroRow (.int .i64 0) (a_n * 1)⟩ 3 (0, 0)) r wv →
  ∃ (Inv : Int → World → Prop) (mu : Int → World → Nat), Inv 0 wv ∧
  ∀ (junk : Fr) (wv_1 : World) (i : Int), Inv i wv_1 →
    ((decide ((i : Int) < ((a_n : Nat) : Int))) = true →
      (0 ≤ (i : Int) ∧ (i : Int) < (a_n : Nat)) ∧ ptrS a_p fun ad => ∃ (t19 : Int), Loads P 3 (ad.add (i.toNat * 1)) (.int .i64 t19) wv_1 ∧ (0 ≤ (i : Int) ∧ (i : Int) < (a_n : Nat)) ∧ ∃ wv_2, Stores P 3 ((⟨r, 0, none⟩ : Addr).add (i.toNat * 1)) (.int .i64 t19) wv_1 wv_2 ∧
      ∃ t13 : Int, t13 = IntKind.wrap .i64 (i + 1) ∧ Inv t13 wv_2 ∧ mu t13 wv_2 < mu i wv_1) ∧
    ((decide ((i : Int) < ((a_n : Nat) : Int))) = false →
      R (.slice (some ⟨r, 0, none⟩) a_n a_n) wv_1)
theorem laws_toIntS_eq (a_p : Option Addr) (a_n : Nat) (a_c : Nat) (w : World) (R : Value → World → Prop) : laws_toIntS a_p a_n a_c w R = fsem P Try.f29 (fun k => cond (Nat.beq k 4) [(4, .one (.int .i64))] ([])) [(.slice a_p a_n a_c)] R w := by kernel_rfl
theorem laws_toIntS_ret {a_p : Option Addr} {a_n : Nat} {a_c : Nat} {w : World} {R : Value → World → Prop} (h : laws_toIntS a_p a_n a_c w R) : Ret P 29 [(.slice a_p a_n a_c)] w R :=
  Ret.of_fsem Try.func29 rfl (Eq.mp (laws_toIntS_eq a_p a_n a_c w R) h)

def laws_eqIntS (a_p : Option Addr) (a_n : Nat) (a_c : Nat) (b_p : Option Addr) (b_n : Nat) (b_c : Nat) (w : World) (R : Value → World → Prop) : Prop :=
  ((decide ((((a_n : Nat) : Int) : Int) ≠ ((b_n : Nat) : Int))) = true →
    R (.bool false) w) ∧
  ((decide ((((a_n : Nat) : Int) : Int) ≠ ((b_n : Nat) : Int))) = false →
    ∃ (Inv : Int → World → Prop) (mu : Int → World → Nat), Inv 0 w ∧
    ∀ (junk : Fr) (wv : World) (i : Int), Inv i wv →
      ((decide ((i : Int) < ((a_n : Nat) : Int))) = true →
        (0 ≤ (i : Int) ∧ (i : Int) < (a_n : Nat)) ∧ ptrS a_p fun ad => ∃ (t20 : Int), (∀ wv_1, Ext wv.drew wv_1 → Loads P 3 (ad.add (i.toNat * 1)) (.int .i64 t20) wv_1) ∧ (0 ≤ (i : Int) ∧ (i : Int) < (b_n : Nat)) ∧ ptrS b_p fun ad_1 => ∃ (t24 : Int), (∀ wv_2, Ext wv.drew wv_2 → Loads P 3 (ad_1.add (i.toNat * 1)) (.int .i64 t24) wv_2) ∧ ((decide ((t20 : Int) ≠ t24)) = true →
          R (.bool false) wv.drew) ∧
        ((decide ((t20 : Int) ≠ t24)) = false →
          ∃ t16 : Int, t16 = IntKind.wrap .i64 (i + 1) ∧ Inv t16 wv.drew ∧ mu t16 wv.drew < mu i wv)) ∧
      ((decide ((i : Int) < ((a_n : Nat) : Int))) = false →
        R (.bool true) wv))
theorem laws_eqIntS_eq (a_p : Option Addr) (a_n : Nat) (a_c : Nat) (b_p : Option Addr) (b_n : Nat) (b_c : Nat) (w : World) (R : Value → World → Prop) : laws_eqIntS a_p a_n a_c b_p b_n b_c w R = fsem P Try.f30 (fun k => cond (Nat.beq k 5) [(5, .one (.int .i64))] ([])) [(.slice a_p a_n a_c), (.slice b_p b_n b_c)] R w := by kernel_rfl
theorem laws_eqIntS_ret {a_p : Option Addr} {a_n : Nat} {a_c : Nat} {b_p : Option Addr} {b_n : Nat} {b_c : Nat} {w : World} {R : Value → World → Prop} (h : laws_eqIntS a_p a_n a_c b_p b_n b_c w R) : Ret P 30 [(.slice a_p a_n a_c), (.slice b_p b_n b_c)] w R :=
  Ret.of_fsem Try.func30 rfl (Eq.mp (laws_eqIntS_eq a_p a_n a_c b_p b_n b_c w R) h)

end Go.Proofs.Ytjbbelfocdbeeaa
