/-
  Parts of the proof of nextRow_holds: G6, G7, G8.
  Conditions: none.
-/
import Derived.Test.YtfemmmbkhhemaaaGreatDoorNRo2

namespace Go.Proofs.YtfemmmbkhhemaaaGreatDoor
open Go Go.Proofs.YtfemmmbkhhemaaaGreatDoor.Sx
set_option linter.unusedVariables false
set_option maxRecDepth 100000
def impl_ratsOk (r0 : Bool) (r1_p : Option Addr) (r1_n : Nat) (r1_c : Nat) (r2_p : Option Addr) (r2_n : Nat) (r2_c : Nat) (s0 : Bool) (s1_p : Option Addr) (s1_n : Nat) (s1_c : Nat) (s2_p : Option Addr) (s2_n : Nat) (s2_c : Nat) (w : World) (R : Value → World → Prop) : Prop :=
  ∀ (r : Nat) (wv : World), New w (.cells ⟨[(.bool r0), (.slice r1_p r1_n r1_c), (.slice r2_p r2_n r2_c)]⟩ 35 (0, 0)) r wv →
  ∀ (r_1 : Nat) (wv_1 : World), New wv (.cells ⟨[(.bool s0), (.slice s1_p s1_n s1_c), (.slice s2_p s2_n s2_c)]⟩ 35 (0, 0)) r_1 wv_1 →
  ∃ (t50 : Bool) (t51_p : Option Addr) (t51_n : Nat) (t51_c : Nat) (t52_p : Option Addr) (t52_n : Nat) (t52_c : Nat), Loads P 35 ⟨r, 0, none⟩ (.agg #[(.bool t50), (.slice t51_p t51_n t51_c), (.slice t52_p t52_n t52_c)]) wv_1 ∧ Calls P 143 ⟨[(.agg #[(.bool t50), (.slice t51_p t51_n t51_c), (.slice t52_p t52_n t52_c)])]⟩ wv_1 fun e wv_2 =>
  ∃ (t6 : Bool), e = .returned (.bool t6) ∧
  (t6 = true →
    ∃ (t80 : Bool) (t81_p : Option Addr) (t81_n : Nat) (t81_c : Nat) (t82_p : Option Addr) (t82_n : Nat) (t82_c : Nat), Loads P 35 ⟨r_1, 0, none⟩ (.agg #[(.bool t80), (.slice t81_p t81_n t81_c), (.slice t82_p t82_n t82_c)]) wv_2 ∧ Calls P 143 ⟨[(.agg #[(.bool t80), (.slice t81_p t81_n t81_c), (.slice t82_p t82_n t82_c)])]⟩ wv_2 fun e_1 wv_3 =>
    ∃ (t9 : Bool), e_1 = .returned (.bool t9) ∧
    R (.bool t9) wv_3) ∧
  (t6 = false →
    R (.bool false) wv_2)
theorem impl_ratsOk_eq (r0 : Bool) (r1_p : Option Addr) (r1_n : Nat) (r1_c : Nat) (r2_p : Option Addr) (r2_n : Nat) (r2_c : Nat) (s0 : Bool) (s1_p : Option Addr) (s1_n : Nat) (s1_c : Nat) (s2_p : Option Addr) (s2_n : Nat) (s2_c : Nat) (w : World) (R : Value → World → Prop) : impl_ratsOk r0 r1_p r1_n r1_c r2_p r2_n r2_c s0 s1_p s1_n s1_c s2_p s2_n s2_c w R = fsem P Tryz.f97 (fun k => []) [(.agg #[(.bool r0), (.slice r1_p r1_n r1_c), (.slice r2_p r2_n r2_c)]), (.agg #[(.bool s0), (.slice s1_p s1_n s1_c), (.slice s2_p s2_n s2_c)])] R w := by kernel_rfl
theorem impl_ratsOk_ret {r0 : Bool} {r1_p : Option Addr} {r1_n : Nat} {r1_c : Nat} {r2_p : Option Addr} {r2_n : Nat} {r2_c : Nat} {s0 : Bool} {s1_p : Option Addr} {s1_n : Nat} {s1_c : Nat} {s2_p : Option Addr} {s2_n : Nat} {s2_c : Nat} {w : World} {R : Value → World → Prop} (h : impl_ratsOk r0 r1_p r1_n r1_c r2_p r2_n r2_c s0 s1_p s1_n s1_c s2_p s2_n s2_c w R) : Ret P 97 [(.agg #[(.bool r0), (.slice r1_p r1_n r1_c), (.slice r2_p r2_n r2_c)]), (.agg #[(.bool s0), (.slice s1_p s1_n s1_c), (.slice s2_p s2_n s2_c)])] w R :=
  Ret.of_fsem Tryz.func97 rfl (Eq.mp (impl_ratsOk_eq r0 r1_p r1_n r1_c r2_p r2_n r2_c s0 s1_p s1_n s1_c s2_p s2_n s2_c w R) h)
def impl_reduce (num0 : Bool) (num1_p : Option Addr) (num1_n : Nat) (num1_c : Nat) (den_p : Option Addr) (den_n : Nat) (den_c : Nat) (w : World) (R : Value → World → Prop) : Prop :=
  ∀ (r : Nat) (wv : World), New w (.cells ⟨[(.bool num0), (.slice num1_p num1_n num1_c)]⟩ 31 (0, 0)) r wv →
  ∀ (r_1 : Nat) (wv_1 : World), New wv (.cells ⟨[(.bool false), (.slice none 0 0), (.slice none 0 0)]⟩ 35 (0, 0)) r_1 wv_1 →
  ∃ (t12_p : Option Addr) (t12_n : Nat) (t12_c : Nat), Loads P 22 ((⟨r, 0, none⟩ : Addr).add 1) (.slice t12_p t12_n t12_c) wv_1 ∧ Calls P 144 ⟨[(.slice t12_p t12_n t12_c), (.slice den_p den_n den_c)]⟩ wv_1 fun e wv_2 =>
  ∃ (t14_p : Option Addr) (t14_n : Nat) (t14_c : Nat), e = .returned (.slice t14_p t14_n t14_c) ∧
  ∃ (t17_p : Option Addr) (t17_n : Nat) (t17_c : Nat), Loads P 22 ((⟨r, 0, none⟩ : Addr).add 1) (.slice t17_p t17_n t17_c) wv_2 ∧ Calls P 145 ⟨[(.slice t17_p t17_n t17_c), (.slice t14_p t14_n t14_c)]⟩ wv_2 fun e_1 wv_3 =>
  ∃ (t19_p : Option Addr) (t19_n : Nat) (t19_c : Nat) (t19_p_1 : Option Addr) (t19_n_1 : Nat) (t19_c_1 : Nat), e_1 = .returned (.tuple #[(.slice t19_p t19_n t19_c), (.slice t19_p_1 t19_n_1 t19_c_1)]) ∧
  Calls P 145 ⟨[(.slice den_p den_n den_c), (.slice t14_p t14_n t14_c)]⟩ wv_3 fun e_2 wv_4 =>
  ∃ (t25_p : Option Addr) (t25_n : Nat) (t25_c : Nat) (t25_p_1 : Option Addr) (t25_n_1 : Nat) (t25_c_1 : Nat), e_2 = .returned (.tuple #[(.slice t25_p t25_n t25_c), (.slice t25_p_1 t25_n_1 t25_c_1)]) ∧
  ((decide ((18 : Int) < ((t19_n : Nat) : Int))) = true →
    (true = true →
      ∃ wv_5, Stores P 35 ⟨r_1, 0, none⟩ (.agg #[(.bool false), (.slice none 0 0), (.slice none 0 0)]) wv_4 wv_5 ∧
      ∃ (r0 : Bool) (r1_p : Option Addr) (r1_n : Nat) (r1_c : Nat) (r2_p : Option Addr) (r2_n : Nat) (r2_c : Nat), Loads P 35 ⟨r_1, 0, none⟩ (.agg #[(.bool r0), (.slice r1_p r1_n r1_c), (.slice r2_p r2_n r2_c)]) wv_5 ∧ R (.tuple #[(.agg #[(.bool r0), (.slice r1_p r1_n r1_c), (.slice r2_p r2_n r2_c)]), (.bool false)]) wv_5) ∧
    (true = false →
      ∃ (t38 : Bool), Loads P 4 ((⟨r, 0, none⟩ : Addr).add 0) (.bool t38) wv_4 ∧ Calls P 112 ⟨[(.bool t38), (.slice t19_p t19_n t19_c)]⟩ wv_4 fun e_3 wv_6 =>
      ∃ (t400 : Bool) (t401_p : Option Addr) (t401_n : Nat) (t401_c : Nat), e_3 = .returned (.agg #[(.bool t400), (.slice t401_p t401_n t401_c)]) ∧
      ∃ wv_7, Stores P 35 ⟨r_1, 0, none⟩ (.agg #[(.bool t400), (.slice t401_p t401_n t401_c), (.slice t25_p t25_n t25_c)]) wv_6 wv_7 ∧
      ∃ (r0_1 : Bool) (r1_p_1 : Option Addr) (r1_n_1 : Nat) (r1_c_1 : Nat) (r2_p_1 : Option Addr) (r2_n_1 : Nat) (r2_c_1 : Nat), Loads P 35 ⟨r_1, 0, none⟩ (.agg #[(.bool r0_1), (.slice r1_p_1 r1_n_1 r1_c_1), (.slice r2_p_1 r2_n_1 r2_c_1)]) wv_7 ∧ R (.tuple #[(.agg #[(.bool r0_1), (.slice r1_p_1 r1_n_1 r1_c_1), (.slice r2_p_1 r2_n_1 r2_c_1)]), (.bool true)]) wv_7)) ∧
  ((decide ((18 : Int) < ((t19_n : Nat) : Int))) = false →
    ((decide ((18 : Int) < ((t25_n : Nat) : Int))) = true →
      ∃ wv_8, Stores P 35 ⟨r_1, 0, none⟩ (.agg #[(.bool false), (.slice none 0 0), (.slice none 0 0)]) wv_4 wv_8 ∧
      ∃ (r0_2 : Bool) (r1_p_2 : Option Addr) (r1_n_2 : Nat) (r1_c_2 : Nat) (r2_p_2 : Option Addr) (r2_n_2 : Nat) (r2_c_2 : Nat), Loads P 35 ⟨r_1, 0, none⟩ (.agg #[(.bool r0_2), (.slice r1_p_2 r1_n_2 r1_c_2), (.slice r2_p_2 r2_n_2 r2_c_2)]) wv_8 ∧ R (.tuple #[(.agg #[(.bool r0_2), (.slice r1_p_2 r1_n_2 r1_c_2), (.slice r2_p_2 r2_n_2 r2_c_2)]), (.bool false)]) wv_8) ∧
    ((decide ((18 : Int) < ((t25_n : Nat) : Int))) = false →
      ∃ (t38_1 : Bool), Loads P 4 ((⟨r, 0, none⟩ : Addr).add 0) (.bool t38_1) wv_4 ∧ Calls P 112 ⟨[(.bool t38_1), (.slice t19_p t19_n t19_c)]⟩ wv_4 fun e_4 wv_9 =>
      ∃ (t400_1 : Bool) (t401_p_1 : Option Addr) (t401_n_1 : Nat) (t401_c_1 : Nat), e_4 = .returned (.agg #[(.bool t400_1), (.slice t401_p_1 t401_n_1 t401_c_1)]) ∧
      ∃ wv_10, Stores P 35 ⟨r_1, 0, none⟩ (.agg #[(.bool t400_1), (.slice t401_p_1 t401_n_1 t401_c_1), (.slice t25_p t25_n t25_c)]) wv_9 wv_10 ∧
      ∃ (r0_3 : Bool) (r1_p_3 : Option Addr) (r1_n_3 : Nat) (r1_c_3 : Nat) (r2_p_3 : Option Addr) (r2_n_3 : Nat) (r2_c_3 : Nat), Loads P 35 ⟨r_1, 0, none⟩ (.agg #[(.bool r0_3), (.slice r1_p_3 r1_n_3 r1_c_3), (.slice r2_p_3 r2_n_3 r2_c_3)]) wv_10 ∧ R (.tuple #[(.agg #[(.bool r0_3), (.slice r1_p_3 r1_n_3 r1_c_3), (.slice r2_p_3 r2_n_3 r2_c_3)]), (.bool true)]) wv_10))
theorem impl_reduce_eq (num0 : Bool) (num1_p : Option Addr) (num1_n : Nat) (num1_c : Nat) (den_p : Option Addr) (den_n : Nat) (den_c : Nat) (w : World) (R : Value → World → Prop) : impl_reduce num0 num1_p num1_n num1_c den_p den_n den_c w R = fsem P Tryz.f98 (fun k => []) [(.agg #[(.bool num0), (.slice num1_p num1_n num1_c)]), (.slice den_p den_n den_c)] R w := by kernel_rfl
theorem impl_reduce_ret {num0 : Bool} {num1_p : Option Addr} {num1_n : Nat} {num1_c : Nat} {den_p : Option Addr} {den_n : Nat} {den_c : Nat} {w : World} {R : Value → World → Prop} (h : impl_reduce num0 num1_p num1_n num1_c den_p den_n den_c w R) : Ret P 98 [(.agg #[(.bool num0), (.slice num1_p num1_n num1_c)]), (.slice den_p den_n den_c)] w R :=
  Ret.of_fsem Tryz.func98 rfl (Eq.mp (impl_reduce_eq num0 num1_p num1_n num1_c den_p den_n den_c w R) h)
def impl_intMul (x0 : Bool) (x1_p : Option Addr) (x1_n : Nat) (x1_c : Nat) (y0 : Bool) (y1_p : Option Addr) (y1_n : Nat) (y1_c : Nat) (w : World) (R : Value → World → Prop) : Prop :=
  ∀ (r : Nat) (wv : World), New w (.cells ⟨[(.bool x0), (.slice x1_p x1_n x1_c)]⟩ 31 (0, 0)) r wv →
  ∀ (r_1 : Nat) (wv_1 : World), New wv (.cells ⟨[(.bool y0), (.slice y1_p y1_n y1_c)]⟩ 31 (0, 0)) r_1 wv_1 →
  ∀ (r_2 : Nat) (wv_2 : World), New wv_1 (.cells ⟨[(.bool false), (.slice none 0 0)]⟩ 31 (0, 0)) r_2 wv_2 →
  ∃ (t6 : Bool), (∀ wv_3, Ext wv_2.drew wv_3 → Loads P 4 ((⟨r, 0, none⟩ : Addr).add 0) (.bool t6) wv_3) ∧ ∃ (t8 : Bool), (∀ wv_4, Ext wv_2.drew wv_4 → Loads P 4 ((⟨r_1, 0, none⟩ : Addr).add 0) (.bool t8) wv_4) ∧ ∃ (t11_p : Option Addr) (t11_n : Nat) (t11_c : Nat), (∀ wv_5, Ext wv_2.drew wv_5 → Loads P 22 ((⟨r, 0, none⟩ : Addr).add 1) (.slice t11_p t11_n t11_c) wv_5) ∧ ∃ (t13_p : Option Addr) (t13_n : Nat) (t13_c : Nat), (∀ wv_6, Ext wv_2.drew wv_6 → Loads P 22 ((⟨r_1, 0, none⟩ : Addr).add 1) (.slice t13_p t13_n t13_c) wv_6) ∧ Calls P 100 ⟨[(.slice t11_p t11_n t11_c), (.slice t13_p t13_n t13_c)]⟩ wv_2.drew fun e wv_7 =>
  ∃ (t14_p : Option Addr) (t14_n : Nat) (t14_c : Nat), e = .returned (.slice t14_p t14_n t14_c) ∧
  Ext wv_2.drew wv_7 ∧ Calls P 112 ⟨[(.bool (!(t6 == t8))), (.slice t14_p t14_n t14_c)]⟩ wv_7 fun e_1 wv_8 =>
  ∃ (t150 : Bool) (t151_p : Option Addr) (t151_n : Nat) (t151_c : Nat), e_1 = .returned (.agg #[(.bool t150), (.slice t151_p t151_n t151_c)]) ∧
  ∃ wv_9, Stores P 31 ⟨r_2, 0, none⟩ (.agg #[(.bool t150), (.slice t151_p t151_n t151_c)]) wv_8 wv_9 ∧
  ∃ (r0 : Bool) (r1_p : Option Addr) (r1_n : Nat) (r1_c : Nat), Loads P 31 ⟨r_2, 0, none⟩ (.agg #[(.bool r0), (.slice r1_p r1_n r1_c)]) wv_9 ∧ R (.agg #[(.bool r0), (.slice r1_p r1_n r1_c)]) wv_9
theorem impl_intMul_eq (x0 : Bool) (x1_p : Option Addr) (x1_n : Nat) (x1_c : Nat) (y0 : Bool) (y1_p : Option Addr) (y1_n : Nat) (y1_c : Nat) (w : World) (R : Value → World → Prop) : impl_intMul x0 x1_p x1_n x1_c y0 y1_p y1_n y1_c w R = fsem P Tryz.f99 (fun k => []) [(.agg #[(.bool x0), (.slice x1_p x1_n x1_c)]), (.agg #[(.bool y0), (.slice y1_p y1_n y1_c)])] R w := by kernel_rfl
theorem impl_intMul_ret {x0 : Bool} {x1_p : Option Addr} {x1_n : Nat} {x1_c : Nat} {y0 : Bool} {y1_p : Option Addr} {y1_n : Nat} {y1_c : Nat} {w : World} {R : Value → World → Prop} (h : impl_intMul x0 x1_p x1_n x1_c y0 y1_p y1_n y1_c w R) : Ret P 99 [(.agg #[(.bool x0), (.slice x1_p x1_n x1_c)]), (.agg #[(.bool y0), (.slice y1_p y1_n y1_c)])] w R :=
  Ret.of_fsem Tryz.func99 rfl (Eq.mp (impl_intMul_eq x0 x1_p x1_n x1_c y0 y1_p y1_n y1_c w R) h)
def impl_natMul (a_p : Option Addr) (a_n : Nat) (a_c : Nat) (b_p : Option Addr) (b_n : Nat) (b_c : Nat) (w : World) (R : Value → World → Prop) : Prop :=
  ∃ t16 : Int, t16 = IntKind.wrap .i64 (((a_n : Nat) : Int) + ((b_n : Nat) : Int)) ∧ ∃ t17 : Int, t17 = IntKind.wrap .i64 (t16 + 1) ∧ (0 ≤ (t17 : Int) ∧ (t17 : Int) ≤ t17 ∧ ((8 : Nat) : Int) * t17 ≤ 281474976710656) ∧
  ∀ (r : Nat) (wv : World), New w (.cells ⟨zeroRow (.int .i64 0) (t17.toNat * 1)⟩ 3 (0, 0)) r wv →
  ∃ (Inv : Int → World → Prop) (mu : Int → World → Nat), Inv 0 wv ∧
  ∀ (junk : Fr) (wv_1 : World) (t21 : Int), Inv t21 wv_1 →
    ((decide ((t21 : Int) < ((a_n : Nat) : Int))) = true →
      (0 ≤ (t21 : Int) ∧ (t21 : Int) < (a_n : Nat)) ∧ ptrS a_p fun ad => ∃ (t25 : Int), Loads P 3 (ad.add (t21.toNat * 1)) (.int .i64 t25) wv_1 ∧ ∃ (Inv_1 : Int → Int → World → Prop) (mu_1 : Int → Int → World → Nat), Inv_1 0 0 wv_1 ∧
      ∀ (junk_1 : Fr) (wv_2 : World) (carry : Int) (t28 : Int), Inv_1 carry t28 wv_2 →
        ((decide ((t28 : Int) < ((b_n : Nat) : Int))) = true →
          (0 ≤ (t28 : Int) ∧ (t28 : Int) < (b_n : Nat)) ∧ ptrS b_p fun ad_1 => ∃ (t32 : Int), Loads P 3 (ad_1.add (t28.toNat * 1)) (.int .i64 t32) wv_2 ∧ ∃ t37 : Int, t37 = IntKind.wrap .i64 (t21 + t28) ∧ (0 ≤ (t37 : Int) ∧ (t37 : Int) < (t17.toNat : Nat)) ∧ ∃ (t39 : Int), Loads P 3 ((⟨r, 0, none⟩ : Addr).add (t37.toNat * 1)) (.int .i64 t39) wv_2 ∧ ∃ t42 : Int, t42 = IntKind.wrap .i64 (t25 * t32) ∧ ∃ t43 : Int, t43 = IntKind.wrap .i64 (t39 + t42) ∧ ∃ t44 : Int, t44 = IntKind.wrap .i64 (carry + t43) ∧ ∃ t48 : Int, t48 = IntKind.wrap .i64 (t21 + t28) ∧ (1000000000 : Int) ≠ 0 ∧ ∃ t50 : Int, t50 = Int.tmod t44 1000000000 ∧ (0 ≤ (t48 : Int) ∧ (t48 : Int) < (t17.toNat : Nat)) ∧ ∃ wv_3, Stores P 3 ((⟨r, 0, none⟩ : Addr).add (t48.toNat * 1)) (.int .i64 t50) wv_2 wv_3 ∧
          (1000000000 : Int) ≠ 0 ∧ ∃ t53 : Int, t53 = IntKind.wrap .i64 (Int.tdiv t44 1000000000) ∧ ∃ t54 : Int, t54 = IntKind.wrap .i64 (t28 + 1) ∧ Inv_1 t53 t54 wv_3 ∧ mu_1 t53 t54 wv_3 < mu_1 carry t28 wv_2) ∧
        ((decide ((t28 : Int) < ((b_n : Nat) : Int))) = false →
          ∃ t58 : Int, t58 = IntKind.wrap .i64 (t21 + ((b_n : Nat) : Int)) ∧ ∃ (Inv_2 : Int → Int → World → Prop) (mu_2 : Int → Int → World → Nat), Inv_2 carry t58 wv_2 ∧
          ∀ (junk_2 : Fr) (wv_4 : World) (carry_1 : Int) (k : Int), Inv_2 carry_1 k wv_4 →
            ((decide ((0 : Int) < carry_1)) = true →
              (0 ≤ (k : Int) ∧ (k : Int) < (t17.toNat : Nat)) ∧ ∃ (t67 : Int), Loads P 3 ((⟨r, 0, none⟩ : Addr).add (k.toNat * 1)) (.int .i64 t67) wv_4 ∧ ∃ t68 : Int, t68 = IntKind.wrap .i64 (carry_1 + t67) ∧ (1000000000 : Int) ≠ 0 ∧ ∃ t72 : Int, t72 = Int.tmod t68 1000000000 ∧ (0 ≤ (k : Int) ∧ (k : Int) < (t17.toNat : Nat)) ∧ ∃ wv_5, Stores P 3 ((⟨r, 0, none⟩ : Addr).add (k.toNat * 1)) (.int .i64 t72) wv_4 wv_5 ∧
              (1000000000 : Int) ≠ 0 ∧ ∃ t75 : Int, t75 = IntKind.wrap .i64 (Int.tdiv t68 1000000000) ∧ ∃ t62 : Int, t62 = IntKind.wrap .i64 (k + 1) ∧ Inv_2 t75 t62 wv_5 ∧ mu_2 t75 t62 wv_5 < mu_2 carry_1 k wv_4) ∧
            ((decide ((0 : Int) < carry_1)) = false →
              ∃ t76 : Int, t76 = IntKind.wrap .i64 (t21 + 1) ∧ Inv t76 wv_4 ∧ mu t76 wv_4 < mu t21 wv_1))) ∧
    ((decide ((t21 : Int) < ((a_n : Nat) : Int))) = false →
      Calls P 146 ⟨[(.slice (some ⟨r, 0, none⟩) t17.toNat t17.toNat)]⟩ wv_1 fun e wv_6 =>
      ∃ (t78_p : Option Addr) (t78_n : Nat) (t78_c : Nat), e = .returned (.slice t78_p t78_n t78_c) ∧
      R (.slice t78_p t78_n t78_c) wv_6)
theorem impl_natMul_eq (a_p : Option Addr) (a_n : Nat) (a_c : Nat) (b_p : Option Addr) (b_n : Nat) (b_c : Nat) (w : World) (R : Value → World → Prop) : impl_natMul a_p a_n a_c b_p b_n b_c w R = fsem P Tryz.f100 (fun k => cond (Nat.beq k 4) [(21, .one (.int .i64))] (cond (Nat.beq k 8) [(8, .one (.int .i64)), (28, .one (.int .i64))] (cond (Nat.beq k 15) [(8, .one (.int .i64)), (11, .one (.int .i64))] ([])))) [(.slice a_p a_n a_c), (.slice b_p b_n b_c)] R w := by kernel_rfl
theorem impl_natMul_ret {a_p : Option Addr} {a_n : Nat} {a_c : Nat} {b_p : Option Addr} {b_n : Nat} {b_c : Nat} {w : World} {R : Value → World → Prop} (h : impl_natMul a_p a_n a_c b_p b_n b_c w R) : Ret P 100 [(.slice a_p a_n a_c), (.slice b_p b_n b_c)] w R :=
  Ret.of_fsem Tryz.func100 rfl (Eq.mp (impl_natMul_eq a_p a_n a_c b_p b_n b_c w R) h)
def impl_intCopy (x0 : Bool) (x1_p : Option Addr) (x1_n : Nat) (x1_c : Nat) (w : World) (R : Value → World → Prop) : Prop :=
  ∀ (r : Nat) (wv : World), New w (.cells ⟨[(.bool x0), (.slice x1_p x1_n x1_c)]⟩ 31 (0, 0)) r wv →
  ∀ (r_1 : Nat) (wv_1 : World), New wv (.cells ⟨[(.bool false), (.slice none 0 0)]⟩ 31 (0, 0)) r_1 wv_1 →
  ∃ (t4 : Bool), (∀ wv_2, Ext wv_1.drew wv_2 → Loads P 4 ((⟨r, 0, none⟩ : Addr).add 0) (.bool t4) wv_2) ∧ ∃ (t6_p : Option Addr) (t6_n : Nat) (t6_c : Nat), (∀ wv_3, Ext wv_1.drew wv_3 → Loads P 22 ((⟨r, 0, none⟩ : Addr).add 1) (.slice t6_p t6_n t6_c) wv_3) ∧ Calls P 147 ⟨[(.slice t6_p t6_n t6_c)]⟩ wv_1.drew fun e wv_4 =>
  ∃ (t7_p : Option Addr) (t7_n : Nat) (t7_c : Nat), e = .returned (.slice t7_p t7_n t7_c) ∧
  Ext wv_1.drew wv_4 ∧ ∃ wv_5, Stores P 31 ⟨r_1, 0, none⟩ (.agg #[(.bool t4), (.slice t7_p t7_n t7_c)]) wv_4 wv_5 ∧
  ∃ (r0 : Bool) (r1_p : Option Addr) (r1_n : Nat) (r1_c : Nat), Loads P 31 ⟨r_1, 0, none⟩ (.agg #[(.bool r0), (.slice r1_p r1_n r1_c)]) wv_5 ∧ R (.agg #[(.bool r0), (.slice r1_p r1_n r1_c)]) wv_5
theorem impl_intCopy_eq (x0 : Bool) (x1_p : Option Addr) (x1_n : Nat) (x1_c : Nat) (w : World) (R : Value → World → Prop) : impl_intCopy x0 x1_p x1_n x1_c w R = fsem P Tryz.f101 (fun k => []) [(.agg #[(.bool x0), (.slice x1_p x1_n x1_c)])] R w := by kernel_rfl
theorem impl_intCopy_ret {x0 : Bool} {x1_p : Option Addr} {x1_n : Nat} {x1_c : Nat} {w : World} {R : Value → World → Prop} (h : impl_intCopy x0 x1_p x1_n x1_c w R) : Ret P 101 [(.agg #[(.bool x0), (.slice x1_p x1_n x1_c)])] w R :=
  Ret.of_fsem Tryz.func101 rfl (Eq.mp (impl_intCopy_eq x0 x1_p x1_n x1_c w R) h)
def impl_natTen (k : Int) (w : World) (R : Value → World → Prop) : Prop :=
  (9 : Int) ≠ 0 ∧ ∃ t6 : Int, t6 = IntKind.wrap .i64 (Int.tdiv k 9) ∧ (9 : Int) ≠ 0 ∧ ∃ t8 : Int, t8 = IntKind.wrap .i64 (Int.tdiv k 9) ∧ ∃ t9 : Int, t9 = IntKind.wrap .i64 (t8 + 1) ∧ (0 ≤ (t6 : Int) ∧ (t6 : Int) ≤ t9 ∧ ((8 : Nat) : Int) * t9 ≤ 281474976710656) ∧
  ∀ (r : Nat) (wv : World), New w (.cells ⟨zeroRow (.int .i64 0) (t9.toNat * 1)⟩ 3 (0, 0)) r wv →
  (9 : Int) ≠ 0 ∧ ∃ t12 : Int, t12 = Int.tmod k 9 ∧ ∃ (Inv : Int → Int → World → Prop) (mu : Int → Int → World → Nat), Inv 1 0 wv ∧
  ∀ (junk : Fr) (wv_1 : World) (top : Int) (t13 : Int), Inv top t13 wv_1 →
    ((decide ((t13 : Int) < t12)) = true →
      ∃ t16 : Int, t16 = IntKind.wrap .i64 (top * 10) ∧ ∃ t17 : Int, t17 = IntKind.wrap .i64 (t13 + 1) ∧ Inv t16 t17 wv_1 ∧ mu t16 t17 wv_1 < mu top t13 wv_1) ∧
    ((decide ((t13 : Int) < t12)) = false →
      ∀ (r_1 : Nat) (wv_2 : World), New wv_1 (.cells ⟨[(.int .i64 top)]⟩ 3 (0, 0)) r_1 wv_2 →
      ∃ (t21_p : Option Addr) (t21_n : Nat) (t21_c : Nat) (wv_3 : World), Appends P [22, 22] [(.slice (some ⟨r, 0, none⟩) t6.toNat t9.toNat), (.slice (some ⟨r_1, 0, none⟩) 1 1)] (.slice t21_p t21_n t21_c) wv_2 wv_3 ∧
      R (.slice t21_p t21_n t21_c) wv_3)
theorem impl_natTen_eq (k : Int) (w : World) (R : Value → World → Prop) : impl_natTen k w R = fsem P Tryz.f102 (fun k => cond (Nat.beq k 5) [(4, .one (.int .i64)), (13, .one (.int .i64))] ([])) [(.int .i64 k)] R w := by kernel_rfl
theorem impl_natTen_ret {k : Int} {w : World} {R : Value → World → Prop} (h : impl_natTen k w R) : Ret P 102 [(.int .i64 k)] w R :=
  Ret.of_fsem Tryz.func102 rfl (Eq.mp (impl_natTen_eq k w R) h)
def impl_RatRest (r0 : Bool) (r1_p : Option Addr) (r1_n : Nat) (r1_c : Nat) (r2_p : Option Addr) (r2_n : Nat) (r2_c : Nat) (m : Int) (w : World) (R : Value → World → Prop) : Prop :=
  ∀ (r : Nat) (wv : World), New w (.cells ⟨[(.bool r0), (.slice r1_p r1_n r1_c), (.slice r2_p r2_n r2_c)]⟩ 35 (0, 0)) r wv →
  ∀ (r_1 : Nat) (wv_1 : World), New wv (.cells ⟨[(.bool false), (.slice none 0 0)]⟩ 31 (0, 0)) r_1 wv_1 →
  ∀ (r_2 : Nat) (wv_2 : World), New wv_1 (.cells ⟨[(.bool false), (.slice none 0 0), (.slice none 0 0)]⟩ 35 (0, 0)) r_2 wv_2 →
  ∃ (t140 : Bool) (t141_p : Option Addr) (t141_n : Nat) (t141_c : Nat) (t142_p : Option Addr) (t142_n : Nat) (t142_c : Nat), Loads P 35 ⟨r, 0, none⟩ (.agg #[(.bool t140), (.slice t141_p t141_n t141_c), (.slice t142_p t142_n t142_c)]) wv_2 ∧ Calls P 148 ⟨[(.agg #[(.bool t140), (.slice t141_p t141_n t141_c), (.slice t142_p t142_n t142_c)]), (.int .i64 m)]⟩ wv_2 fun e wv_3 =>
  ∃ (t160 : Bool) (t161_p : Option Addr) (t161_n : Nat) (t161_c : Nat) (t16 : Bool), e = .returned (.tuple #[(.agg #[(.bool t160), (.slice t161_p t161_n t161_c)]), (.bool t16)]) ∧
  ∀ (r_3 : Nat) (wv_4 : World), New wv_3 (.cells ⟨[(.bool false), (.slice none 0 0)]⟩ 31 (0, 0)) r_3 wv_4 →
  ∃ wv_5, Stores P 31 ⟨r_3, 0, none⟩ (.agg #[(.bool t160), (.slice t161_p t161_n t161_c)]) wv_4 wv_5 ∧
  ((!t16) = true →
    ∃ wv_6, Stores P 31 ⟨r_1, 0, none⟩ (.agg #[(.bool false), (.slice none 0 0)]) wv_5 wv_6 ∧
    ∃ wv_7, Stores P 35 ⟨r_2, 0, none⟩ (.agg #[(.bool false), (.slice none 0 0), (.slice none 0 0)]) wv_6 wv_7 ∧
    ∃ (r0_1 : Bool) (r1_p_1 : Option Addr) (r1_n_1 : Nat) (r1_c_1 : Nat), Loads P 31 ⟨r_1, 0, none⟩ (.agg #[(.bool r0_1), (.slice r1_p_1 r1_n_1 r1_c_1)]) wv_7 ∧ ∃ (r0_2 : Bool) (r1_p_2 : Option Addr) (r1_n_2 : Nat) (r1_c_2 : Nat) (r2_p_1 : Option Addr) (r2_n_1 : Nat) (r2_c_1 : Nat), Loads P 35 ⟨r_2, 0, none⟩ (.agg #[(.bool r0_2), (.slice r1_p_2 r1_n_2 r1_c_2), (.slice r2_p_1 r2_n_1 r2_c_1)]) wv_7 ∧ R (.tuple #[(.agg #[(.bool r0_1), (.slice r1_p_1 r1_n_1 r1_c_1)]), (.agg #[(.bool r0_2), (.slice r1_p_2 r1_n_2 r1_c_2), (.slice r2_p_1 r2_n_1 r2_c_1)]), (.bool false)]) wv_7) ∧
  ((!t16) = false →
    ∃ (t240 : Bool) (t241_p : Option Addr) (t241_n : Nat) (t241_c : Nat), Loads P 31 ⟨r_3, 0, none⟩ (.agg #[(.bool t240), (.slice t241_p t241_n t241_c)]) wv_5 ∧ Calls P 62 ⟨[(.agg #[(.bool t240), (.slice t241_p t241_n t241_c)])]⟩ wv_5 fun e_1 wv_8 =>
    ∃ (t250 : Bool) (t251_p : Option Addr) (t251_n : Nat) (t251_c : Nat) (t252_p : Option Addr) (t252_n : Nat) (t252_c : Nat) (t25 : Bool), e_1 = .returned (.tuple #[(.agg #[(.bool t250), (.slice t251_p t251_n t251_c), (.slice t252_p t252_n t252_c)]), (.bool t25)]) ∧
    ∀ (r_4 : Nat) (wv_9 : World), New wv_8 (.cells ⟨[(.bool false), (.slice none 0 0), (.slice none 0 0)]⟩ 35 (0, 0)) r_4 wv_9 →
    ∃ wv_10, Stores P 35 ⟨r_4, 0, none⟩ (.agg #[(.bool t250), (.slice t251_p t251_n t251_c), (.slice t252_p t252_n t252_c)]) wv_9 wv_10 ∧
    ∃ (t290 : Bool) (t291_p : Option Addr) (t291_n : Nat) (t291_c : Nat) (t292_p : Option Addr) (t292_n : Nat) (t292_c : Nat), Loads P 35 ⟨r, 0, none⟩ (.agg #[(.bool t290), (.slice t291_p t291_n t291_c), (.slice t292_p t292_n t292_c)]) wv_10 ∧ ∃ (t300 : Bool) (t301_p : Option Addr) (t301_n : Nat) (t301_c : Nat) (t302_p : Option Addr) (t302_n : Nat) (t302_c : Nat), Loads P 35 ⟨r_4, 0, none⟩ (.agg #[(.bool t300), (.slice t301_p t301_n t301_c), (.slice t302_p t302_n t302_c)]) wv_10 ∧ Calls P 149 ⟨[(.agg #[(.bool t290), (.slice t291_p t291_n t291_c), (.slice t292_p t292_n t292_c)]), (.agg #[(.bool t300), (.slice t301_p t301_n t301_c), (.slice t302_p t302_n t302_c)])]⟩ wv_10 fun e_2 wv_11 =>
    ∃ (t310 : Bool) (t311_p : Option Addr) (t311_n : Nat) (t311_c : Nat) (t312_p : Option Addr) (t312_n : Nat) (t312_c : Nat) (t31 : Bool), e_2 = .returned (.tuple #[(.agg #[(.bool t310), (.slice t311_p t311_n t311_c), (.slice t312_p t312_n t312_c)]), (.bool t31)]) ∧
    ∀ (r_5 : Nat) (wv_12 : World), New wv_11 (.cells ⟨[(.bool false), (.slice none 0 0), (.slice none 0 0)]⟩ 35 (0, 0)) r_5 wv_12 →
    ∃ wv_13, Stores P 35 ⟨r_5, 0, none⟩ (.agg #[(.bool t310), (.slice t311_p t311_n t311_c), (.slice t312_p t312_n t312_c)]) wv_12 wv_13 ∧
    ((!t25) = true →
      (true = true →
        ∃ wv_14, Stores P 31 ⟨r_1, 0, none⟩ (.agg #[(.bool false), (.slice none 0 0)]) wv_13 wv_14 ∧
        ∃ wv_15, Stores P 35 ⟨r_2, 0, none⟩ (.agg #[(.bool false), (.slice none 0 0), (.slice none 0 0)]) wv_14 wv_15 ∧
        ∃ (r0_3 : Bool) (r1_p_3 : Option Addr) (r1_n_3 : Nat) (r1_c_3 : Nat), Loads P 31 ⟨r_1, 0, none⟩ (.agg #[(.bool r0_3), (.slice r1_p_3 r1_n_3 r1_c_3)]) wv_15 ∧ ∃ (r0_4 : Bool) (r1_p_4 : Option Addr) (r1_n_4 : Nat) (r1_c_4 : Nat) (r2_p_2 : Option Addr) (r2_n_2 : Nat) (r2_c_2 : Nat), Loads P 35 ⟨r_2, 0, none⟩ (.agg #[(.bool r0_4), (.slice r1_p_4 r1_n_4 r1_c_4), (.slice r2_p_2 r2_n_2 r2_c_2)]) wv_15 ∧ R (.tuple #[(.agg #[(.bool r0_3), (.slice r1_p_3 r1_n_3 r1_c_3)]), (.agg #[(.bool r0_4), (.slice r1_p_4 r1_n_4 r1_c_4), (.slice r2_p_2 r2_n_2 r2_c_2)]), (.bool false)]) wv_15) ∧
      (true = false →
        ∃ blks : List Nat, ∃ (t420 : Bool) (t421_p : Option Addr) (t421_n : Nat) (t421_c : Nat), (∀ wv_16, EX blks wv_13.drew wv_16 → Loads P 31 ⟨r_3, 0, none⟩ (.agg #[(.bool t420), (.slice t421_p t421_n t421_c)]) wv_16) ∧ ∃ (t430 : Bool) (t431_p : Option Addr) (t431_n : Nat) (t431_c : Nat) (t432_p : Option Addr) (t432_n : Nat) (t432_c : Nat), (∀ wv_17, EX blks wv_13.drew wv_17 → Loads P 35 ⟨r_5, 0, none⟩ (.agg #[(.bool t430), (.slice t431_p t431_n t431_c), (.slice t432_p t432_n t432_c)]) wv_17) ∧ ∃ wv_18, Stores P 31 ⟨r_1, 0, none⟩ (.agg #[(.bool t420), (.slice t421_p t421_n t421_c)]) wv_13.drew wv_18 ∧
        EX blks wv_13.drew wv_18 ∧ ∃ wv_19, Stores P 35 ⟨r_2, 0, none⟩ (.agg #[(.bool t430), (.slice t431_p t431_n t431_c), (.slice t432_p t432_n t432_c)]) wv_18 wv_19 ∧
        ∃ (r0_5 : Bool) (r1_p_5 : Option Addr) (r1_n_5 : Nat) (r1_c_5 : Nat), Loads P 31 ⟨r_1, 0, none⟩ (.agg #[(.bool r0_5), (.slice r1_p_5 r1_n_5 r1_c_5)]) wv_19 ∧ ∃ (r0_6 : Bool) (r1_p_6 : Option Addr) (r1_n_6 : Nat) (r1_c_6 : Nat) (r2_p_3 : Option Addr) (r2_n_3 : Nat) (r2_c_3 : Nat), Loads P 35 ⟨r_2, 0, none⟩ (.agg #[(.bool r0_6), (.slice r1_p_6 r1_n_6 r1_c_6), (.slice r2_p_3 r2_n_3 r2_c_3)]) wv_19 ∧ R (.tuple #[(.agg #[(.bool r0_5), (.slice r1_p_5 r1_n_5 r1_c_5)]), (.agg #[(.bool r0_6), (.slice r1_p_6 r1_n_6 r1_c_6), (.slice r2_p_3 r2_n_3 r2_c_3)]), (.bool true)]) wv_19)) ∧
    ((!t25) = false →
      ((!t31) = true →
        ∃ wv_20, Stores P 31 ⟨r_1, 0, none⟩ (.agg #[(.bool false), (.slice none 0 0)]) wv_13 wv_20 ∧
        ∃ wv_21, Stores P 35 ⟨r_2, 0, none⟩ (.agg #[(.bool false), (.slice none 0 0), (.slice none 0 0)]) wv_20 wv_21 ∧
        ∃ (r0_7 : Bool) (r1_p_7 : Option Addr) (r1_n_7 : Nat) (r1_c_7 : Nat), Loads P 31 ⟨r_1, 0, none⟩ (.agg #[(.bool r0_7), (.slice r1_p_7 r1_n_7 r1_c_7)]) wv_21 ∧ ∃ (r0_8 : Bool) (r1_p_8 : Option Addr) (r1_n_8 : Nat) (r1_c_8 : Nat) (r2_p_4 : Option Addr) (r2_n_4 : Nat) (r2_c_4 : Nat), Loads P 35 ⟨r_2, 0, none⟩ (.agg #[(.bool r0_8), (.slice r1_p_8 r1_n_8 r1_c_8), (.slice r2_p_4 r2_n_4 r2_c_4)]) wv_21 ∧ R (.tuple #[(.agg #[(.bool r0_7), (.slice r1_p_7 r1_n_7 r1_c_7)]), (.agg #[(.bool r0_8), (.slice r1_p_8 r1_n_8 r1_c_8), (.slice r2_p_4 r2_n_4 r2_c_4)]), (.bool false)]) wv_21) ∧
      ((!t31) = false →
        ∃ blks_1 : List Nat, ∃ (t420_1 : Bool) (t421_p_1 : Option Addr) (t421_n_1 : Nat) (t421_c_1 : Nat), (∀ wv_22, EX blks_1 wv_13.drew wv_22 → Loads P 31 ⟨r_3, 0, none⟩ (.agg #[(.bool t420_1), (.slice t421_p_1 t421_n_1 t421_c_1)]) wv_22) ∧ ∃ (t430_1 : Bool) (t431_p_1 : Option Addr) (t431_n_1 : Nat) (t431_c_1 : Nat) (t432_p_1 : Option Addr) (t432_n_1 : Nat) (t432_c_1 : Nat), (∀ wv_23, EX blks_1 wv_13.drew wv_23 → Loads P 35 ⟨r_5, 0, none⟩ (.agg #[(.bool t430_1), (.slice t431_p_1 t431_n_1 t431_c_1), (.slice t432_p_1 t432_n_1 t432_c_1)]) wv_23) ∧ ∃ wv_24, Stores P 31 ⟨r_1, 0, none⟩ (.agg #[(.bool t420_1), (.slice t421_p_1 t421_n_1 t421_c_1)]) wv_13.drew wv_24 ∧
        EX blks_1 wv_13.drew wv_24 ∧ ∃ wv_25, Stores P 35 ⟨r_2, 0, none⟩ (.agg #[(.bool t430_1), (.slice t431_p_1 t431_n_1 t431_c_1), (.slice t432_p_1 t432_n_1 t432_c_1)]) wv_24 wv_25 ∧
        ∃ (r0_9 : Bool) (r1_p_9 : Option Addr) (r1_n_9 : Nat) (r1_c_9 : Nat), Loads P 31 ⟨r_1, 0, none⟩ (.agg #[(.bool r0_9), (.slice r1_p_9 r1_n_9 r1_c_9)]) wv_25 ∧ ∃ (r0_10 : Bool) (r1_p_10 : Option Addr) (r1_n_10 : Nat) (r1_c_10 : Nat) (r2_p_5 : Option Addr) (r2_n_5 : Nat) (r2_c_5 : Nat), Loads P 35 ⟨r_2, 0, none⟩ (.agg #[(.bool r0_10), (.slice r1_p_10 r1_n_10 r1_c_10), (.slice r2_p_5 r2_n_5 r2_c_5)]) wv_25 ∧ R (.tuple #[(.agg #[(.bool r0_9), (.slice r1_p_9 r1_n_9 r1_c_9)]), (.agg #[(.bool r0_10), (.slice r1_p_10 r1_n_10 r1_c_10), (.slice r2_p_5 r2_n_5 r2_c_5)]), (.bool true)]) wv_25)))
theorem impl_RatRest_eq (r0 : Bool) (r1_p : Option Addr) (r1_n : Nat) (r1_c : Nat) (r2_p : Option Addr) (r2_n : Nat) (r2_c : Nat) (m : Int) (w : World) (R : Value → World → Prop) : impl_RatRest r0 r1_p r1_n r1_c r2_p r2_n r2_c m w R = fsem P Tryz.f103 (fun k => []) [(.agg #[(.bool r0), (.slice r1_p r1_n r1_c), (.slice r2_p r2_n r2_c)]), (.int .i64 m)] R w := by kernel_rfl
theorem impl_RatRest_ret {r0 : Bool} {r1_p : Option Addr} {r1_n : Nat} {r1_c : Nat} {r2_p : Option Addr} {r2_n : Nat} {r2_c : Nat} {m : Int} {w : World} {R : Value → World → Prop} (h : impl_RatRest r0 r1_p r1_n r1_c r2_p r2_n r2_c m w R) : Ret P 103 [(.agg #[(.bool r0), (.slice r1_p r1_n r1_c), (.slice r2_p r2_n r2_c)]), (.int .i64 m)] w R :=
  Ret.of_fsem Tryz.func103 rfl (Eq.mp (impl_RatRest_eq r0 r1_p r1_n r1_c r2_p r2_n r2_c m w R) h)
def impl_moneyOf (cur : ByteArray) (units0 : Bool) (units1_p : Option Addr) (units1_n : Nat) (units1_c : Nat) (w : World) (R : Value → World → Prop) : Prop :=
  ∀ (r : Nat) (wv : World), New w (.cells ⟨[(.bool units0), (.slice units1_p units1_n units1_c)]⟩ 31 (0, 0)) r wv →
  ∀ (r_1 : Nat) (wv_1 : World), New wv (.cells ⟨[(.string ByteArray.empty), (.bool false), (.slice none 0 0)]⟩ 33 (0, 0)) r_1 wv_1 →
  ∃ (t80 : Bool) (t81_p : Option Addr) (t81_n : Nat) (t81_c : Nat), Loads P 31 ⟨r, 0, none⟩ (.agg #[(.bool t80), (.slice t81_p t81_n t81_c)]) wv_1 ∧ ∀ (r_2 : Nat) (wv_2 : World), New wv_1 (.cells ⟨[(.string ByteArray.empty), (.bool false), (.slice none 0 0)]⟩ 33 (0, 0)) r_2 wv_2 →
  ∃ wv_3, Stores P 33 ⟨r_2, 0, none⟩ (.agg #[(.string cur), (.bool t80), (.slice t81_p t81_n t81_c)]) wv_2 wv_3 ∧
  ∃ (t100 : ByteArray) (t101 : Bool) (t102_p : Option Addr) (t102_n : Nat) (t102_c : Nat), Loads P 33 ⟨r_2, 0, none⟩ (.agg #[(.string t100), (.bool t101), (.slice t102_p t102_n t102_c)]) wv_3 ∧ Calls P 45 ⟨[(.agg #[(.string t100), (.bool t101), (.slice t102_p t102_n t102_c)])]⟩ wv_3 fun e wv_4 =>
  ∃ (t11 : Bool), e = .returned (.bool t11) ∧
  (t11 = true →
    ∃ (t120 : ByteArray) (t121 : Bool) (t122_p : Option Addr) (t122_n : Nat) (t122_c : Nat), Loads P 33 ⟨r_2, 0, none⟩ (.agg #[(.string t120), (.bool t121), (.slice t122_p t122_n t122_c)]) wv_4 ∧ ∃ wv_5, Stores P 33 ⟨r_1, 0, none⟩ (.agg #[(.string t120), (.bool t121), (.slice t122_p t122_n t122_c)]) wv_4 wv_5 ∧
    ∃ (r0 : ByteArray) (r1 : Bool) (r2_p : Option Addr) (r2_n : Nat) (r2_c : Nat), Loads P 33 ⟨r_1, 0, none⟩ (.agg #[(.string r0), (.bool r1), (.slice r2_p r2_n r2_c)]) wv_5 ∧ R (.tuple #[(.agg #[(.string r0), (.bool r1), (.slice r2_p r2_n r2_c)]), (.bool true)]) wv_5) ∧
  (t11 = false →
    ∃ wv_6, Stores P 33 ⟨r_1, 0, none⟩ (.agg #[(.string ByteArray.empty), (.bool false), (.slice none 0 0)]) wv_4 wv_6 ∧
    ∃ (r0_1 : ByteArray) (r1_1 : Bool) (r2_p_1 : Option Addr) (r2_n_1 : Nat) (r2_c_1 : Nat), Loads P 33 ⟨r_1, 0, none⟩ (.agg #[(.string r0_1), (.bool r1_1), (.slice r2_p_1 r2_n_1 r2_c_1)]) wv_6 ∧ R (.tuple #[(.agg #[(.string r0_1), (.bool r1_1), (.slice r2_p_1 r2_n_1 r2_c_1)]), (.bool false)]) wv_6)
theorem impl_moneyOf_eq (cur : ByteArray) (units0 : Bool) (units1_p : Option Addr) (units1_n : Nat) (units1_c : Nat) (w : World) (R : Value → World → Prop) : impl_moneyOf cur units0 units1_p units1_n units1_c w R = fsem P Tryz.f104 (fun k => []) [(.string cur), (.agg #[(.bool units0), (.slice units1_p units1_n units1_c)])] R w := by kernel_rfl
theorem impl_moneyOf_ret {cur : ByteArray} {units0 : Bool} {units1_p : Option Addr} {units1_n : Nat} {units1_c : Nat} {w : World} {R : Value → World → Prop} (h : impl_moneyOf cur units0 units1_p units1_n units1_c w R) : Ret P 104 [(.string cur), (.agg #[(.bool units0), (.slice units1_p units1_n units1_c)])] w R :=
  Ret.of_fsem Tryz.func104 rfl (Eq.mp (impl_moneyOf_eq cur units0 units1_p units1_n units1_c w R) h)
def spec_NatOf (n : Int) (w : World) (R : Value → World → Prop) : Prop :=
  ∀ (r : Nat) (wv : World), New w (.cells ⟨[]⟩ 3 (0, 0)) r wv →
  ∃ (Inv : Int → Option Addr → Nat → Nat → World → Prop) (mu : Int → Option Addr → Nat → Nat → World → Nat), Inv n (some ⟨r, 0, none⟩) 0 0 wv ∧
  ∀ (junk : Fr) (wv_1 : World) (n_1 : Int) (out_p : Option Addr) (out_n : Nat) (out_c : Nat), Inv n_1 out_p out_n out_c wv_1 →
    ((decide ((0 : Int) < n_1)) = true →
      (1000000000 : Int) ≠ 0 ∧ ∃ t9 : Int, t9 = Int.tmod n_1 1000000000 ∧ ∀ (r_1 : Nat) (wv_2 : World), New wv_1 (.cells ⟨[(.int .i64 t9)]⟩ 3 (0, 0)) r_1 wv_2 →
      ∃ (t11_p : Option Addr) (t11_n : Nat) (t11_c : Nat) (wv_3 : World), Appends P [22, 22] [(.slice out_p out_n out_c), (.slice (some ⟨r_1, 0, none⟩) 1 1)] (.slice t11_p t11_n t11_c) wv_2 wv_3 ∧
      (1000000000 : Int) ≠ 0 ∧ ∃ t13 : Int, t13 = IntKind.wrap .i64 (Int.tdiv n_1 1000000000) ∧ Inv t13 t11_p t11_n t11_c wv_3 ∧ mu t13 t11_p t11_n t11_c wv_3 < mu n_1 out_p out_n out_c wv_1) ∧
    ((decide ((0 : Int) < n_1)) = false →
      R (.slice out_p out_n out_c) wv_1)
theorem spec_NatOf_eq (n : Int) (w : World) (R : Value → World → Prop) : spec_NatOf n w R = fsem P Tryz.f105 (fun k => cond (Nat.beq k 3) [(0, .one (.int .i64)), (3, .one .slice)] ([])) [(.int .i64 n)] R w := by kernel_rfl
theorem spec_NatOf_ret {n : Int} {w : World} {R : Value → World → Prop} (h : spec_NatOf n w R) : Ret P 105 [(.int .i64 n)] w R :=
  Ret.of_fsem Tryz.func105 rfl (Eq.mp (spec_NatOf_eq n w R) h)
def spec_l04Add (x0 : Bool) (x1_p : Option Addr) (x1_n : Nat) (x1_c : Nat) (y0 : Bool) (y1_p : Option Addr) (y1_n : Nat) (y1_c : Nat) (w : World) (R : Value → World → Prop) : Prop :=
  ∀ (r : Nat) (wv : World), New w (.cells ⟨[(.bool x0), (.slice x1_p x1_n x1_c)]⟩ 31 (0, 0)) r wv →
  ∀ (r_1 : Nat) (wv_1 : World), New wv (.cells ⟨[(.bool y0), (.slice y1_p y1_n y1_c)]⟩ 31 (0, 0)) r_1 wv_1 →
  ∀ (r_2 : Nat) (wv_2 : World), New wv_1 (.cells ⟨[(.bool false), (.slice none 0 0)]⟩ 31 (0, 0)) r_2 wv_2 →
  ∃ (t6 : Bool), Loads P 4 ((⟨r, 0, none⟩ : Addr).add 0) (.bool t6) wv_2 ∧ ∃ (t8 : Bool), Loads P 4 ((⟨r_1, 0, none⟩ : Addr).add 0) (.bool t8) wv_2 ∧ ((t6 == t8) = true →
    ∃ (t11 : Bool), (∀ wv_3, Ext wv_2.drew wv_3 → Loads P 4 ((⟨r, 0, none⟩ : Addr).add 0) (.bool t11) wv_3) ∧ ∃ (t13_p : Option Addr) (t13_n : Nat) (t13_c : Nat), (∀ wv_4, Ext wv_2.drew wv_4 → Loads P 22 ((⟨r, 0, none⟩ : Addr).add 1) (.slice t13_p t13_n t13_c) wv_4) ∧ ∃ (t15_p : Option Addr) (t15_n : Nat) (t15_c : Nat), (∀ wv_5, Ext wv_2.drew wv_5 → Loads P 22 ((⟨r_1, 0, none⟩ : Addr).add 1) (.slice t15_p t15_n t15_c) wv_5) ∧ Calls P 150 ⟨[(.slice t13_p t13_n t13_c), (.slice t15_p t15_n t15_c)]⟩ wv_2.drew fun e wv_6 =>
    ∃ (t16_p : Option Addr) (t16_n : Nat) (t16_c : Nat), e = .returned (.slice t16_p t16_n t16_c) ∧
    Ext wv_2.drew wv_6 ∧ Calls P 70 ⟨[(.bool t11), (.slice t16_p t16_n t16_c)]⟩ wv_6 fun e_1 wv_7 =>
    ∃ (t170 : Bool) (t171_p : Option Addr) (t171_n : Nat) (t171_c : Nat), e_1 = .returned (.agg #[(.bool t170), (.slice t171_p t171_n t171_c)]) ∧
    ∃ wv_8, Stores P 31 ⟨r_2, 0, none⟩ (.agg #[(.bool t170), (.slice t171_p t171_n t171_c)]) wv_7 wv_8 ∧
    ∃ (r0 : Bool) (r1_p : Option Addr) (r1_n : Nat) (r1_c : Nat), Loads P 31 ⟨r_2, 0, none⟩ (.agg #[(.bool r0), (.slice r1_p r1_n r1_c)]) wv_8 ∧ R (.agg #[(.bool r0), (.slice r1_p r1_n r1_c)]) wv_8) ∧
  ((t6 == t8) = false →
    ∃ (t19_p : Option Addr) (t19_n : Nat) (t19_c : Nat), Loads P 22 ((⟨r, 0, none⟩ : Addr).add 1) (.slice t19_p t19_n t19_c) wv_2 ∧ ∃ (t21_p : Option Addr) (t21_n : Nat) (t21_c : Nat), Loads P 22 ((⟨r_1, 0, none⟩ : Addr).add 1) (.slice t21_p t21_n t21_c) wv_2 ∧ Calls P 115 ⟨[(.slice t19_p t19_n t19_c), (.slice t21_p t21_n t21_c)]⟩ wv_2 fun e_2 wv_9 =>
    ∃ (t22 : Int), e_2 = .returned (.int .i64 t22) ∧
    ((decide ((0 : Int) ≤ t22)) = true →
      ∃ (t25 : Bool), (∀ wv_10, Ext wv_9.drew wv_10 → Loads P 4 ((⟨r, 0, none⟩ : Addr).add 0) (.bool t25) wv_10) ∧ ∃ (t27_p : Option Addr) (t27_n : Nat) (t27_c : Nat), (∀ wv_11, Ext wv_9.drew wv_11 → Loads P 22 ((⟨r, 0, none⟩ : Addr).add 1) (.slice t27_p t27_n t27_c) wv_11) ∧ ∃ (t29_p : Option Addr) (t29_n : Nat) (t29_c : Nat), (∀ wv_12, Ext wv_9.drew wv_12 → Loads P 22 ((⟨r_1, 0, none⟩ : Addr).add 1) (.slice t29_p t29_n t29_c) wv_12) ∧ Calls P 151 ⟨[(.slice t27_p t27_n t27_c), (.slice t29_p t29_n t29_c)]⟩ wv_9.drew fun e_3 wv_13 =>
      ∃ (t30_p : Option Addr) (t30_n : Nat) (t30_c : Nat), e_3 = .returned (.slice t30_p t30_n t30_c) ∧
      Ext wv_9.drew wv_13 ∧ Calls P 70 ⟨[(.bool t25), (.slice t30_p t30_n t30_c)]⟩ wv_13 fun e_4 wv_14 =>
      ∃ (t310 : Bool) (t311_p : Option Addr) (t311_n : Nat) (t311_c : Nat), e_4 = .returned (.agg #[(.bool t310), (.slice t311_p t311_n t311_c)]) ∧
      ∃ wv_15, Stores P 31 ⟨r_2, 0, none⟩ (.agg #[(.bool t310), (.slice t311_p t311_n t311_c)]) wv_14 wv_15 ∧
      ∃ (r0_1 : Bool) (r1_p_1 : Option Addr) (r1_n_1 : Nat) (r1_c_1 : Nat), Loads P 31 ⟨r_2, 0, none⟩ (.agg #[(.bool r0_1), (.slice r1_p_1 r1_n_1 r1_c_1)]) wv_15 ∧ R (.agg #[(.bool r0_1), (.slice r1_p_1 r1_n_1 r1_c_1)]) wv_15) ∧
    ((decide ((0 : Int) ≤ t22)) = false →
      ∃ (t33 : Bool), (∀ wv_16, Ext wv_9.drew wv_16 → Loads P 4 ((⟨r_1, 0, none⟩ : Addr).add 0) (.bool t33) wv_16) ∧ ∃ (t35_p : Option Addr) (t35_n : Nat) (t35_c : Nat), (∀ wv_17, Ext wv_9.drew wv_17 → Loads P 22 ((⟨r_1, 0, none⟩ : Addr).add 1) (.slice t35_p t35_n t35_c) wv_17) ∧ ∃ (t37_p : Option Addr) (t37_n : Nat) (t37_c : Nat), (∀ wv_18, Ext wv_9.drew wv_18 → Loads P 22 ((⟨r, 0, none⟩ : Addr).add 1) (.slice t37_p t37_n t37_c) wv_18) ∧ Calls P 151 ⟨[(.slice t35_p t35_n t35_c), (.slice t37_p t37_n t37_c)]⟩ wv_9.drew fun e_5 wv_19 =>
      ∃ (t38_p : Option Addr) (t38_n : Nat) (t38_c : Nat), e_5 = .returned (.slice t38_p t38_n t38_c) ∧
      Ext wv_9.drew wv_19 ∧ Calls P 70 ⟨[(.bool t33), (.slice t38_p t38_n t38_c)]⟩ wv_19 fun e_6 wv_20 =>
      ∃ (t390 : Bool) (t391_p : Option Addr) (t391_n : Nat) (t391_c : Nat), e_6 = .returned (.agg #[(.bool t390), (.slice t391_p t391_n t391_c)]) ∧
      ∃ wv_21, Stores P 31 ⟨r_2, 0, none⟩ (.agg #[(.bool t390), (.slice t391_p t391_n t391_c)]) wv_20 wv_21 ∧
      ∃ (r0_2 : Bool) (r1_p_2 : Option Addr) (r1_n_2 : Nat) (r1_c_2 : Nat), Loads P 31 ⟨r_2, 0, none⟩ (.agg #[(.bool r0_2), (.slice r1_p_2 r1_n_2 r1_c_2)]) wv_21 ∧ R (.agg #[(.bool r0_2), (.slice r1_p_2 r1_n_2 r1_c_2)]) wv_21))
theorem spec_l04Add_eq (x0 : Bool) (x1_p : Option Addr) (x1_n : Nat) (x1_c : Nat) (y0 : Bool) (y1_p : Option Addr) (y1_n : Nat) (y1_c : Nat) (w : World) (R : Value → World → Prop) : spec_l04Add x0 x1_p x1_n x1_c y0 y1_p y1_n y1_c w R = fsem P Tryz.f106 (fun k => []) [(.agg #[(.bool x0), (.slice x1_p x1_n x1_c)]), (.agg #[(.bool y0), (.slice y1_p y1_n y1_c)])] R w := by kernel_rfl
theorem spec_l04Add_ret {x0 : Bool} {x1_p : Option Addr} {x1_n : Nat} {x1_c : Nat} {y0 : Bool} {y1_p : Option Addr} {y1_n : Nat} {y1_c : Nat} {w : World} {R : Value → World → Prop} (h : spec_l04Add x0 x1_p x1_n x1_c y0 y1_p y1_n y1_c w R) : Ret P 106 [(.agg #[(.bool x0), (.slice x1_p x1_n x1_c)]), (.agg #[(.bool y0), (.slice y1_p y1_n y1_c)])] w R :=
  Ret.of_fsem Tryz.func106 rfl (Eq.mp (spec_l04Add_eq x0 x1_p x1_n x1_c y0 y1_p y1_n y1_c w R) h)
def spec_IntSub (x0 : Bool) (x1_p : Option Addr) (x1_n : Nat) (x1_c : Nat) (y0 : Bool) (y1_p : Option Addr) (y1_n : Nat) (y1_c : Nat) (w : World) (R : Value → World → Prop) : Prop :=
  ∀ (r : Nat) (wv : World), New w (.cells ⟨[(.bool x0), (.slice x1_p x1_n x1_c)]⟩ 31 (0, 0)) r wv →
  ∀ (r_1 : Nat) (wv_1 : World), New wv (.cells ⟨[(.bool y0), (.slice y1_p y1_n y1_c)]⟩ 31 (0, 0)) r_1 wv_1 →
  ∀ (r_2 : Nat) (wv_2 : World), New wv_1 (.cells ⟨[(.bool false), (.slice none 0 0)]⟩ 31 (0, 0)) r_2 wv_2 →
  ∃ (t50 : Bool) (t51_p : Option Addr) (t51_n : Nat) (t51_c : Nat), Loads P 31 ⟨r, 0, none⟩ (.agg #[(.bool t50), (.slice t51_p t51_n t51_c)]) wv_2 ∧ Calls P 82 ⟨[(.agg #[(.bool t50), (.slice t51_p t51_n t51_c)])]⟩ wv_2 fun e wv_3 =>
  ∃ (t6 : Bool), e = .returned (.bool t6) ∧
  ((!t6) = true →
    (true = true →
      ∃ wv_4, Stores P 31 ⟨r_2, 0, none⟩ (.agg #[(.bool false), (.slice none 0 0)]) wv_3 wv_4 ∧
      ∃ (r0 : Bool) (r1_p : Option Addr) (r1_n : Nat) (r1_c : Nat), Loads P 31 ⟨r_2, 0, none⟩ (.agg #[(.bool r0), (.slice r1_p r1_n r1_c)]) wv_4 ∧ R (.agg #[(.bool r0), (.slice r1_p r1_n r1_c)]) wv_4) ∧
    (true = false →
      ∃ (t140 : Bool) (t141_p : Option Addr) (t141_n : Nat) (t141_c : Nat), (∀ wv_5, Ext wv_3.drew wv_5 → Loads P 31 ⟨r, 0, none⟩ (.agg #[(.bool t140), (.slice t141_p t141_n t141_c)]) wv_5) ∧ ∃ (t150 : Bool) (t151_p : Option Addr) (t151_n : Nat) (t151_c : Nat), (∀ wv_6, Ext wv_3.drew wv_6 → Loads P 31 ⟨r_1, 0, none⟩ (.agg #[(.bool t150), (.slice t151_p t151_n t151_c)]) wv_6) ∧ Calls P 152 ⟨[(.agg #[(.bool t150), (.slice t151_p t151_n t151_c)])]⟩ wv_3.drew fun e_1 wv_7 =>
      ∃ (t160 : Bool) (t161_p : Option Addr) (t161_n : Nat) (t161_c : Nat), e_1 = .returned (.agg #[(.bool t160), (.slice t161_p t161_n t161_c)]) ∧
      Ext wv_3.drew wv_7 ∧ Calls P 106 ⟨[(.agg #[(.bool t140), (.slice t141_p t141_n t141_c)]), (.agg #[(.bool t160), (.slice t161_p t161_n t161_c)])]⟩ wv_7 fun e_2 wv_8 =>
      ∃ (t170 : Bool) (t171_p : Option Addr) (t171_n : Nat) (t171_c : Nat), e_2 = .returned (.agg #[(.bool t170), (.slice t171_p t171_n t171_c)]) ∧
      ∃ wv_9, Stores P 31 ⟨r_2, 0, none⟩ (.agg #[(.bool t170), (.slice t171_p t171_n t171_c)]) wv_8 wv_9 ∧
      ∃ (r0_1 : Bool) (r1_p_1 : Option Addr) (r1_n_1 : Nat) (r1_c_1 : Nat), Loads P 31 ⟨r_2, 0, none⟩ (.agg #[(.bool r0_1), (.slice r1_p_1 r1_n_1 r1_c_1)]) wv_9 ∧ R (.agg #[(.bool r0_1), (.slice r1_p_1 r1_n_1 r1_c_1)]) wv_9)) ∧
  ((!t6) = false →
    ∃ (t90 : Bool) (t91_p : Option Addr) (t91_n : Nat) (t91_c : Nat), Loads P 31 ⟨r_1, 0, none⟩ (.agg #[(.bool t90), (.slice t91_p t91_n t91_c)]) wv_3 ∧ Calls P 82 ⟨[(.agg #[(.bool t90), (.slice t91_p t91_n t91_c)])]⟩ wv_3 fun e_3 wv_10 =>
    ∃ (t10 : Bool), e_3 = .returned (.bool t10) ∧
    ((!t10) = true →
      ∃ wv_11, Stores P 31 ⟨r_2, 0, none⟩ (.agg #[(.bool false), (.slice none 0 0)]) wv_10 wv_11 ∧
      ∃ (r0_2 : Bool) (r1_p_2 : Option Addr) (r1_n_2 : Nat) (r1_c_2 : Nat), Loads P 31 ⟨r_2, 0, none⟩ (.agg #[(.bool r0_2), (.slice r1_p_2 r1_n_2 r1_c_2)]) wv_11 ∧ R (.agg #[(.bool r0_2), (.slice r1_p_2 r1_n_2 r1_c_2)]) wv_11) ∧
    ((!t10) = false →
      ∃ (t140_1 : Bool) (t141_p_1 : Option Addr) (t141_n_1 : Nat) (t141_c_1 : Nat), (∀ wv_12, Ext wv_10.drew wv_12 → Loads P 31 ⟨r, 0, none⟩ (.agg #[(.bool t140_1), (.slice t141_p_1 t141_n_1 t141_c_1)]) wv_12) ∧ ∃ (t150_1 : Bool) (t151_p_1 : Option Addr) (t151_n_1 : Nat) (t151_c_1 : Nat), (∀ wv_13, Ext wv_10.drew wv_13 → Loads P 31 ⟨r_1, 0, none⟩ (.agg #[(.bool t150_1), (.slice t151_p_1 t151_n_1 t151_c_1)]) wv_13) ∧ Calls P 152 ⟨[(.agg #[(.bool t150_1), (.slice t151_p_1 t151_n_1 t151_c_1)])]⟩ wv_10.drew fun e_4 wv_14 =>
      ∃ (t160_1 : Bool) (t161_p_1 : Option Addr) (t161_n_1 : Nat) (t161_c_1 : Nat), e_4 = .returned (.agg #[(.bool t160_1), (.slice t161_p_1 t161_n_1 t161_c_1)]) ∧
      Ext wv_10.drew wv_14 ∧ Calls P 106 ⟨[(.agg #[(.bool t140_1), (.slice t141_p_1 t141_n_1 t141_c_1)]), (.agg #[(.bool t160_1), (.slice t161_p_1 t161_n_1 t161_c_1)])]⟩ wv_14 fun e_5 wv_15 =>
      ∃ (t170_1 : Bool) (t171_p_1 : Option Addr) (t171_n_1 : Nat) (t171_c_1 : Nat), e_5 = .returned (.agg #[(.bool t170_1), (.slice t171_p_1 t171_n_1 t171_c_1)]) ∧
      ∃ wv_16, Stores P 31 ⟨r_2, 0, none⟩ (.agg #[(.bool t170_1), (.slice t171_p_1 t171_n_1 t171_c_1)]) wv_15 wv_16 ∧
      ∃ (r0_3 : Bool) (r1_p_3 : Option Addr) (r1_n_3 : Nat) (r1_c_3 : Nat), Loads P 31 ⟨r_2, 0, none⟩ (.agg #[(.bool r0_3), (.slice r1_p_3 r1_n_3 r1_c_3)]) wv_16 ∧ R (.agg #[(.bool r0_3), (.slice r1_p_3 r1_n_3 r1_c_3)]) wv_16))
theorem spec_IntSub_eq (x0 : Bool) (x1_p : Option Addr) (x1_n : Nat) (x1_c : Nat) (y0 : Bool) (y1_p : Option Addr) (y1_n : Nat) (y1_c : Nat) (w : World) (R : Value → World → Prop) : spec_IntSub x0 x1_p x1_n x1_c y0 y1_p y1_n y1_c w R = fsem P Tryz.f107 (fun k => []) [(.agg #[(.bool x0), (.slice x1_p x1_n x1_c)]), (.agg #[(.bool y0), (.slice y1_p y1_n y1_c)])] R w := by kernel_rfl
theorem spec_IntSub_ret {x0 : Bool} {x1_p : Option Addr} {x1_n : Nat} {x1_c : Nat} {y0 : Bool} {y1_p : Option Addr} {y1_n : Nat} {y1_c : Nat} {w : World} {R : Value → World → Prop} (h : spec_IntSub x0 x1_p x1_n x1_c y0 y1_p y1_n y1_c w R) : Ret P 107 [(.agg #[(.bool x0), (.slice x1_p x1_n x1_c)]), (.agg #[(.bool y0), (.slice y1_p y1_n y1_c)])] w R :=
  Ret.of_fsem Tryz.func107 rfl (Eq.mp (spec_IntSub_eq x0 x1_p x1_n x1_c y0 y1_p y1_n y1_c w R) h)
def impl_RatMake_j0 (r : Nat) (r_1 : Nat) (r_2 : Nat) (W : World) (R : Value → World → Prop) : Prop :=
  ∃ (t18 : Bool), (∀ wv_5, Ext W.drew wv_5 → Loads P 4 ((⟨r, 0, none⟩ : Addr).add 0) (.bool t18) wv_5) ∧ ∃ (t20 : Bool), (∀ wv_6, Ext W.drew wv_6 → Loads P 4 ((⟨r_1, 0, none⟩ : Addr).add 0) (.bool t20) wv_6) ∧ ∃ (t23_p : Option Addr) (t23_n : Nat) (t23_c : Nat), (∀ wv_7, Ext W.drew wv_7 → Loads P 22 ((⟨r, 0, none⟩ : Addr).add 1) (.slice t23_p t23_n t23_c) wv_7) ∧ Calls P 112 ⟨[(.bool (!(t18 == t20))), (.slice t23_p t23_n t23_c)]⟩ W.drew fun e_1 wv_8 =>
  ∃ (t240 : Bool) (t241_p : Option Addr) (t241_n : Nat) (t241_c : Nat), e_1 = .returned (.agg #[(.bool t240), (.slice t241_p t241_n t241_c)]) ∧
  Ext W.drew wv_8 ∧ ∃ (t26_p : Option Addr) (t26_n : Nat) (t26_c : Nat), (∀ wv_9, Ext W.drew wv_9 → Loads P 22 ((⟨r_1, 0, none⟩ : Addr).add 1) (.slice t26_p t26_n t26_c) wv_9) ∧ Calls P 98 ⟨[(.agg #[(.bool t240), (.slice t241_p t241_n t241_c)]), (.slice t26_p t26_n t26_c)]⟩ wv_8 fun e_2 wv_10 =>
  ∃ (t270 : Bool) (t271_p : Option Addr) (t271_n : Nat) (t271_c : Nat) (t272_p : Option Addr) (t272_n : Nat) (t272_c : Nat) (t27 : Bool), e_2 = .returned (.tuple #[(.agg #[(.bool t270), (.slice t271_p t271_n t271_c), (.slice t272_p t272_n t272_c)]), (.bool t27)]) ∧
  ∃ wv_11, Stores P 35 ⟨r_2, 0, none⟩ (.agg #[(.bool t270), (.slice t271_p t271_n t271_c), (.slice t272_p t272_n t272_c)]) wv_10 wv_11 ∧
  ∃ (r0_1 : Bool) (r1_p_1 : Option Addr) (r1_n_1 : Nat) (r1_c_1 : Nat) (r2_p_1 : Option Addr) (r2_n_1 : Nat) (r2_c_1 : Nat), Loads P 35 ⟨r_2, 0, none⟩ (.agg #[(.bool r0_1), (.slice r1_p_1 r1_n_1 r1_c_1), (.slice r2_p_1 r2_n_1 r2_c_1)]) wv_11 ∧ R (.tuple #[(.agg #[(.bool r0_1), (.slice r1_p_1 r1_n_1 r1_c_1), (.slice r2_p_1 r2_n_1 r2_c_1)]), (.bool t27)]) wv_11
def impl_RatMake (num0 : Bool) (num1_p : Option Addr) (num1_n : Nat) (num1_c : Nat) (den0 : Bool) (den1_p : Option Addr) (den1_n : Nat) (den1_c : Nat) (w : World) (R : Value → World → Prop) : Prop :=
  ∀ (r : Nat) (wv : World), New w (.cells ⟨[(.bool num0), (.slice num1_p num1_n num1_c)]⟩ 31 (0, 0)) r wv →
  ∀ (r_1 : Nat) (wv_1 : World), New wv (.cells ⟨[(.bool den0), (.slice den1_p den1_n den1_c)]⟩ 31 (0, 0)) r_1 wv_1 →
  ∀ (r_2 : Nat) (wv_2 : World), New wv_1 (.cells ⟨[(.bool false), (.slice none 0 0), (.slice none 0 0)]⟩ 35 (0, 0)) r_2 wv_2 →
  ∃ (t60 : Bool) (t61_p : Option Addr) (t61_n : Nat) (t61_c : Nat), Loads P 31 ⟨r, 0, none⟩ (.agg #[(.bool t60), (.slice t61_p t61_n t61_c)]) wv_2 ∧ ∃ (t70 : Bool) (t71_p : Option Addr) (t71_n : Nat) (t71_c : Nat), Loads P 31 ⟨r_1, 0, none⟩ (.agg #[(.bool t70), (.slice t71_p t71_n t71_c)]) wv_2 ∧ Calls P 153 ⟨[(.agg #[(.bool t60), (.slice t61_p t61_n t61_c)]), (.agg #[(.bool t70), (.slice t71_p t71_n t71_c)])]⟩ wv_2 fun e wv_3 =>
  ∃ (t8 : Bool), e = .returned (.bool t8) ∧
  ((!t8) = true →
    (true = true →
      ∃ wv_4, Stores P 35 ⟨r_2, 0, none⟩ (.agg #[(.bool false), (.slice none 0 0), (.slice none 0 0)]) wv_3 wv_4 ∧
      ∃ (r0 : Bool) (r1_p : Option Addr) (r1_n : Nat) (r1_c : Nat) (r2_p : Option Addr) (r2_n : Nat) (r2_c : Nat), Loads P 35 ⟨r_2, 0, none⟩ (.agg #[(.bool r0), (.slice r1_p r1_n r1_c), (.slice r2_p r2_n r2_c)]) wv_4 ∧ R (.tuple #[(.agg #[(.bool r0), (.slice r1_p r1_n r1_c), (.slice r2_p r2_n r2_c)]), (.bool false)]) wv_4) ∧
    (true = false →
      impl_RatMake_j0 r r_1 r_2 wv_3 R)) ∧
  ((!t8) = false →
    ∃ (t12_p : Option Addr) (t12_n : Nat) (t12_c : Nat), Loads P 22 ((⟨r_1, 0, none⟩ : Addr).add 1) (.slice t12_p t12_n t12_c) wv_3 ∧ ((decide ((((t12_n : Nat) : Int) : Int) = 0)) = true →
      ∃ wv_12, Stores P 35 ⟨r_2, 0, none⟩ (.agg #[(.bool false), (.slice none 0 0), (.slice none 0 0)]) wv_3 wv_12 ∧
      ∃ (r0_2 : Bool) (r1_p_2 : Option Addr) (r1_n_2 : Nat) (r1_c_2 : Nat) (r2_p_2 : Option Addr) (r2_n_2 : Nat) (r2_c_2 : Nat), Loads P 35 ⟨r_2, 0, none⟩ (.agg #[(.bool r0_2), (.slice r1_p_2 r1_n_2 r1_c_2), (.slice r2_p_2 r2_n_2 r2_c_2)]) wv_12 ∧ R (.tuple #[(.agg #[(.bool r0_2), (.slice r1_p_2 r1_n_2 r1_c_2), (.slice r2_p_2 r2_n_2 r2_c_2)]), (.bool false)]) wv_12) ∧
    ((decide ((((t12_n : Nat) : Int) : Int) = 0)) = false →
      impl_RatMake_j0 r r_1 r_2 wv_3 R))
theorem impl_RatMake_eq (num0 : Bool) (num1_p : Option Addr) (num1_n : Nat) (num1_c : Nat) (den0 : Bool) (den1_p : Option Addr) (den1_n : Nat) (den1_c : Nat) (w : World) (R : Value → World → Prop) : impl_RatMake num0 num1_p num1_n num1_c den0 den1_p den1_n den1_c w R = fsem P Tryz.f108 (fun k => []) [(.agg #[(.bool num0), (.slice num1_p num1_n num1_c)]), (.agg #[(.bool den0), (.slice den1_p den1_n den1_c)])] R w := by kernel_rfl
theorem impl_RatMake_ret {num0 : Bool} {num1_p : Option Addr} {num1_n : Nat} {num1_c : Nat} {den0 : Bool} {den1_p : Option Addr} {den1_n : Nat} {den1_c : Nat} {w : World} {R : Value → World → Prop} (h : impl_RatMake num0 num1_p num1_n num1_c den0 den1_p den1_n den1_c w R) : Ret P 108 [(.agg #[(.bool num0), (.slice num1_p num1_n num1_c)]), (.agg #[(.bool den0), (.slice den1_p den1_n den1_c)])] w R :=
  Ret.of_fsem Tryz.func108 rfl (Eq.mp (impl_RatMake_eq num0 num1_p num1_n num1_c den0 den1_p den1_n den1_c w R) h)
def impl_natOf (n : Int) (w : World) (R : Value → World → Prop) : Prop :=
  ∀ (r : Nat) (wv : World), New w (.cells ⟨[]⟩ 3 (0, 0)) r wv →
  ∃ (Inv : Int → Option Addr → Nat → Nat → World → Prop) (mu : Int → Option Addr → Nat → Nat → World → Nat), Inv n (some ⟨r, 0, none⟩) 0 0 wv ∧
  ∀ (junk : Fr) (wv_1 : World) (n_1 : Int) (a_p : Option Addr) (a_n : Nat) (a_c : Nat), Inv n_1 a_p a_n a_c wv_1 →
    ((decide ((0 : Int) < n_1)) = true →
      (1000000000 : Int) ≠ 0 ∧ ∃ t9 : Int, t9 = Int.tmod n_1 1000000000 ∧ ∃ t10 : Int, t10 = IntKind.wrap .i64 t9 ∧ ∀ (r_1 : Nat) (wv_2 : World), New wv_1 (.cells ⟨[(.int .i64 t10)]⟩ 3 (0, 0)) r_1 wv_2 →
      ∃ (t12_p : Option Addr) (t12_n : Nat) (t12_c : Nat) (wv_3 : World), Appends P [22, 22] [(.slice a_p a_n a_c), (.slice (some ⟨r_1, 0, none⟩) 1 1)] (.slice t12_p t12_n t12_c) wv_2 wv_3 ∧
      (1000000000 : Int) ≠ 0 ∧ ∃ t14 : Int, t14 = IntKind.wrap .u64 (Int.tdiv n_1 1000000000) ∧ Inv t14 t12_p t12_n t12_c wv_3 ∧ mu t14 t12_p t12_n t12_c wv_3 < mu n_1 a_p a_n a_c wv_1) ∧
    ((decide ((0 : Int) < n_1)) = false →
      R (.slice a_p a_n a_c) wv_1)
theorem impl_natOf_eq (n : Int) (w : World) (R : Value → World → Prop) : impl_natOf n w R = fsem P Tryz.f109 (fun k => cond (Nat.beq k 3) [(0, .one (.int .u64)), (3, .one .slice)] ([])) [(.int .u64 n)] R w := by kernel_rfl
theorem impl_natOf_ret {n : Int} {w : World} {R : Value → World → Prop} (h : impl_natOf n w R) : Ret P 109 [(.int .u64 n)] w R :=
  Ret.of_fsem Tryz.func109 rfl (Eq.mp (impl_natOf_eq n w R) h)
def impl_Rat_num (r0 : Bool) (r1_p : Option Addr) (r1_n : Nat) (r1_c : Nat) (r2_p : Option Addr) (r2_n : Nat) (r2_c : Nat) (by_p : Option Addr) (by_n : Nat) (by_c : Nat) (w : World) (R : Value → World → Prop) : Prop :=
  ∀ (r : Nat) (wv : World), New w (.cells ⟨[(.bool r0), (.slice r1_p r1_n r1_c), (.slice r2_p r2_n r2_c)]⟩ 35 (0, 0)) r wv →
  ∀ (r_1 : Nat) (wv_1 : World), New wv (.cells ⟨[(.bool false), (.slice none 0 0)]⟩ 31 (0, 0)) r_1 wv_1 →
  ∃ (t7 : Bool), (∀ wv_2, Ext wv_1.drew wv_2 → Loads P 4 (((⟨r, 0, none⟩ : Addr).add 0).add 0) (.bool t7) wv_2) ∧ ∃ (t10_p : Option Addr) (t10_n : Nat) (t10_c : Nat), (∀ wv_3, Ext wv_1.drew wv_3 → Loads P 22 (((⟨r, 0, none⟩ : Addr).add 0).add 1) (.slice t10_p t10_n t10_c) wv_3) ∧ Calls P 100 ⟨[(.slice t10_p t10_n t10_c), (.slice by_p by_n by_c)]⟩ wv_1.drew fun e wv_4 =>
  ∃ (t12_p : Option Addr) (t12_n : Nat) (t12_c : Nat), e = .returned (.slice t12_p t12_n t12_c) ∧
  Ext wv_1.drew wv_4 ∧ Calls P 112 ⟨[(.bool t7), (.slice t12_p t12_n t12_c)]⟩ wv_4 fun e_1 wv_5 =>
  ∃ (t130 : Bool) (t131_p : Option Addr) (t131_n : Nat) (t131_c : Nat), e_1 = .returned (.agg #[(.bool t130), (.slice t131_p t131_n t131_c)]) ∧
  ∃ wv_6, Stores P 31 ⟨r_1, 0, none⟩ (.agg #[(.bool t130), (.slice t131_p t131_n t131_c)]) wv_5 wv_6 ∧
  ∃ (r0_1 : Bool) (r1_p_1 : Option Addr) (r1_n_1 : Nat) (r1_c_1 : Nat), Loads P 31 ⟨r_1, 0, none⟩ (.agg #[(.bool r0_1), (.slice r1_p_1 r1_n_1 r1_c_1)]) wv_6 ∧ R (.agg #[(.bool r0_1), (.slice r1_p_1 r1_n_1 r1_c_1)]) wv_6
theorem impl_Rat_num_eq (r0 : Bool) (r1_p : Option Addr) (r1_n : Nat) (r1_c : Nat) (r2_p : Option Addr) (r2_n : Nat) (r2_c : Nat) (by_p : Option Addr) (by_n : Nat) (by_c : Nat) (w : World) (R : Value → World → Prop) : impl_Rat_num r0 r1_p r1_n r1_c r2_p r2_n r2_c by_p by_n by_c w R = fsem P Tryz.f110 (fun k => []) [(.agg #[(.bool r0), (.slice r1_p r1_n r1_c), (.slice r2_p r2_n r2_c)]), (.slice by_p by_n by_c)] R w := by kernel_rfl
theorem impl_Rat_num_ret {r0 : Bool} {r1_p : Option Addr} {r1_n : Nat} {r1_c : Nat} {r2_p : Option Addr} {r2_n : Nat} {r2_c : Nat} {by_p : Option Addr} {by_n : Nat} {by_c : Nat} {w : World} {R : Value → World → Prop} (h : impl_Rat_num r0 r1_p r1_n r1_c r2_p r2_n r2_c by_p by_n by_c w R) : Ret P 110 [(.agg #[(.bool r0), (.slice r1_p r1_n r1_c), (.slice r2_p r2_n r2_c)]), (.slice by_p by_n by_c)] w R :=
  Ret.of_fsem Tryz.func110 rfl (Eq.mp (impl_Rat_num_eq r0 r1_p r1_n r1_c r2_p r2_n r2_c by_p by_n by_c w R) h)
def impl_intAdd_j0 (r : Nat) (r_1 : Nat) (r_2 : Nat) (W : World) (R : Value → World → Prop) : Prop :=
  ∃ (t27 : Bool), (∀ wv_12, Ext W.drew wv_12 → Loads P 4 ((⟨r, 0, none⟩ : Addr).add 0) (.bool t27) wv_12) ∧ ∃ (t29_p : Option Addr) (t29_n : Nat) (t29_c : Nat), (∀ wv_13, Ext W.drew wv_13 → Loads P 22 ((⟨r, 0, none⟩ : Addr).add 1) (.slice t29_p t29_n t29_c) wv_13) ∧ ∃ (t31_p : Option Addr) (t31_n : Nat) (t31_c : Nat), (∀ wv_14, Ext W.drew wv_14 → Loads P 22 ((⟨r_1, 0, none⟩ : Addr).add 1) (.slice t31_p t31_n t31_c) wv_14) ∧ Calls P 127 ⟨[(.slice t29_p t29_n t29_c), (.slice t31_p t31_n t31_c)]⟩ W.drew fun e_3 wv_15 =>
  ∃ (t32_p : Option Addr) (t32_n : Nat) (t32_c : Nat), e_3 = .returned (.slice t32_p t32_n t32_c) ∧
  Ext W.drew wv_15 ∧ Calls P 112 ⟨[(.bool t27), (.slice t32_p t32_n t32_c)]⟩ wv_15 fun e_4 wv_16 =>
  ∃ (t330 : Bool) (t331_p : Option Addr) (t331_n : Nat) (t331_c : Nat), e_4 = .returned (.agg #[(.bool t330), (.slice t331_p t331_n t331_c)]) ∧
  ∃ wv_17, Stores P 31 ⟨r_2, 0, none⟩ (.agg #[(.bool t330), (.slice t331_p t331_n t331_c)]) wv_16 wv_17 ∧
  ∃ (r0_1 : Bool) (r1_p_1 : Option Addr) (r1_n_1 : Nat) (r1_c_1 : Nat), Loads P 31 ⟨r_2, 0, none⟩ (.agg #[(.bool r0_1), (.slice r1_p_1 r1_n_1 r1_c_1)]) wv_17 ∧ R (.agg #[(.bool r0_1), (.slice r1_p_1 r1_n_1 r1_c_1)]) wv_17
def impl_intAdd (x0 : Bool) (x1_p : Option Addr) (x1_n : Nat) (x1_c : Nat) (y0 : Bool) (y1_p : Option Addr) (y1_n : Nat) (y1_c : Nat) (w : World) (R : Value → World → Prop) : Prop :=
  ∀ (r : Nat) (wv : World), New w (.cells ⟨[(.bool x0), (.slice x1_p x1_n x1_c)]⟩ 31 (0, 0)) r wv →
  ∀ (r_1 : Nat) (wv_1 : World), New wv (.cells ⟨[(.bool y0), (.slice y1_p y1_n y1_c)]⟩ 31 (0, 0)) r_1 wv_1 →
  ∀ (r_2 : Nat) (wv_2 : World), New wv_1 (.cells ⟨[(.bool false), (.slice none 0 0)]⟩ 31 (0, 0)) r_2 wv_2 →
  ∃ (t6 : Bool), Loads P 4 ((⟨r, 0, none⟩ : Addr).add 0) (.bool t6) wv_2 ∧ ∃ (t8 : Bool), Loads P 4 ((⟨r_1, 0, none⟩ : Addr).add 0) (.bool t8) wv_2 ∧ ((t6 == t8) = true →
    ∃ (t11 : Bool), (∀ wv_3, Ext wv_2.drew wv_3 → Loads P 4 ((⟨r, 0, none⟩ : Addr).add 0) (.bool t11) wv_3) ∧ ∃ (t13_p : Option Addr) (t13_n : Nat) (t13_c : Nat), (∀ wv_4, Ext wv_2.drew wv_4 → Loads P 22 ((⟨r, 0, none⟩ : Addr).add 1) (.slice t13_p t13_n t13_c) wv_4) ∧ ∃ (t15_p : Option Addr) (t15_n : Nat) (t15_c : Nat), (∀ wv_5, Ext wv_2.drew wv_5 → Loads P 22 ((⟨r_1, 0, none⟩ : Addr).add 1) (.slice t15_p t15_n t15_c) wv_5) ∧ Calls P 154 ⟨[(.slice t13_p t13_n t13_c), (.slice t15_p t15_n t15_c)]⟩ wv_2.drew fun e wv_6 =>
    ∃ (t16_p : Option Addr) (t16_n : Nat) (t16_c : Nat), e = .returned (.slice t16_p t16_n t16_c) ∧
    Ext wv_2.drew wv_6 ∧ Calls P 112 ⟨[(.bool t11), (.slice t16_p t16_n t16_c)]⟩ wv_6 fun e_1 wv_7 =>
    ∃ (t170 : Bool) (t171_p : Option Addr) (t171_n : Nat) (t171_c : Nat), e_1 = .returned (.agg #[(.bool t170), (.slice t171_p t171_n t171_c)]) ∧
    ∃ wv_8, Stores P 31 ⟨r_2, 0, none⟩ (.agg #[(.bool t170), (.slice t171_p t171_n t171_c)]) wv_7 wv_8 ∧
    ∃ (r0 : Bool) (r1_p : Option Addr) (r1_n : Nat) (r1_c : Nat), Loads P 31 ⟨r_2, 0, none⟩ (.agg #[(.bool r0), (.slice r1_p r1_n r1_c)]) wv_8 ∧ R (.agg #[(.bool r0), (.slice r1_p r1_n r1_c)]) wv_8) ∧
  ((t6 == t8) = false →
    ∃ (t19_p : Option Addr) (t19_n : Nat) (t19_c : Nat), Loads P 22 ((⟨r, 0, none⟩ : Addr).add 1) (.slice t19_p t19_n t19_c) wv_2 ∧ ∃ (t21_p : Option Addr) (t21_n : Nat) (t21_c : Nat), Loads P 22 ((⟨r_1, 0, none⟩ : Addr).add 1) (.slice t21_p t21_n t21_c) wv_2 ∧ Calls P 125 ⟨[(.slice t19_p t19_n t19_c), (.slice t21_p t21_n t21_c)]⟩ wv_2 fun e_2 wv_9 =>
    ∃ (t22 : Int), e_2 = .returned (.int .i64 t22) ∧
    ((decide ((t22 : Int) < 0)) = true →
      ∃ (t240 : Bool) (t241_p : Option Addr) (t241_n : Nat) (t241_c : Nat), Loads P 31 ⟨r_1, 0, none⟩ (.agg #[(.bool t240), (.slice t241_p t241_n t241_c)]) wv_9 ∧ ∃ (t250 : Bool) (t251_p : Option Addr) (t251_n : Nat) (t251_c : Nat), Loads P 31 ⟨r, 0, none⟩ (.agg #[(.bool t250), (.slice t251_p t251_n t251_c)]) wv_9 ∧ ∃ wv_10, Stores P 31 ⟨r, 0, none⟩ (.agg #[(.bool t240), (.slice t241_p t241_n t241_c)]) wv_9 wv_10 ∧
      ∃ wv_11, Stores P 31 ⟨r_1, 0, none⟩ (.agg #[(.bool t250), (.slice t251_p t251_n t251_c)]) wv_10 wv_11 ∧
      impl_intAdd_j0 r r_1 r_2 wv_11 R) ∧
    ((decide ((t22 : Int) < 0)) = false →
      impl_intAdd_j0 r r_1 r_2 wv_9 R))
theorem impl_intAdd_eq (x0 : Bool) (x1_p : Option Addr) (x1_n : Nat) (x1_c : Nat) (y0 : Bool) (y1_p : Option Addr) (y1_n : Nat) (y1_c : Nat) (w : World) (R : Value → World → Prop) : impl_intAdd x0 x1_p x1_n x1_c y0 y1_p y1_n y1_c w R = fsem P Tryz.f111 (fun k => []) [(.agg #[(.bool x0), (.slice x1_p x1_n x1_c)]), (.agg #[(.bool y0), (.slice y1_p y1_n y1_c)])] R w := by kernel_rfl
theorem impl_intAdd_ret {x0 : Bool} {x1_p : Option Addr} {x1_n : Nat} {x1_c : Nat} {y0 : Bool} {y1_p : Option Addr} {y1_n : Nat} {y1_c : Nat} {w : World} {R : Value → World → Prop} (h : impl_intAdd x0 x1_p x1_n x1_c y0 y1_p y1_n y1_c w R) : Ret P 111 [(.agg #[(.bool x0), (.slice x1_p x1_n x1_c)]), (.agg #[(.bool y0), (.slice y1_p y1_n y1_c)])] w R :=
  Ret.of_fsem Tryz.func111 rfl (Eq.mp (impl_intAdd_eq x0 x1_p x1_n x1_c y0 y1_p y1_n y1_c w R) h)
def impl_signed (neg : Bool) (mag_p : Option Addr) (mag_n : Nat) (mag_c : Nat) (w : World) (R : Value → World → Prop) : Prop :=
  ∀ (r : Nat) (wv : World), New w (.cells ⟨[(.bool false), (.slice none 0 0)]⟩ 31 (0, 0)) r wv →
  (neg = true →
    ∃ wv_1, Stores P 31 ⟨r, 0, none⟩ (.agg #[(.bool (decide ((0 : Int) < ((mag_n : Nat) : Int)))), (.slice mag_p mag_n mag_c)]) wv wv_1 ∧
    ∃ (r0 : Bool) (r1_p : Option Addr) (r1_n : Nat) (r1_c : Nat), Loads P 31 ⟨r, 0, none⟩ (.agg #[(.bool r0), (.slice r1_p r1_n r1_c)]) wv_1 ∧ R (.agg #[(.bool r0), (.slice r1_p r1_n r1_c)]) wv_1) ∧
  (neg = false →
    ∃ wv_2, Stores P 31 ⟨r, 0, none⟩ (.agg #[(.bool false), (.slice mag_p mag_n mag_c)]) wv wv_2 ∧
    ∃ (r0_1 : Bool) (r1_p_1 : Option Addr) (r1_n_1 : Nat) (r1_c_1 : Nat), Loads P 31 ⟨r, 0, none⟩ (.agg #[(.bool r0_1), (.slice r1_p_1 r1_n_1 r1_c_1)]) wv_2 ∧ R (.agg #[(.bool r0_1), (.slice r1_p_1 r1_n_1 r1_c_1)]) wv_2)
theorem impl_signed_eq (neg : Bool) (mag_p : Option Addr) (mag_n : Nat) (mag_c : Nat) (w : World) (R : Value → World → Prop) : impl_signed neg mag_p mag_n mag_c w R = fsem P Tryz.f112 (fun k => []) [(.bool neg), (.slice mag_p mag_n mag_c)] R w := by kernel_rfl
theorem impl_signed_ret {neg : Bool} {mag_p : Option Addr} {mag_n : Nat} {mag_c : Nat} {w : World} {R : Value → World → Prop} (h : impl_signed neg mag_p mag_n mag_c w R) : Ret P 112 [(.bool neg), (.slice mag_p mag_n mag_c)] w R :=
  Ret.of_fsem Tryz.func112 rfl (Eq.mp (impl_signed_eq neg mag_p mag_n mag_c w R) h)
def impl_intNeg (x0 : Bool) (x1_p : Option Addr) (x1_n : Nat) (x1_c : Nat) (w : World) (R : Value → World → Prop) : Prop :=
  ∀ (r : Nat) (wv : World), New w (.cells ⟨[(.bool x0), (.slice x1_p x1_n x1_c)]⟩ 31 (0, 0)) r wv →
  ∀ (r_1 : Nat) (wv_1 : World), New wv (.cells ⟨[(.bool false), (.slice none 0 0)]⟩ 31 (0, 0)) r_1 wv_1 →
  ∃ (t4 : Bool), (∀ wv_2, Ext wv_1.drew wv_2 → Loads P 4 ((⟨r, 0, none⟩ : Addr).add 0) (.bool t4) wv_2) ∧ ∃ (t7_p : Option Addr) (t7_n : Nat) (t7_c : Nat), (∀ wv_3, Ext wv_1.drew wv_3 → Loads P 22 ((⟨r, 0, none⟩ : Addr).add 1) (.slice t7_p t7_n t7_c) wv_3) ∧ Calls P 147 ⟨[(.slice t7_p t7_n t7_c)]⟩ wv_1.drew fun e wv_4 =>
  ∃ (t8_p : Option Addr) (t8_n : Nat) (t8_c : Nat), e = .returned (.slice t8_p t8_n t8_c) ∧
  Ext wv_1.drew wv_4 ∧ Calls P 112 ⟨[(.bool (!t4)), (.slice t8_p t8_n t8_c)]⟩ wv_4 fun e_1 wv_5 =>
  ∃ (t90 : Bool) (t91_p : Option Addr) (t91_n : Nat) (t91_c : Nat), e_1 = .returned (.agg #[(.bool t90), (.slice t91_p t91_n t91_c)]) ∧
  ∃ wv_6, Stores P 31 ⟨r_1, 0, none⟩ (.agg #[(.bool t90), (.slice t91_p t91_n t91_c)]) wv_5 wv_6 ∧
  ∃ (r0 : Bool) (r1_p : Option Addr) (r1_n : Nat) (r1_c : Nat), Loads P 31 ⟨r_1, 0, none⟩ (.agg #[(.bool r0), (.slice r1_p r1_n r1_c)]) wv_6 ∧ R (.agg #[(.bool r0), (.slice r1_p r1_n r1_c)]) wv_6
theorem impl_intNeg_eq (x0 : Bool) (x1_p : Option Addr) (x1_n : Nat) (x1_c : Nat) (w : World) (R : Value → World → Prop) : impl_intNeg x0 x1_p x1_n x1_c w R = fsem P Tryz.f113 (fun k => []) [(.agg #[(.bool x0), (.slice x1_p x1_n x1_c)])] R w := by kernel_rfl
theorem impl_intNeg_ret {x0 : Bool} {x1_p : Option Addr} {x1_n : Nat} {x1_c : Nat} {w : World} {R : Value → World → Prop} (h : impl_intNeg x0 x1_p x1_n x1_c w R) : Ret P 113 [(.agg #[(.bool x0), (.slice x1_p x1_n x1_c)])] w R :=
  Ret.of_fsem Tryz.func113 rfl (Eq.mp (impl_intNeg_eq x0 x1_p x1_n x1_c w R) h)
def spec_IntAdd (x0 : Bool) (x1_p : Option Addr) (x1_n : Nat) (x1_c : Nat) (y0 : Bool) (y1_p : Option Addr) (y1_n : Nat) (y1_c : Nat) (w : World) (R : Value → World → Prop) : Prop :=
  ∀ (r : Nat) (wv : World), New w (.cells ⟨[(.bool x0), (.slice x1_p x1_n x1_c)]⟩ 31 (0, 0)) r wv →
  ∀ (r_1 : Nat) (wv_1 : World), New wv (.cells ⟨[(.bool y0), (.slice y1_p y1_n y1_c)]⟩ 31 (0, 0)) r_1 wv_1 →
  ∀ (r_2 : Nat) (wv_2 : World), New wv_1 (.cells ⟨[(.bool false), (.slice none 0 0)]⟩ 31 (0, 0)) r_2 wv_2 →
  ∃ (t50 : Bool) (t51_p : Option Addr) (t51_n : Nat) (t51_c : Nat), Loads P 31 ⟨r, 0, none⟩ (.agg #[(.bool t50), (.slice t51_p t51_n t51_c)]) wv_2 ∧ Calls P 82 ⟨[(.agg #[(.bool t50), (.slice t51_p t51_n t51_c)])]⟩ wv_2 fun e wv_3 =>
  ∃ (t6 : Bool), e = .returned (.bool t6) ∧
  ((!t6) = true →
    (true = true →
      ∃ wv_4, Stores P 31 ⟨r_2, 0, none⟩ (.agg #[(.bool false), (.slice none 0 0)]) wv_3 wv_4 ∧
      ∃ (r0 : Bool) (r1_p : Option Addr) (r1_n : Nat) (r1_c : Nat), Loads P 31 ⟨r_2, 0, none⟩ (.agg #[(.bool r0), (.slice r1_p r1_n r1_c)]) wv_4 ∧ R (.agg #[(.bool r0), (.slice r1_p r1_n r1_c)]) wv_4) ∧
    (true = false →
      ∃ (t140 : Bool) (t141_p : Option Addr) (t141_n : Nat) (t141_c : Nat), Loads P 31 ⟨r, 0, none⟩ (.agg #[(.bool t140), (.slice t141_p t141_n t141_c)]) wv_3 ∧ ∃ (t150 : Bool) (t151_p : Option Addr) (t151_n : Nat) (t151_c : Nat), Loads P 31 ⟨r_1, 0, none⟩ (.agg #[(.bool t150), (.slice t151_p t151_n t151_c)]) wv_3 ∧ Calls P 106 ⟨[(.agg #[(.bool t140), (.slice t141_p t141_n t141_c)]), (.agg #[(.bool t150), (.slice t151_p t151_n t151_c)])]⟩ wv_3 fun e_1 wv_5 =>
      ∃ (t160 : Bool) (t161_p : Option Addr) (t161_n : Nat) (t161_c : Nat), e_1 = .returned (.agg #[(.bool t160), (.slice t161_p t161_n t161_c)]) ∧
      ∃ wv_6, Stores P 31 ⟨r_2, 0, none⟩ (.agg #[(.bool t160), (.slice t161_p t161_n t161_c)]) wv_5 wv_6 ∧
      ∃ (r0_1 : Bool) (r1_p_1 : Option Addr) (r1_n_1 : Nat) (r1_c_1 : Nat), Loads P 31 ⟨r_2, 0, none⟩ (.agg #[(.bool r0_1), (.slice r1_p_1 r1_n_1 r1_c_1)]) wv_6 ∧ R (.agg #[(.bool r0_1), (.slice r1_p_1 r1_n_1 r1_c_1)]) wv_6)) ∧
  ((!t6) = false →
    ∃ (t90 : Bool) (t91_p : Option Addr) (t91_n : Nat) (t91_c : Nat), Loads P 31 ⟨r_1, 0, none⟩ (.agg #[(.bool t90), (.slice t91_p t91_n t91_c)]) wv_3 ∧ Calls P 82 ⟨[(.agg #[(.bool t90), (.slice t91_p t91_n t91_c)])]⟩ wv_3 fun e_2 wv_7 =>
    ∃ (t10 : Bool), e_2 = .returned (.bool t10) ∧
    ((!t10) = true →
      ∃ wv_8, Stores P 31 ⟨r_2, 0, none⟩ (.agg #[(.bool false), (.slice none 0 0)]) wv_7 wv_8 ∧
      ∃ (r0_2 : Bool) (r1_p_2 : Option Addr) (r1_n_2 : Nat) (r1_c_2 : Nat), Loads P 31 ⟨r_2, 0, none⟩ (.agg #[(.bool r0_2), (.slice r1_p_2 r1_n_2 r1_c_2)]) wv_8 ∧ R (.agg #[(.bool r0_2), (.slice r1_p_2 r1_n_2 r1_c_2)]) wv_8) ∧
    ((!t10) = false →
      ∃ (t140_1 : Bool) (t141_p_1 : Option Addr) (t141_n_1 : Nat) (t141_c_1 : Nat), Loads P 31 ⟨r, 0, none⟩ (.agg #[(.bool t140_1), (.slice t141_p_1 t141_n_1 t141_c_1)]) wv_7 ∧ ∃ (t150_1 : Bool) (t151_p_1 : Option Addr) (t151_n_1 : Nat) (t151_c_1 : Nat), Loads P 31 ⟨r_1, 0, none⟩ (.agg #[(.bool t150_1), (.slice t151_p_1 t151_n_1 t151_c_1)]) wv_7 ∧ Calls P 106 ⟨[(.agg #[(.bool t140_1), (.slice t141_p_1 t141_n_1 t141_c_1)]), (.agg #[(.bool t150_1), (.slice t151_p_1 t151_n_1 t151_c_1)])]⟩ wv_7 fun e_3 wv_9 =>
      ∃ (t160_1 : Bool) (t161_p_1 : Option Addr) (t161_n_1 : Nat) (t161_c_1 : Nat), e_3 = .returned (.agg #[(.bool t160_1), (.slice t161_p_1 t161_n_1 t161_c_1)]) ∧
      ∃ wv_10, Stores P 31 ⟨r_2, 0, none⟩ (.agg #[(.bool t160_1), (.slice t161_p_1 t161_n_1 t161_c_1)]) wv_9 wv_10 ∧
      ∃ (r0_3 : Bool) (r1_p_3 : Option Addr) (r1_n_3 : Nat) (r1_c_3 : Nat), Loads P 31 ⟨r_2, 0, none⟩ (.agg #[(.bool r0_3), (.slice r1_p_3 r1_n_3 r1_c_3)]) wv_10 ∧ R (.agg #[(.bool r0_3), (.slice r1_p_3 r1_n_3 r1_c_3)]) wv_10))
theorem spec_IntAdd_eq (x0 : Bool) (x1_p : Option Addr) (x1_n : Nat) (x1_c : Nat) (y0 : Bool) (y1_p : Option Addr) (y1_n : Nat) (y1_c : Nat) (w : World) (R : Value → World → Prop) : spec_IntAdd x0 x1_p x1_n x1_c y0 y1_p y1_n y1_c w R = fsem P Tryz.f114 (fun k => []) [(.agg #[(.bool x0), (.slice x1_p x1_n x1_c)]), (.agg #[(.bool y0), (.slice y1_p y1_n y1_c)])] R w := by kernel_rfl
theorem spec_IntAdd_ret {x0 : Bool} {x1_p : Option Addr} {x1_n : Nat} {x1_c : Nat} {y0 : Bool} {y1_p : Option Addr} {y1_n : Nat} {y1_c : Nat} {w : World} {R : Value → World → Prop} (h : spec_IntAdd x0 x1_p x1_n x1_c y0 y1_p y1_n y1_c w R) : Ret P 114 [(.agg #[(.bool x0), (.slice x1_p x1_n x1_c)]), (.agg #[(.bool y0), (.slice y1_p y1_n y1_c)])] w R :=
  Ret.of_fsem Tryz.func114 rfl (Eq.mp (spec_IntAdd_eq x0 x1_p x1_n x1_c y0 y1_p y1_n y1_c w R) h)
def spec_l02Cmp (a_p : Option Addr) (a_n : Nat) (a_c : Nat) (b_p : Option Addr) (b_n : Nat) (b_c : Nat) (w : World) (R : Value → World → Prop) : Prop :=
  ((decide ((((a_n : Nat) : Int) : Int) ≠ ((b_n : Nat) : Int))) = true →
    ((decide ((((a_n : Nat) : Int) : Int) < ((b_n : Nat) : Int))) = true →
      R (.int .i64 (-1)) w) ∧
    ((decide ((((a_n : Nat) : Int) : Int) < ((b_n : Nat) : Int))) = false →
      R (.int .i64 1) w)) ∧
  ((decide ((((a_n : Nat) : Int) : Int) ≠ ((b_n : Nat) : Int))) = false →
    ∃ t18 : Int, t18 = IntKind.wrap .i64 (((a_n : Nat) : Int) - 1) ∧ ∃ (Inv : Int → World → Prop) (mu : Int → World → Nat), Inv t18 w ∧
    ∀ (junk : Fr) (wv : World) (i : Int), Inv i wv →
      ((decide ((0 : Int) ≤ i)) = true →
        (0 ≤ (i : Int) ∧ (i : Int) < (a_n : Nat)) ∧ ptrS a_p fun ad => ∃ (t26 : Int), (∀ wv_1, Ext wv.drew wv_1 → Loads P 3 (ad.add (i.toNat * 1)) (.int .i64 t26) wv_1) ∧ (0 ≤ (i : Int) ∧ (i : Int) < (b_n : Nat)) ∧ ptrS b_p fun ad_1 => ∃ (t30 : Int), (∀ wv_2, Ext wv.drew wv_2 → Loads P 3 (ad_1.add (i.toNat * 1)) (.int .i64 t30) wv_2) ∧ ((decide ((t26 : Int) < t30)) = true →
          R (.int .i64 (-1)) wv.drew) ∧
        ((decide ((t26 : Int) < t30)) = false →
          (0 ≤ (i : Int) ∧ (i : Int) < (a_n : Nat)) ∧ ptrS a_p fun ad_2 => ∃ (t35 : Int), (∀ wv_3, Ext wv.drew.drew wv_3 → Loads P 3 (ad_2.add (i.toNat * 1)) (.int .i64 t35) wv_3) ∧ (0 ≤ (i : Int) ∧ (i : Int) < (b_n : Nat)) ∧ ptrS b_p fun ad_3 => ∃ (t39 : Int), (∀ wv_4, Ext wv.drew.drew wv_4 → Loads P 3 (ad_3.add (i.toNat * 1)) (.int .i64 t39) wv_4) ∧ ((decide ((t39 : Int) < t35)) = true →
            R (.int .i64 1) wv.drew.drew) ∧
          ((decide ((t39 : Int) < t35)) = false →
            ∃ t22 : Int, t22 = IntKind.wrap .i64 (i - 1) ∧ Inv t22 wv.drew.drew ∧ mu t22 wv.drew.drew < mu i wv))) ∧
      ((decide ((0 : Int) ≤ i)) = false →
        R (.int .i64 0) wv))
theorem spec_l02Cmp_eq (a_p : Option Addr) (a_n : Nat) (a_c : Nat) (b_p : Option Addr) (b_n : Nat) (b_c : Nat) (w : World) (R : Value → World → Prop) : spec_l02Cmp a_p a_n a_c b_p b_n b_c w R = fsem P Tryz.f115 (fun k => cond (Nat.beq k 7) [(5, .one (.int .i64))] ([])) [(.slice a_p a_n a_c), (.slice b_p b_n b_c)] R w := by kernel_rfl
theorem spec_l02Cmp_ret {a_p : Option Addr} {a_n : Nat} {a_c : Nat} {b_p : Option Addr} {b_n : Nat} {b_c : Nat} {w : World} {R : Value → World → Prop} (h : spec_l02Cmp a_p a_n a_c b_p b_n b_c w R) : Ret P 115 [(.slice a_p a_n a_c), (.slice b_p b_n b_c)] w R :=
  Ret.of_fsem Tryz.func115 rfl (Eq.mp (spec_l02Cmp_eq a_p a_n a_c b_p b_n b_c w R) h)
def spec_l02Cap (a_p : Option Addr) (a_n : Nat) (a_c : Nat) (w : World) (R : Value → World → Prop) : Prop :=
  Calls P 133 ⟨[(.slice a_p a_n a_c)]⟩ w fun e wv =>
  ∃ (t5_p : Option Addr) (t5_n : Nat) (t5_c : Nat), e = .returned (.slice t5_p t5_n t5_c) ∧
  ((decide ((50 : Int) < ((t5_n : Nat) : Int))) = true →
    R (.slice none 0 0) wv) ∧
  ((decide ((50 : Int) < ((t5_n : Nat) : Int))) = false →
    R (.slice t5_p t5_n t5_c) wv)
theorem spec_l02Cap_eq (a_p : Option Addr) (a_n : Nat) (a_c : Nat) (w : World) (R : Value → World → Prop) : spec_l02Cap a_p a_n a_c w R = fsem P Tryz.f116 (fun k => []) [(.slice a_p a_n a_c)] R w := by kernel_rfl
theorem spec_l02Cap_ret {a_p : Option Addr} {a_n : Nat} {a_c : Nat} {w : World} {R : Value → World → Prop} (h : spec_l02Cap a_p a_n a_c w R) : Ret P 116 [(.slice a_p a_n a_c)] w R :=
  Ret.of_fsem Tryz.func116 rfl (Eq.mp (spec_l02Cap_eq a_p a_n a_c w R) h)
def impl_intSign (x0 : Bool) (x1_p : Option Addr) (x1_n : Nat) (x1_c : Nat) (w : World) (R : Value → World → Prop) : Prop :=
  ∀ (r : Nat) (wv : World), New w (.cells ⟨[(.bool x0), (.slice x1_p x1_n x1_c)]⟩ 31 (0, 0)) r wv →
  ∃ (t5_p : Option Addr) (t5_n : Nat) (t5_c : Nat), Loads P 22 ((⟨r, 0, none⟩ : Addr).add 1) (.slice t5_p t5_n t5_c) wv ∧ ((decide ((((t5_n : Nat) : Int) : Int) = 0)) = true →
    R (.int .i64 0) wv) ∧
  ((decide ((((t5_n : Nat) : Int) : Int) = 0)) = false →
    ∃ (t10 : Bool), Loads P 4 ((⟨r, 0, none⟩ : Addr).add 0) (.bool t10) wv ∧ (t10 = true →
      R (.int .i64 (-1)) wv) ∧
    (t10 = false →
      R (.int .i64 1) wv))
theorem impl_intSign_eq (x0 : Bool) (x1_p : Option Addr) (x1_n : Nat) (x1_c : Nat) (w : World) (R : Value → World → Prop) : impl_intSign x0 x1_p x1_n x1_c w R = fsem P Tryz.f117 (fun k => []) [(.agg #[(.bool x0), (.slice x1_p x1_n x1_c)])] R w := by kernel_rfl
theorem impl_intSign_ret {x0 : Bool} {x1_p : Option Addr} {x1_n : Nat} {x1_c : Nat} {w : World} {R : Value → World → Prop} (h : impl_intSign x0 x1_p x1_n x1_c w R) : Ret P 117 [(.agg #[(.bool x0), (.slice x1_p x1_n x1_c)])] w R :=
  Ret.of_fsem Tryz.func117 rfl (Eq.mp (impl_intSign_eq x0 x1_p x1_n x1_c w R) h)
def impl_natCmp (a_p : Option Addr) (a_n : Nat) (a_c : Nat) (b_p : Option Addr) (b_n : Nat) (b_c : Nat) (w : World) (R : Value → World → Prop) : Prop :=
  ((decide ((((a_n : Nat) : Int) : Int) ≠ ((b_n : Nat) : Int))) = true →
    ((decide ((((a_n : Nat) : Int) : Int) < ((b_n : Nat) : Int))) = true →
      R (.int .i64 (-1)) w) ∧
    ((decide ((((a_n : Nat) : Int) : Int) < ((b_n : Nat) : Int))) = false →
      R (.int .i64 1) w)) ∧
  ((decide ((((a_n : Nat) : Int) : Int) ≠ ((b_n : Nat) : Int))) = false →
    ∃ t18 : Int, t18 = IntKind.wrap .i64 (((a_n : Nat) : Int) - 1) ∧ ∃ (Inv : Int → World → Prop) (mu : Int → World → Nat), Inv t18 w ∧
    ∀ (junk : Fr) (wv : World) (i : Int), Inv i wv →
      ((decide ((0 : Int) ≤ i)) = true →
        (0 ≤ (i : Int) ∧ (i : Int) < (a_n : Nat)) ∧ ptrS a_p fun ad => ∃ (t26 : Int), (∀ wv_1, Ext wv.drew wv_1 → Loads P 3 (ad.add (i.toNat * 1)) (.int .i64 t26) wv_1) ∧ (0 ≤ (i : Int) ∧ (i : Int) < (b_n : Nat)) ∧ ptrS b_p fun ad_1 => ∃ (t30 : Int), (∀ wv_2, Ext wv.drew wv_2 → Loads P 3 (ad_1.add (i.toNat * 1)) (.int .i64 t30) wv_2) ∧ ((decide ((t26 : Int) ≠ t30)) = true →
          (0 ≤ (i : Int) ∧ (i : Int) < (a_n : Nat)) ∧ ptrS a_p fun ad_2 => ∃ (t35 : Int), (∀ wv_3, Ext wv.drew.drew wv_3 → Loads P 3 (ad_2.add (i.toNat * 1)) (.int .i64 t35) wv_3) ∧ (0 ≤ (i : Int) ∧ (i : Int) < (b_n : Nat)) ∧ ptrS b_p fun ad_3 => ∃ (t39 : Int), (∀ wv_4, Ext wv.drew.drew wv_4 → Loads P 3 (ad_3.add (i.toNat * 1)) (.int .i64 t39) wv_4) ∧ ((decide ((t35 : Int) < t39)) = true →
            R (.int .i64 (-1)) wv.drew.drew) ∧
          ((decide ((t35 : Int) < t39)) = false →
            R (.int .i64 1) wv.drew.drew)) ∧
        ((decide ((t26 : Int) ≠ t30)) = false →
          ∃ t22 : Int, t22 = IntKind.wrap .i64 (i - 1) ∧ Inv t22 wv.drew ∧ mu t22 wv.drew < mu i wv)) ∧
      ((decide ((0 : Int) ≤ i)) = false →
        R (.int .i64 0) wv))
theorem impl_natCmp_eq (a_p : Option Addr) (a_n : Nat) (a_c : Nat) (b_p : Option Addr) (b_n : Nat) (b_c : Nat) (w : World) (R : Value → World → Prop) : impl_natCmp a_p a_n a_c b_p b_n b_c w R = fsem P Tryz.f125 (fun k => cond (Nat.beq k 7) [(5, .one (.int .i64))] ([])) [(.slice a_p a_n a_c), (.slice b_p b_n b_c)] R w := by kernel_rfl
theorem impl_natCmp_ret {a_p : Option Addr} {a_n : Nat} {a_c : Nat} {b_p : Option Addr} {b_n : Nat} {b_c : Nat} {w : World} {R : Value → World → Prop} (h : impl_natCmp a_p a_n a_c b_p b_n b_c w R) : Ret P 125 [(.slice a_p a_n a_c), (.slice b_p b_n b_c)] w R :=
  Ret.of_fsem Tryz.func125 rfl (Eq.mp (impl_natCmp_eq a_p a_n a_c b_p b_n b_c w R) h)
def impl_NatOf (n : Int) (w : World) (R : Value → World → Prop) : Prop :=
  ((decide ((n : Int) < 0)) = true →
    R (.slice none 0 0) w) ∧
  ((decide ((n : Int) < 0)) = false →
    ∃ t6 : Int, t6 = IntKind.wrap .u64 n ∧ Calls P 109 ⟨[(.int .u64 t6)]⟩ w fun e wv =>
    ∃ (t7_p : Option Addr) (t7_n : Nat) (t7_c : Nat), e = .returned (.slice t7_p t7_n t7_c) ∧
    R (.slice t7_p t7_n t7_c) wv)
theorem impl_NatOf_eq (n : Int) (w : World) (R : Value → World → Prop) : impl_NatOf n w R = fsem P Tryz.f126 (fun k => []) [(.int .i64 n)] R w := by kernel_rfl
theorem impl_NatOf_ret {n : Int} {w : World} {R : Value → World → Prop} (h : impl_NatOf n w R) : Ret P 126 [(.int .i64 n)] w R :=
  Ret.of_fsem Tryz.func126 rfl (Eq.mp (impl_NatOf_eq n w R) h)
def impl_natSub_j1 (a_n : Nat) (r : Nat) (wv_1 : World) (Inv : Int → Int → World → Prop) (mu : Int → Int → World → Nat) (borrow : Int) (t14 : Int) (borrow_1 : Int) (n_1 : Int) (W_1 : World) (R : Value → World → Prop) : Prop :=
  (0 ≤ (t14 : Int) ∧ (t14 : Int) < (a_n : Nat)) ∧ ∃ wv_2, Stores P 3 ((⟨r, 0, none⟩ : Addr).add (t14.toNat * 1)) (.int .i64 n_1) W_1 wv_2 ∧
  ∃ t41 : Int, t41 = IntKind.wrap .i64 (t14 + 1) ∧ Inv borrow_1 t41 wv_2 ∧ mu borrow_1 t41 wv_2 < mu borrow t14 wv_1
def impl_natSub_j0 (a_n : Nat) (r : Nat) (wv_1 : World) (Inv : Int → Int → World → Prop) (mu : Int → Int → World → Nat) (borrow : Int) (t14 : Int) (n : Int) (W : World) (R : Value → World → Prop) : Prop :=
  ((decide ((n : Int) < 0)) = true →
    ∃ t36 : Int, t36 = IntKind.wrap .i64 (n + 1000000000) ∧ impl_natSub_j1 a_n r wv_1 Inv mu borrow t14 1 t36 W R) ∧
  ((decide ((n : Int) < 0)) = false →
    impl_natSub_j1 a_n r wv_1 Inv mu borrow t14 0 n W R)
def impl_natSub (a_p : Option Addr) (a_n : Nat) (a_c : Nat) (b_p : Option Addr) (b_n : Nat) (b_c : Nat) (w : World) (R : Value → World → Prop) : Prop :=
  (0 ≤ (((a_n : Nat) : Int) : Int) ∧ (((a_n : Nat) : Int) : Int) ≤ ((a_n : Nat) : Int) ∧ ((8 : Nat) : Int) * ((a_n : Nat) : Int) ≤ 281474976710656) ∧
  ∀ (r : Nat) (wv : World), New w (.cells ⟨zeroRow (.int .i64 0) (a_n * 1)⟩ 3 (0, 0)) r wv →
  ∃ (Inv : Int → Int → World → Prop) (mu : Int → Int → World → Nat), Inv 0 0 wv ∧
  ∀ (junk : Fr) (wv_1 : World) (borrow : Int) (t14 : Int), Inv borrow t14 wv_1 →
    ((decide ((t14 : Int) < ((a_n : Nat) : Int))) = true →
      (0 ≤ (t14 : Int) ∧ (t14 : Int) < (a_n : Nat)) ∧ ptrS a_p fun ad => ∃ (t20 : Int), Loads P 3 (ad.add (t14.toNat * 1)) (.int .i64 t20) wv_1 ∧ ∃ t22 : Int, t22 = IntKind.wrap .i64 (t20 - borrow) ∧ ((decide ((t14 : Int) < ((b_n : Nat) : Int))) = true →
        (0 ≤ (t14 : Int) ∧ (t14 : Int) < (b_n : Nat)) ∧ ptrS b_p fun ad_1 => ∃ (t31 : Int), Loads P 3 (ad_1.add (t14.toNat * 1)) (.int .i64 t31) wv_1 ∧ ∃ t32 : Int, t32 = IntKind.wrap .i64 (t22 - t31) ∧ impl_natSub_j0 a_n r wv_1 Inv mu borrow t14 t32 wv_1 R) ∧
      ((decide ((t14 : Int) < ((b_n : Nat) : Int))) = false →
        impl_natSub_j0 a_n r wv_1 Inv mu borrow t14 t22 wv_1 R)) ∧
    ((decide ((t14 : Int) < ((a_n : Nat) : Int))) = false →
      Calls P 146 ⟨[(.slice (some ⟨r, 0, none⟩) a_n a_n)]⟩ wv_1 fun e wv_3 =>
      ∃ (t43_p : Option Addr) (t43_n : Nat) (t43_c : Nat), e = .returned (.slice t43_p t43_n t43_c) ∧
      R (.slice t43_p t43_n t43_c) wv_3)
theorem impl_natSub_eq (a_p : Option Addr) (a_n : Nat) (a_c : Nat) (b_p : Option Addr) (b_n : Nat) (b_c : Nat) (w : World) (R : Value → World → Prop) : impl_natSub a_p a_n a_c b_p b_n b_c w R = fsem P Tryz.f127 (fun k => cond (Nat.beq k 5) [(6, .one (.int .i64)), (14, .one (.int .i64))] ([])) [(.slice a_p a_n a_c), (.slice b_p b_n b_c)] R w := by kernel_rfl
theorem impl_natSub_ret {a_p : Option Addr} {a_n : Nat} {a_c : Nat} {b_p : Option Addr} {b_n : Nat} {b_c : Nat} {w : World} {R : Value → World → Prop} (h : impl_natSub a_p a_n a_c b_p b_n b_c w R) : Ret P 127 [(.slice a_p a_n a_c), (.slice b_p b_n b_c)] w R :=
  Ret.of_fsem Tryz.func127 rfl (Eq.mp (impl_natSub_eq a_p a_n a_c b_p b_n b_c w R) h)
def spec_l08Find (code : ByteArray) (w : World) (R : Value → World → Prop) : Prop :=
  ∀ (r : Nat) (wv : World), New w (.cells ⟨[(.string ByteArray.empty), (.string ByteArray.empty), (.int .i64 0), (.int .i64 0)]⟩ 122 (0, 0)) r wv →
  Calls P 156 ⟨[]⟩ wv fun e wv_1 =>
  ∃ (t5_p : Option Addr) (t5_n : Nat) (t5_c : Nat), e = .returned (.slice t5_p t5_n t5_c) ∧
  ∃ (Inv : Int → World → Prop) (mu : Int → World → Nat), Inv 0 wv_1 ∧
  ∀ (junk : Fr) (wv_2 : World) (t7 : Int), Inv t7 wv_2 →
    ((decide ((t7 : Int) < ((t5_n : Nat) : Int))) = true →
      (0 ≤ (t7 : Int) ∧ (t7 : Int) < (t5_n : Nat)) ∧ ptrS t5_p fun ad => ∃ (t100 : ByteArray) (t101 : ByteArray) (t102 : Int) (t103 : Int), Loads P 122 (ad.add (t7.toNat * 4)) (.agg #[(.string t100), (.string t101), (.int .i64 t102), (.int .i64 t103)]) wv_2 ∧ ∀ (r_1 : Nat) (wv_3 : World), New wv_2 (.cells ⟨[(.string ByteArray.empty), (.string ByteArray.empty), (.int .i64 0), (.int .i64 0)]⟩ 122 (0, 0)) r_1 wv_3 →
      ∃ wv_4, Stores P 122 ⟨r_1, 0, none⟩ (.agg #[(.string t100), (.string t101), (.int .i64 t102), (.int .i64 t103)]) wv_3 wv_4 ∧
      ∃ (t12 : ByteArray), Loads P 9 ((⟨r_1, 0, none⟩ : Addr).add 0) (.string t12) wv_4 ∧ ((decide (t12 = code)) = true →
        ∃ (t150 : ByteArray) (t151 : ByteArray) (t152 : Int) (t153 : Int), Loads P 122 ⟨r_1, 0, none⟩ (.agg #[(.string t150), (.string t151), (.int .i64 t152), (.int .i64 t153)]) wv_4 ∧ ∃ wv_5, Stores P 122 ⟨r, 0, none⟩ (.agg #[(.string t150), (.string t151), (.int .i64 t152), (.int .i64 t153)]) wv_4 wv_5 ∧
        ∃ (r0 : ByteArray) (r1 : ByteArray) (r2 : Int) (r3 : Int), Loads P 122 ⟨r, 0, none⟩ (.agg #[(.string r0), (.string r1), (.int .i64 r2), (.int .i64 r3)]) wv_5 ∧ R (.agg #[(.string r0), (.string r1), (.int .i64 r2), (.int .i64 r3)]) wv_5) ∧
      ((decide (t12 = code)) = false →
        ∃ t16 : Int, t16 = IntKind.wrap .i64 (t7 + 1) ∧ Inv t16 wv_4 ∧ mu t16 wv_4 < mu t7 wv_2)) ∧
    ((decide ((t7 : Int) < ((t5_n : Nat) : Int))) = false →
      ∃ wv_6, Stores P 122 ⟨r, 0, none⟩ (.agg #[(.string ByteArray.empty), (.string ByteArray.empty), (.int .i64 0), (.int .i64 0)]) wv_2 wv_6 ∧
      ∃ (r0_1 : ByteArray) (r1_1 : ByteArray) (r2_1 : Int) (r3_1 : Int), Loads P 122 ⟨r, 0, none⟩ (.agg #[(.string r0_1), (.string r1_1), (.int .i64 r2_1), (.int .i64 r3_1)]) wv_6 ∧ R (.agg #[(.string r0_1), (.string r1_1), (.int .i64 r2_1), (.int .i64 r3_1)]) wv_6)
theorem spec_l08Find_eq (code : ByteArray) (w : World) (R : Value → World → Prop) : spec_l08Find code w R = fsem P Tryz.f128 (fun k => cond (Nat.beq k 3) [(7, .one (.int .i64))] ([])) [(.string code)] R w := by kernel_rfl
theorem spec_l08Find_ret {code : ByteArray} {w : World} {R : Value → World → Prop} (h : spec_l08Find code w R) : Ret P 128 [(.string code)] w R :=
  Ret.of_fsem Tryz.func128 rfl (Eq.mp (spec_l08Find_eq code w R) h)
def spec_NatOk (a_p : Option Addr) (a_n : Nat) (a_c : Nat) (w : World) (R : Value → World → Prop) : Prop :=
  ∃ (Inv : Int → World → Prop) (mu : Int → World → Nat), Inv 0 w ∧
  ∀ (junk : Fr) (wv : World) (t7 : Int), Inv t7 wv →
    ((decide ((t7 : Int) < ((a_n : Nat) : Int))) = true →
      (0 ≤ (t7 : Int) ∧ (t7 : Int) < (a_n : Nat)) ∧ ptrS a_p fun ad => ∃ (t10 : Int), Loads P 3 (ad.add (t7.toNat * 1)) (.int .i64 t10) wv ∧ Calls P 130 ⟨[(.int .i64 t10), (.int .i64 0), (.int .i64 999999999)]⟩ wv fun e wv_1 =>
      ∃ (t12 : Bool), e = .returned (.bool t12) ∧
      ((!t12) = true →
        R (.bool false) wv_1) ∧
      ((!t12) = false →
        ∃ t14 : Int, t14 = IntKind.wrap .i64 (t7 + 1) ∧ Inv t14 wv_1 ∧ mu t14 wv_1 < mu t7 wv)) ∧
    ((decide ((t7 : Int) < ((a_n : Nat) : Int))) = false →
      ((decide ((((a_n : Nat) : Int) : Int) ≤ 50)) = true →
        ((decide ((((a_n : Nat) : Int) : Int) = 0)) = true →
          R (.bool true) wv) ∧
        ((decide ((((a_n : Nat) : Int) : Int) = 0)) = false →
          ∃ t26 : Int, t26 = IntKind.wrap .i64 (((a_n : Nat) : Int) - 1) ∧ (0 ≤ (t26 : Int) ∧ (t26 : Int) < (a_n : Nat)) ∧ ptrS a_p fun ad_1 => ∃ (t28 : Int), Loads P 3 (ad_1.add (t26.toNat * 1)) (.int .i64 t28) wv ∧ R (.bool (decide ((t28 : Int) ≠ 0))) wv)) ∧
      ((decide ((((a_n : Nat) : Int) : Int) ≤ 50)) = false →
        R (.bool false) wv))
theorem spec_NatOk_eq (a_p : Option Addr) (a_n : Nat) (a_c : Nat) (w : World) (R : Value → World → Prop) : spec_NatOk a_p a_n a_c w R = fsem P Tryz.f129 (fun k => cond (Nat.beq k 3) [(7, .one (.int .i64))] ([])) [(.slice a_p a_n a_c)] R w := by kernel_rfl
theorem spec_NatOk_ret {a_p : Option Addr} {a_n : Nat} {a_c : Nat} {w : World} {R : Value → World → Prop} (h : spec_NatOk a_p a_n a_c w R) : Ret P 129 [(.slice a_p a_n a_c)] w R :=
  Ret.of_fsem Tryz.func129 rfl (Eq.mp (spec_NatOk_eq a_p a_n a_c w R) h)
def spec_l01In (n : Int) (lo : Int) (hi : Int) (w : World) (R : Value → World → Prop) : Prop :=
  ((decide ((lo : Int) ≤ n)) = true →
    R (.bool (decide ((n : Int) ≤ hi))) w) ∧
  ((decide ((lo : Int) ≤ n)) = false →
    R (.bool false) w)
theorem spec_l01In_eq (n : Int) (lo : Int) (hi : Int) (w : World) (R : Value → World → Prop) : spec_l01In n lo hi w R = fsem P Tryz.f130 (fun k => []) [(.int .i64 n), (.int .i64 lo), (.int .i64 hi)] R w := by kernel_rfl
theorem spec_l01In_ret {n : Int} {lo : Int} {hi : Int} {w : World} {R : Value → World → Prop} (h : spec_l01In n lo hi w R) : Ret P 130 [(.int .i64 n), (.int .i64 lo), (.int .i64 hi)] w R :=
  Ret.of_fsem Tryz.func130 rfl (Eq.mp (spec_l01In_eq n lo hi w R) h)
end Go.Proofs.YtfemmmbkhhemaaaGreatDoor

namespace Go.Proofs.YtfemmmbkhhemaaaGreatDoor
open Go Go.Proofs.YtfemmmbkhhemaaaGreatDoor.Sx
set_option linter.unusedVariables false
set_option maxRecDepth 100000
def spec_l07Both_j0 (r : Nat) (r_1 : Nat) (r_2 : Nat) (r_3 : Nat) (scale : Int) (W : World) (R : Value → World → Prop) : Prop :=
  ∃ (t170 : Bool) (t171_p : Option Addr) (t171_n : Nat) (t171_c : Nat), (∀ wv_4, Ext W.drew wv_4 → Loads P 31 ((⟨r, 0, none⟩ : Addr).add 0) (.agg #[(.bool t170), (.slice t171_p t171_n t171_c)]) wv_4) ∧ ∃ (t20 : Int), (∀ wv_5, Ext W.drew wv_5 → Loads P 3 ((⟨r, 0, none⟩ : Addr).add 2) (.int .i64 t20) wv_5) ∧ ∃ t21 : Int, t21 = IntKind.wrap .i64 (scale - t20) ∧ Calls P 89 ⟨[(.int .i64 t21)]⟩ W.drew fun e wv_6 =>
  ∃ (t220 : Bool) (t221_p : Option Addr) (t221_n : Nat) (t221_c : Nat), e = .returned (.agg #[(.bool t220), (.slice t221_p t221_n t221_c)]) ∧
  Ext W.drew wv_6 ∧ Calls P 157 ⟨[(.agg #[(.bool t170), (.slice t171_p t171_n t171_c)]), (.agg #[(.bool t220), (.slice t221_p t221_n t221_c)])]⟩ wv_6 fun e_1 wv_7 =>
  ∃ (t230 : Bool) (t231_p : Option Addr) (t231_n : Nat) (t231_c : Nat), e_1 = .returned (.agg #[(.bool t230), (.slice t231_p t231_n t231_c)]) ∧
  Ext wv_6 wv_7 ∧ ∃ (t250 : Bool) (t251_p : Option Addr) (t251_n : Nat) (t251_c : Nat), (∀ wv_8, Ext W.drew wv_8 → Loads P 31 ((⟨r_1, 0, none⟩ : Addr).add 0) (.agg #[(.bool t250), (.slice t251_p t251_n t251_c)]) wv_8) ∧ ∃ (t28 : Int), (∀ wv_9, Ext W.drew wv_9 → Loads P 3 ((⟨r_1, 0, none⟩ : Addr).add 2) (.int .i64 t28) wv_9) ∧ ∃ t29 : Int, t29 = IntKind.wrap .i64 (scale - t28) ∧ Calls P 89 ⟨[(.int .i64 t29)]⟩ wv_7 fun e_2 wv_10 =>
  ∃ (t300 : Bool) (t301_p : Option Addr) (t301_n : Nat) (t301_c : Nat), e_2 = .returned (.agg #[(.bool t300), (.slice t301_p t301_n t301_c)]) ∧
  Ext wv_7 wv_10 ∧ Calls P 157 ⟨[(.agg #[(.bool t250), (.slice t251_p t251_n t251_c)]), (.agg #[(.bool t300), (.slice t301_p t301_n t301_c)])]⟩ wv_10 fun e_3 wv_11 =>
  ∃ (t310 : Bool) (t311_p : Option Addr) (t311_n : Nat) (t311_c : Nat), e_3 = .returned (.agg #[(.bool t310), (.slice t311_p t311_n t311_c)]) ∧
  ∃ wv_12, Stores P 31 ⟨r_2, 0, none⟩ (.agg #[(.bool t230), (.slice t231_p t231_n t231_c)]) wv_11 wv_12 ∧
  ∃ wv_13, Stores P 31 ⟨r_3, 0, none⟩ (.agg #[(.bool t310), (.slice t311_p t311_n t311_c)]) wv_12 wv_13 ∧
  ∃ (r0 : Bool) (r1_p : Option Addr) (r1_n : Nat) (r1_c : Nat), Loads P 31 ⟨r_2, 0, none⟩ (.agg #[(.bool r0), (.slice r1_p r1_n r1_c)]) wv_13 ∧ ∃ (r0_1 : Bool) (r1_p_1 : Option Addr) (r1_n_1 : Nat) (r1_c_1 : Nat), Loads P 31 ⟨r_3, 0, none⟩ (.agg #[(.bool r0_1), (.slice r1_p_1 r1_n_1 r1_c_1)]) wv_13 ∧ R (.tuple #[(.agg #[(.bool r0), (.slice r1_p r1_n r1_c)]), (.agg #[(.bool r0_1), (.slice r1_p_1 r1_n_1 r1_c_1)]), (.int .i64 scale)]) wv_13
def spec_l07Both (d0 : Bool) (d1_p : Option Addr) (d1_n : Nat) (d1_c : Nat) (d2 : Int) (e0 : Bool) (e1_p : Option Addr) (e1_n : Nat) (e1_c : Nat) (e2 : Int) (w : World) (R : Value → World → Prop) : Prop :=
  ∀ (r : Nat) (wv : World), New w (.cells ⟨[(.bool d0), (.slice d1_p d1_n d1_c), (.int .i64 d2)]⟩ 40 (0, 0)) r wv →
  ∀ (r_1 : Nat) (wv_1 : World), New wv (.cells ⟨[(.bool e0), (.slice e1_p e1_n e1_c), (.int .i64 e2)]⟩ 40 (0, 0)) r_1 wv_1 →
  ∀ (r_2 : Nat) (wv_2 : World), New wv_1 (.cells ⟨[(.bool false), (.slice none 0 0)]⟩ 31 (0, 0)) r_2 wv_2 →
  ∀ (r_3 : Nat) (wv_3 : World), New wv_2 (.cells ⟨[(.bool false), (.slice none 0 0)]⟩ 31 (0, 0)) r_3 wv_3 →
  ∃ (t9 : Int), Loads P 3 ((⟨r, 0, none⟩ : Addr).add 2) (.int .i64 t9) wv_3 ∧ ∃ (t11 : Int), Loads P 3 ((⟨r_1, 0, none⟩ : Addr).add 2) (.int .i64 t11) wv_3 ∧ ((decide ((t9 : Int) < t11)) = true →
    ∃ (t15 : Int), Loads P 3 ((⟨r_1, 0, none⟩ : Addr).add 2) (.int .i64 t15) wv_3 ∧ spec_l07Both_j0 r r_1 r_2 r_3 t15 wv_3 R) ∧
  ((decide ((t9 : Int) < t11)) = false →
    spec_l07Both_j0 r r_1 r_2 r_3 t9 wv_3 R)
theorem spec_l07Both_eq (d0 : Bool) (d1_p : Option Addr) (d1_n : Nat) (d1_c : Nat) (d2 : Int) (e0 : Bool) (e1_p : Option Addr) (e1_n : Nat) (e1_c : Nat) (e2 : Int) (w : World) (R : Value → World → Prop) : spec_l07Both d0 d1_p d1_n d1_c d2 e0 e1_p e1_n e1_c e2 w R = fsem P Tryz.f131 (fun k => []) [(.agg #[(.bool d0), (.slice d1_p d1_n d1_c), (.int .i64 d2)]), (.agg #[(.bool e0), (.slice e1_p e1_n e1_c), (.int .i64 e2)])] R w := by kernel_rfl
theorem spec_l07Both_ret {d0 : Bool} {d1_p : Option Addr} {d1_n : Nat} {d1_c : Nat} {d2 : Int} {e0 : Bool} {e1_p : Option Addr} {e1_n : Nat} {e1_c : Nat} {e2 : Int} {w : World} {R : Value → World → Prop} (h : spec_l07Both d0 d1_p d1_n d1_c d2 e0 e1_p e1_n e1_c e2 w R) : Ret P 131 [(.agg #[(.bool d0), (.slice d1_p d1_n d1_c), (.int .i64 d2)]), (.agg #[(.bool e0), (.slice e1_p e1_n e1_c), (.int .i64 e2)])] w R :=
  Ret.of_fsem Tryz.func131 rfl (Eq.mp (spec_l07Both_eq d0 d1_p d1_n d1_c d2 e0 e1_p e1_n e1_c e2 w R) h)
def spec_NatGcd_j0 (a_p : Option Addr) (a_n : Nat) (a_c : Nat) (b_p : Option Addr) (b_n : Nat) (b_c : Nat) (W : World) (R : Value → World → Prop) : Prop :=
  ∀ (r : Nat) (wv_1 : World), New W (.cells ⟨[]⟩ 3 (0, 0)) r wv_1 →
  ∃ (t19_p : Option Addr) (t19_n : Nat) (t19_c : Nat) (wv_2 : World), Appends P [22, 22] [(.slice (some ⟨r, 0, none⟩) 0 0), (.slice a_p a_n a_c)] (.slice t19_p t19_n t19_c) wv_1 wv_2 ∧
  ∀ (r_1 : Nat) (wv_3 : World), New wv_2 (.cells ⟨[]⟩ 3 (0, 0)) r_1 wv_3 →
  ∃ (t22_p : Option Addr) (t22_n : Nat) (t22_c : Nat) (wv_4 : World), Appends P [22, 22] [(.slice (some ⟨r_1, 0, none⟩) 0 0), (.slice b_p b_n b_c)] (.slice t22_p t22_n t22_c) wv_3 wv_4 ∧
  ∃ (Inv : Option Addr → Nat → Nat → Option Addr → Nat → Nat → World → Prop) (mu : Option Addr → Nat → Nat → Option Addr → Nat → Nat → World → Nat), Inv t19_p t19_n t19_c t22_p t22_n t22_c wv_4 ∧
  ∀ (junk : Fr) (wv_5 : World) (x_p : Option Addr) (x_n : Nat) (x_c : Nat) (y_p : Option Addr) (y_n : Nat) (y_c : Nat), Inv x_p x_n x_c y_p y_n y_c wv_5 →
    ((decide ((0 : Int) < ((y_n : Nat) : Int))) = true →
      Calls P 135 ⟨[(.slice x_p x_n x_c), (.slice y_p y_n y_c)]⟩ wv_5 fun e_1 wv_6 =>
      ∃ (t29_p : Option Addr) (t29_n : Nat) (t29_c : Nat) (t29_p_1 : Option Addr) (t29_n_1 : Nat) (t29_c_1 : Nat), e_1 = .returned (.tuple #[(.slice t29_p t29_n t29_c), (.slice t29_p_1 t29_n_1 t29_c_1)]) ∧
      Inv y_p y_n y_c t29_p_1 t29_n_1 t29_c_1 wv_6 ∧ mu y_p y_n y_c t29_p_1 t29_n_1 t29_c_1 wv_6 < mu x_p x_n x_c y_p y_n y_c wv_5) ∧
    ((decide ((0 : Int) < ((y_n : Nat) : Int))) = false →
      R (.slice x_p x_n x_c) wv_5)
def spec_NatGcd (a_p : Option Addr) (a_n : Nat) (a_c : Nat) (b_p : Option Addr) (b_n : Nat) (b_c : Nat) (w : World) (R : Value → World → Prop) : Prop :=
  Calls P 129 ⟨[(.slice a_p a_n a_c)]⟩ w fun e wv =>
  ∃ (t10 : Bool), e = .returned (.bool t10) ∧
  ((!t10) = true →
    (true = true →
      R (.slice none 0 0) wv) ∧
    (true = false →
      spec_NatGcd_j0 a_p a_n a_c b_p b_n b_c wv R)) ∧
  ((!t10) = false →
    Calls P 129 ⟨[(.slice b_p b_n b_c)]⟩ wv fun e_2 wv_7 =>
    ∃ (t14 : Bool), e_2 = .returned (.bool t14) ∧
    ((!t14) = true →
      R (.slice none 0 0) wv_7) ∧
    ((!t14) = false →
      spec_NatGcd_j0 a_p a_n a_c b_p b_n b_c wv_7 R))
theorem spec_NatGcd_eq (a_p : Option Addr) (a_n : Nat) (a_c : Nat) (b_p : Option Addr) (b_n : Nat) (b_c : Nat) (w : World) (R : Value → World → Prop) : spec_NatGcd a_p a_n a_c b_p b_n b_c w R = fsem P Tryz.f132 (fun k => cond (Nat.beq k 6) [(5, .one .slice), (6, .one .slice)] ([])) [(.slice a_p a_n a_c), (.slice b_p b_n b_c)] R w := by kernel_rfl
theorem spec_NatGcd_ret {a_p : Option Addr} {a_n : Nat} {a_c : Nat} {b_p : Option Addr} {b_n : Nat} {b_c : Nat} {w : World} {R : Value → World → Prop} (h : spec_NatGcd a_p a_n a_c b_p b_n b_c w R) : Ret P 132 [(.slice a_p a_n a_c), (.slice b_p b_n b_c)] w R :=
  Ret.of_fsem Tryz.func132 rfl (Eq.mp (spec_NatGcd_eq a_p a_n a_c b_p b_n b_c w R) h)
def spec_l02Trim (a_p : Option Addr) (a_n : Nat) (a_c : Nat) (w : World) (R : Value → World → Prop) : Prop :=
  ∃ (Inv : Int → World → Prop) (mu : Int → World → Nat), Inv ((a_n : Nat) : Int) w ∧
  ∀ (junk : Fr) (wv : World) (n : Int), Inv n wv →
    ((decide ((0 : Int) < n)) = true →
      ∃ t11 : Int, t11 = IntKind.wrap .i64 (n - 1) ∧ (0 ≤ (t11 : Int) ∧ (t11 : Int) < (a_n : Nat)) ∧ ptrS a_p fun ad => ∃ (t13 : Int), Loads P 3 (ad.add (t11.toNat * 1)) (.int .i64 t13) wv ∧ ((decide ((t13 : Int) = 0)) = true →
        ∃ t17 : Int, t17 = IntKind.wrap .i64 (n - 1) ∧ Inv t17 wv ∧ mu t17 wv < mu n wv) ∧
      ((decide ((t13 : Int) = 0)) = false →
        (0 ≤ (n : Int) ∧ (n : Int) ≤ (a_c : Nat)) ∧ R (.slice (sub a_p 0 a_c 1) (n.toNat - 0) (a_c - 0)) wv)) ∧
    ((decide ((0 : Int) < n)) = false →
      (false = true →
        ∃ t17_1 : Int, t17_1 = IntKind.wrap .i64 (n - 1) ∧ Inv t17_1 wv ∧ mu t17_1 wv < mu n wv) ∧
      (false = false →
        (0 ≤ (n : Int) ∧ (n : Int) ≤ (a_c : Nat)) ∧ R (.slice (sub a_p 0 a_c 1) (n.toNat - 0) (a_c - 0)) wv))
theorem spec_l02Trim_eq (a_p : Option Addr) (a_n : Nat) (a_c : Nat) (w : World) (R : Value → World → Prop) : spec_l02Trim a_p a_n a_c w R = fsem P Tryz.f133 (fun k => cond (Nat.beq k 3) [(3, .one (.int .i64))] ([])) [(.slice a_p a_n a_c)] R w := by kernel_rfl
theorem spec_l02Trim_ret {a_p : Option Addr} {a_n : Nat} {a_c : Nat} {w : World} {R : Value → World → Prop} (h : spec_l02Trim a_p a_n a_c w R) : Ret P 133 [(.slice a_p a_n a_c)] w R :=
  Ret.of_fsem Tryz.func133 rfl (Eq.mp (spec_l02Trim_eq a_p a_n a_c w R) h)
def spec_l05Gcd (a_p : Option Addr) (a_n : Nat) (a_c : Nat) (b_p : Option Addr) (b_n : Nat) (b_c : Nat) (w : World) (R : Value → World → Prop) : Prop :=
  ∃ (Inv : Option Addr → Nat → Nat → Option Addr → Nat → Nat → World → Prop) (mu : Option Addr → Nat → Nat → Option Addr → Nat → Nat → World → Nat), Inv a_p a_n a_c b_p b_n b_c w ∧
  ∀ (junk : Fr) (wv : World) (x_p : Option Addr) (x_n : Nat) (x_c : Nat) (y_p : Option Addr) (y_n : Nat) (y_c : Nat), Inv x_p x_n x_c y_p y_n y_c wv →
    ((decide ((0 : Int) < ((y_n : Nat) : Int))) = true →
      Calls P 135 ⟨[(.slice x_p x_n x_c), (.slice y_p y_n y_c)]⟩ wv fun e wv_1 =>
      ∃ (t17_p : Option Addr) (t17_n : Nat) (t17_c : Nat) (t17_p_1 : Option Addr) (t17_n_1 : Nat) (t17_c_1 : Nat), e = .returned (.tuple #[(.slice t17_p t17_n t17_c), (.slice t17_p_1 t17_n_1 t17_c_1)]) ∧
      Inv y_p y_n y_c t17_p_1 t17_n_1 t17_c_1 wv_1 ∧ mu y_p y_n y_c t17_p_1 t17_n_1 t17_c_1 wv_1 < mu x_p x_n x_c y_p y_n y_c wv) ∧
    ((decide ((0 : Int) < ((y_n : Nat) : Int))) = false →
      R (.slice x_p x_n x_c) wv)
theorem spec_l05Gcd_eq (a_p : Option Addr) (a_n : Nat) (a_c : Nat) (b_p : Option Addr) (b_n : Nat) (b_c : Nat) (w : World) (R : Value → World → Prop) : spec_l05Gcd a_p a_n a_c b_p b_n b_c w R = fsem P Tryz.f134 (fun k => cond (Nat.beq k 4) [(5, .one .slice), (6, .one .slice)] ([])) [(.slice a_p a_n a_c), (.slice b_p b_n b_c)] R w := by kernel_rfl
theorem spec_l05Gcd_ret {a_p : Option Addr} {a_n : Nat} {a_c : Nat} {b_p : Option Addr} {b_n : Nat} {b_c : Nat} {w : World} {R : Value → World → Prop} (h : spec_l05Gcd a_p a_n a_c b_p b_n b_c w R) : Ret P 134 [(.slice a_p a_n a_c), (.slice b_p b_n b_c)] w R :=
  Ret.of_fsem Tryz.func134 rfl (Eq.mp (spec_l05Gcd_eq a_p a_n a_c b_p b_n b_c w R) h)
def spec_l03Div_j0 (wv_4 : World) (Inv : Option Addr → Nat → Nat → Int → World → Prop) (mu : Option Addr → Nat → Nat → Int → World → Nat) (rest_p : Option Addr) (rest_n : Nat) (rest_c : Nat) (i : Int) (rest_p_1 : Option Addr) (rest_n_1 : Nat) (rest_c_1 : Nat) (W : World) (R : Value → World → Prop) : Prop :=
  ∃ t36 : Int, t36 = IntKind.wrap .i64 (i - 1) ∧ Inv rest_p_1 rest_n_1 rest_c_1 t36 W ∧ mu rest_p_1 rest_n_1 rest_c_1 t36 W < mu rest_p rest_n rest_c i wv_4
def spec_l03Div (a_p : Option Addr) (a_n : Nat) (a_c : Nat) (b_p : Option Addr) (b_n : Nat) (b_c : Nat) (w : World) (R : Value → World → Prop) : Prop :=
  ((decide ((((b_n : Nat) : Int) : Int) = 1)) = true →
    (0 ≤ (0 : Int) ∧ (0 : Int) < (b_n : Nat)) ∧ ptrS b_p fun ad => ∃ (t19 : Int), Loads P 3 (ad.add (0 * 1)) (.int .i64 t19) w ∧ Calls P 158 ⟨[(.slice a_p a_n a_c), (.int .i64 t19)]⟩ w fun e wv =>
    ∃ (t20_p : Option Addr) (t20_n : Nat) (t20_c : Nat) (t20 : Int), e = .returned (.tuple #[(.slice t20_p t20_n t20_c), (.int .i64 t20)]) ∧
    Calls P 105 ⟨[(.int .i64 t20)]⟩ wv fun e_1 wv_1 =>
    ∃ (t25_p : Option Addr) (t25_n : Nat) (t25_c : Nat), e_1 = .returned (.slice t25_p t25_n t25_c) ∧
    R (.tuple #[(.slice t20_p t20_n t20_c), (.slice t25_p t25_n t25_c)]) wv_1) ∧
  ((decide ((((b_n : Nat) : Int) : Int) = 1)) = false →
    (0 ≤ (((a_n : Nat) : Int) : Int) ∧ (((a_n : Nat) : Int) : Int) ≤ ((a_n : Nat) : Int) ∧ ((8 : Nat) : Int) * ((a_n : Nat) : Int) ≤ 281474976710656) ∧
    ∀ (r : Nat) (wv_2 : World), New w (.cells ⟨zeroRow (.int .i64 0) (a_n * 1)⟩ 3 (0, 0)) r wv_2 →
    ∀ (r_1 : Nat) (wv_3 : World), New wv_2 (.cells ⟨[]⟩ 3 (0, 0)) r_1 wv_3 →
    ∃ t32 : Int, t32 = IntKind.wrap .i64 (((a_n : Nat) : Int) - 1) ∧ ∃ (Inv : Option Addr → Nat → Nat → Int → World → Prop) (mu : Option Addr → Nat → Nat → Int → World → Nat), Inv (some ⟨r_1, 0, none⟩) 0 0 t32 wv_3 ∧
    ∀ (junk : Fr) (wv_4 : World) (rest_p : Option Addr) (rest_n : Nat) (rest_c : Nat) (i : Int), Inv rest_p rest_n rest_c i wv_4 →
      ((decide ((0 : Int) ≤ i)) = true →
        (0 ≤ (i : Int) ∧ (i : Int) < (a_n : Nat)) ∧ ptrS a_p fun ad_1 => ∃ (t40 : Int), Loads P 3 (ad_1.add (i.toNat * 1)) (.int .i64 t40) wv_4 ∧ ∀ (r_2 : Nat) (wv_5 : World), New wv_4 (.cells ⟨[(.int .i64 t40)]⟩ 3 (0, 0)) r_2 wv_5 →
        ∃ (t43_p : Option Addr) (t43_n : Nat) (t43_c : Nat) (wv_6 : World), Appends P [22, 22] [(.slice (some ⟨r_2, 0, none⟩) 1 1), (.slice rest_p rest_n rest_c)] (.slice t43_p t43_n t43_c) wv_5 wv_6 ∧
        Calls P 133 ⟨[(.slice t43_p t43_n t43_c)]⟩ wv_6 fun e_2 wv_7 =>
        ∃ (t44_p : Option Addr) (t44_n : Nat) (t44_c : Nat), e_2 = .returned (.slice t44_p t44_n t44_c) ∧
        Calls P 115 ⟨[(.slice t44_p t44_n t44_c), (.slice b_p b_n b_c)]⟩ wv_7 fun e_3 wv_8 =>
        ∃ (t47 : Int), e_3 = .returned (.int .i64 t47) ∧
        ((decide ((t47 : Int) < 0)) = true →
          spec_l03Div_j0 wv_4 Inv mu rest_p rest_n rest_c i t44_p t44_n t44_c wv_8 R) ∧
        ((decide ((t47 : Int) < 0)) = false →
          Calls P 159 ⟨[(.slice t44_p t44_n t44_c), (.slice b_p b_n b_c)]⟩ wv_8 fun e_4 wv_9 =>
          ∃ (t51 : Int), e_4 = .returned (.int .i64 t51) ∧
          (0 ≤ (i : Int) ∧ (i : Int) < (a_n : Nat)) ∧ ∃ wv_10, Stores P 3 ((⟨r, 0, none⟩ : Addr).add (i.toNat * 1)) (.int .i64 t51) wv_9 wv_10 ∧
          Calls P 105 ⟨[(.int .i64 t51)]⟩ wv_10 fun e_5 wv_11 =>
          ∃ (t59_p : Option Addr) (t59_n : Nat) (t59_c : Nat), e_5 = .returned (.slice t59_p t59_n t59_c) ∧
          Calls P 87 ⟨[(.slice b_p b_n b_c), (.slice t59_p t59_n t59_c)]⟩ wv_11 fun e_6 wv_12 =>
          ∃ (t60_p : Option Addr) (t60_n : Nat) (t60_c : Nat), e_6 = .returned (.slice t60_p t60_n t60_c) ∧
          Calls P 151 ⟨[(.slice t44_p t44_n t44_c), (.slice t60_p t60_n t60_c)]⟩ wv_12 fun e_7 wv_13 =>
          ∃ (t61_p : Option Addr) (t61_n : Nat) (t61_c : Nat), e_7 = .returned (.slice t61_p t61_n t61_c) ∧
          spec_l03Div_j0 wv_4 Inv mu rest_p rest_n rest_c i t61_p t61_n t61_c wv_13 R)) ∧
      ((decide ((0 : Int) ≤ i)) = false →
        Calls P 133 ⟨[(.slice (some ⟨r, 0, none⟩) a_n a_n)]⟩ wv_4 fun e_8 wv_14 =>
        ∃ (t63_p : Option Addr) (t63_n : Nat) (t63_c : Nat), e_8 = .returned (.slice t63_p t63_n t63_c) ∧
        R (.tuple #[(.slice t63_p t63_n t63_c), (.slice rest_p rest_n rest_c)]) wv_14))
theorem spec_l03Div_eq (a_p : Option Addr) (a_n : Nat) (a_c : Nat) (b_p : Option Addr) (b_n : Nat) (b_c : Nat) (w : World) (R : Value → World → Prop) : spec_l03Div a_p a_n a_c b_p b_n b_c w R = fsem P Tryz.f135 (fun k => cond (Nat.beq k 8) [(9, .one .slice), (10, .one (.int .i64))] ([])) [(.slice a_p a_n a_c), (.slice b_p b_n b_c)] R w := by kernel_rfl
theorem spec_l03Div_ret {a_p : Option Addr} {a_n : Nat} {a_c : Nat} {b_p : Option Addr} {b_n : Nat} {b_c : Nat} {w : World} {R : Value → World → Prop} (h : spec_l03Div a_p a_n a_c b_p b_n b_c w R) : Ret P 135 [(.slice a_p a_n a_c), (.slice b_p b_n b_c)] w R :=
  Ret.of_fsem Tryz.func135 rfl (Eq.mp (spec_l03Div_eq a_p a_n a_c b_p b_n b_c w R) h)
def spec_NatTen (k : Int) (w : World) (R : Value → World → Prop) : Prop :=
  Calls P 130 ⟨[(.int .i64 k), (.int .i64 0), (.int .i64 449)]⟩ w fun e wv =>
  ∃ (t7 : Bool), e = .returned (.bool t7) ∧
  ((!t7) = true →
    R (.slice none 0 0) wv) ∧
  ((!t7) = false →
    (9 : Int) ≠ 0 ∧ ∃ t10 : Int, t10 = IntKind.wrap .i64 (Int.tdiv k 9) ∧ (0 ≤ (t10 : Int) ∧ (t10 : Int) ≤ t10 ∧ ((8 : Nat) : Int) * t10 ≤ 281474976710656) ∧
    ∀ (r : Nat) (wv_1 : World), New wv (.cells ⟨zeroRow (.int .i64 0) (t10.toNat * 1)⟩ 3 (0, 0)) r wv_1 →
    ∃ (Inv : Int → Int → World → Prop) (mu : Int → Int → World → Nat), Inv 1 0 wv_1 ∧
    ∀ (junk : Fr) (wv_2 : World) (f : Int) (i : Int), Inv f i wv_2 →
      (9 : Int) ≠ 0 ∧ ∃ t14 : Int, t14 = Int.tmod k 9 ∧ ((decide ((i : Int) < t14)) = true →
        ∃ t19 : Int, t19 = IntKind.wrap .i64 (f * 10) ∧ ∃ t17 : Int, t17 = IntKind.wrap .i64 (i + 1) ∧ Inv t19 t17 wv_2 ∧ mu t19 t17 wv_2 < mu f i wv_2) ∧
      ((decide ((i : Int) < t14)) = false →
        ∀ (r_1 : Nat) (wv_3 : World), New wv_2 (.cells ⟨[(.int .i64 f)]⟩ 3 (0, 0)) r_1 wv_3 →
        ∃ (t23_p : Option Addr) (t23_n : Nat) (t23_c : Nat) (wv_4 : World), Appends P [22, 22] [(.slice (some ⟨r, 0, none⟩) t10.toNat t10.toNat), (.slice (some ⟨r_1, 0, none⟩) 1 1)] (.slice t23_p t23_n t23_c) wv_3 wv_4 ∧
        R (.slice t23_p t23_n t23_c) wv_4))
theorem spec_NatTen_eq (k : Int) (w : World) (R : Value → World → Prop) : spec_NatTen k w R = fsem P Tryz.f136 (fun k => cond (Nat.beq k 7) [(4, .one (.int .i64)), (5, .one (.int .i64))] ([])) [(.int .i64 k)] R w := by kernel_rfl
theorem spec_NatTen_ret {k : Int} {w : World} {R : Value → World → Prop} (h : spec_NatTen k w R) : Ret P 136 [(.int .i64 k)] w R :=
  Ret.of_fsem Tryz.func136 rfl (Eq.mp (spec_NatTen_eq k w R) h)
def spec_RatRound (r0 : Bool) (r1_p : Option Addr) (r1_n : Nat) (r1_c : Nat) (r2_p : Option Addr) (r2_n : Nat) (r2_c : Nat) (m : Int) (w : World) (R : Value → World → Prop) : Prop :=
  ∀ (r : Nat) (wv : World), New w (.cells ⟨[(.bool r0), (.slice r1_p r1_n r1_c), (.slice r2_p r2_n r2_c)]⟩ 35 (0, 0)) r wv →
  ∀ (r_1 : Nat) (wv_1 : World), New wv (.cells ⟨[(.bool false), (.slice none 0 0)]⟩ 31 (0, 0)) r_1 wv_1 →
  ∃ (t60 : Bool) (t61_p : Option Addr) (t61_n : Nat) (t61_c : Nat) (t62_p : Option Addr) (t62_n : Nat) (t62_c : Nat), Loads P 35 ⟨r, 0, none⟩ (.agg #[(.bool t60), (.slice t61_p t61_n t61_c), (.slice t62_p t62_n t62_c)]) wv_1 ∧ Calls P 85 ⟨[(.agg #[(.bool t60), (.slice t61_p t61_n t61_c), (.slice t62_p t62_n t62_c)])]⟩ wv_1 fun e wv_2 =>
  ∃ (t7 : Bool), e = .returned (.bool t7) ∧
  ((!t7) = true →
    (true = true →
      ∃ wv_3, Stores P 31 ⟨r_1, 0, none⟩ (.agg #[(.bool false), (.slice none 0 0)]) wv_2 wv_3 ∧
      ∃ (r0_1 : Bool) (r1_p_1 : Option Addr) (r1_n_1 : Nat) (r1_c_1 : Nat), Loads P 31 ⟨r_1, 0, none⟩ (.agg #[(.bool r0_1), (.slice r1_p_1 r1_n_1 r1_c_1)]) wv_3 ∧ R (.tuple #[(.agg #[(.bool r0_1), (.slice r1_p_1 r1_n_1 r1_c_1)]), (.bool false)]) wv_3) ∧
    (true = false →
      ∃ (t150 : Bool) (t151_p : Option Addr) (t151_n : Nat) (t151_c : Nat) (t152_p : Option Addr) (t152_n : Nat) (t152_c : Nat), Loads P 35 ⟨r, 0, none⟩ (.agg #[(.bool t150), (.slice t151_p t151_n t151_c), (.slice t152_p t152_n t152_c)]) wv_2 ∧ Calls P 161 ⟨[(.agg #[(.bool t150), (.slice t151_p t151_n t151_c), (.slice t152_p t152_n t152_c)]), (.int .i64 m)]⟩ wv_2 fun e_1 wv_4 =>
      ∃ (t170 : Bool) (t171_p : Option Addr) (t171_n : Nat) (t171_c : Nat), e_1 = .returned (.agg #[(.bool t170), (.slice t171_p t171_n t171_c)]) ∧
      ∃ wv_5, Stores P 31 ⟨r_1, 0, none⟩ (.agg #[(.bool t170), (.slice t171_p t171_n t171_c)]) wv_4 wv_5 ∧
      ∃ (r0_2 : Bool) (r1_p_2 : Option Addr) (r1_n_2 : Nat) (r1_c_2 : Nat), Loads P 31 ⟨r_1, 0, none⟩ (.agg #[(.bool r0_2), (.slice r1_p_2 r1_n_2 r1_c_2)]) wv_5 ∧ R (.tuple #[(.agg #[(.bool r0_2), (.slice r1_p_2 r1_n_2 r1_c_2)]), (.bool true)]) wv_5)) ∧
  ((!t7) = false →
    Calls P 160 ⟨[(.int .i64 m)]⟩ wv_2 fun e_2 wv_6 =>
    ∃ (t11 : Bool), e_2 = .returned (.bool t11) ∧
    ((!t11) = true →
      ∃ wv_7, Stores P 31 ⟨r_1, 0, none⟩ (.agg #[(.bool false), (.slice none 0 0)]) wv_6 wv_7 ∧
      ∃ (r0_3 : Bool) (r1_p_3 : Option Addr) (r1_n_3 : Nat) (r1_c_3 : Nat), Loads P 31 ⟨r_1, 0, none⟩ (.agg #[(.bool r0_3), (.slice r1_p_3 r1_n_3 r1_c_3)]) wv_7 ∧ R (.tuple #[(.agg #[(.bool r0_3), (.slice r1_p_3 r1_n_3 r1_c_3)]), (.bool false)]) wv_7) ∧
    ((!t11) = false →
      ∃ (t150_1 : Bool) (t151_p_1 : Option Addr) (t151_n_1 : Nat) (t151_c_1 : Nat) (t152_p_1 : Option Addr) (t152_n_1 : Nat) (t152_c_1 : Nat), Loads P 35 ⟨r, 0, none⟩ (.agg #[(.bool t150_1), (.slice t151_p_1 t151_n_1 t151_c_1), (.slice t152_p_1 t152_n_1 t152_c_1)]) wv_6 ∧ Calls P 161 ⟨[(.agg #[(.bool t150_1), (.slice t151_p_1 t151_n_1 t151_c_1), (.slice t152_p_1 t152_n_1 t152_c_1)]), (.int .i64 m)]⟩ wv_6 fun e_3 wv_8 =>
      ∃ (t170_1 : Bool) (t171_p_1 : Option Addr) (t171_n_1 : Nat) (t171_c_1 : Nat), e_3 = .returned (.agg #[(.bool t170_1), (.slice t171_p_1 t171_n_1 t171_c_1)]) ∧
      ∃ wv_9, Stores P 31 ⟨r_1, 0, none⟩ (.agg #[(.bool t170_1), (.slice t171_p_1 t171_n_1 t171_c_1)]) wv_8 wv_9 ∧
      ∃ (r0_4 : Bool) (r1_p_4 : Option Addr) (r1_n_4 : Nat) (r1_c_4 : Nat), Loads P 31 ⟨r_1, 0, none⟩ (.agg #[(.bool r0_4), (.slice r1_p_4 r1_n_4 r1_c_4)]) wv_9 ∧ R (.tuple #[(.agg #[(.bool r0_4), (.slice r1_p_4 r1_n_4 r1_c_4)]), (.bool true)]) wv_9))
theorem spec_RatRound_eq (r0 : Bool) (r1_p : Option Addr) (r1_n : Nat) (r1_c : Nat) (r2_p : Option Addr) (r2_n : Nat) (r2_c : Nat) (m : Int) (w : World) (R : Value → World → Prop) : spec_RatRound r0 r1_p r1_n r1_c r2_p r2_n r2_c m w R = fsem P Tryz.f137 (fun k => []) [(.agg #[(.bool r0), (.slice r1_p r1_n r1_c), (.slice r2_p r2_n r2_c)]), (.int .i64 m)] R w := by kernel_rfl
theorem spec_RatRound_ret {r0 : Bool} {r1_p : Option Addr} {r1_n : Nat} {r1_c : Nat} {r2_p : Option Addr} {r2_n : Nat} {r2_c : Nat} {m : Int} {w : World} {R : Value → World → Prop} (h : spec_RatRound r0 r1_p r1_n r1_c r2_p r2_n r2_c m w R) : Ret P 137 [(.agg #[(.bool r0), (.slice r1_p r1_n r1_c), (.slice r2_p r2_n r2_c)]), (.int .i64 m)] w R :=
  Ret.of_fsem Tryz.func137 rfl (Eq.mp (spec_RatRound_eq r0 r1_p r1_n r1_c r2_p r2_n r2_c m w R) h)
def spec_RatSub (r0 : Bool) (r1_p : Option Addr) (r1_n : Nat) (r1_c : Nat) (r2_p : Option Addr) (r2_n : Nat) (r2_c : Nat) (s0 : Bool) (s1_p : Option Addr) (s1_n : Nat) (s1_c : Nat) (s2_p : Option Addr) (s2_n : Nat) (s2_c : Nat) (w : World) (R : Value → World → Prop) : Prop :=
  ∀ (r : Nat) (wv : World), New w (.cells ⟨[(.bool r0), (.slice r1_p r1_n r1_c), (.slice r2_p r2_n r2_c)]⟩ 35 (0, 0)) r wv →
  ∀ (r_1 : Nat) (wv_1 : World), New wv (.cells ⟨[(.bool s0), (.slice s1_p s1_n s1_c), (.slice s2_p s2_n s2_c)]⟩ 35 (0, 0)) r_1 wv_1 →
  ∀ (r_2 : Nat) (wv_2 : World), New wv_1 (.cells ⟨[(.bool false), (.slice none 0 0), (.slice none 0 0)]⟩ 35 (0, 0)) r_2 wv_2 →
  ∃ (t90 : Bool) (t91_p : Option Addr) (t91_n : Nat) (t91_c : Nat) (t92_p : Option Addr) (t92_n : Nat) (t92_c : Nat), Loads P 35 ⟨r_1, 0, none⟩ (.agg #[(.bool t90), (.slice t91_p t91_n t91_c), (.slice t92_p t92_n t92_c)]) wv_2 ∧ Calls P 162 ⟨[(.agg #[(.bool t90), (.slice t91_p t91_n t91_c), (.slice t92_p t92_n t92_c)])]⟩ wv_2 fun e wv_3 =>
  ∃ (t100 : Bool) (t101_p : Option Addr) (t101_n : Nat) (t101_c : Nat) (t102_p : Option Addr) (t102_n : Nat) (t102_c : Nat) (t10 : Bool), e = .returned (.tuple #[(.agg #[(.bool t100), (.slice t101_p t101_n t101_c), (.slice t102_p t102_n t102_c)]), (.bool t10)]) ∧
  ∀ (r_3 : Nat) (wv_4 : World), New wv_3 (.cells ⟨[(.bool false), (.slice none 0 0), (.slice none 0 0)]⟩ 35 (0, 0)) r_3 wv_4 →
  ∃ wv_5, Stores P 35 ⟨r_3, 0, none⟩ (.agg #[(.bool t100), (.slice t101_p t101_n t101_c), (.slice t102_p t102_n t102_c)]) wv_4 wv_5 ∧
  ((!t10) = true →
    ∃ wv_6, Stores P 35 ⟨r_2, 0, none⟩ (.agg #[(.bool false), (.slice none 0 0), (.slice none 0 0)]) wv_5 wv_6 ∧
    ∃ (r0_1 : Bool) (r1_p_1 : Option Addr) (r1_n_1 : Nat) (r1_c_1 : Nat) (r2_p_1 : Option Addr) (r2_n_1 : Nat) (r2_c_1 : Nat), Loads P 35 ⟨r_2, 0, none⟩ (.agg #[(.bool r0_1), (.slice r1_p_1 r1_n_1 r1_c_1), (.slice r2_p_1 r2_n_1 r2_c_1)]) wv_6 ∧ R (.tuple #[(.agg #[(.bool r0_1), (.slice r1_p_1 r1_n_1 r1_c_1), (.slice r2_p_1 r2_n_1 r2_c_1)]), (.bool false)]) wv_6) ∧
  ((!t10) = false →
    ∃ (t160 : Bool) (t161_p : Option Addr) (t161_n : Nat) (t161_c : Nat) (t162_p : Option Addr) (t162_n : Nat) (t162_c : Nat), Loads P 35 ⟨r, 0, none⟩ (.agg #[(.bool t160), (.slice t161_p t161_n t161_c), (.slice t162_p t162_n t162_c)]) wv_5 ∧ ∃ (t170 : Bool) (t171_p : Option Addr) (t171_n : Nat) (t171_c : Nat) (t172_p : Option Addr) (t172_n : Nat) (t172_c : Nat), Loads P 35 ⟨r_3, 0, none⟩ (.agg #[(.bool t170), (.slice t171_p t171_n t171_c), (.slice t172_p t172_n t172_c)]) wv_5 ∧ Calls P 59 ⟨[(.agg #[(.bool t160), (.slice t161_p t161_n t161_c), (.slice t162_p t162_n t162_c)]), (.agg #[(.bool t170), (.slice t171_p t171_n t171_c), (.slice t172_p t172_n t172_c)])]⟩ wv_5 fun e_1 wv_7 =>
    ∃ (t180 : Bool) (t181_p : Option Addr) (t181_n : Nat) (t181_c : Nat) (t182_p : Option Addr) (t182_n : Nat) (t182_c : Nat) (t18 : Bool), e_1 = .returned (.tuple #[(.agg #[(.bool t180), (.slice t181_p t181_n t181_c), (.slice t182_p t182_n t182_c)]), (.bool t18)]) ∧
    ∃ wv_8, Stores P 35 ⟨r_2, 0, none⟩ (.agg #[(.bool t180), (.slice t181_p t181_n t181_c), (.slice t182_p t182_n t182_c)]) wv_7 wv_8 ∧
    ∃ (r0_2 : Bool) (r1_p_2 : Option Addr) (r1_n_2 : Nat) (r1_c_2 : Nat) (r2_p_2 : Option Addr) (r2_n_2 : Nat) (r2_c_2 : Nat), Loads P 35 ⟨r_2, 0, none⟩ (.agg #[(.bool r0_2), (.slice r1_p_2 r1_n_2 r1_c_2), (.slice r2_p_2 r2_n_2 r2_c_2)]) wv_8 ∧ R (.tuple #[(.agg #[(.bool r0_2), (.slice r1_p_2 r1_n_2 r1_c_2), (.slice r2_p_2 r2_n_2 r2_c_2)]), (.bool t18)]) wv_8)
theorem spec_RatSub_eq (r0 : Bool) (r1_p : Option Addr) (r1_n : Nat) (r1_c : Nat) (r2_p : Option Addr) (r2_n : Nat) (r2_c : Nat) (s0 : Bool) (s1_p : Option Addr) (s1_n : Nat) (s1_c : Nat) (s2_p : Option Addr) (s2_n : Nat) (s2_c : Nat) (w : World) (R : Value → World → Prop) : spec_RatSub r0 r1_p r1_n r1_c r2_p r2_n r2_c s0 s1_p s1_n s1_c s2_p s2_n s2_c w R = fsem P Tryz.f138 (fun k => []) [(.agg #[(.bool r0), (.slice r1_p r1_n r1_c), (.slice r2_p r2_n r2_c)]), (.agg #[(.bool s0), (.slice s1_p s1_n s1_c), (.slice s2_p s2_n s2_c)])] R w := by kernel_rfl
theorem spec_RatSub_ret {r0 : Bool} {r1_p : Option Addr} {r1_n : Nat} {r1_c : Nat} {r2_p : Option Addr} {r2_n : Nat} {r2_c : Nat} {s0 : Bool} {s1_p : Option Addr} {s1_n : Nat} {s1_c : Nat} {s2_p : Option Addr} {s2_n : Nat} {s2_c : Nat} {w : World} {R : Value → World → Prop} (h : spec_RatSub r0 r1_p r1_n r1_c r2_p r2_n r2_c s0 s1_p s1_n s1_c s2_p s2_n s2_c w R) : Ret P 138 [(.agg #[(.bool r0), (.slice r1_p r1_n r1_c), (.slice r2_p r2_n r2_c)]), (.agg #[(.bool s0), (.slice s1_p s1_n s1_c), (.slice s2_p s2_n s2_c)])] w R :=
  Ret.of_fsem Tryz.func138 rfl (Eq.mp (spec_RatSub_eq r0 r1_p r1_n r1_c r2_p r2_n r2_c s0 s1_p s1_n s1_c s2_p s2_n s2_c w R) h)
def impl_currencyOf (code : ByteArray) (w : World) (R : Value → World → Prop) : Prop :=
  ∀ (r : Nat) (wv : World), New w (.cells ⟨[(.string ByteArray.empty), (.string ByteArray.empty), (.int .i64 0), (.int .i64 0)]⟩ 133 (0, 0)) r wv →
  ∃ (t6 : Value), Loads P 146 ⟨0, 0, none⟩ t6 wv ∧ ∃ (Inv : Int → World → Prop) (mu : Int → World → Nat), Inv 0 wv ∧
  ∀ (junk : Fr) (wv_1 : World) (t7 : Int), Inv t7 wv_1 →
    ((decide ((t7 : Int) < 20)) = true →
      indexS P 146 t6 (.int .i64 t7) fun (el : Value) => ∀ (r_1 : Nat) (wv_2 : World), New wv_1 (.cells ⟨[(.string ByteArray.empty), (.string ByteArray.empty), (.int .i64 0), (.int .i64 0)]⟩ 133 (0, 0)) r_1 wv_2 →
      ∃ wv_3, Stores P 133 ⟨r_1, 0, none⟩ el wv_2 wv_3 ∧
      ∃ (t11 : ByteArray), Loads P 9 ((⟨r_1, 0, none⟩ : Addr).add 0) (.string t11) wv_3 ∧ ((decide (t11 = code)) = true →
        ∃ (t140 : ByteArray) (t141 : ByteArray) (t142 : Int) (t143 : Int), Loads P 133 ⟨r_1, 0, none⟩ (.agg #[(.string t140), (.string t141), (.int .i64 t142), (.int .i64 t143)]) wv_3 ∧ ∃ wv_4, Stores P 133 ⟨r, 0, none⟩ (.agg #[(.string t140), (.string t141), (.int .i64 t142), (.int .i64 t143)]) wv_3 wv_4 ∧
        ∃ (r0 : ByteArray) (r1 : ByteArray) (r2 : Int) (r3 : Int), Loads P 133 ⟨r, 0, none⟩ (.agg #[(.string r0), (.string r1), (.int .i64 r2), (.int .i64 r3)]) wv_4 ∧ R (.tuple #[(.agg #[(.string r0), (.string r1), (.int .i64 r2), (.int .i64 r3)]), (.bool true)]) wv_4) ∧
      ((decide (t11 = code)) = false →
        ∃ t15 : Int, t15 = IntKind.wrap .i64 (t7 + 1) ∧ Inv t15 wv_3 ∧ mu t15 wv_3 < mu t7 wv_1)) ∧
    ((decide ((t7 : Int) < 20)) = false →
      ∃ wv_5, Stores P 133 ⟨r, 0, none⟩ (.agg #[(.string ByteArray.empty), (.string ByteArray.empty), (.int .i64 0), (.int .i64 0)]) wv_1 wv_5 ∧
      ∃ (r0_1 : ByteArray) (r1_1 : ByteArray) (r2_1 : Int) (r3_1 : Int), Loads P 133 ⟨r, 0, none⟩ (.agg #[(.string r0_1), (.string r1_1), (.int .i64 r2_1), (.int .i64 r3_1)]) wv_5 ∧ R (.tuple #[(.agg #[(.string r0_1), (.string r1_1), (.int .i64 r2_1), (.int .i64 r3_1)]), (.bool false)]) wv_5)
theorem impl_currencyOf_eq (code : ByteArray) (w : World) (R : Value → World → Prop) : impl_currencyOf code w R = fsem P Tryz.f139 (fun k => cond (Nat.beq k 3) [(7, .one (.int .i64))] ([])) [(.string code)] R w := by kernel_rfl
theorem impl_currencyOf_ret {code : ByteArray} {w : World} {R : Value → World → Prop} (h : impl_currencyOf code w R) : Ret P 139 [(.string code)] w R :=
  Ret.of_fsem Tryz.func139 rfl (Eq.mp (impl_currencyOf_eq code w R) h)
def impl_NatOk_j0 (a_p : Option Addr) (a_n : Nat) (W : World) (R : Value → World → Prop) : Prop :=
  ∃ (Inv : Int → World → Prop) (mu : Int → World → Nat), Inv 0 W ∧
  ∀ (junk : Fr) (wv : World) (t24 : Int), Inv t24 wv →
    ((decide ((t24 : Int) < ((a_n : Nat) : Int))) = true →
      (0 ≤ (t24 : Int) ∧ (t24 : Int) < (a_n : Nat)) ∧ ptrS a_p fun ad => ∃ (t27 : Int), Loads P 3 (ad.add (t24.toNat * 1)) (.int .i64 t27) wv ∧ ((decide ((t27 : Int) < 0)) = true →
        (true = true →
          R (.bool false) wv) ∧
        (true = false →
          ∃ t34 : Int, t34 = IntKind.wrap .i64 (t24 + 1) ∧ Inv t34 wv ∧ mu t34 wv < mu t24 wv)) ∧
      ((decide ((t27 : Int) < 0)) = false →
        ((decide ((1000000000 : Int) ≤ t27)) = true →
          R (.bool false) wv) ∧
        ((decide ((1000000000 : Int) ≤ t27)) = false →
          ∃ t34_1 : Int, t34_1 = IntKind.wrap .i64 (t24 + 1) ∧ Inv t34_1 wv ∧ mu t34_1 wv < mu t24 wv))) ∧
    ((decide ((t24 : Int) < ((a_n : Nat) : Int))) = false →
      R (.bool true) wv)
def impl_NatOk (a_p : Option Addr) (a_n : Nat) (a_c : Nat) (w : World) (R : Value → World → Prop) : Prop :=
  ((decide ((50 : Int) < ((a_n : Nat) : Int))) = true →
    (true = true →
      R (.bool false) w) ∧
    (true = false →
      impl_NatOk_j0 a_p a_n w R)) ∧
  ((decide ((50 : Int) < ((a_n : Nat) : Int))) = false →
    ((decide ((0 : Int) < ((a_n : Nat) : Int))) = true →
      ∃ t16 : Int, t16 = IntKind.wrap .i64 (((a_n : Nat) : Int) - 1) ∧ (0 ≤ (t16 : Int) ∧ (t16 : Int) < (a_n : Nat)) ∧ ptrS a_p fun ad_1 => ∃ (t18 : Int), Loads P 3 (ad_1.add (t16.toNat * 1)) (.int .i64 t18) w ∧ ((decide ((t18 : Int) = 0)) = true →
        R (.bool false) w) ∧
      ((decide ((t18 : Int) = 0)) = false →
        impl_NatOk_j0 a_p a_n w R)) ∧
    ((decide ((0 : Int) < ((a_n : Nat) : Int))) = false →
      (false = true →
        R (.bool false) w) ∧
      (false = false →
        impl_NatOk_j0 a_p a_n w R)))
theorem impl_NatOk_eq (a_p : Option Addr) (a_n : Nat) (a_c : Nat) (w : World) (R : Value → World → Prop) : impl_NatOk a_p a_n a_c w R = fsem P Tryz.f140 (fun k => cond (Nat.beq k 5) [(24, .one (.int .i64))] ([])) [(.slice a_p a_n a_c)] R w := by kernel_rfl
theorem impl_NatOk_ret {a_p : Option Addr} {a_n : Nat} {a_c : Nat} {w : World} {R : Value → World → Prop} (h : impl_NatOk a_p a_n a_c w R) : Ret P 140 [(.slice a_p a_n a_c)] w R :=
  Ret.of_fsem Tryz.func140 rfl (Eq.mp (impl_NatOk_eq a_p a_n a_c w R) h)
def impl_isScale (scale : Int) (w : World) (R : Value → World → Prop) : Prop :=
  ((decide ((0 : Int) ≤ scale)) = true →
    R (.bool (decide ((scale : Int) ≤ 30))) w) ∧
  ((decide ((0 : Int) ≤ scale)) = false →
    R (.bool false) w)
theorem impl_isScale_eq (scale : Int) (w : World) (R : Value → World → Prop) : impl_isScale scale w R = fsem P Tryz.f141 (fun k => []) [(.int .i64 scale)] R w := by kernel_rfl
theorem impl_isScale_ret {scale : Int} {w : World} {R : Value → World → Prop} (h : impl_isScale scale w R) : Ret P 141 [(.int .i64 scale)] w R :=
  Ret.of_fsem Tryz.func141 rfl (Eq.mp (impl_isScale_eq scale w R) h)
def impl_scaled (scale : Int) (w : World) (R : Value → World → Prop) : Prop :=
  ∀ (r : Nat) (wv : World), New w (.cells ⟨[(.int .i64 scale)]⟩ 3 (0, 0)) r wv →
  R (.func (.func 163) #[] #[(.pointer (some ⟨r, 0, none⟩))]) wv
theorem impl_scaled_eq (scale : Int) (w : World) (R : Value → World → Prop) : impl_scaled scale w R = fsem P Tryz.f142 (fun k => []) [(.int .i64 scale)] R w := by kernel_rfl
theorem impl_scaled_ret {scale : Int} {w : World} {R : Value → World → Prop} (h : impl_scaled scale w R) : Ret P 142 [(.int .i64 scale)] w R :=
  Ret.of_fsem Tryz.func142 rfl (Eq.mp (impl_scaled_eq scale w R) h)
def impl_RatOk_j0 (r : Nat) (W : World) (R : Value → World → Prop) : Prop :=
  ∃ (t35_p : Option Addr) (t35_n : Nat) (t35_c : Nat), Loads P 22 (((⟨r, 0, none⟩ : Addr).add 0).add 1) (.slice t35_p t35_n t35_c) W ∧ ∃ (t37_p : Option Addr) (t37_n : Nat) (t37_c : Nat), Loads P 22 ((⟨r, 0, none⟩ : Addr).add 2) (.slice t37_p t37_n t37_c) W ∧ Calls P 144 ⟨[(.slice t35_p t35_n t35_c), (.slice t37_p t37_n t37_c)]⟩ W fun e_1 wv_2 =>
  ∃ (t38_p : Option Addr) (t38_n : Nat) (t38_c : Nat), e_1 = .returned (.slice t38_p t38_n t38_c) ∧
  ((decide ((((t38_n : Nat) : Int) : Int) = 1)) = true →
    (0 ≤ (0 : Int) ∧ (0 : Int) < (t38_n : Nat)) ∧ ptrS t38_p fun ad => ∃ (t45 : Int), Loads P 3 (ad.add (0 * 1)) (.int .i64 t45) wv_2 ∧ R (.bool (decide ((t45 : Int) = 1))) wv_2) ∧
  ((decide ((((t38_n : Nat) : Int) : Int) = 1)) = false →
    R (.bool false) wv_2)
def impl_RatOk (r0 : Bool) (r1_p : Option Addr) (r1_n : Nat) (r1_c : Nat) (r2_p : Option Addr) (r2_n : Nat) (r2_c : Nat) (w : World) (R : Value → World → Prop) : Prop :=
  ∀ (r : Nat) (wv : World), New w (.cells ⟨[(.bool r0), (.slice r1_p r1_n r1_c), (.slice r2_p r2_n r2_c)]⟩ 35 (0, 0)) r wv →
  ∃ (t50 : Bool) (t51_p : Option Addr) (t51_n : Nat) (t51_c : Nat), Loads P 31 ((⟨r, 0, none⟩ : Addr).add 0) (.agg #[(.bool t50), (.slice t51_p t51_n t51_c)]) wv ∧ Calls P 94 ⟨[(.agg #[(.bool t50), (.slice t51_p t51_n t51_c)])]⟩ wv fun e wv_1 =>
  ∃ (t6 : Bool), e = .returned (.bool t6) ∧
  ((!t6) = true →
    (true = true →
      (true = true →
        (true = true →
          (true = true →
            R (.bool false) wv_1) ∧
          (true = false →
            impl_RatOk_j0 r wv_1 R)) ∧
        (true = false →
          ∃ (t29_p : Option Addr) (t29_n : Nat) (t29_c : Nat), Loads P 22 (((⟨r, 0, none⟩ : Addr).add 0).add 1) (.slice t29_p t29_n t29_c) wv_1 ∧ ((decide ((18 : Int) < ((t29_n : Nat) : Int))) = true →
            R (.bool false) wv_1) ∧
          ((decide ((18 : Int) < ((t29_n : Nat) : Int))) = false →
            impl_RatOk_j0 r wv_1 R))) ∧
      (true = false →
        ∃ (t22_p : Option Addr) (t22_n : Nat) (t22_c : Nat), Loads P 22 ((⟨r, 0, none⟩ : Addr).add 2) (.slice t22_p t22_n t22_c) wv_1 ∧ ((decide ((18 : Int) < ((t22_n : Nat) : Int))) = true →
          (true = true →
            R (.bool false) wv_1) ∧
          (true = false →
            impl_RatOk_j0 r wv_1 R)) ∧
        ((decide ((18 : Int) < ((t22_n : Nat) : Int))) = false →
          ∃ (t29_p_1 : Option Addr) (t29_n_1 : Nat) (t29_c_1 : Nat), Loads P 22 (((⟨r, 0, none⟩ : Addr).add 0).add 1) (.slice t29_p_1 t29_n_1 t29_c_1) wv_1 ∧ ((decide ((18 : Int) < ((t29_n_1 : Nat) : Int))) = true →
            R (.bool false) wv_1) ∧
          ((decide ((18 : Int) < ((t29_n_1 : Nat) : Int))) = false →
            impl_RatOk_j0 r wv_1 R)))) ∧
    (true = false →
      ∃ (t16_p : Option Addr) (t16_n : Nat) (t16_c : Nat), Loads P 22 ((⟨r, 0, none⟩ : Addr).add 2) (.slice t16_p t16_n t16_c) wv_1 ∧ ((decide ((((t16_n : Nat) : Int) : Int) = 0)) = true →
        (true = true →
          (true = true →
            R (.bool false) wv_1) ∧
          (true = false →
            impl_RatOk_j0 r wv_1 R)) ∧
        (true = false →
          ∃ (t29_p_2 : Option Addr) (t29_n_2 : Nat) (t29_c_2 : Nat), Loads P 22 (((⟨r, 0, none⟩ : Addr).add 0).add 1) (.slice t29_p_2 t29_n_2 t29_c_2) wv_1 ∧ ((decide ((18 : Int) < ((t29_n_2 : Nat) : Int))) = true →
            R (.bool false) wv_1) ∧
          ((decide ((18 : Int) < ((t29_n_2 : Nat) : Int))) = false →
            impl_RatOk_j0 r wv_1 R))) ∧
      ((decide ((((t16_n : Nat) : Int) : Int) = 0)) = false →
        ∃ (t22_p_1 : Option Addr) (t22_n_1 : Nat) (t22_c_1 : Nat), Loads P 22 ((⟨r, 0, none⟩ : Addr).add 2) (.slice t22_p_1 t22_n_1 t22_c_1) wv_1 ∧ ((decide ((18 : Int) < ((t22_n_1 : Nat) : Int))) = true →
          (true = true →
            R (.bool false) wv_1) ∧
          (true = false →
            impl_RatOk_j0 r wv_1 R)) ∧
        ((decide ((18 : Int) < ((t22_n_1 : Nat) : Int))) = false →
          ∃ (t29_p_3 : Option Addr) (t29_n_3 : Nat) (t29_c_3 : Nat), Loads P 22 (((⟨r, 0, none⟩ : Addr).add 0).add 1) (.slice t29_p_3 t29_n_3 t29_c_3) wv_1 ∧ ((decide ((18 : Int) < ((t29_n_3 : Nat) : Int))) = true →
            R (.bool false) wv_1) ∧
          ((decide ((18 : Int) < ((t29_n_3 : Nat) : Int))) = false →
            impl_RatOk_j0 r wv_1 R))))) ∧
  ((!t6) = false →
    ∃ (t10_p : Option Addr) (t10_n : Nat) (t10_c : Nat), Loads P 22 ((⟨r, 0, none⟩ : Addr).add 2) (.slice t10_p t10_n t10_c) wv_1 ∧ Calls P 140 ⟨[(.slice t10_p t10_n t10_c)]⟩ wv_1 fun e_2 wv_3 =>
    ∃ (t11 : Bool), e_2 = .returned (.bool t11) ∧
    ((!t11) = true →
      (true = true →
        (true = true →
          (true = true →
            R (.bool false) wv_3) ∧
          (true = false →
            impl_RatOk_j0 r wv_3 R)) ∧
        (true = false →
          ∃ (t29_p_4 : Option Addr) (t29_n_4 : Nat) (t29_c_4 : Nat), Loads P 22 (((⟨r, 0, none⟩ : Addr).add 0).add 1) (.slice t29_p_4 t29_n_4 t29_c_4) wv_3 ∧ ((decide ((18 : Int) < ((t29_n_4 : Nat) : Int))) = true →
            R (.bool false) wv_3) ∧
          ((decide ((18 : Int) < ((t29_n_4 : Nat) : Int))) = false →
            impl_RatOk_j0 r wv_3 R))) ∧
      (true = false →
        ∃ (t22_p_2 : Option Addr) (t22_n_2 : Nat) (t22_c_2 : Nat), Loads P 22 ((⟨r, 0, none⟩ : Addr).add 2) (.slice t22_p_2 t22_n_2 t22_c_2) wv_3 ∧ ((decide ((18 : Int) < ((t22_n_2 : Nat) : Int))) = true →
          (true = true →
            R (.bool false) wv_3) ∧
          (true = false →
            impl_RatOk_j0 r wv_3 R)) ∧
        ((decide ((18 : Int) < ((t22_n_2 : Nat) : Int))) = false →
          ∃ (t29_p_5 : Option Addr) (t29_n_5 : Nat) (t29_c_5 : Nat), Loads P 22 (((⟨r, 0, none⟩ : Addr).add 0).add 1) (.slice t29_p_5 t29_n_5 t29_c_5) wv_3 ∧ ((decide ((18 : Int) < ((t29_n_5 : Nat) : Int))) = true →
            R (.bool false) wv_3) ∧
          ((decide ((18 : Int) < ((t29_n_5 : Nat) : Int))) = false →
            impl_RatOk_j0 r wv_3 R)))) ∧
    ((!t11) = false →
      ∃ (t16_p_1 : Option Addr) (t16_n_1 : Nat) (t16_c_1 : Nat), Loads P 22 ((⟨r, 0, none⟩ : Addr).add 2) (.slice t16_p_1 t16_n_1 t16_c_1) wv_3 ∧ ((decide ((((t16_n_1 : Nat) : Int) : Int) = 0)) = true →
        (true = true →
          (true = true →
            R (.bool false) wv_3) ∧
          (true = false →
            impl_RatOk_j0 r wv_3 R)) ∧
        (true = false →
          ∃ (t29_p_6 : Option Addr) (t29_n_6 : Nat) (t29_c_6 : Nat), Loads P 22 (((⟨r, 0, none⟩ : Addr).add 0).add 1) (.slice t29_p_6 t29_n_6 t29_c_6) wv_3 ∧ ((decide ((18 : Int) < ((t29_n_6 : Nat) : Int))) = true →
            R (.bool false) wv_3) ∧
          ((decide ((18 : Int) < ((t29_n_6 : Nat) : Int))) = false →
            impl_RatOk_j0 r wv_3 R))) ∧
      ((decide ((((t16_n_1 : Nat) : Int) : Int) = 0)) = false →
        ∃ (t22_p_3 : Option Addr) (t22_n_3 : Nat) (t22_c_3 : Nat), Loads P 22 ((⟨r, 0, none⟩ : Addr).add 2) (.slice t22_p_3 t22_n_3 t22_c_3) wv_3 ∧ ((decide ((18 : Int) < ((t22_n_3 : Nat) : Int))) = true →
          (true = true →
            R (.bool false) wv_3) ∧
          (true = false →
            impl_RatOk_j0 r wv_3 R)) ∧
        ((decide ((18 : Int) < ((t22_n_3 : Nat) : Int))) = false →
          ∃ (t29_p_7 : Option Addr) (t29_n_7 : Nat) (t29_c_7 : Nat), Loads P 22 (((⟨r, 0, none⟩ : Addr).add 0).add 1) (.slice t29_p_7 t29_n_7 t29_c_7) wv_3 ∧ ((decide ((18 : Int) < ((t29_n_7 : Nat) : Int))) = true →
            R (.bool false) wv_3) ∧
          ((decide ((18 : Int) < ((t29_n_7 : Nat) : Int))) = false →
            impl_RatOk_j0 r wv_3 R)))))
theorem impl_RatOk_eq (r0 : Bool) (r1_p : Option Addr) (r1_n : Nat) (r1_c : Nat) (r2_p : Option Addr) (r2_n : Nat) (r2_c : Nat) (w : World) (R : Value → World → Prop) : impl_RatOk r0 r1_p r1_n r1_c r2_p r2_n r2_c w R = fsem P Tryz.f143 (fun k => []) [(.agg #[(.bool r0), (.slice r1_p r1_n r1_c), (.slice r2_p r2_n r2_c)])] R w := by kernel_rfl
theorem impl_RatOk_ret {r0 : Bool} {r1_p : Option Addr} {r1_n : Nat} {r1_c : Nat} {r2_p : Option Addr} {r2_n : Nat} {r2_c : Nat} {w : World} {R : Value → World → Prop} (h : impl_RatOk r0 r1_p r1_n r1_c r2_p r2_n r2_c w R) : Ret P 143 [(.agg #[(.bool r0), (.slice r1_p r1_n r1_c), (.slice r2_p r2_n r2_c)])] w R :=
  Ret.of_fsem Tryz.func143 rfl (Eq.mp (impl_RatOk_eq r0 r1_p r1_n r1_c r2_p r2_n r2_c w R) h)
def impl_natGcd (a_p : Option Addr) (a_n : Nat) (a_c : Nat) (b_p : Option Addr) (b_n : Nat) (b_c : Nat) (w : World) (R : Value → World → Prop) : Prop :=
  ∃ (Inv : Option Addr → Nat → Nat → Option Addr → Nat → Nat → World → Prop) (mu : Option Addr → Nat → Nat → Option Addr → Nat → Nat → World → Nat), Inv a_p a_n a_c b_p b_n b_c w ∧
  ∀ (junk : Fr) (wv : World) (a_p_1 : Option Addr) (a_n_1 : Nat) (a_c_1 : Nat) (b_p_1 : Option Addr) (b_n_1 : Nat) (b_c_1 : Nat), Inv a_p_1 a_n_1 a_c_1 b_p_1 b_n_1 b_c_1 wv →
    ((decide ((0 : Int) < ((b_n_1 : Nat) : Int))) = true →
      Calls P 145 ⟨[(.slice a_p_1 a_n_1 a_c_1), (.slice b_p_1 b_n_1 b_c_1)]⟩ wv fun e wv_1 =>
      ∃ (t13_p : Option Addr) (t13_n : Nat) (t13_c : Nat) (t13_p_1 : Option Addr) (t13_n_1 : Nat) (t13_c_1 : Nat), e = .returned (.tuple #[(.slice t13_p t13_n t13_c), (.slice t13_p_1 t13_n_1 t13_c_1)]) ∧
      Inv b_p_1 b_n_1 b_c_1 t13_p_1 t13_n_1 t13_c_1 wv_1 ∧ mu b_p_1 b_n_1 b_c_1 t13_p_1 t13_n_1 t13_c_1 wv_1 < mu a_p_1 a_n_1 a_c_1 b_p_1 b_n_1 b_c_1 wv) ∧
    ((decide ((0 : Int) < ((b_n_1 : Nat) : Int))) = false →
      Calls P 147 ⟨[(.slice a_p_1 a_n_1 a_c_1)]⟩ wv fun e_1 wv_2 =>
      ∃ (t19_p : Option Addr) (t19_n : Nat) (t19_c : Nat), e_1 = .returned (.slice t19_p t19_n t19_c) ∧
      R (.slice t19_p t19_n t19_c) wv_2)
theorem impl_natGcd_eq (a_p : Option Addr) (a_n : Nat) (a_c : Nat) (b_p : Option Addr) (b_n : Nat) (b_c : Nat) (w : World) (R : Value → World → Prop) : impl_natGcd a_p a_n a_c b_p b_n b_c w R = fsem P Tryz.f144 (fun k => cond (Nat.beq k 2) [(0, .one .slice), (1, .one .slice)] ([])) [(.slice a_p a_n a_c), (.slice b_p b_n b_c)] R w := by kernel_rfl
theorem impl_natGcd_ret {a_p : Option Addr} {a_n : Nat} {a_c : Nat} {b_p : Option Addr} {b_n : Nat} {b_c : Nat} {w : World} {R : Value → World → Prop} (h : impl_natGcd a_p a_n a_c b_p b_n b_c w R) : Ret P 144 [(.slice a_p a_n a_c), (.slice b_p b_n b_c)] w R :=
  Ret.of_fsem Tryz.func144 rfl (Eq.mp (impl_natGcd_eq a_p a_n a_c b_p b_n b_c w R) h)
def impl_natDiv (a_p : Option Addr) (a_n : Nat) (a_c : Nat) (b_p : Option Addr) (b_n : Nat) (b_c : Nat) (w : World) (R : Value → World → Prop) : Prop :=
  Calls P 125 ⟨[(.slice a_p a_n a_c), (.slice b_p b_n b_c)]⟩ w fun e wv =>
  ∃ (t18 : Int), e = .returned (.int .i64 t18) ∧
  ((decide ((t18 : Int) < 0)) = true →
    ∀ (r : Nat) (wv_1 : World), New wv (.cells ⟨[]⟩ 3 (0, 0)) r wv_1 →
    Calls P 147 ⟨[(.slice a_p a_n a_c)]⟩ wv_1 fun e_1 wv_2 =>
    ∃ (t22_p : Option Addr) (t22_n : Nat) (t22_c : Nat), e_1 = .returned (.slice t22_p t22_n t22_c) ∧
    R (.tuple #[(.slice (some ⟨r, 0, none⟩) 0 0), (.slice t22_p t22_n t22_c)]) wv_2) ∧
  ((decide ((t18 : Int) < 0)) = false →
    ((decide ((((b_n : Nat) : Int) : Int) = 1)) = true →
      (0 ≤ (0 : Int) ∧ (0 : Int) < (b_n : Nat)) ∧ ptrS b_p fun ad => ∃ (t30 : Int), Loads P 3 (ad.add (0 * 1)) (.int .i64 t30) wv ∧ Calls P 164 ⟨[(.slice a_p a_n a_c), (.int .i64 t30)]⟩ wv fun e_2 wv_3 =>
      ∃ (t31_p : Option Addr) (t31_n : Nat) (t31_c : Nat) (t31 : Int), e_2 = .returned (.tuple #[(.slice t31_p t31_n t31_c), (.int .i64 t31)]) ∧
      Calls P 126 ⟨[(.int .i64 t31)]⟩ wv_3 fun e_3 wv_4 =>
      ∃ (t36_p : Option Addr) (t36_n : Nat) (t36_c : Nat), e_3 = .returned (.slice t36_p t36_n t36_c) ∧
      R (.tuple #[(.slice t31_p t31_n t31_c), (.slice t36_p t36_n t36_c)]) wv_4) ∧
    ((decide ((((b_n : Nat) : Int) : Int) = 1)) = false →
      ∃ t40 : Int, t40 = IntKind.wrap .i64 (((b_n : Nat) : Int) - 1) ∧ (0 ≤ (t40 : Int) ∧ (t40 : Int) < (b_n : Nat)) ∧ ptrS b_p fun ad_1 => ∃ (t42 : Int), Loads P 3 (ad_1.add (t40.toNat * 1)) (.int .i64 t42) wv ∧ ∃ t43 : Int, t43 = IntKind.wrap .i64 (t42 + 1) ∧ (t43 : Int) ≠ 0 ∧ ∃ t44 : Int, t44 = IntKind.wrap .i64 (Int.tdiv 1000000000 t43) ∧ ∀ (r_1 : Nat) (wv_5 : World), New wv (.cells ⟨[(.int .i64 t44)]⟩ 3 (0, 0)) r_1 wv_5 →
      Calls P 100 ⟨[(.slice a_p a_n a_c), (.slice (some ⟨r_1, 0, none⟩) 1 1)]⟩ wv_5 fun e_4 wv_6 =>
      ∃ (t48_p : Option Addr) (t48_n : Nat) (t48_c : Nat), e_4 = .returned (.slice t48_p t48_n t48_c) ∧
      ∀ (r_2 : Nat) (wv_7 : World), New wv_6 (.cells ⟨[(.int .i64 t44)]⟩ 3 (0, 0)) r_2 wv_7 →
      Calls P 100 ⟨[(.slice b_p b_n b_c), (.slice (some ⟨r_2, 0, none⟩) 1 1)]⟩ wv_7 fun e_5 wv_8 =>
      ∃ (t52_p : Option Addr) (t52_n : Nat) (t52_c : Nat), e_5 = .returned (.slice t52_p t52_n t52_c) ∧
      ∃ (Inv : Option Addr → Nat → Nat → World → Prop) (mu : Option Addr → Nat → Nat → World → Nat), Inv t48_p t48_n t48_c wv_8 ∧
      ∀ (junk : Fr) (wv_9 : World) (u_p : Option Addr) (u_n : Nat) (u_c : Nat), Inv u_p u_n u_c wv_9 →
        ((decide ((((u_n : Nat) : Int) : Int) ≤ ((a_n : Nat) : Int))) = true →
          ∀ (r_3 : Nat) (wv_10 : World), New wv_9 (.cells ⟨[(.int .i64 0)]⟩ 3 (0, 0)) r_3 wv_10 →
          ∃ (t60_p : Option Addr) (t60_n : Nat) (t60_c : Nat) (wv_11 : World), Appends P [22, 22] [(.slice u_p u_n u_c), (.slice (some ⟨r_3, 0, none⟩) 1 1)] (.slice t60_p t60_n t60_c) wv_10 wv_11 ∧
          Inv t60_p t60_n t60_c wv_11 ∧ mu t60_p t60_n t60_c wv_11 < mu u_p u_n u_c wv_9) ∧
        ((decide ((((u_n : Nat) : Int) : Int) ≤ ((a_n : Nat) : Int))) = false →
          ∃ t66 : Int, t66 = IntKind.wrap .i64 (((u_n : Nat) : Int) - ((t52_n : Nat) : Int)) ∧ (0 ≤ (t66 : Int) ∧ (t66 : Int) ≤ t66 ∧ ((8 : Nat) : Int) * t66 ≤ 281474976710656) ∧
          ∀ (r_4 : Nat) (wv_12 : World), New wv_9 (.cells ⟨zeroRow (.int .i64 0) (t66.toNat * 1)⟩ 3 (0, 0)) r_4 wv_12 →
          ∃ t70 : Int, t70 = IntKind.wrap .i64 (((t66.toNat : Nat) : Int) - 1) ∧ ∃ (Inv_1 : Int → World → Prop) (mu_1 : Int → World → Nat), Inv_1 t70 wv_12 ∧
          ∀ (junk_1 : Fr) (wv_13 : World) (j : Int), Inv_1 j wv_13 →
            ((decide ((0 : Int) ≤ j)) = true →
              ∃ t81 : Int, t81 = IntKind.wrap .i64 (j + ((t52_n : Nat) : Int)) ∧ ∃ t82 : Int, t82 = IntKind.wrap .i64 (t81 + 1) ∧ (0 ≤ (t82 : Int) ∧ (t82 : Int) ≤ (u_c : Nat)) ∧ (0 ≤ (j : Int) ∧ (j : Int) ≤ (t82.toNat : Nat)) ∧ Calls P 165 ⟨[(.slice (sub u_p j.toNat u_c 1) (t82.toNat - j.toNat) (u_c - j.toNat)), (.slice t52_p t52_n t52_c)]⟩ wv_13 fun e_6 wv_14 =>
              ∃ (t85 : Int), e_6 = .returned (.int .i64 t85) ∧
              (0 ≤ (j : Int) ∧ (j : Int) < (t66.toNat : Nat)) ∧ ∃ wv_15, Stores P 3 ((⟨r_4, 0, none⟩ : Addr).add (j.toNat * 1)) (.int .i64 t85) wv_14 wv_15 ∧
              ∃ t74 : Int, t74 = IntKind.wrap .i64 (j - 1) ∧ Inv_1 t74 wv_15 ∧ mu_1 t74 wv_15 < mu_1 j wv_13) ∧
            ((decide ((0 : Int) ≤ j)) = false →
              Calls P 146 ⟨[(.slice u_p u_n u_c)]⟩ wv_13 fun e_7 wv_16 =>
              ∃ (t89_p : Option Addr) (t89_n : Nat) (t89_c : Nat), e_7 = .returned (.slice t89_p t89_n t89_c) ∧
              Calls P 164 ⟨[(.slice t89_p t89_n t89_c), (.int .i64 t44)]⟩ wv_16 fun e_8 wv_17 =>
              ∃ (t91_p : Option Addr) (t91_n : Nat) (t91_c : Nat) (t91 : Int), e_8 = .returned (.tuple #[(.slice t91_p t91_n t91_c), (.int .i64 t91)]) ∧
              Calls P 146 ⟨[(.slice (some ⟨r_4, 0, none⟩) t66.toNat t66.toNat)]⟩ wv_17 fun e_9 wv_18 =>
              ∃ (t95_p : Option Addr) (t95_n : Nat) (t95_c : Nat), e_9 = .returned (.slice t95_p t95_n t95_c) ∧
              R (.tuple #[(.slice t95_p t95_n t95_c), (.slice t91_p t91_n t91_c)]) wv_18))))
theorem impl_natDiv_eq (a_p : Option Addr) (a_n : Nat) (a_c : Nat) (b_p : Option Addr) (b_n : Nat) (b_c : Nat) (w : World) (R : Value → World → Prop) : impl_natDiv a_p a_n a_c b_p b_n b_c w R = fsem P Tryz.f145 (fun k => cond (Nat.beq k 10) [(9, .one .slice)] (cond (Nat.beq k 15) [(13, .one (.int .i64))] ([]))) [(.slice a_p a_n a_c), (.slice b_p b_n b_c)] R w := by kernel_rfl
theorem impl_natDiv_ret {a_p : Option Addr} {a_n : Nat} {a_c : Nat} {b_p : Option Addr} {b_n : Nat} {b_c : Nat} {w : World} {R : Value → World → Prop} (h : impl_natDiv a_p a_n a_c b_p b_n b_c w R) : Ret P 145 [(.slice a_p a_n a_c), (.slice b_p b_n b_c)] w R :=
  Ret.of_fsem Tryz.func145 rfl (Eq.mp (impl_natDiv_eq a_p a_n a_c b_p b_n b_c w R) h)
def impl_trim (a_p : Option Addr) (a_n : Nat) (a_c : Nat) (w : World) (R : Value → World → Prop) : Prop :=
  ∃ (Inv : Option Addr → Nat → Nat → World → Prop) (mu : Option Addr → Nat → Nat → World → Nat), Inv a_p a_n a_c w ∧
  ∀ (junk : Fr) (wv : World) (a_p_1 : Option Addr) (a_n_1 : Nat) (a_c_1 : Nat), Inv a_p_1 a_n_1 a_c_1 wv →
    ((decide ((0 : Int) < ((a_n_1 : Nat) : Int))) = true →
      ∃ t10 : Int, t10 = IntKind.wrap .i64 (((a_n_1 : Nat) : Int) - 1) ∧ (0 ≤ (t10 : Int) ∧ (t10 : Int) < (a_n_1 : Nat)) ∧ ptrS a_p_1 fun ad => ∃ (t12 : Int), Loads P 3 (ad.add (t10.toNat * 1)) (.int .i64 t12) wv ∧ ((decide ((t12 : Int) = 0)) = true →
        ∃ t18 : Int, t18 = IntKind.wrap .i64 (((a_n_1 : Nat) : Int) - 1) ∧ (0 ≤ (t18 : Int) ∧ (t18 : Int) ≤ (a_c_1 : Nat)) ∧ Inv (sub a_p_1 0 a_c_1 1) (t18.toNat - 0) (a_c_1 - 0) wv ∧ mu (sub a_p_1 0 a_c_1 1) (t18.toNat - 0) (a_c_1 - 0) wv < mu a_p_1 a_n_1 a_c_1 wv) ∧
      ((decide ((t12 : Int) = 0)) = false →
        R (.slice a_p_1 a_n_1 a_c_1) wv)) ∧
    ((decide ((0 : Int) < ((a_n_1 : Nat) : Int))) = false →
      (false = true →
        ∃ t18_1 : Int, t18_1 = IntKind.wrap .i64 (((a_n_1 : Nat) : Int) - 1) ∧ (0 ≤ (t18_1 : Int) ∧ (t18_1 : Int) ≤ (a_c_1 : Nat)) ∧ Inv (sub a_p_1 0 a_c_1 1) (t18_1.toNat - 0) (a_c_1 - 0) wv ∧ mu (sub a_p_1 0 a_c_1 1) (t18_1.toNat - 0) (a_c_1 - 0) wv < mu a_p_1 a_n_1 a_c_1 wv) ∧
      (false = false →
        R (.slice a_p_1 a_n_1 a_c_1) wv))
theorem impl_trim_eq (a_p : Option Addr) (a_n : Nat) (a_c : Nat) (w : World) (R : Value → World → Prop) : impl_trim a_p a_n a_c w R = fsem P Tryz.f146 (fun k => cond (Nat.beq k 2) [(0, .one .slice)] ([])) [(.slice a_p a_n a_c)] R w := by kernel_rfl
theorem impl_trim_ret {a_p : Option Addr} {a_n : Nat} {a_c : Nat} {w : World} {R : Value → World → Prop} (h : impl_trim a_p a_n a_c w R) : Ret P 146 [(.slice a_p a_n a_c)] w R :=
  Ret.of_fsem Tryz.func146 rfl (Eq.mp (impl_trim_eq a_p a_n a_c w R) h)
def impl_natCopy (a_p : Option Addr) (a_n : Nat) (a_c : Nat) (w : World) (R : Value → World → Prop) : Prop :=
  ∀ (r : Nat) (wv : World), New w (.cells ⟨[]⟩ 3 (0, 0)) r wv →
  ∃ (t5_p : Option Addr) (t5_n : Nat) (t5_c : Nat) (wv_1 : World), Appends P [22, 22] [(.slice (some ⟨r, 0, none⟩) 0 0), (.slice a_p a_n a_c)] (.slice t5_p t5_n t5_c) wv wv_1 ∧
  R (.slice t5_p t5_n t5_c) wv_1
theorem impl_natCopy_eq (a_p : Option Addr) (a_n : Nat) (a_c : Nat) (w : World) (R : Value → World → Prop) : impl_natCopy a_p a_n a_c w R = fsem P Tryz.f147 (fun k => []) [(.slice a_p a_n a_c)] R w := by kernel_rfl
theorem impl_natCopy_ret {a_p : Option Addr} {a_n : Nat} {a_c : Nat} {w : World} {R : Value → World → Prop} (h : impl_natCopy a_p a_n a_c w R) : Ret P 147 [(.slice a_p a_n a_c)] w R :=
  Ret.of_fsem Tryz.func147 rfl (Eq.mp (impl_natCopy_eq a_p a_n a_c w R) h)
def impl_RatRound (r0 : Bool) (r1_p : Option Addr) (r1_n : Nat) (r1_c : Nat) (r2_p : Option Addr) (r2_n : Nat) (r2_c : Nat) (m : Int) (w : World) (R : Value → World → Prop) : Prop :=
  ∀ (r : Nat) (wv : World), New w (.cells ⟨[(.bool r0), (.slice r1_p r1_n r1_c), (.slice r2_p r2_n r2_c)]⟩ 35 (0, 0)) r wv →
  ∀ (r_1 : Nat) (wv_1 : World), New wv (.cells ⟨[(.bool false), (.slice none 0 0)]⟩ 31 (0, 0)) r_1 wv_1 →
  ∃ (t60 : Bool) (t61_p : Option Addr) (t61_n : Nat) (t61_c : Nat) (t62_p : Option Addr) (t62_n : Nat) (t62_c : Nat), Loads P 35 ⟨r, 0, none⟩ (.agg #[(.bool t60), (.slice t61_p t61_n t61_c), (.slice t62_p t62_n t62_c)]) wv_1 ∧ Calls P 143 ⟨[(.agg #[(.bool t60), (.slice t61_p t61_n t61_c), (.slice t62_p t62_n t62_c)])]⟩ wv_1 fun e wv_2 =>
  ∃ (t7 : Bool), e = .returned (.bool t7) ∧
  ((!t7) = true →
    (true = true →
      ∃ wv_3, Stores P 31 ⟨r_1, 0, none⟩ (.agg #[(.bool false), (.slice none 0 0)]) wv_2 wv_3 ∧
      ∃ (r0_1 : Bool) (r1_p_1 : Option Addr) (r1_n_1 : Nat) (r1_c_1 : Nat), Loads P 31 ⟨r_1, 0, none⟩ (.agg #[(.bool r0_1), (.slice r1_p_1 r1_n_1 r1_c_1)]) wv_3 ∧ R (.tuple #[(.agg #[(.bool r0_1), (.slice r1_p_1 r1_n_1 r1_c_1)]), (.bool false)]) wv_3) ∧
    (true = false →
      ∃ (t160 : Bool) (t161_p : Option Addr) (t161_n : Nat) (t161_c : Nat), Loads P 31 ((⟨r, 0, none⟩ : Addr).add 0) (.agg #[(.bool t160), (.slice t161_p t161_n t161_c)]) wv_2 ∧ ∃ (t18_p : Option Addr) (t18_n : Nat) (t18_c : Nat), Loads P 22 ((⟨r, 0, none⟩ : Addr).add 2) (.slice t18_p t18_n t18_c) wv_2 ∧ Calls P 167 ⟨[(.agg #[(.bool t160), (.slice t161_p t161_n t161_c)]), (.slice t18_p t18_n t18_c), (.int .i64 m)]⟩ wv_2 fun e_1 wv_4 =>
      ∃ (t200 : Bool) (t201_p : Option Addr) (t201_n : Nat) (t201_c : Nat), e_1 = .returned (.agg #[(.bool t200), (.slice t201_p t201_n t201_c)]) ∧
      ∃ wv_5, Stores P 31 ⟨r_1, 0, none⟩ (.agg #[(.bool t200), (.slice t201_p t201_n t201_c)]) wv_4 wv_5 ∧
      ∃ (r0_2 : Bool) (r1_p_2 : Option Addr) (r1_n_2 : Nat) (r1_c_2 : Nat), Loads P 31 ⟨r_1, 0, none⟩ (.agg #[(.bool r0_2), (.slice r1_p_2 r1_n_2 r1_c_2)]) wv_5 ∧ R (.tuple #[(.agg #[(.bool r0_2), (.slice r1_p_2 r1_n_2 r1_c_2)]), (.bool true)]) wv_5)) ∧
  ((!t7) = false →
    Calls P 166 ⟨[(.int .i64 m)]⟩ wv_2 fun e_2 wv_6 =>
    ∃ (t11 : Bool), e_2 = .returned (.bool t11) ∧
    ((!t11) = true →
      ∃ wv_7, Stores P 31 ⟨r_1, 0, none⟩ (.agg #[(.bool false), (.slice none 0 0)]) wv_6 wv_7 ∧
      ∃ (r0_3 : Bool) (r1_p_3 : Option Addr) (r1_n_3 : Nat) (r1_c_3 : Nat), Loads P 31 ⟨r_1, 0, none⟩ (.agg #[(.bool r0_3), (.slice r1_p_3 r1_n_3 r1_c_3)]) wv_7 ∧ R (.tuple #[(.agg #[(.bool r0_3), (.slice r1_p_3 r1_n_3 r1_c_3)]), (.bool false)]) wv_7) ∧
    ((!t11) = false →
      ∃ (t160_1 : Bool) (t161_p_1 : Option Addr) (t161_n_1 : Nat) (t161_c_1 : Nat), Loads P 31 ((⟨r, 0, none⟩ : Addr).add 0) (.agg #[(.bool t160_1), (.slice t161_p_1 t161_n_1 t161_c_1)]) wv_6 ∧ ∃ (t18_p_1 : Option Addr) (t18_n_1 : Nat) (t18_c_1 : Nat), Loads P 22 ((⟨r, 0, none⟩ : Addr).add 2) (.slice t18_p_1 t18_n_1 t18_c_1) wv_6 ∧ Calls P 167 ⟨[(.agg #[(.bool t160_1), (.slice t161_p_1 t161_n_1 t161_c_1)]), (.slice t18_p_1 t18_n_1 t18_c_1), (.int .i64 m)]⟩ wv_6 fun e_3 wv_8 =>
      ∃ (t200_1 : Bool) (t201_p_1 : Option Addr) (t201_n_1 : Nat) (t201_c_1 : Nat), e_3 = .returned (.agg #[(.bool t200_1), (.slice t201_p_1 t201_n_1 t201_c_1)]) ∧
      ∃ wv_9, Stores P 31 ⟨r_1, 0, none⟩ (.agg #[(.bool t200_1), (.slice t201_p_1 t201_n_1 t201_c_1)]) wv_8 wv_9 ∧
      ∃ (r0_4 : Bool) (r1_p_4 : Option Addr) (r1_n_4 : Nat) (r1_c_4 : Nat), Loads P 31 ⟨r_1, 0, none⟩ (.agg #[(.bool r0_4), (.slice r1_p_4 r1_n_4 r1_c_4)]) wv_9 ∧ R (.tuple #[(.agg #[(.bool r0_4), (.slice r1_p_4 r1_n_4 r1_c_4)]), (.bool true)]) wv_9))
theorem impl_RatRound_eq (r0 : Bool) (r1_p : Option Addr) (r1_n : Nat) (r1_c : Nat) (r2_p : Option Addr) (r2_n : Nat) (r2_c : Nat) (m : Int) (w : World) (R : Value → World → Prop) : impl_RatRound r0 r1_p r1_n r1_c r2_p r2_n r2_c m w R = fsem P Tryz.f148 (fun k => []) [(.agg #[(.bool r0), (.slice r1_p r1_n r1_c), (.slice r2_p r2_n r2_c)]), (.int .i64 m)] R w := by kernel_rfl
theorem impl_RatRound_ret {r0 : Bool} {r1_p : Option Addr} {r1_n : Nat} {r1_c : Nat} {r2_p : Option Addr} {r2_n : Nat} {r2_c : Nat} {m : Int} {w : World} {R : Value → World → Prop} (h : impl_RatRound r0 r1_p r1_n r1_c r2_p r2_n r2_c m w R) : Ret P 148 [(.agg #[(.bool r0), (.slice r1_p r1_n r1_c), (.slice r2_p r2_n r2_c)]), (.int .i64 m)] w R :=
  Ret.of_fsem Tryz.func148 rfl (Eq.mp (impl_RatRound_eq r0 r1_p r1_n r1_c r2_p r2_n r2_c m w R) h)
def impl_RatSub (r0 : Bool) (r1_p : Option Addr) (r1_n : Nat) (r1_c : Nat) (r2_p : Option Addr) (r2_n : Nat) (r2_c : Nat) (s0 : Bool) (s1_p : Option Addr) (s1_n : Nat) (s1_c : Nat) (s2_p : Option Addr) (s2_n : Nat) (s2_c : Nat) (w : World) (R : Value → World → Prop) : Prop :=
  ∀ (r : Nat) (wv : World), New w (.cells ⟨[(.bool r0), (.slice r1_p r1_n r1_c), (.slice r2_p r2_n r2_c)]⟩ 35 (0, 0)) r wv →
  ∀ (r_1 : Nat) (wv_1 : World), New wv (.cells ⟨[(.bool s0), (.slice s1_p s1_n s1_c), (.slice s2_p s2_n s2_c)]⟩ 35 (0, 0)) r_1 wv_1 →
  ∀ (r_2 : Nat) (wv_2 : World), New wv_1 (.cells ⟨[(.bool false), (.slice none 0 0), (.slice none 0 0)]⟩ 35 (0, 0)) r_2 wv_2 →
  ∃ (t60 : Bool) (t61_p : Option Addr) (t61_n : Nat) (t61_c : Nat) (t62_p : Option Addr) (t62_n : Nat) (t62_c : Nat), Loads P 35 ⟨r, 0, none⟩ (.agg #[(.bool t60), (.slice t61_p t61_n t61_c), (.slice t62_p t62_n t62_c)]) wv_2 ∧ ∃ (t70 : Bool) (t71_p : Option Addr) (t71_n : Nat) (t71_c : Nat) (t72_p : Option Addr) (t72_n : Nat) (t72_c : Nat), Loads P 35 ⟨r_1, 0, none⟩ (.agg #[(.bool t70), (.slice t71_p t71_n t71_c), (.slice t72_p t72_n t72_c)]) wv_2 ∧ Calls P 97 ⟨[(.agg #[(.bool t60), (.slice t61_p t61_n t61_c), (.slice t62_p t62_n t62_c)]), (.agg #[(.bool t70), (.slice t71_p t71_n t71_c), (.slice t72_p t72_n t72_c)])]⟩ wv_2 fun e wv_3 =>
  ∃ (t8 : Bool), e = .returned (.bool t8) ∧
  ((!t8) = true →
    ∃ wv_4, Stores P 35 ⟨r_2, 0, none⟩ (.agg #[(.bool false), (.slice none 0 0), (.slice none 0 0)]) wv_3 wv_4 ∧
    ∃ (r0_1 : Bool) (r1_p_1 : Option Addr) (r1_n_1 : Nat) (r1_c_1 : Nat) (r2_p_1 : Option Addr) (r2_n_1 : Nat) (r2_c_1 : Nat), Loads P 35 ⟨r_2, 0, none⟩ (.agg #[(.bool r0_1), (.slice r1_p_1 r1_n_1 r1_c_1), (.slice r2_p_1 r2_n_1 r2_c_1)]) wv_4 ∧ R (.tuple #[(.agg #[(.bool r0_1), (.slice r1_p_1 r1_n_1 r1_c_1), (.slice r2_p_1 r2_n_1 r2_c_1)]), (.bool false)]) wv_4) ∧
  ((!t8) = false →
    ∃ (t110 : Bool) (t111_p : Option Addr) (t111_n : Nat) (t111_c : Nat) (t112_p : Option Addr) (t112_n : Nat) (t112_c : Nat), (∀ wv_5, Ext wv_3.drew wv_5 → Loads P 35 ⟨r, 0, none⟩ (.agg #[(.bool t110), (.slice t111_p t111_n t111_c), (.slice t112_p t112_n t112_c)]) wv_5) ∧ ∃ (t120 : Bool) (t121_p : Option Addr) (t121_n : Nat) (t121_c : Nat) (t122_p : Option Addr) (t122_n : Nat) (t122_c : Nat), (∀ wv_6, Ext wv_3.drew wv_6 → Loads P 35 ⟨r_1, 0, none⟩ (.agg #[(.bool t120), (.slice t121_p t121_n t121_c), (.slice t122_p t122_n t122_c)]) wv_6) ∧ Calls P 168 ⟨[(.agg #[(.bool t120), (.slice t121_p t121_n t121_c), (.slice t122_p t122_n t122_c)])]⟩ wv_3.drew fun e_1 wv_7 =>
    ∃ (t130 : Bool) (t131_p : Option Addr) (t131_n : Nat) (t131_c : Nat) (t132_p : Option Addr) (t132_n : Nat) (t132_c : Nat), e_1 = .returned (.agg #[(.bool t130), (.slice t131_p t131_n t131_c), (.slice t132_p t132_n t132_c)]) ∧
    Ext wv_3.drew wv_7 ∧ Calls P 64 ⟨[(.agg #[(.bool t110), (.slice t111_p t111_n t111_c), (.slice t112_p t112_n t112_c)]), (.agg #[(.bool t130), (.slice t131_p t131_n t131_c), (.slice t132_p t132_n t132_c)])]⟩ wv_7 fun e_2 wv_8 =>
    ∃ (t140 : Bool) (t141_p : Option Addr) (t141_n : Nat) (t141_c : Nat) (t142_p : Option Addr) (t142_n : Nat) (t142_c : Nat) (t14 : Bool), e_2 = .returned (.tuple #[(.agg #[(.bool t140), (.slice t141_p t141_n t141_c), (.slice t142_p t142_n t142_c)]), (.bool t14)]) ∧
    ∃ wv_9, Stores P 35 ⟨r_2, 0, none⟩ (.agg #[(.bool t140), (.slice t141_p t141_n t141_c), (.slice t142_p t142_n t142_c)]) wv_8 wv_9 ∧
    ∃ (r0_2 : Bool) (r1_p_2 : Option Addr) (r1_n_2 : Nat) (r1_c_2 : Nat) (r2_p_2 : Option Addr) (r2_n_2 : Nat) (r2_c_2 : Nat), Loads P 35 ⟨r_2, 0, none⟩ (.agg #[(.bool r0_2), (.slice r1_p_2 r1_n_2 r1_c_2), (.slice r2_p_2 r2_n_2 r2_c_2)]) wv_9 ∧ R (.tuple #[(.agg #[(.bool r0_2), (.slice r1_p_2 r1_n_2 r1_c_2), (.slice r2_p_2 r2_n_2 r2_c_2)]), (.bool t14)]) wv_9)
theorem impl_RatSub_eq (r0 : Bool) (r1_p : Option Addr) (r1_n : Nat) (r1_c : Nat) (r2_p : Option Addr) (r2_n : Nat) (r2_c : Nat) (s0 : Bool) (s1_p : Option Addr) (s1_n : Nat) (s1_c : Nat) (s2_p : Option Addr) (s2_n : Nat) (s2_c : Nat) (w : World) (R : Value → World → Prop) : impl_RatSub r0 r1_p r1_n r1_c r2_p r2_n r2_c s0 s1_p s1_n s1_c s2_p s2_n s2_c w R = fsem P Tryz.f149 (fun k => []) [(.agg #[(.bool r0), (.slice r1_p r1_n r1_c), (.slice r2_p r2_n r2_c)]), (.agg #[(.bool s0), (.slice s1_p s1_n s1_c), (.slice s2_p s2_n s2_c)])] R w := by kernel_rfl
theorem impl_RatSub_ret {r0 : Bool} {r1_p : Option Addr} {r1_n : Nat} {r1_c : Nat} {r2_p : Option Addr} {r2_n : Nat} {r2_c : Nat} {s0 : Bool} {s1_p : Option Addr} {s1_n : Nat} {s1_c : Nat} {s2_p : Option Addr} {s2_n : Nat} {s2_c : Nat} {w : World} {R : Value → World → Prop} (h : impl_RatSub r0 r1_p r1_n r1_c r2_p r2_n r2_c s0 s1_p s1_n s1_c s2_p s2_n s2_c w R) : Ret P 149 [(.agg #[(.bool r0), (.slice r1_p r1_n r1_c), (.slice r2_p r2_n r2_c)]), (.agg #[(.bool s0), (.slice s1_p s1_n s1_c), (.slice s2_p s2_n s2_c)])] w R :=
  Ret.of_fsem Tryz.func149 rfl (Eq.mp (impl_RatSub_eq r0 r1_p r1_n r1_c r2_p r2_n r2_c s0 s1_p s1_n s1_c s2_p s2_n s2_c w R) h)
def spec_l02Add_j2 (wv_1 : World) (Inv : Option Addr → Nat → Nat → Int → Int → World → Prop) (mu : Option Addr → Nat → Nat → Int → Int → World → Nat) (out_p : Option Addr) (out_n : Nat) (out_c : Nat) (carry : Int) (i : Int) (n_1 : Int) (W_2 : World) (R : Value → World → Prop) : Prop :=
  (1000000000 : Int) ≠ 0 ∧ ∃ t49 : Int, t49 = Int.tmod n_1 1000000000 ∧ ∀ (r_1 : Nat) (wv_2 : World), New W_2 (.cells ⟨[(.int .i64 t49)]⟩ 3 (0, 0)) r_1 wv_2 →
  ∃ (t51_p : Option Addr) (t51_n : Nat) (t51_c : Nat) (wv_3 : World), Appends P [22, 22] [(.slice out_p out_n out_c), (.slice (some ⟨r_1, 0, none⟩) 1 1)] (.slice t51_p t51_n t51_c) wv_2 wv_3 ∧
  (1000000000 : Int) ≠ 0 ∧ ∃ t53 : Int, t53 = IntKind.wrap .i64 (Int.tdiv n_1 1000000000) ∧ ∃ t25 : Int, t25 = IntKind.wrap .i64 (i + 1) ∧ Inv t51_p t51_n t51_c t53 t25 wv_3 ∧ mu t51_p t51_n t51_c t53 t25 wv_3 < mu out_p out_n out_c carry i wv_1
def spec_l02Add_j1 (b_p : Option Addr) (b_n : Nat) (wv_1 : World) (Inv : Option Addr → Nat → Nat → Int → Int → World → Prop) (mu : Option Addr → Nat → Nat → Int → Int → World → Nat) (out_p : Option Addr) (out_n : Nat) (out_c : Nat) (carry : Int) (i : Int) (n : Int) (W_1 : World) (R : Value → World → Prop) : Prop :=
  ((decide ((i : Int) < ((b_n : Nat) : Int))) = true →
    (0 ≤ (i : Int) ∧ (i : Int) < (b_n : Nat)) ∧ ptrS b_p fun ad_1 => ∃ (t45 : Int), Loads P 3 (ad_1.add (i.toNat * 1)) (.int .i64 t45) W_1 ∧ ∃ t46 : Int, t46 = IntKind.wrap .i64 (n + t45) ∧ spec_l02Add_j2 wv_1 Inv mu out_p out_n out_c carry i t46 W_1 R) ∧
  ((decide ((i : Int) < ((b_n : Nat) : Int))) = false →
    spec_l02Add_j2 wv_1 Inv mu out_p out_n out_c carry i n W_1 R)
def spec_l02Add_j0 (a_p : Option Addr) (a_n : Nat) (b_p : Option Addr) (b_n : Nat) (wv_1 : World) (Inv : Option Addr → Nat → Nat → Int → Int → World → Prop) (mu : Option Addr → Nat → Nat → Int → Int → World → Nat) (out_p : Option Addr) (out_n : Nat) (out_c : Nat) (carry : Int) (i : Int) (W : World) (R : Value → World → Prop) : Prop :=
  ((decide ((i : Int) < ((a_n : Nat) : Int))) = true →
    (0 ≤ (i : Int) ∧ (i : Int) < (a_n : Nat)) ∧ ptrS a_p fun ad => ∃ (t35 : Int), Loads P 3 (ad.add (i.toNat * 1)) (.int .i64 t35) W ∧ ∃ t36 : Int, t36 = IntKind.wrap .i64 (carry + t35) ∧ spec_l02Add_j1 b_p b_n wv_1 Inv mu out_p out_n out_c carry i t36 W R) ∧
  ((decide ((i : Int) < ((a_n : Nat) : Int))) = false →
    spec_l02Add_j1 b_p b_n wv_1 Inv mu out_p out_n out_c carry i carry W R)
def spec_l02Add (a_p : Option Addr) (a_n : Nat) (a_c : Nat) (b_p : Option Addr) (b_n : Nat) (b_c : Nat) (w : World) (R : Value → World → Prop) : Prop :=
  ∀ (r : Nat) (wv : World), New w (.cells ⟨[]⟩ 3 (0, 0)) r wv →
  ∃ (Inv : Option Addr → Nat → Nat → Int → Int → World → Prop) (mu : Option Addr → Nat → Nat → Int → Int → World → Nat), Inv (some ⟨r, 0, none⟩) 0 0 0 0 wv ∧
  ∀ (junk : Fr) (wv_1 : World) (out_p : Option Addr) (out_n : Nat) (out_c : Nat) (carry : Int) (i : Int), Inv out_p out_n out_c carry i wv_1 →
    ((decide ((i : Int) < ((a_n : Nat) : Int))) = true →
      (true = true →
        (true = true →
          spec_l02Add_j0 a_p a_n b_p b_n wv_1 Inv mu out_p out_n out_c carry i wv_1 R) ∧
        (true = false →
          R (.slice out_p out_n out_c) wv_1)) ∧
      (true = false →
        ((decide ((0 : Int) < carry)) = true →
          spec_l02Add_j0 a_p a_n b_p b_n wv_1 Inv mu out_p out_n out_c carry i wv_1 R) ∧
        ((decide ((0 : Int) < carry)) = false →
          R (.slice out_p out_n out_c) wv_1))) ∧
    ((decide ((i : Int) < ((a_n : Nat) : Int))) = false →
      ((decide ((i : Int) < ((b_n : Nat) : Int))) = true →
        (true = true →
          spec_l02Add_j0 a_p a_n b_p b_n wv_1 Inv mu out_p out_n out_c carry i wv_1 R) ∧
        (true = false →
          R (.slice out_p out_n out_c) wv_1)) ∧
      ((decide ((i : Int) < ((b_n : Nat) : Int))) = false →
        ((decide ((0 : Int) < carry)) = true →
          spec_l02Add_j0 a_p a_n b_p b_n wv_1 Inv mu out_p out_n out_c carry i wv_1 R) ∧
        ((decide ((0 : Int) < carry)) = false →
          R (.slice out_p out_n out_c) wv_1)))
theorem spec_l02Add_eq (a_p : Option Addr) (a_n : Nat) (a_c : Nat) (b_p : Option Addr) (b_n : Nat) (b_c : Nat) (w : World) (R : Value → World → Prop) : spec_l02Add a_p a_n a_c b_p b_n b_c w R = fsem P Tryz.f150 (fun k => cond (Nat.beq k 5) [(5, .one .slice), (6, .one (.int .i64)), (7, .one (.int .i64))] ([])) [(.slice a_p a_n a_c), (.slice b_p b_n b_c)] R w := by kernel_rfl
theorem spec_l02Add_ret {a_p : Option Addr} {a_n : Nat} {a_c : Nat} {b_p : Option Addr} {b_n : Nat} {b_c : Nat} {w : World} {R : Value → World → Prop} (h : spec_l02Add a_p a_n a_c b_p b_n b_c w R) : Ret P 150 [(.slice a_p a_n a_c), (.slice b_p b_n b_c)] w R :=
  Ret.of_fsem Tryz.func150 rfl (Eq.mp (spec_l02Add_eq a_p a_n a_c b_p b_n b_c w R) h)
def spec_l02Sub_j1 (wv_1 : World) (Inv : Option Addr → Nat → Nat → Int → Int → World → Prop) (mu : Option Addr → Nat → Nat → Int → Int → World → Nat) (out_p : Option Addr) (out_n : Nat) (out_c : Nat) (less : Int) (t12 : Int) (less_1 : Int) (n_1 : Int) (W_1 : World) (R : Value → World → Prop) : Prop :=
  ∀ (r_1 : Nat) (wv_2 : World), New W_1 (.cells ⟨[(.int .i64 n_1)]⟩ 3 (0, 0)) r_1 wv_2 →
  ∃ (t38_p : Option Addr) (t38_n : Nat) (t38_c : Nat) (wv_3 : World), Appends P [22, 22] [(.slice out_p out_n out_c), (.slice (some ⟨r_1, 0, none⟩) 1 1)] (.slice t38_p t38_n t38_c) wv_2 wv_3 ∧
  ∃ t39 : Int, t39 = IntKind.wrap .i64 (t12 + 1) ∧ Inv t38_p t38_n t38_c less_1 t39 wv_3 ∧ mu t38_p t38_n t38_c less_1 t39 wv_3 < mu out_p out_n out_c less t12 wv_1
def spec_l02Sub_j0 (wv_1 : World) (Inv : Option Addr → Nat → Nat → Int → Int → World → Prop) (mu : Option Addr → Nat → Nat → Int → Int → World → Nat) (out_p : Option Addr) (out_n : Nat) (out_c : Nat) (less : Int) (t12 : Int) (n : Int) (W : World) (R : Value → World → Prop) : Prop :=
  ((decide ((n : Int) < 0)) = true →
    ∃ t34 : Int, t34 = IntKind.wrap .i64 (n + 1000000000) ∧ spec_l02Sub_j1 wv_1 Inv mu out_p out_n out_c less t12 1 t34 W R) ∧
  ((decide ((n : Int) < 0)) = false →
    spec_l02Sub_j1 wv_1 Inv mu out_p out_n out_c less t12 0 n W R)
def spec_l02Sub (a_p : Option Addr) (a_n : Nat) (a_c : Nat) (b_p : Option Addr) (b_n : Nat) (b_c : Nat) (w : World) (R : Value → World → Prop) : Prop :=
  ∀ (r : Nat) (wv : World), New w (.cells ⟨[]⟩ 3 (0, 0)) r wv →
  ∃ (Inv : Option Addr → Nat → Nat → Int → Int → World → Prop) (mu : Option Addr → Nat → Nat → Int → Int → World → Nat), Inv (some ⟨r, 0, none⟩) 0 0 0 0 wv ∧
  ∀ (junk : Fr) (wv_1 : World) (out_p : Option Addr) (out_n : Nat) (out_c : Nat) (less : Int) (t12 : Int), Inv out_p out_n out_c less t12 wv_1 →
    ((decide ((t12 : Int) < ((a_n : Nat) : Int))) = true →
      (0 ≤ (t12 : Int) ∧ (t12 : Int) < (a_n : Nat)) ∧ ptrS a_p fun ad => ∃ (t18 : Int), Loads P 3 (ad.add (t12.toNat * 1)) (.int .i64 t18) wv_1 ∧ ∃ t20 : Int, t20 = IntKind.wrap .i64 (t18 - less) ∧ ((decide ((t12 : Int) < ((b_n : Nat) : Int))) = true →
        (0 ≤ (t12 : Int) ∧ (t12 : Int) < (b_n : Nat)) ∧ ptrS b_p fun ad_1 => ∃ (t29 : Int), Loads P 3 (ad_1.add (t12.toNat * 1)) (.int .i64 t29) wv_1 ∧ ∃ t30 : Int, t30 = IntKind.wrap .i64 (t20 - t29) ∧ spec_l02Sub_j0 wv_1 Inv mu out_p out_n out_c less t12 t30 wv_1 R) ∧
      ((decide ((t12 : Int) < ((b_n : Nat) : Int))) = false →
        spec_l02Sub_j0 wv_1 Inv mu out_p out_n out_c less t12 t20 wv_1 R)) ∧
    ((decide ((t12 : Int) < ((a_n : Nat) : Int))) = false →
      Calls P 133 ⟨[(.slice out_p out_n out_c)]⟩ wv_1 fun e wv_4 =>
      ∃ (t41_p : Option Addr) (t41_n : Nat) (t41_c : Nat), e = .returned (.slice t41_p t41_n t41_c) ∧
      R (.slice t41_p t41_n t41_c) wv_4)
theorem spec_l02Sub_eq (a_p : Option Addr) (a_n : Nat) (a_c : Nat) (b_p : Option Addr) (b_n : Nat) (b_c : Nat) (w : World) (R : Value → World → Prop) : spec_l02Sub a_p a_n a_c b_p b_n b_c w R = fsem P Tryz.f151 (fun k => cond (Nat.beq k 5) [(5, .one .slice), (6, .one (.int .i64)), (12, .one (.int .i64))] ([])) [(.slice a_p a_n a_c), (.slice b_p b_n b_c)] R w := by kernel_rfl
theorem spec_l02Sub_ret {a_p : Option Addr} {a_n : Nat} {a_c : Nat} {b_p : Option Addr} {b_n : Nat} {b_c : Nat} {w : World} {R : Value → World → Prop} (h : spec_l02Sub a_p a_n a_c b_p b_n b_c w R) : Ret P 151 [(.slice a_p a_n a_c), (.slice b_p b_n b_c)] w R :=
  Ret.of_fsem Tryz.func151 rfl (Eq.mp (spec_l02Sub_eq a_p a_n a_c b_p b_n b_c w R) h)
def spec_IntNeg (x0 : Bool) (x1_p : Option Addr) (x1_n : Nat) (x1_c : Nat) (w : World) (R : Value → World → Prop) : Prop :=
  ∀ (r : Nat) (wv : World), New w (.cells ⟨[(.bool x0), (.slice x1_p x1_n x1_c)]⟩ 31 (0, 0)) r wv →
  ∀ (r_1 : Nat) (wv_1 : World), New wv (.cells ⟨[(.bool false), (.slice none 0 0)]⟩ 31 (0, 0)) r_1 wv_1 →
  ∃ (t30 : Bool) (t31_p : Option Addr) (t31_n : Nat) (t31_c : Nat), Loads P 31 ⟨r, 0, none⟩ (.agg #[(.bool t30), (.slice t31_p t31_n t31_c)]) wv_1 ∧ Calls P 82 ⟨[(.agg #[(.bool t30), (.slice t31_p t31_n t31_c)])]⟩ wv_1 fun e wv_2 =>
  ∃ (t4 : Bool), e = .returned (.bool t4) ∧
  ((!t4) = true →
    ∃ wv_3, Stores P 31 ⟨r_1, 0, none⟩ (.agg #[(.bool false), (.slice none 0 0)]) wv_2 wv_3 ∧
    ∃ (r0 : Bool) (r1_p : Option Addr) (r1_n : Nat) (r1_c : Nat), Loads P 31 ⟨r_1, 0, none⟩ (.agg #[(.bool r0), (.slice r1_p r1_n r1_c)]) wv_3 ∧ R (.agg #[(.bool r0), (.slice r1_p r1_n r1_c)]) wv_3) ∧
  ((!t4) = false →
    ∃ (t8 : Bool), Loads P 4 ((⟨r, 0, none⟩ : Addr).add 0) (.bool t8) wv_2 ∧ ∃ (t11_p : Option Addr) (t11_n : Nat) (t11_c : Nat), Loads P 22 ((⟨r, 0, none⟩ : Addr).add 1) (.slice t11_p t11_n t11_c) wv_2 ∧ Calls P 70 ⟨[(.bool (!t8)), (.slice t11_p t11_n t11_c)]⟩ wv_2 fun e_1 wv_4 =>
    ∃ (t120 : Bool) (t121_p : Option Addr) (t121_n : Nat) (t121_c : Nat), e_1 = .returned (.agg #[(.bool t120), (.slice t121_p t121_n t121_c)]) ∧
    ∃ wv_5, Stores P 31 ⟨r_1, 0, none⟩ (.agg #[(.bool t120), (.slice t121_p t121_n t121_c)]) wv_4 wv_5 ∧
    ∃ (r0_1 : Bool) (r1_p_1 : Option Addr) (r1_n_1 : Nat) (r1_c_1 : Nat), Loads P 31 ⟨r_1, 0, none⟩ (.agg #[(.bool r0_1), (.slice r1_p_1 r1_n_1 r1_c_1)]) wv_5 ∧ R (.agg #[(.bool r0_1), (.slice r1_p_1 r1_n_1 r1_c_1)]) wv_5)
theorem spec_IntNeg_eq (x0 : Bool) (x1_p : Option Addr) (x1_n : Nat) (x1_c : Nat) (w : World) (R : Value → World → Prop) : spec_IntNeg x0 x1_p x1_n x1_c w R = fsem P Tryz.f152 (fun k => []) [(.agg #[(.bool x0), (.slice x1_p x1_n x1_c)])] R w := by kernel_rfl
theorem spec_IntNeg_ret {x0 : Bool} {x1_p : Option Addr} {x1_n : Nat} {x1_c : Nat} {w : World} {R : Value → World → Prop} (h : spec_IntNeg x0 x1_p x1_n x1_c w R) : Ret P 152 [(.agg #[(.bool x0), (.slice x1_p x1_n x1_c)])] w R :=
  Ret.of_fsem Tryz.func152 rfl (Eq.mp (spec_IntNeg_eq x0 x1_p x1_n x1_c w R) h)
def impl_intsOk (x0 : Bool) (x1_p : Option Addr) (x1_n : Nat) (x1_c : Nat) (y0 : Bool) (y1_p : Option Addr) (y1_n : Nat) (y1_c : Nat) (w : World) (R : Value → World → Prop) : Prop :=
  ∀ (r : Nat) (wv : World), New w (.cells ⟨[(.bool x0), (.slice x1_p x1_n x1_c)]⟩ 31 (0, 0)) r wv →
  ∀ (r_1 : Nat) (wv_1 : World), New wv (.cells ⟨[(.bool y0), (.slice y1_p y1_n y1_c)]⟩ 31 (0, 0)) r_1 wv_1 →
  ∃ (t50 : Bool) (t51_p : Option Addr) (t51_n : Nat) (t51_c : Nat), Loads P 31 ⟨r, 0, none⟩ (.agg #[(.bool t50), (.slice t51_p t51_n t51_c)]) wv_1 ∧ Calls P 94 ⟨[(.agg #[(.bool t50), (.slice t51_p t51_n t51_c)])]⟩ wv_1 fun e wv_2 =>
  ∃ (t6 : Bool), e = .returned (.bool t6) ∧
  (t6 = true →
    ∃ (t80 : Bool) (t81_p : Option Addr) (t81_n : Nat) (t81_c : Nat), Loads P 31 ⟨r_1, 0, none⟩ (.agg #[(.bool t80), (.slice t81_p t81_n t81_c)]) wv_2 ∧ Calls P 94 ⟨[(.agg #[(.bool t80), (.slice t81_p t81_n t81_c)])]⟩ wv_2 fun e_1 wv_3 =>
    ∃ (t9 : Bool), e_1 = .returned (.bool t9) ∧
    R (.bool t9) wv_3) ∧
  (t6 = false →
    R (.bool false) wv_2)
theorem impl_intsOk_eq (x0 : Bool) (x1_p : Option Addr) (x1_n : Nat) (x1_c : Nat) (y0 : Bool) (y1_p : Option Addr) (y1_n : Nat) (y1_c : Nat) (w : World) (R : Value → World → Prop) : impl_intsOk x0 x1_p x1_n x1_c y0 y1_p y1_n y1_c w R = fsem P Tryz.f153 (fun k => []) [(.agg #[(.bool x0), (.slice x1_p x1_n x1_c)]), (.agg #[(.bool y0), (.slice y1_p y1_n y1_c)])] R w := by kernel_rfl
theorem impl_intsOk_ret {x0 : Bool} {x1_p : Option Addr} {x1_n : Nat} {x1_c : Nat} {y0 : Bool} {y1_p : Option Addr} {y1_n : Nat} {y1_c : Nat} {w : World} {R : Value → World → Prop} (h : impl_intsOk x0 x1_p x1_n x1_c y0 y1_p y1_n y1_c w R) : Ret P 153 [(.agg #[(.bool x0), (.slice x1_p x1_n x1_c)]), (.agg #[(.bool y0), (.slice y1_p y1_n y1_c)])] w R :=
  Ret.of_fsem Tryz.func153 rfl (Eq.mp (impl_intsOk_eq x0 x1_p x1_n x1_c y0 y1_p y1_n y1_c w R) h)
def impl_natAdd_j1 (wv_1 : World) (Inv : Option Addr → Nat → Nat → Int → Int → World → Prop) (mu : Option Addr → Nat → Nat → Int → Int → World → Nat) (out_p : Option Addr) (out_n : Nat) (out_c : Nat) (carry : Int) (i : Int) (carry_2 : Int) (W_1 : World) (R : Value → World → Prop) : Prop :=
  (1000000000 : Int) ≠ 0 ∧ ∃ t46 : Int, t46 = Int.tmod carry_2 1000000000 ∧ ∀ (r_1 : Nat) (wv_2 : World), New W_1 (.cells ⟨[(.int .i64 t46)]⟩ 3 (0, 0)) r_1 wv_2 →
  ∃ (t48_p : Option Addr) (t48_n : Nat) (t48_c : Nat) (wv_3 : World), Appends P [22, 22] [(.slice out_p out_n out_c), (.slice (some ⟨r_1, 0, none⟩) 1 1)] (.slice t48_p t48_n t48_c) wv_2 wv_3 ∧
  (1000000000 : Int) ≠ 0 ∧ ∃ t50 : Int, t50 = IntKind.wrap .i64 (Int.tdiv carry_2 1000000000) ∧ ∃ t23 : Int, t23 = IntKind.wrap .i64 (i + 1) ∧ Inv t48_p t48_n t48_c t50 t23 wv_3 ∧ mu t48_p t48_n t48_c t50 t23 wv_3 < mu out_p out_n out_c carry i wv_1
def impl_natAdd_j0 (b_p : Option Addr) (b_n : Nat) (wv_1 : World) (Inv : Option Addr → Nat → Nat → Int → Int → World → Prop) (mu : Option Addr → Nat → Nat → Int → Int → World → Nat) (out_p : Option Addr) (out_n : Nat) (out_c : Nat) (carry : Int) (i : Int) (carry_1 : Int) (W : World) (R : Value → World → Prop) : Prop :=
  ((decide ((i : Int) < ((b_n : Nat) : Int))) = true →
    (0 ≤ (i : Int) ∧ (i : Int) < (b_n : Nat)) ∧ ptrS b_p fun ad_1 => ∃ (t42 : Int), Loads P 3 (ad_1.add (i.toNat * 1)) (.int .i64 t42) W ∧ ∃ t43 : Int, t43 = IntKind.wrap .i64 (carry_1 + t42) ∧ impl_natAdd_j1 wv_1 Inv mu out_p out_n out_c carry i t43 W R) ∧
  ((decide ((i : Int) < ((b_n : Nat) : Int))) = false →
    impl_natAdd_j1 wv_1 Inv mu out_p out_n out_c carry i carry_1 W R)
def impl_natAdd (a_p : Option Addr) (a_n : Nat) (a_c : Nat) (b_p : Option Addr) (b_n : Nat) (b_c : Nat) (w : World) (R : Value → World → Prop) : Prop :=
  ∃ t12 : Int, t12 = (if ((b_n : Nat) : Int) > ((a_n : Nat) : Int) then ((b_n : Nat) : Int) else ((a_n : Nat) : Int)) ∧ ∃ t13 : Int, t13 = IntKind.wrap .i64 (t12 + 1) ∧ (0 ≤ (0 : Int) ∧ (0 : Int) ≤ t13 ∧ ((8 : Nat) : Int) * t13 ≤ 281474976710656) ∧
  ∀ (r : Nat) (wv : World), New w (.cells ⟨zeroRow (.int .i64 0) (t13.toNat * 1)⟩ 3 (0, 0)) r wv →
  ∃ (Inv : Option Addr → Nat → Nat → Int → Int → World → Prop) (mu : Option Addr → Nat → Nat → Int → Int → World → Nat), Inv (some ⟨r, 0, none⟩) 0 t13.toNat 0 0 wv ∧
  ∀ (junk : Fr) (wv_1 : World) (out_p : Option Addr) (out_n : Nat) (out_c : Nat) (carry : Int) (i : Int), Inv out_p out_n out_c carry i wv_1 →
    ∃ t20 : Int, t20 = (if ((b_n : Nat) : Int) > ((a_n : Nat) : Int) then ((b_n : Nat) : Int) else ((a_n : Nat) : Int)) ∧ ((decide ((i : Int) < t20)) = true →
      ((decide ((i : Int) < ((a_n : Nat) : Int))) = true →
        (0 ≤ (i : Int) ∧ (i : Int) < (a_n : Nat)) ∧ ptrS a_p fun ad => ∃ (t32 : Int), Loads P 3 (ad.add (i.toNat * 1)) (.int .i64 t32) wv_1 ∧ ∃ t33 : Int, t33 = IntKind.wrap .i64 (carry + t32) ∧ impl_natAdd_j0 b_p b_n wv_1 Inv mu out_p out_n out_c carry i t33 wv_1 R) ∧
      ((decide ((i : Int) < ((a_n : Nat) : Int))) = false →
        impl_natAdd_j0 b_p b_n wv_1 Inv mu out_p out_n out_c carry i carry wv_1 R)) ∧
    ((decide ((i : Int) < t20)) = false →
      ∀ (r_2 : Nat) (wv_4 : World), New wv_1 (.cells ⟨[(.int .i64 carry)]⟩ 3 (0, 0)) r_2 wv_4 →
      ∃ (t54_p : Option Addr) (t54_n : Nat) (t54_c : Nat) (wv_5 : World), Appends P [22, 22] [(.slice out_p out_n out_c), (.slice (some ⟨r_2, 0, none⟩) 1 1)] (.slice t54_p t54_n t54_c) wv_4 wv_5 ∧
      Calls P 146 ⟨[(.slice t54_p t54_n t54_c)]⟩ wv_5 fun e wv_6 =>
      ∃ (t55_p : Option Addr) (t55_n : Nat) (t55_c : Nat), e = .returned (.slice t55_p t55_n t55_c) ∧
      R (.slice t55_p t55_n t55_c) wv_6)
theorem impl_natAdd_eq (a_p : Option Addr) (a_n : Nat) (a_c : Nat) (b_p : Option Addr) (b_n : Nat) (b_c : Nat) (w : World) (R : Value → World → Prop) : impl_natAdd a_p a_n a_c b_p b_n b_c w R = fsem P Tryz.f154 (fun k => cond (Nat.beq k 5) [(5, .one .slice), (6, .one (.int .i64)), (7, .one (.int .i64))] ([])) [(.slice a_p a_n a_c), (.slice b_p b_n b_c)] R w := by kernel_rfl
theorem impl_natAdd_ret {a_p : Option Addr} {a_n : Nat} {a_c : Nat} {b_p : Option Addr} {b_n : Nat} {b_c : Nat} {w : World} {R : Value → World → Prop} (h : impl_natAdd a_p a_n a_c b_p b_n b_c w R) : Ret P 154 [(.slice a_p a_n a_c), (.slice b_p b_n b_c)] w R :=
  Ret.of_fsem Tryz.func154 rfl (Eq.mp (impl_natAdd_eq a_p a_n a_c b_p b_n b_c w R) h)
def spec_l08Table (w : World) (R : Value → World → Prop) : Prop :=
  ∀ (r : Nat) (wv : World), New w (.cells ⟨[(.string (S [65, 85, 68])), (.string (S [48, 51, 54])), (.int .i64 2), (.int .i64 5), (.string (S [66, 72, 68])), (.string (S [48, 52, 56])), (.int .i64 3), (.int .i64 5), (.string (S [67, 65, 68])), (.string (S [49, 50, 52])), (.int .i64 2), (.int .i64 5), (.string (S [67, 72, 70])), (.string (S [55, 53, 54])), (.int .i64 2), (.int .i64 5), (.string (S [67, 76, 70])), (.string (S [57, 57, 48])), (.int .i64 4), (.int .i64 1), (.string (S [67, 90, 75])), (.string (S [50, 48, 51])), (.int .i64 2), (.int .i64 100), (.string (S [68, 75, 75])), (.string (S [50, 48, 56])), (.int .i64 2), (.int .i64 50), (.string (S [69, 85, 82])), (.string (S [57, 55, 56])), (.int .i64 2), (.int .i64 1), (.string (S [71, 66, 80])), (.string (S [56, 50, 54])), (.int .i64 2), (.int .i64 1), (.string (S [72, 85, 70])), (.string (S [51, 52, 56])), (.int .i64 2), (.int .i64 500), (.string (S [73, 83, 75])), (.string (S [51, 53, 50])), (.int .i64 0), (.int .i64 1), (.string (S [74, 80, 89])), (.string (S [51, 57, 50])), (.int .i64 0), (.int .i64 1), (.string (S [75, 82, 87])), (.string (S [52, 49, 48])), (.int .i64 0), (.int .i64 10), (.string (S [75, 87, 68])), (.string (S [52, 49, 52])), (.int .i64 3), (.int .i64 5), (.string (S [78, 79, 75])), (.string (S [53, 55, 56])), (.int .i64 2), (.int .i64 100), (.string (S [78, 90, 68])), (.string (S [53, 53, 52])), (.int .i64 2), (.int .i64 10), (.string (S [80, 76, 78])), (.string (S [57, 56, 53])), (.int .i64 2), (.int .i64 1), (.string (S [83, 69, 75])), (.string (S [55, 53, 50])), (.int .i64 2), (.int .i64 100), (.string (S [84, 78, 68])), (.string (S [55, 56, 56])), (.int .i64 3), (.int .i64 10), (.string (S [85, 83, 68])), (.string (S [56, 52, 48])), (.int .i64 2), (.int .i64 1)]⟩ 122 (0, 0)) r wv →
  R (.slice (some ⟨r, 0, none⟩) 20 20) wv
theorem spec_l08Table_eq (w : World) (R : Value → World → Prop) : spec_l08Table w R = fsem P Tryz.f156 (fun k => []) [] R w := by kernel_rfl
theorem spec_l08Table_ret {w : World} {R : Value → World → Prop} (h : spec_l08Table w R) : Ret P 156 [] w R :=
  Ret.of_fsem Tryz.func156 rfl (Eq.mp (spec_l08Table_eq w R) h)
def spec_IntMul (x0 : Bool) (x1_p : Option Addr) (x1_n : Nat) (x1_c : Nat) (y0 : Bool) (y1_p : Option Addr) (y1_n : Nat) (y1_c : Nat) (w : World) (R : Value → World → Prop) : Prop :=
  ∀ (r : Nat) (wv : World), New w (.cells ⟨[(.bool x0), (.slice x1_p x1_n x1_c)]⟩ 31 (0, 0)) r wv →
  ∀ (r_1 : Nat) (wv_1 : World), New wv (.cells ⟨[(.bool y0), (.slice y1_p y1_n y1_c)]⟩ 31 (0, 0)) r_1 wv_1 →
  ∀ (r_2 : Nat) (wv_2 : World), New wv_1 (.cells ⟨[(.bool false), (.slice none 0 0)]⟩ 31 (0, 0)) r_2 wv_2 →
  ∃ (t50 : Bool) (t51_p : Option Addr) (t51_n : Nat) (t51_c : Nat), Loads P 31 ⟨r, 0, none⟩ (.agg #[(.bool t50), (.slice t51_p t51_n t51_c)]) wv_2 ∧ Calls P 82 ⟨[(.agg #[(.bool t50), (.slice t51_p t51_n t51_c)])]⟩ wv_2 fun e wv_3 =>
  ∃ (t6 : Bool), e = .returned (.bool t6) ∧
  ((!t6) = true →
    (true = true →
      ∃ wv_4, Stores P 31 ⟨r_2, 0, none⟩ (.agg #[(.bool false), (.slice none 0 0)]) wv_3 wv_4 ∧
      ∃ (r0 : Bool) (r1_p : Option Addr) (r1_n : Nat) (r1_c : Nat), Loads P 31 ⟨r_2, 0, none⟩ (.agg #[(.bool r0), (.slice r1_p r1_n r1_c)]) wv_4 ∧ R (.agg #[(.bool r0), (.slice r1_p r1_n r1_c)]) wv_4) ∧
    (true = false →
      ∃ (t15 : Bool), (∀ wv_5, Ext wv_3.drew wv_5 → Loads P 4 ((⟨r, 0, none⟩ : Addr).add 0) (.bool t15) wv_5) ∧ ∃ (t17 : Bool), (∀ wv_6, Ext wv_3.drew wv_6 → Loads P 4 ((⟨r_1, 0, none⟩ : Addr).add 0) (.bool t17) wv_6) ∧ ∃ (t20_p : Option Addr) (t20_n : Nat) (t20_c : Nat), (∀ wv_7, Ext wv_3.drew wv_7 → Loads P 22 ((⟨r, 0, none⟩ : Addr).add 1) (.slice t20_p t20_n t20_c) wv_7) ∧ ∃ (t22_p : Option Addr) (t22_n : Nat) (t22_c : Nat), (∀ wv_8, Ext wv_3.drew wv_8 → Loads P 22 ((⟨r_1, 0, none⟩ : Addr).add 1) (.slice t22_p t22_n t22_c) wv_8) ∧ Calls P 87 ⟨[(.slice t20_p t20_n t20_c), (.slice t22_p t22_n t22_c)]⟩ wv_3.drew fun e_1 wv_9 =>
      ∃ (t23_p : Option Addr) (t23_n : Nat) (t23_c : Nat), e_1 = .returned (.slice t23_p t23_n t23_c) ∧
      Ext wv_3.drew wv_9 ∧ Calls P 70 ⟨[(.bool (!(t15 == t17))), (.slice t23_p t23_n t23_c)]⟩ wv_9 fun e_2 wv_10 =>
      ∃ (t240 : Bool) (t241_p : Option Addr) (t241_n : Nat) (t241_c : Nat), e_2 = .returned (.agg #[(.bool t240), (.slice t241_p t241_n t241_c)]) ∧
      ∃ wv_11, Stores P 31 ⟨r_2, 0, none⟩ (.agg #[(.bool t240), (.slice t241_p t241_n t241_c)]) wv_10 wv_11 ∧
      ∃ (r0_1 : Bool) (r1_p_1 : Option Addr) (r1_n_1 : Nat) (r1_c_1 : Nat), Loads P 31 ⟨r_2, 0, none⟩ (.agg #[(.bool r0_1), (.slice r1_p_1 r1_n_1 r1_c_1)]) wv_11 ∧ R (.agg #[(.bool r0_1), (.slice r1_p_1 r1_n_1 r1_c_1)]) wv_11)) ∧
  ((!t6) = false →
    ∃ (t90 : Bool) (t91_p : Option Addr) (t91_n : Nat) (t91_c : Nat), Loads P 31 ⟨r_1, 0, none⟩ (.agg #[(.bool t90), (.slice t91_p t91_n t91_c)]) wv_3 ∧ Calls P 82 ⟨[(.agg #[(.bool t90), (.slice t91_p t91_n t91_c)])]⟩ wv_3 fun e_3 wv_12 =>
    ∃ (t10 : Bool), e_3 = .returned (.bool t10) ∧
    ((!t10) = true →
      ∃ wv_13, Stores P 31 ⟨r_2, 0, none⟩ (.agg #[(.bool false), (.slice none 0 0)]) wv_12 wv_13 ∧
      ∃ (r0_2 : Bool) (r1_p_2 : Option Addr) (r1_n_2 : Nat) (r1_c_2 : Nat), Loads P 31 ⟨r_2, 0, none⟩ (.agg #[(.bool r0_2), (.slice r1_p_2 r1_n_2 r1_c_2)]) wv_13 ∧ R (.agg #[(.bool r0_2), (.slice r1_p_2 r1_n_2 r1_c_2)]) wv_13) ∧
    ((!t10) = false →
      ∃ (t15_1 : Bool), (∀ wv_14, Ext wv_12.drew wv_14 → Loads P 4 ((⟨r, 0, none⟩ : Addr).add 0) (.bool t15_1) wv_14) ∧ ∃ (t17_1 : Bool), (∀ wv_15, Ext wv_12.drew wv_15 → Loads P 4 ((⟨r_1, 0, none⟩ : Addr).add 0) (.bool t17_1) wv_15) ∧ ∃ (t20_p_1 : Option Addr) (t20_n_1 : Nat) (t20_c_1 : Nat), (∀ wv_16, Ext wv_12.drew wv_16 → Loads P 22 ((⟨r, 0, none⟩ : Addr).add 1) (.slice t20_p_1 t20_n_1 t20_c_1) wv_16) ∧ ∃ (t22_p_1 : Option Addr) (t22_n_1 : Nat) (t22_c_1 : Nat), (∀ wv_17, Ext wv_12.drew wv_17 → Loads P 22 ((⟨r_1, 0, none⟩ : Addr).add 1) (.slice t22_p_1 t22_n_1 t22_c_1) wv_17) ∧ Calls P 87 ⟨[(.slice t20_p_1 t20_n_1 t20_c_1), (.slice t22_p_1 t22_n_1 t22_c_1)]⟩ wv_12.drew fun e_4 wv_18 =>
      ∃ (t23_p_1 : Option Addr) (t23_n_1 : Nat) (t23_c_1 : Nat), e_4 = .returned (.slice t23_p_1 t23_n_1 t23_c_1) ∧
      Ext wv_12.drew wv_18 ∧ Calls P 70 ⟨[(.bool (!(t15_1 == t17_1))), (.slice t23_p_1 t23_n_1 t23_c_1)]⟩ wv_18 fun e_5 wv_19 =>
      ∃ (t240_1 : Bool) (t241_p_1 : Option Addr) (t241_n_1 : Nat) (t241_c_1 : Nat), e_5 = .returned (.agg #[(.bool t240_1), (.slice t241_p_1 t241_n_1 t241_c_1)]) ∧
      ∃ wv_20, Stores P 31 ⟨r_2, 0, none⟩ (.agg #[(.bool t240_1), (.slice t241_p_1 t241_n_1 t241_c_1)]) wv_19 wv_20 ∧
      ∃ (r0_3 : Bool) (r1_p_3 : Option Addr) (r1_n_3 : Nat) (r1_c_3 : Nat), Loads P 31 ⟨r_2, 0, none⟩ (.agg #[(.bool r0_3), (.slice r1_p_3 r1_n_3 r1_c_3)]) wv_20 ∧ R (.agg #[(.bool r0_3), (.slice r1_p_3 r1_n_3 r1_c_3)]) wv_20))
theorem spec_IntMul_eq (x0 : Bool) (x1_p : Option Addr) (x1_n : Nat) (x1_c : Nat) (y0 : Bool) (y1_p : Option Addr) (y1_n : Nat) (y1_c : Nat) (w : World) (R : Value → World → Prop) : spec_IntMul x0 x1_p x1_n x1_c y0 y1_p y1_n y1_c w R = fsem P Tryz.f157 (fun k => []) [(.agg #[(.bool x0), (.slice x1_p x1_n x1_c)]), (.agg #[(.bool y0), (.slice y1_p y1_n y1_c)])] R w := by kernel_rfl
theorem spec_IntMul_ret {x0 : Bool} {x1_p : Option Addr} {x1_n : Nat} {x1_c : Nat} {y0 : Bool} {y1_p : Option Addr} {y1_n : Nat} {y1_c : Nat} {w : World} {R : Value → World → Prop} (h : spec_IntMul x0 x1_p x1_n x1_c y0 y1_p y1_n y1_c w R) : Ret P 157 [(.agg #[(.bool x0), (.slice x1_p x1_n x1_c)]), (.agg #[(.bool y0), (.slice y1_p y1_n y1_c)])] w R :=
  Ret.of_fsem Tryz.func157 rfl (Eq.mp (spec_IntMul_eq x0 x1_p x1_n x1_c y0 y1_p y1_n y1_c w R) h)
def spec_l03Small (a_p : Option Addr) (a_n : Nat) (a_c : Nat) (d : Int) (w : World) (R : Value → World → Prop) : Prop :=
  (0 ≤ (((a_n : Nat) : Int) : Int) ∧ (((a_n : Nat) : Int) : Int) ≤ ((a_n : Nat) : Int) ∧ ((8 : Nat) : Int) * ((a_n : Nat) : Int) ≤ 281474976710656) ∧
  ∀ (r : Nat) (wv : World), New w (.cells ⟨zeroRow (.int .i64 0) (a_n * 1)⟩ 3 (0, 0)) r wv →
  ∃ t15 : Int, t15 = IntKind.wrap .i64 (((a_n : Nat) : Int) - 1) ∧ ∃ (Inv : Int → Int → World → Prop) (mu : Int → Int → World → Nat), Inv 0 t15 wv ∧
  ∀ (junk : Fr) (wv_1 : World) (rest : Int) (i : Int), Inv rest i wv_1 →
    ((decide ((0 : Int) ≤ i)) = true →
      ∃ t21 : Int, t21 = IntKind.wrap .i64 (rest * 1000000000) ∧ (0 ≤ (i : Int) ∧ (i : Int) < (a_n : Nat)) ∧ ptrS a_p fun ad => ∃ (t25 : Int), Loads P 3 (ad.add (i.toNat * 1)) (.int .i64 t25) wv_1 ∧ ∃ t26 : Int, t26 = IntKind.wrap .i64 (t21 + t25) ∧ (d : Int) ≠ 0 ∧ ∃ t31 : Int, t31 = IntKind.wrap .i64 (Int.tdiv t26 d) ∧ (0 ≤ (i : Int) ∧ (i : Int) < (a_n : Nat)) ∧ ∃ wv_2, Stores P 3 ((⟨r, 0, none⟩ : Addr).add (i.toNat * 1)) (.int .i64 t31) wv_1 wv_2 ∧
      (d : Int) ≠ 0 ∧ ∃ t35 : Int, t35 = Int.tmod t26 d ∧ ∃ t19 : Int, t19 = IntKind.wrap .i64 (i - 1) ∧ Inv t35 t19 wv_2 ∧ mu t35 t19 wv_2 < mu rest i wv_1) ∧
    ((decide ((0 : Int) ≤ i)) = false →
      Calls P 133 ⟨[(.slice (some ⟨r, 0, none⟩) a_n a_n)]⟩ wv_1 fun e wv_3 =>
      ∃ (t37_p : Option Addr) (t37_n : Nat) (t37_c : Nat), e = .returned (.slice t37_p t37_n t37_c) ∧
      R (.tuple #[(.slice t37_p t37_n t37_c), (.int .i64 rest)]) wv_3)
theorem spec_l03Small_eq (a_p : Option Addr) (a_n : Nat) (a_c : Nat) (d : Int) (w : World) (R : Value → World → Prop) : spec_l03Small a_p a_n a_c d w R = fsem P Tryz.f158 (fun k => cond (Nat.beq k 5) [(7, .one (.int .i64)), (8, .one (.int .i64))] ([])) [(.slice a_p a_n a_c), (.int .i64 d)] R w := by kernel_rfl
theorem spec_l03Small_ret {a_p : Option Addr} {a_n : Nat} {a_c : Nat} {d : Int} {w : World} {R : Value → World → Prop} (h : spec_l03Small a_p a_n a_c d w R) : Ret P 158 [(.slice a_p a_n a_c), (.int .i64 d)] w R :=
  Ret.of_fsem Tryz.func158 rfl (Eq.mp (spec_l03Small_eq a_p a_n a_c d w R) h)
def spec_l03Digit (r_p : Option Addr) (r_n : Nat) (r_c : Nat) (b_p : Option Addr) (b_n : Nat) (b_c : Nat) (w : World) (R : Value → World → Prop) : Prop :=
  ∃ (Inv : Int → Int → World → Prop) (mu : Int → Int → World → Nat), Inv 0 999999999 w ∧
  ∀ (junk : Fr) (wv : World) (lo : Int) (hi : Int), Inv lo hi wv →
    ((decide ((lo : Int) < hi)) = true →
      ∃ t13 : Int, t13 = IntKind.wrap .i64 (lo + hi) ∧ ∃ t14 : Int, t14 = IntKind.wrap .i64 (t13 + 1) ∧ (2 : Int) ≠ 0 ∧ ∃ t15 : Int, t15 = IntKind.wrap .i64 (Int.tdiv t14 2) ∧ Calls P 105 ⟨[(.int .i64 t15)]⟩ wv fun e wv_1 =>
      ∃ (t18_p : Option Addr) (t18_n : Nat) (t18_c : Nat), e = .returned (.slice t18_p t18_n t18_c) ∧
      Calls P 87 ⟨[(.slice b_p b_n b_c), (.slice t18_p t18_n t18_c)]⟩ wv_1 fun e_1 wv_2 =>
      ∃ (t19_p : Option Addr) (t19_n : Nat) (t19_c : Nat), e_1 = .returned (.slice t19_p t19_n t19_c) ∧
      Calls P 115 ⟨[(.slice t19_p t19_n t19_c), (.slice r_p r_n r_c)]⟩ wv_2 fun e_2 wv_3 =>
      ∃ (t21 : Int), e_2 = .returned (.int .i64 t21) ∧
      ((decide ((t21 : Int) ≤ 0)) = true →
        Inv t15 hi wv_3 ∧ mu t15 hi wv_3 < mu lo hi wv) ∧
      ((decide ((t21 : Int) ≤ 0)) = false →
        ∃ t25 : Int, t25 = IntKind.wrap .i64 (t15 - 1) ∧ Inv lo t25 wv_3 ∧ mu lo t25 wv_3 < mu lo hi wv)) ∧
    ((decide ((lo : Int) < hi)) = false →
      R (.int .i64 lo) wv)
theorem spec_l03Digit_eq (r_p : Option Addr) (r_n : Nat) (r_c : Nat) (b_p : Option Addr) (b_n : Nat) (b_c : Nat) (w : World) (R : Value → World → Prop) : spec_l03Digit r_p r_n r_c b_p b_n b_c w R = fsem P Tryz.f159 (fun k => cond (Nat.beq k 4) [(5, .one (.int .i64)), (6, .one (.int .i64))] ([])) [(.slice r_p r_n r_c), (.slice b_p b_n b_c)] R w := by kernel_rfl
theorem spec_l03Digit_ret {r_p : Option Addr} {r_n : Nat} {r_c : Nat} {b_p : Option Addr} {b_n : Nat} {b_c : Nat} {w : World} {R : Value → World → Prop} (h : spec_l03Digit r_p r_n r_c b_p b_n b_c w R) : Ret P 159 [(.slice r_p r_n r_c), (.slice b_p b_n b_c)] w R :=
  Ret.of_fsem Tryz.func159 rfl (Eq.mp (spec_l03Digit_eq r_p r_n r_c b_p b_n b_c w R) h)
def spec_l06Mode (m : Int) (w : World) (R : Value → World → Prop) : Prop :=
  Calls P 130 ⟨[(.int .i64 m), (.int .i64 0), (.int .i64 6)]⟩ w fun e wv =>
  ∃ (t4 : Bool), e = .returned (.bool t4) ∧
  R (.bool t4) wv
theorem spec_l06Mode_eq (m : Int) (w : World) (R : Value → World → Prop) : spec_l06Mode m w R = fsem P Tryz.f160 (fun k => []) [(.int .i64 m)] R w := by kernel_rfl
theorem spec_l06Mode_ret {m : Int} {w : World} {R : Value → World → Prop} (h : spec_l06Mode m w R) : Ret P 160 [(.int .i64 m)] w R :=
  Ret.of_fsem Tryz.func160 rfl (Eq.mp (spec_l06Mode_eq m w R) h)
def spec_l06Round_j0 (r : Nat) (r_1 : Nat) (q_p : Option Addr) (q_n : Nat) (q_c : Nat) (W : World) (R : Value → World → Prop) : Prop :=
  ∃ (t35 : Bool), Loads P 4 (((⟨r, 0, none⟩ : Addr).add 0).add 0) (.bool t35) W ∧ Calls P 70 ⟨[(.bool t35), (.slice q_p q_n q_c)]⟩ W fun e_3 wv_6 =>
  ∃ (t370 : Bool) (t371_p : Option Addr) (t371_n : Nat) (t371_c : Nat), e_3 = .returned (.agg #[(.bool t370), (.slice t371_p t371_n t371_c)]) ∧
  ∃ wv_7, Stores P 31 ⟨r_1, 0, none⟩ (.agg #[(.bool t370), (.slice t371_p t371_n t371_c)]) wv_6 wv_7 ∧
  ∃ (r0_1 : Bool) (r1_p_1 : Option Addr) (r1_n_1 : Nat) (r1_c_1 : Nat), Loads P 31 ⟨r_1, 0, none⟩ (.agg #[(.bool r0_1), (.slice r1_p_1 r1_n_1 r1_c_1)]) wv_7 ∧ R (.agg #[(.bool r0_1), (.slice r1_p_1 r1_n_1 r1_c_1)]) wv_7
def spec_l06Round (r0 : Bool) (r1_p : Option Addr) (r1_n : Nat) (r1_c : Nat) (r2_p : Option Addr) (r2_n : Nat) (r2_c : Nat) (m : Int) (w : World) (R : Value → World → Prop) : Prop :=
  ∀ (r : Nat) (wv : World), New w (.cells ⟨[(.bool r0), (.slice r1_p r1_n r1_c), (.slice r2_p r2_n r2_c)]⟩ 35 (0, 0)) r wv →
  ∀ (r_1 : Nat) (wv_1 : World), New wv (.cells ⟨[(.bool false), (.slice none 0 0)]⟩ 31 (0, 0)) r_1 wv_1 →
  ∃ (t10_p : Option Addr) (t10_n : Nat) (t10_c : Nat), Loads P 22 (((⟨r, 0, none⟩ : Addr).add 0).add 1) (.slice t10_p t10_n t10_c) wv_1 ∧ ∃ (t12_p : Option Addr) (t12_n : Nat) (t12_c : Nat), Loads P 22 ((⟨r, 0, none⟩ : Addr).add 2) (.slice t12_p t12_n t12_c) wv_1 ∧ Calls P 135 ⟨[(.slice t10_p t10_n t10_c), (.slice t12_p t12_n t12_c)]⟩ wv_1 fun e wv_2 =>
  ∃ (t13_p : Option Addr) (t13_n : Nat) (t13_c : Nat) (t13_p_1 : Option Addr) (t13_n_1 : Nat) (t13_c_1 : Nat), e = .returned (.tuple #[(.slice t13_p t13_n t13_c), (.slice t13_p_1 t13_n_1 t13_c_1)]) ∧
  ((decide ((0 : Int) < ((t13_n_1 : Nat) : Int))) = true →
    ∃ (t22 : Bool), Loads P 4 (((⟨r, 0, none⟩ : Addr).add 0).add 0) (.bool t22) wv_2 ∧ ∃ (t26_p : Option Addr) (t26_n : Nat) (t26_c : Nat), Loads P 22 ((⟨r, 0, none⟩ : Addr).add 2) (.slice t26_p t26_n t26_c) wv_2 ∧ Calls P 169 ⟨[(.bool t22), (.slice t13_p t13_n t13_c), (.slice t13_p_1 t13_n_1 t13_c_1), (.slice t26_p t26_n t26_c), (.int .i64 m)]⟩ wv_2 fun e_1 wv_3 =>
    ∃ (t28 : Bool), e_1 = .returned (.bool t28) ∧
    (t28 = true →
      ∀ (r_2 : Nat) (wv_4 : World), New wv_3 (.cells ⟨[(.int .i64 1)]⟩ 3 (0, 0)) r_2 wv_4 →
      Calls P 150 ⟨[(.slice t13_p t13_n t13_c), (.slice (some ⟨r_2, 0, none⟩) 1 1)]⟩ wv_4 fun e_2 wv_5 =>
      ∃ (t32_p : Option Addr) (t32_n : Nat) (t32_c : Nat), e_2 = .returned (.slice t32_p t32_n t32_c) ∧
      spec_l06Round_j0 r r_1 t32_p t32_n t32_c wv_5 R) ∧
    (t28 = false →
      spec_l06Round_j0 r r_1 t13_p t13_n t13_c wv_3 R)) ∧
  ((decide ((0 : Int) < ((t13_n_1 : Nat) : Int))) = false →
    (false = true →
      ∀ (r_3 : Nat) (wv_8 : World), New wv_2 (.cells ⟨[(.int .i64 1)]⟩ 3 (0, 0)) r_3 wv_8 →
      Calls P 150 ⟨[(.slice t13_p t13_n t13_c), (.slice (some ⟨r_3, 0, none⟩) 1 1)]⟩ wv_8 fun e_4 wv_9 =>
      ∃ (t32_p_1 : Option Addr) (t32_n_1 : Nat) (t32_c_1 : Nat), e_4 = .returned (.slice t32_p_1 t32_n_1 t32_c_1) ∧
      spec_l06Round_j0 r r_1 t32_p_1 t32_n_1 t32_c_1 wv_9 R) ∧
    (false = false →
      spec_l06Round_j0 r r_1 t13_p t13_n t13_c wv_2 R))
theorem spec_l06Round_eq (r0 : Bool) (r1_p : Option Addr) (r1_n : Nat) (r1_c : Nat) (r2_p : Option Addr) (r2_n : Nat) (r2_c : Nat) (m : Int) (w : World) (R : Value → World → Prop) : spec_l06Round r0 r1_p r1_n r1_c r2_p r2_n r2_c m w R = fsem P Tryz.f161 (fun k => []) [(.agg #[(.bool r0), (.slice r1_p r1_n r1_c), (.slice r2_p r2_n r2_c)]), (.int .i64 m)] R w := by kernel_rfl
theorem spec_l06Round_ret {r0 : Bool} {r1_p : Option Addr} {r1_n : Nat} {r1_c : Nat} {r2_p : Option Addr} {r2_n : Nat} {r2_c : Nat} {m : Int} {w : World} {R : Value → World → Prop} (h : spec_l06Round r0 r1_p r1_n r1_c r2_p r2_n r2_c m w R) : Ret P 161 [(.agg #[(.bool r0), (.slice r1_p r1_n r1_c), (.slice r2_p r2_n r2_c)]), (.int .i64 m)] w R :=
  Ret.of_fsem Tryz.func161 rfl (Eq.mp (spec_l06Round_eq r0 r1_p r1_n r1_c r2_p r2_n r2_c m w R) h)
def spec_RatNeg (r0 : Bool) (r1_p : Option Addr) (r1_n : Nat) (r1_c : Nat) (r2_p : Option Addr) (r2_n : Nat) (r2_c : Nat) (w : World) (R : Value → World → Prop) : Prop :=
  ∀ (r : Nat) (wv : World), New w (.cells ⟨[(.bool r0), (.slice r1_p r1_n r1_c), (.slice r2_p r2_n r2_c)]⟩ 35 (0, 0)) r wv →
  ∀ (r_1 : Nat) (wv_1 : World), New wv (.cells ⟨[(.bool false), (.slice none 0 0), (.slice none 0 0)]⟩ 35 (0, 0)) r_1 wv_1 →
  ∃ (t40 : Bool) (t41_p : Option Addr) (t41_n : Nat) (t41_c : Nat) (t42_p : Option Addr) (t42_n : Nat) (t42_c : Nat), Loads P 35 ⟨r, 0, none⟩ (.agg #[(.bool t40), (.slice t41_p t41_n t41_c), (.slice t42_p t42_n t42_c)]) wv_1 ∧ Calls P 85 ⟨[(.agg #[(.bool t40), (.slice t41_p t41_n t41_c), (.slice t42_p t42_n t42_c)])]⟩ wv_1 fun e wv_2 =>
  ∃ (t5 : Bool), e = .returned (.bool t5) ∧
  ((!t5) = true →
    ∃ wv_3, Stores P 35 ⟨r_1, 0, none⟩ (.agg #[(.bool false), (.slice none 0 0), (.slice none 0 0)]) wv_2 wv_3 ∧
    ∃ (r0_1 : Bool) (r1_p_1 : Option Addr) (r1_n_1 : Nat) (r1_c_1 : Nat) (r2_p_1 : Option Addr) (r2_n_1 : Nat) (r2_c_1 : Nat), Loads P 35 ⟨r_1, 0, none⟩ (.agg #[(.bool r0_1), (.slice r1_p_1 r1_n_1 r1_c_1), (.slice r2_p_1 r2_n_1 r2_c_1)]) wv_3 ∧ R (.tuple #[(.agg #[(.bool r0_1), (.slice r1_p_1 r1_n_1 r1_c_1), (.slice r2_p_1 r2_n_1 r2_c_1)]), (.bool false)]) wv_3) ∧
  ((!t5) = false →
    ∃ (t90 : Bool) (t91_p : Option Addr) (t91_n : Nat) (t91_c : Nat), (∀ wv_4, Ext wv_2.drew wv_4 → Loads P 31 ((⟨r, 0, none⟩ : Addr).add 0) (.agg #[(.bool t90), (.slice t91_p t91_n t91_c)]) wv_4) ∧ ∀ (ss : List (Option Nat)) (wv_5 : World), Fl [.cells ⟨[]⟩ 3 (0, 0)] [none] wv_2.drew ss wv_5 →
    Calls P 152 ⟨[(.agg #[(.bool t90), (.slice t91_p t91_n t91_c)])]⟩ wv_5 fun e_1 wv_6 =>
    ∃ (t100 : Bool) (t101_p : Option Addr) (t101_n : Nat) (t101_c : Nat), e_1 = .returned (.agg #[(.bool t100), (.slice t101_p t101_n t101_c)]) ∧
    Ext wv_5 wv_6 ∧ ∃ (t13_p : Option Addr) (t13_n : Nat) (t13_c : Nat), (∀ wv_7, Ext wv_2.drew wv_7 → Loads P 22 ((⟨r, 0, none⟩ : Addr).add 2) (.slice t13_p t13_n t13_c) wv_7) ∧ ∀ (ss_1 : List (Option Nat)) (wv_8 : World) (r_2 : Nat), Fl [.cells ⟨[]⟩ 3 (0, 0)] ss wv_6 ss_1 wv_8 → ss_1[0]? = some (some r_2) →
    ∃ (t14_p : Option Addr) (t14_n : Nat) (t14_c : Nat) (wv_9 : World), Appends P [22, 22] [(.slice (some ⟨r_2, 0, none⟩) 0 0), (.slice t13_p t13_n t13_c)] (.slice t14_p t14_n t14_c) wv_8 wv_9 ∧
    ∃ wv_10, Stores P 35 ⟨r_1, 0, none⟩ (.agg #[(.bool t100), (.slice t101_p t101_n t101_c), (.slice t14_p t14_n t14_c)]) wv_9 wv_10 ∧
    ∃ (r0_2 : Bool) (r1_p_2 : Option Addr) (r1_n_2 : Nat) (r1_c_2 : Nat) (r2_p_2 : Option Addr) (r2_n_2 : Nat) (r2_c_2 : Nat), Loads P 35 ⟨r_1, 0, none⟩ (.agg #[(.bool r0_2), (.slice r1_p_2 r1_n_2 r1_c_2), (.slice r2_p_2 r2_n_2 r2_c_2)]) wv_10 ∧ R (.tuple #[(.agg #[(.bool r0_2), (.slice r1_p_2 r1_n_2 r1_c_2), (.slice r2_p_2 r2_n_2 r2_c_2)]), (.bool true)]) wv_10)
theorem spec_RatNeg_eq (r0 : Bool) (r1_p : Option Addr) (r1_n : Nat) (r1_c : Nat) (r2_p : Option Addr) (r2_n : Nat) (r2_c : Nat) (w : World) (R : Value → World → Prop) : spec_RatNeg r0 r1_p r1_n r1_c r2_p r2_n r2_c w R = fsem P Tryz.f162 (fun k => []) [(.agg #[(.bool r0), (.slice r1_p r1_n r1_c), (.slice r2_p r2_n r2_c)])] R w := by kernel_rfl
theorem spec_RatNeg_ret {r0 : Bool} {r1_p : Option Addr} {r1_n : Nat} {r1_c : Nat} {r2_p : Option Addr} {r2_n : Nat} {r2_c : Nat} {w : World} {R : Value → World → Prop} (h : spec_RatNeg r0 r1_p r1_n r1_c r2_p r2_n r2_c w R) : Ret P 162 [(.agg #[(.bool r0), (.slice r1_p r1_n r1_c), (.slice r2_p r2_n r2_c)])] w R :=
  Ret.of_fsem Tryz.func162 rfl (Eq.mp (spec_RatNeg_eq r0 r1_p r1_n r1_c r2_p r2_n r2_c w R) h)
def impl_scaled_1 (d0 : Bool) (d1_p : Option Addr) (d1_n : Nat) (d1_c : Nat) (d2 : Int) (cap0 : Option Addr) (w : World) (R : Value → World → Prop) : Prop :=
  ∀ (r : Nat) (wv : World), New w (.cells ⟨[(.bool d0), (.slice d1_p d1_n d1_c), (.int .i64 d2)]⟩ 40 (0, 0)) r wv →
  ∀ (r_1 : Nat) (wv_1 : World), New wv (.cells ⟨[(.bool false), (.slice none 0 0)]⟩ 31 (0, 0)) r_1 wv_1 →
  ∃ (t6 : Bool), (∀ wv_2, Ext wv_1.drew wv_2 → Loads P 4 (((⟨r, 0, none⟩ : Addr).add 0).add 0) (.bool t6) wv_2) ∧ ∃ (t9_p : Option Addr) (t9_n : Nat) (t9_c : Nat), (∀ wv_3, Ext wv_1.drew wv_3 → Loads P 22 (((⟨r, 0, none⟩ : Addr).add 0).add 1) (.slice t9_p t9_n t9_c) wv_3) ∧ ptrS cap0 fun ad => ∃ (t10 : Int), (∀ wv_4, Ext wv_1.drew wv_4 → Loads P 3 ad (.int .i64 t10) wv_4) ∧ ∃ (t12 : Int), (∀ wv_5, Ext wv_1.drew wv_5 → Loads P 3 ((⟨r, 0, none⟩ : Addr).add 2) (.int .i64 t12) wv_5) ∧ ∃ t13 : Int, t13 = IntKind.wrap .i64 (t10 - t12) ∧ Calls P 102 ⟨[(.int .i64 t13)]⟩ wv_1.drew fun e wv_6 =>
  ∃ (t14_p : Option Addr) (t14_n : Nat) (t14_c : Nat), e = .returned (.slice t14_p t14_n t14_c) ∧
  Ext wv_1.drew wv_6 ∧ Calls P 100 ⟨[(.slice t9_p t9_n t9_c), (.slice t14_p t14_n t14_c)]⟩ wv_6 fun e_1 wv_7 =>
  ∃ (t15_p : Option Addr) (t15_n : Nat) (t15_c : Nat), e_1 = .returned (.slice t15_p t15_n t15_c) ∧
  Ext wv_6 wv_7 ∧ Calls P 112 ⟨[(.bool t6), (.slice t15_p t15_n t15_c)]⟩ wv_7 fun e_2 wv_8 =>
  ∃ (t160 : Bool) (t161_p : Option Addr) (t161_n : Nat) (t161_c : Nat), e_2 = .returned (.agg #[(.bool t160), (.slice t161_p t161_n t161_c)]) ∧
  ∃ wv_9, Stores P 31 ⟨r_1, 0, none⟩ (.agg #[(.bool t160), (.slice t161_p t161_n t161_c)]) wv_8 wv_9 ∧
  ∃ (r0 : Bool) (r1_p : Option Addr) (r1_n : Nat) (r1_c : Nat), Loads P 31 ⟨r_1, 0, none⟩ (.agg #[(.bool r0), (.slice r1_p r1_n r1_c)]) wv_9 ∧ R (.agg #[(.bool r0), (.slice r1_p r1_n r1_c)]) wv_9
theorem impl_scaled_1_eq (d0 : Bool) (d1_p : Option Addr) (d1_n : Nat) (d1_c : Nat) (d2 : Int) (cap0 : Option Addr) (w : World) (R : Value → World → Prop) : impl_scaled_1 d0 d1_p d1_n d1_c d2 cap0 w R = fsem P Tryz.f163 (fun k => []) [(.agg #[(.bool d0), (.slice d1_p d1_n d1_c), (.int .i64 d2)]), (.pointer cap0)] R w := by kernel_rfl
theorem impl_scaled_1_ret {d0 : Bool} {d1_p : Option Addr} {d1_n : Nat} {d1_c : Nat} {d2 : Int} {cap0 : Option Addr} {w : World} {R : Value → World → Prop} (h : impl_scaled_1 d0 d1_p d1_n d1_c d2 cap0 w R) : Ret P 163 [(.agg #[(.bool d0), (.slice d1_p d1_n d1_c), (.int .i64 d2)]), (.pointer cap0)] w R :=
  Ret.of_fsem Tryz.func163 rfl (Eq.mp (impl_scaled_1_eq d0 d1_p d1_n d1_c d2 cap0 w R) h)
end Go.Proofs.YtfemmmbkhhemaaaGreatDoor

namespace Go.Proofs.YtfemmmbkhhemaaaGreatDoor
open Go Go.Proofs.YtfemmmbkhhemaaaGreatDoor.Sx
set_option linter.unusedVariables false
set_option maxRecDepth 100000
def impl_natSmall (a_p : Option Addr) (a_n : Nat) (a_c : Nat) (d : Int) (w : World) (R : Value → World → Prop) : Prop :=
  (0 ≤ (((a_n : Nat) : Int) : Int) ∧ (((a_n : Nat) : Int) : Int) ≤ ((a_n : Nat) : Int) ∧ ((8 : Nat) : Int) * ((a_n : Nat) : Int) ≤ 281474976710656) ∧
  ∀ (r : Nat) (wv : World), New w (.cells ⟨zeroRow (.int .i64 0) (a_n * 1)⟩ 3 (0, 0)) r wv →
  ∃ t14 : Int, t14 = IntKind.wrap .i64 (((a_n : Nat) : Int) - 1) ∧ ∃ (Inv : Int → Int → World → Prop) (mu : Int → Int → World → Nat), Inv 0 t14 wv ∧
  ∀ (junk : Fr) (wv_1 : World) (rest : Int) (i : Int), Inv rest i wv_1 →
    ((decide ((0 : Int) ≤ i)) = true →
      ∃ t20 : Int, t20 = IntKind.wrap .i64 (rest * 1000000000) ∧ (0 ≤ (i : Int) ∧ (i : Int) < (a_n : Nat)) ∧ ptrS a_p fun ad => ∃ (t24 : Int), Loads P 3 (ad.add (i.toNat * 1)) (.int .i64 t24) wv_1 ∧ ∃ t25 : Int, t25 = IntKind.wrap .i64 (t20 + t24) ∧ (d : Int) ≠ 0 ∧ ∃ t30 : Int, t30 = IntKind.wrap .i64 (Int.tdiv t25 d) ∧ (0 ≤ (i : Int) ∧ (i : Int) < (a_n : Nat)) ∧ ∃ wv_2, Stores P 3 ((⟨r, 0, none⟩ : Addr).add (i.toNat * 1)) (.int .i64 t30) wv_1 wv_2 ∧
      (d : Int) ≠ 0 ∧ ∃ t34 : Int, t34 = Int.tmod t25 d ∧ ∃ t18 : Int, t18 = IntKind.wrap .i64 (i - 1) ∧ Inv t34 t18 wv_2 ∧ mu t34 t18 wv_2 < mu rest i wv_1) ∧
    ((decide ((0 : Int) ≤ i)) = false →
      Calls P 146 ⟨[(.slice (some ⟨r, 0, none⟩) a_n a_n)]⟩ wv_1 fun e wv_3 =>
      ∃ (t36_p : Option Addr) (t36_n : Nat) (t36_c : Nat), e = .returned (.slice t36_p t36_n t36_c) ∧
      R (.tuple #[(.slice t36_p t36_n t36_c), (.int .i64 rest)]) wv_3)
theorem impl_natSmall_eq (a_p : Option Addr) (a_n : Nat) (a_c : Nat) (d : Int) (w : World) (R : Value → World → Prop) : impl_natSmall a_p a_n a_c d w R = fsem P Tryz.f164 (fun k => cond (Nat.beq k 5) [(7, .one (.int .i64)), (8, .one (.int .i64))] ([])) [(.slice a_p a_n a_c), (.int .i64 d)] R w := by kernel_rfl
theorem impl_natSmall_ret {a_p : Option Addr} {a_n : Nat} {a_c : Nat} {d : Int} {w : World} {R : Value → World → Prop} (h : impl_natSmall a_p a_n a_c d w R) : Ret P 164 [(.slice a_p a_n a_c), (.int .i64 d)] w R :=
  Ret.of_fsem Tryz.func164 rfl (Eq.mp (impl_natSmall_eq a_p a_n a_c d w R) h)
def impl_divStep_j0 (q_1 : Int) (W : World) (R : Value → World → Prop) : Prop :=
  R (.int .i64 q_1) W
def impl_divStep_j1 (q_2 : Int) (W_1 : World) (R : Value → World → Prop) : Prop :=
  R (.int .i64 q_2) W_1
def impl_divStep_j2 (q_3 : Int) (W_2 : World) (R : Value → World → Prop) : Prop :=
  R (.int .i64 q_3) W_2
def impl_divStep_j3 (q_4 : Int) (W_3 : World) (R : Value → World → Prop) : Prop :=
  R (.int .i64 q_4) W_3
def impl_divStep (u_p : Option Addr) (u_n : Nat) (u_c : Nat) (v_p : Option Addr) (v_n : Nat) (v_c : Nat) (w : World) (R : Value → World → Prop) : Prop :=
  (0 ≤ (((v_n : Nat) : Int) : Int) ∧ (((v_n : Nat) : Int) : Int) < (u_n : Nat)) ∧ ptrS u_p fun ad => ∃ (t13 : Int), (∀ wv, Ext w.drew wv → Loads P 3 (ad.add (v_n * 1)) (.int .i64 t13) wv) ∧ ∃ t14 : Int, t14 = IntKind.wrap .i64 (t13 * 1000000000) ∧ ∃ t17 : Int, t17 = IntKind.wrap .i64 (((v_n : Nat) : Int) - 1) ∧ (0 ≤ (t17 : Int) ∧ (t17 : Int) < (u_n : Nat)) ∧ ptrS u_p fun ad_1 => ∃ (t19 : Int), (∀ wv_1, Ext w.drew wv_1 → Loads P 3 (ad_1.add (t17.toNat * 1)) (.int .i64 t19) wv_1) ∧ ∃ t20 : Int, t20 = IntKind.wrap .i64 (t14 + t19) ∧ ∃ t24 : Int, t24 = IntKind.wrap .i64 (((v_n : Nat) : Int) - 1) ∧ (0 ≤ (t24 : Int) ∧ (t24 : Int) < (v_n : Nat)) ∧ ptrS v_p fun ad_2 => ∃ (t26 : Int), Loads P 3 (ad_2.add (t24.toNat * 1)) (.int .i64 t26) w.drew ∧ (t26 : Int) ≠ 0 ∧ ∃ t27 : Int, t27 = IntKind.wrap .i64 (Int.tdiv t20 t26) ∧ ∃ t28 : Int, t28 = (if 999999999 < t27 then 999999999 else t27) ∧ ∃ (Inv : Int → World → Prop) (mu : Int → World → Nat), Inv t28 w.drew ∧
  ∀ (junk : Fr) (wv_2 : World) (q : Int), Inv q wv_2 →
    ((decide ((0 : Int) < q)) = true →
      ∃ t36 : Int, t36 = IntKind.wrap .i64 (((v_n : Nat) : Int) - 1) ∧ (0 ≤ (t36 : Int) ∧ (t36 : Int) < (v_n : Nat)) ∧ ptrS v_p fun ad_3 => ∃ (t38 : Int), (∀ wv_3, Ext wv_2.drew wv_3 → Loads P 3 (ad_3.add (t36.toNat * 1)) (.int .i64 t38) wv_3) ∧ ∃ t39 : Int, t39 = IntKind.wrap .i64 (q * t38) ∧ ∃ t40 : Int, t40 = IntKind.wrap .i64 (t20 - t39) ∧ ((decide ((t40 : Int) < 1000000000)) = true →
        ∃ t47 : Int, t47 = IntKind.wrap .i64 (((v_n : Nat) : Int) - 2) ∧ (0 ≤ (t47 : Int) ∧ (t47 : Int) < (v_n : Nat)) ∧ ptrS v_p fun ad_4 => ∃ (t49 : Int), (∀ wv_4, Ext wv_2.drew wv_4 → Loads P 3 (ad_4.add (t47.toNat * 1)) (.int .i64 t49) wv_4) ∧ ∃ t50 : Int, t50 = IntKind.wrap .i64 (q * t49) ∧ ∃ t55 : Int, t55 = IntKind.wrap .i64 (((v_n : Nat) : Int) - 1) ∧ (0 ≤ (t55 : Int) ∧ (t55 : Int) < (v_n : Nat)) ∧ ptrS v_p fun ad_5 => ∃ (t57 : Int), (∀ wv_5, Ext wv_2.drew wv_5 → Loads P 3 (ad_5.add (t55.toNat * 1)) (.int .i64 t57) wv_5) ∧ ∃ t58 : Int, t58 = IntKind.wrap .i64 (q * t57) ∧ ∃ t59 : Int, t59 = IntKind.wrap .i64 (t20 - t58) ∧ ∃ t60 : Int, t60 = IntKind.wrap .i64 (t59 * 1000000000) ∧ ∃ t63 : Int, t63 = IntKind.wrap .i64 (((v_n : Nat) : Int) - 2) ∧ (0 ≤ (t63 : Int) ∧ (t63 : Int) < (u_n : Nat)) ∧ ptrS u_p fun ad_6 => ∃ (t65 : Int), (∀ wv_6, Ext wv_2.drew wv_6 → Loads P 3 (ad_6.add (t63.toNat * 1)) (.int .i64 t65) wv_6) ∧ ∃ t66 : Int, t66 = IntKind.wrap .i64 (t60 + t65) ∧ ((decide ((t66 : Int) < t50)) = true →
          ∃ t70 : Int, t70 = IntKind.wrap .i64 (q - 1) ∧ Inv t70 wv_2.drew ∧ mu t70 wv_2.drew < mu q wv_2) ∧
        ((decide ((t66 : Int) < t50)) = false →
          Calls P 170 ⟨[(.slice u_p u_n u_c), (.slice v_p v_n v_c), (.int .i64 q)]⟩ wv_2.drew fun e wv_7 =>
          ∃ (t74 : Bool), e = .returned (.bool t74) ∧
          (t74 = true →
            ∃ t76 : Int, t76 = IntKind.wrap .i64 (q - 1) ∧ Calls P 171 ⟨[(.slice u_p u_n u_c), (.slice v_p v_n v_c)]⟩ wv_7 fun e_1 wv_8 =>
            e_1 = .returned (.tuple #[]) ∧
            impl_divStep_j0 t76 wv_8 R) ∧
          (t74 = false →
            impl_divStep_j0 q wv_7 R))) ∧
      ((decide ((t40 : Int) < 1000000000)) = false →
        (false = true →
          ∃ t70_1 : Int, t70_1 = IntKind.wrap .i64 (q - 1) ∧ Inv t70_1 wv_2.drew ∧ mu t70_1 wv_2.drew < mu q wv_2) ∧
        (false = false →
          Calls P 170 ⟨[(.slice u_p u_n u_c), (.slice v_p v_n v_c), (.int .i64 q)]⟩ wv_2.drew fun e_2 wv_9 =>
          ∃ (t74_1 : Bool), e_2 = .returned (.bool t74_1) ∧
          (t74_1 = true →
            ∃ t76_1 : Int, t76_1 = IntKind.wrap .i64 (q - 1) ∧ Calls P 171 ⟨[(.slice u_p u_n u_c), (.slice v_p v_n v_c)]⟩ wv_9 fun e_3 wv_10 =>
            e_3 = .returned (.tuple #[]) ∧
            impl_divStep_j1 t76_1 wv_10 R) ∧
          (t74_1 = false →
            impl_divStep_j1 q wv_9 R)))) ∧
    ((decide ((0 : Int) < q)) = false →
      (false = true →
        ∃ t47_1 : Int, t47_1 = IntKind.wrap .i64 (((v_n : Nat) : Int) - 2) ∧ (0 ≤ (t47_1 : Int) ∧ (t47_1 : Int) < (v_n : Nat)) ∧ ptrS v_p fun ad_7 => ∃ (t49_1 : Int), (∀ wv_11, Ext wv_2.drew wv_11 → Loads P 3 (ad_7.add (t47_1.toNat * 1)) (.int .i64 t49_1) wv_11) ∧ ∃ t50_1 : Int, t50_1 = IntKind.wrap .i64 (q * t49_1) ∧ ∃ t55_1 : Int, t55_1 = IntKind.wrap .i64 (((v_n : Nat) : Int) - 1) ∧ (0 ≤ (t55_1 : Int) ∧ (t55_1 : Int) < (v_n : Nat)) ∧ ptrS v_p fun ad_8 => ∃ (t57_1 : Int), (∀ wv_12, Ext wv_2.drew wv_12 → Loads P 3 (ad_8.add (t55_1.toNat * 1)) (.int .i64 t57_1) wv_12) ∧ ∃ t58_1 : Int, t58_1 = IntKind.wrap .i64 (q * t57_1) ∧ ∃ t59_1 : Int, t59_1 = IntKind.wrap .i64 (t20 - t58_1) ∧ ∃ t60_1 : Int, t60_1 = IntKind.wrap .i64 (t59_1 * 1000000000) ∧ ∃ t63_1 : Int, t63_1 = IntKind.wrap .i64 (((v_n : Nat) : Int) - 2) ∧ (0 ≤ (t63_1 : Int) ∧ (t63_1 : Int) < (u_n : Nat)) ∧ ptrS u_p fun ad_9 => ∃ (t65_1 : Int), (∀ wv_13, Ext wv_2.drew wv_13 → Loads P 3 (ad_9.add (t63_1.toNat * 1)) (.int .i64 t65_1) wv_13) ∧ ∃ t66_1 : Int, t66_1 = IntKind.wrap .i64 (t60_1 + t65_1) ∧ ((decide ((t66_1 : Int) < t50_1)) = true →
          ∃ t70_2 : Int, t70_2 = IntKind.wrap .i64 (q - 1) ∧ Inv t70_2 wv_2.drew ∧ mu t70_2 wv_2.drew < mu q wv_2) ∧
        ((decide ((t66_1 : Int) < t50_1)) = false →
          Calls P 170 ⟨[(.slice u_p u_n u_c), (.slice v_p v_n v_c), (.int .i64 q)]⟩ wv_2.drew fun e_4 wv_14 =>
          ∃ (t74_2 : Bool), e_4 = .returned (.bool t74_2) ∧
          (t74_2 = true →
            ∃ t76_2 : Int, t76_2 = IntKind.wrap .i64 (q - 1) ∧ Calls P 171 ⟨[(.slice u_p u_n u_c), (.slice v_p v_n v_c)]⟩ wv_14 fun e_5 wv_15 =>
            e_5 = .returned (.tuple #[]) ∧
            impl_divStep_j2 t76_2 wv_15 R) ∧
          (t74_2 = false →
            impl_divStep_j2 q wv_14 R))) ∧
      (false = false →
        (false = true →
          ∃ t70_3 : Int, t70_3 = IntKind.wrap .i64 (q - 1) ∧ Inv t70_3 wv_2.drew ∧ mu t70_3 wv_2.drew < mu q wv_2) ∧
        (false = false →
          Calls P 170 ⟨[(.slice u_p u_n u_c), (.slice v_p v_n v_c), (.int .i64 q)]⟩ wv_2.drew fun e_6 wv_16 =>
          ∃ (t74_3 : Bool), e_6 = .returned (.bool t74_3) ∧
          (t74_3 = true →
            ∃ t76_3 : Int, t76_3 = IntKind.wrap .i64 (q - 1) ∧ Calls P 171 ⟨[(.slice u_p u_n u_c), (.slice v_p v_n v_c)]⟩ wv_16 fun e_7 wv_17 =>
            e_7 = .returned (.tuple #[]) ∧
            impl_divStep_j3 t76_3 wv_17 R) ∧
          (t74_3 = false →
            impl_divStep_j3 q wv_16 R))))
theorem impl_divStep_eq (u_p : Option Addr) (u_n : Nat) (u_c : Nat) (v_p : Option Addr) (v_n : Nat) (v_c : Nat) (w : World) (R : Value → World → Prop) : impl_divStep u_p u_n u_c v_p v_n v_c w R = fsem P Tryz.f165 (fun k => cond (Nat.beq k 5) [(7, .one (.int .i64))] ([])) [(.slice u_p u_n u_c), (.slice v_p v_n v_c)] R w := by kernel_rfl
theorem impl_divStep_ret {u_p : Option Addr} {u_n : Nat} {u_c : Nat} {v_p : Option Addr} {v_n : Nat} {v_c : Nat} {w : World} {R : Value → World → Prop} (h : impl_divStep u_p u_n u_c v_p v_n v_c w R) : Ret P 165 [(.slice u_p u_n u_c), (.slice v_p v_n v_c)] w R :=
  Ret.of_fsem Tryz.func165 rfl (Eq.mp (impl_divStep_eq u_p u_n u_c v_p v_n v_c w R) h)
def impl_isMode (m : Int) (w : World) (R : Value → World → Prop) : Prop :=
  ((decide ((0 : Int) ≤ m)) = true →
    R (.bool (decide ((m : Int) ≤ 6))) w) ∧
  ((decide ((0 : Int) ≤ m)) = false →
    R (.bool false) w)
theorem impl_isMode_eq (m : Int) (w : World) (R : Value → World → Prop) : impl_isMode m w R = fsem P Tryz.f166 (fun k => []) [(.int .i64 m)] R w := by kernel_rfl
theorem impl_isMode_ret {m : Int} {w : World} {R : Value → World → Prop} (h : impl_isMode m w R) : Ret P 166 [(.int .i64 m)] w R :=
  Ret.of_fsem Tryz.func166 rfl (Eq.mp (impl_isMode_eq m w R) h)
def impl_roundQuotient_j0 (r : Nat) (r_1 : Nat) (q_p : Option Addr) (q_n : Nat) (q_c : Nat) (W : World) (R : Value → World → Prop) : Prop :=
  ∃ (t40 : Bool), Loads P 4 ((⟨r, 0, none⟩ : Addr).add 0) (.bool t40) W ∧ Calls P 112 ⟨[(.bool t40), (.slice q_p q_n q_c)]⟩ W fun e_7 wv_11 =>
  ∃ (t420 : Bool) (t421_p : Option Addr) (t421_n : Nat) (t421_c : Nat), e_7 = .returned (.agg #[(.bool t420), (.slice t421_p t421_n t421_c)]) ∧
  ∃ wv_12, Stores P 31 ⟨r_1, 0, none⟩ (.agg #[(.bool t420), (.slice t421_p t421_n t421_c)]) wv_11 wv_12 ∧
  ∃ (r0 : Bool) (r1_p : Option Addr) (r1_n : Nat) (r1_c : Nat), Loads P 31 ⟨r_1, 0, none⟩ (.agg #[(.bool r0), (.slice r1_p r1_n r1_c)]) wv_12 ∧ R (.agg #[(.bool r0), (.slice r1_p r1_n r1_c)]) wv_12
def impl_roundQuotient (num0 : Bool) (num1_p : Option Addr) (num1_n : Nat) (num1_c : Nat) (den_p : Option Addr) (den_n : Nat) (den_c : Nat) (m : Int) (w : World) (R : Value → World → Prop) : Prop :=
  ∀ (r : Nat) (wv : World), New w (.cells ⟨[(.bool num0), (.slice num1_p num1_n num1_c)]⟩ 31 (0, 0)) r wv →
  ∀ (r_1 : Nat) (wv_1 : World), New wv (.cells ⟨[(.bool false), (.slice none 0 0)]⟩ 31 (0, 0)) r_1 wv_1 →
  ∃ (t11_p : Option Addr) (t11_n : Nat) (t11_c : Nat), Loads P 22 ((⟨r, 0, none⟩ : Addr).add 1) (.slice t11_p t11_n t11_c) wv_1 ∧ Calls P 145 ⟨[(.slice t11_p t11_n t11_c), (.slice den_p den_n den_c)]⟩ wv_1 fun e wv_2 =>
  ∃ (t13_p : Option Addr) (t13_n : Nat) (t13_c : Nat) (t13_p_1 : Option Addr) (t13_n_1 : Nat) (t13_c_1 : Nat), e = .returned (.tuple #[(.slice t13_p t13_n t13_c), (.slice t13_p_1 t13_n_1 t13_c_1)]) ∧
  ((decide ((0 : Int) < ((t13_n_1 : Nat) : Int))) = true →
    Calls P 172 ⟨[]⟩ wv_2.drew fun e_1 wv_3 =>
    ∃ (t200 : ByteArray) (t201 : Value) (t202 : ByteArray) (t203 : Value) (t204 : ByteArray) (t205 : Value) (t206 : ByteArray) (t207 : Value) (t208 : ByteArray) (t209 : Value) (t2010 : ByteArray) (t2011 : Value) (t2012 : ByteArray) (t2013 : Value), e_1 = .returned (.agg #[(.string t200), t201, (.string t202), t203, (.string t204), t205, (.string t206), t207, (.string t208), t209, (.string t2010), t2011, (.string t2012), t2013]) ∧
    Ext wv_2.drew wv_3 ∧ indexS P 155 (.agg #[(.string t200), t201, (.string t202), t203, (.string t204), t205, (.string t206), t207, (.string t208), t209, (.string t2010), t2011, (.string t2012), t2013]) (.int .i64 m) fun (el : Value) => fieldS P 154 el 1 fun (fl : Value) => ∃ (t25 : Bool), (∀ wv_4, Ext wv_2.drew wv_4 → Loads P 4 ((⟨r, 0, none⟩ : Addr).add 0) (.bool t25) wv_4) ∧ Calls P 154 ⟨[(.slice t13_p_1 t13_n_1 t13_c_1), (.slice t13_p_1 t13_n_1 t13_c_1)]⟩ wv_3 fun e_2 wv_5 =>
    ∃ (t28_p : Option Addr) (t28_n : Nat) (t28_c : Nat), e_2 = .returned (.slice t28_p t28_n t28_c) ∧
    Ext wv_3 wv_5 ∧ Calls P 125 ⟨[(.slice t28_p t28_n t28_c), (.slice den_p den_n den_c)]⟩ wv_5 fun e_3 wv_6 =>
    ∃ (t30 : Int), e_3 = .returned (.int .i64 t30) ∧
    Ext wv_5 wv_6 ∧ Calls P 173 ⟨[(.slice t13_p t13_n t13_c)]⟩ wv_6 fun e_4 wv_7 =>
    ∃ (t32 : Bool), e_4 = .returned (.bool t32) ∧
    Ext wv_6 wv_7 ∧ CallW P fl [(.bool t25), (.int .i64 t30), (.bool (!t32))] wv_7 fun e_5 wv_8 =>
    ∃ (t34 : Bool), e_5 = .returned (.bool t34) ∧
    (t34 = true →
      ∀ (r_2 : Nat) (wv_9 : World), New wv_8 (.cells ⟨[(.int .i64 1)]⟩ 3 (0, 0)) r_2 wv_9 →
      Calls P 154 ⟨[(.slice t13_p t13_n t13_c), (.slice (some ⟨r_2, 0, none⟩) 1 1)]⟩ wv_9 fun e_6 wv_10 =>
      ∃ (t38_p : Option Addr) (t38_n : Nat) (t38_c : Nat), e_6 = .returned (.slice t38_p t38_n t38_c) ∧
      impl_roundQuotient_j0 r r_1 t38_p t38_n t38_c wv_10 R) ∧
    (t34 = false →
      impl_roundQuotient_j0 r r_1 t13_p t13_n t13_c wv_8 R)) ∧
  ((decide ((0 : Int) < ((t13_n_1 : Nat) : Int))) = false →
    (false = true →
      ∀ (r_3 : Nat) (wv_13 : World), New wv_2.drew (.cells ⟨[(.int .i64 1)]⟩ 3 (0, 0)) r_3 wv_13 →
      Calls P 154 ⟨[(.slice t13_p t13_n t13_c), (.slice (some ⟨r_3, 0, none⟩) 1 1)]⟩ wv_13 fun e_8 wv_14 =>
      ∃ (t38_p_1 : Option Addr) (t38_n_1 : Nat) (t38_c_1 : Nat), e_8 = .returned (.slice t38_p_1 t38_n_1 t38_c_1) ∧
      impl_roundQuotient_j0 r r_1 t38_p_1 t38_n_1 t38_c_1 wv_14 R) ∧
    (false = false →
      impl_roundQuotient_j0 r r_1 t13_p t13_n t13_c wv_2.drew R))
theorem impl_roundQuotient_eq (num0 : Bool) (num1_p : Option Addr) (num1_n : Nat) (num1_c : Nat) (den_p : Option Addr) (den_n : Nat) (den_c : Nat) (m : Int) (w : World) (R : Value → World → Prop) : impl_roundQuotient num0 num1_p num1_n num1_c den_p den_n den_c m w R = fsem P Tryz.f167 (fun k => []) [(.agg #[(.bool num0), (.slice num1_p num1_n num1_c)]), (.slice den_p den_n den_c), (.int .i64 m)] R w := by kernel_rfl
theorem impl_roundQuotient_ret {num0 : Bool} {num1_p : Option Addr} {num1_n : Nat} {num1_c : Nat} {den_p : Option Addr} {den_n : Nat} {den_c : Nat} {m : Int} {w : World} {R : Value → World → Prop} (h : impl_roundQuotient num0 num1_p num1_n num1_c den_p den_n den_c m w R) : Ret P 167 [(.agg #[(.bool num0), (.slice num1_p num1_n num1_c)]), (.slice den_p den_n den_c), (.int .i64 m)] w R :=
  Ret.of_fsem Tryz.func167 rfl (Eq.mp (impl_roundQuotient_eq num0 num1_p num1_n num1_c den_p den_n den_c m w R) h)
def impl_ratNeg (r0 : Bool) (r1_p : Option Addr) (r1_n : Nat) (r1_c : Nat) (r2_p : Option Addr) (r2_n : Nat) (r2_c : Nat) (w : World) (R : Value → World → Prop) : Prop :=
  ∀ (r : Nat) (wv : World), New w (.cells ⟨[(.bool r0), (.slice r1_p r1_n r1_c), (.slice r2_p r2_n r2_c)]⟩ 35 (0, 0)) r wv →
  ∀ (r_1 : Nat) (wv_1 : World), New wv (.cells ⟨[(.bool false), (.slice none 0 0), (.slice none 0 0)]⟩ 35 (0, 0)) r_1 wv_1 →
  ∃ (t40 : Bool) (t41_p : Option Addr) (t41_n : Nat) (t41_c : Nat), (∀ wv_2, Ext wv_1.drew wv_2 → Loads P 31 ((⟨r, 0, none⟩ : Addr).add 0) (.agg #[(.bool t40), (.slice t41_p t41_n t41_c)]) wv_2) ∧ Calls P 113 ⟨[(.agg #[(.bool t40), (.slice t41_p t41_n t41_c)])]⟩ wv_1.drew fun e wv_3 =>
  ∃ (t50 : Bool) (t51_p : Option Addr) (t51_n : Nat) (t51_c : Nat), e = .returned (.agg #[(.bool t50), (.slice t51_p t51_n t51_c)]) ∧
  Ext wv_1.drew wv_3 ∧ ∃ (t7_p : Option Addr) (t7_n : Nat) (t7_c : Nat), (∀ wv_4, Ext wv_1.drew wv_4 → Loads P 22 ((⟨r, 0, none⟩ : Addr).add 2) (.slice t7_p t7_n t7_c) wv_4) ∧ Calls P 147 ⟨[(.slice t7_p t7_n t7_c)]⟩ wv_3 fun e_1 wv_5 =>
  ∃ (t8_p : Option Addr) (t8_n : Nat) (t8_c : Nat), e_1 = .returned (.slice t8_p t8_n t8_c) ∧
  ∃ wv_6, Stores P 35 ⟨r_1, 0, none⟩ (.agg #[(.bool t50), (.slice t51_p t51_n t51_c), (.slice t8_p t8_n t8_c)]) wv_5 wv_6 ∧
  ∃ (r0_1 : Bool) (r1_p_1 : Option Addr) (r1_n_1 : Nat) (r1_c_1 : Nat) (r2_p_1 : Option Addr) (r2_n_1 : Nat) (r2_c_1 : Nat), Loads P 35 ⟨r_1, 0, none⟩ (.agg #[(.bool r0_1), (.slice r1_p_1 r1_n_1 r1_c_1), (.slice r2_p_1 r2_n_1 r2_c_1)]) wv_6 ∧ R (.agg #[(.bool r0_1), (.slice r1_p_1 r1_n_1 r1_c_1), (.slice r2_p_1 r2_n_1 r2_c_1)]) wv_6
theorem impl_ratNeg_eq (r0 : Bool) (r1_p : Option Addr) (r1_n : Nat) (r1_c : Nat) (r2_p : Option Addr) (r2_n : Nat) (r2_c : Nat) (w : World) (R : Value → World → Prop) : impl_ratNeg r0 r1_p r1_n r1_c r2_p r2_n r2_c w R = fsem P Tryz.f168 (fun k => []) [(.agg #[(.bool r0), (.slice r1_p r1_n r1_c), (.slice r2_p r2_n r2_c)])] R w := by kernel_rfl
theorem impl_ratNeg_ret {r0 : Bool} {r1_p : Option Addr} {r1_n : Nat} {r1_c : Nat} {r2_p : Option Addr} {r2_n : Nat} {r2_c : Nat} {w : World} {R : Value → World → Prop} (h : impl_ratNeg r0 r1_p r1_n r1_c r2_p r2_n r2_c w R) : Ret P 168 [(.agg #[(.bool r0), (.slice r1_p r1_n r1_c), (.slice r2_p r2_n r2_c)])] w R :=
  Ret.of_fsem Tryz.func168 rfl (Eq.mp (impl_ratNeg_eq r0 r1_p r1_n r1_c r2_p r2_n r2_c w R) h)
def spec_l06Away (neg : Bool) (q_p : Option Addr) (q_n : Nat) (q_c : Nat) (rest_p : Option Addr) (rest_n : Nat) (rest_c : Nat) (den_p : Option Addr) (den_n : Nat) (den_c : Nat) (m : Int) (w : World) (R : Value → World → Prop) : Prop :=
  Calls P 150 ⟨[(.slice rest_p rest_n rest_c), (.slice rest_p rest_n rest_c)]⟩ w fun e wv =>
  ∃ (t14_p : Option Addr) (t14_n : Nat) (t14_c : Nat), e = .returned (.slice t14_p t14_n t14_c) ∧
  Calls P 115 ⟨[(.slice t14_p t14_n t14_c), (.slice den_p den_n den_c)]⟩ wv fun e_1 wv_1 =>
  ∃ (t16 : Int), e_1 = .returned (.int .i64 t16) ∧
  ((decide ((m : Int) = 0)) = true →
    R (.bool false) wv_1) ∧
  ((decide ((m : Int) = 0)) = false →
    ((decide ((m : Int) = 1)) = true →
      R (.bool true) wv_1) ∧
    ((decide ((m : Int) = 1)) = false →
      ((decide ((m : Int) = 2)) = true →
        R (.bool neg) wv_1) ∧
      ((decide ((m : Int) = 2)) = false →
        ((decide ((m : Int) = 3)) = true →
          R (.bool (!neg)) wv_1) ∧
        ((decide ((m : Int) = 3)) = false →
          ((decide ((m : Int) = 4)) = true →
            R (.bool (decide ((0 : Int) < t16))) wv_1) ∧
          ((decide ((m : Int) = 4)) = false →
            ((decide ((m : Int) = 5)) = true →
              R (.bool (decide ((0 : Int) ≤ t16))) wv_1) ∧
            ((decide ((m : Int) = 5)) = false →
              ((decide ((0 : Int) < t16)) = true →
                R (.bool true) wv_1) ∧
              ((decide ((0 : Int) < t16)) = false →
                ((decide ((t16 : Int) = 0)) = true →
                  Calls P 174 ⟨[(.slice q_p q_n q_c)]⟩ wv_1 fun e_2 wv_2 =>
                  ∃ (t44 : Bool), e_2 = .returned (.bool t44) ∧
                  R (.bool (!t44)) wv_2) ∧
                ((decide ((t16 : Int) = 0)) = false →
                  R (.bool false) wv_1))))))))
theorem spec_l06Away_eq (neg : Bool) (q_p : Option Addr) (q_n : Nat) (q_c : Nat) (rest_p : Option Addr) (rest_n : Nat) (rest_c : Nat) (den_p : Option Addr) (den_n : Nat) (den_c : Nat) (m : Int) (w : World) (R : Value → World → Prop) : spec_l06Away neg q_p q_n q_c rest_p rest_n rest_c den_p den_n den_c m w R = fsem P Tryz.f169 (fun k => []) [(.bool neg), (.slice q_p q_n q_c), (.slice rest_p rest_n rest_c), (.slice den_p den_n den_c), (.int .i64 m)] R w := by kernel_rfl
theorem spec_l06Away_ret {neg : Bool} {q_p : Option Addr} {q_n : Nat} {q_c : Nat} {rest_p : Option Addr} {rest_n : Nat} {rest_c : Nat} {den_p : Option Addr} {den_n : Nat} {den_c : Nat} {m : Int} {w : World} {R : Value → World → Prop} (h : spec_l06Away neg q_p q_n q_c rest_p rest_n rest_c den_p den_n den_c m w R) : Ret P 169 [(.bool neg), (.slice q_p q_n q_c), (.slice rest_p rest_n rest_c), (.slice den_p den_n den_c), (.int .i64 m)] w R :=
  Ret.of_fsem Tryz.func169 rfl (Eq.mp (spec_l06Away_eq neg q_p q_n q_c rest_p rest_n rest_c den_p den_n den_c m w R) h)
def impl_subTimes_j0 (u_p : Option Addr) (u_n : Nat) (wv : World) (Inv : Int → Int → World → Prop) (mu : Int → Int → World → Nat) (borrow : Int) (t13 : Int) (borrow_1 : Int) (n : Int) (W : World) (R : Value → World → Prop) : Prop :=
  (0 ≤ (t13 : Int) ∧ (t13 : Int) < (u_n : Nat)) ∧ ptrS u_p fun ad_2 => ∃ wv_1, Stores P 3 (ad_2.add (t13.toNat * 1)) (.int .i64 n) W wv_1 ∧
  ∃ t43 : Int, t43 = IntKind.wrap .i64 (t13 + 1) ∧ Inv borrow_1 t43 wv_1 ∧ mu borrow_1 t43 wv_1 < mu borrow t13 wv
def impl_subTimes (u_p : Option Addr) (u_n : Nat) (u_c : Nat) (v_p : Option Addr) (v_n : Nat) (v_c : Nat) (q : Int) (w : World) (R : Value → World → Prop) : Prop :=
  ∃ (Inv : Int → Int → World → Prop) (mu : Int → Int → World → Nat), Inv 0 0 w ∧
  ∀ (junk : Fr) (wv : World) (borrow : Int) (t13 : Int), Inv borrow t13 wv →
    ((decide ((t13 : Int) < ((v_n : Nat) : Int))) = true →
      (0 ≤ (t13 : Int) ∧ (t13 : Int) < (v_n : Nat)) ∧ ptrS v_p fun ad => ∃ (t17 : Int), Loads P 3 (ad.add (t13.toNat * 1)) (.int .i64 t17) wv ∧ (0 ≤ (t13 : Int) ∧ (t13 : Int) < (u_n : Nat)) ∧ ptrS u_p fun ad_1 => ∃ (t21 : Int), Loads P 3 (ad_1.add (t13.toNat * 1)) (.int .i64 t21) wv ∧ ∃ t24 : Int, t24 = IntKind.wrap .i64 (t17 * q) ∧ ∃ t25 : Int, t25 = IntKind.wrap .i64 (t21 - t24) ∧ ∃ t27 : Int, t27 = IntKind.wrap .i64 (t25 - borrow) ∧ ((decide ((t27 : Int) < 0)) = true →
        ∃ t31 : Int, t31 = IntKind.wrap .i64 (0 - t27) ∧ ∃ t32 : Int, t32 = IntKind.wrap .i64 (t31 + 1000000000) ∧ ∃ t33 : Int, t33 = IntKind.wrap .i64 (t32 - 1) ∧ (1000000000 : Int) ≠ 0 ∧ ∃ t34 : Int, t34 = IntKind.wrap .i64 (Int.tdiv t33 1000000000) ∧ ∃ t37 : Int, t37 = IntKind.wrap .i64 (t34 * 1000000000) ∧ ∃ t38 : Int, t38 = IntKind.wrap .i64 (t27 + t37) ∧ impl_subTimes_j0 u_p u_n wv Inv mu borrow t13 t34 t38 wv R) ∧
      ((decide ((t27 : Int) < 0)) = false →
        impl_subTimes_j0 u_p u_n wv Inv mu borrow t13 0 t27 wv R)) ∧
    ((decide ((t13 : Int) < ((v_n : Nat) : Int))) = false →
      (0 ≤ (((v_n : Nat) : Int) : Int) ∧ (((v_n : Nat) : Int) : Int) < (u_n : Nat)) ∧ ptrS u_p fun ad_3 => ∃ (t48 : Int), Loads P 3 (ad_3.add (v_n * 1)) (.int .i64 t48) wv ∧ ∃ t50 : Int, t50 = IntKind.wrap .i64 (t48 - borrow) ∧ (0 ≤ (((v_n : Nat) : Int) : Int) ∧ (((v_n : Nat) : Int) : Int) < (u_n : Nat)) ∧ ptrS u_p fun ad_4 => ∃ wv_2, Stores P 3 (ad_4.add (v_n * 1)) (.int .i64 t50) wv wv_2 ∧
      (0 ≤ (((v_n : Nat) : Int) : Int) ∧ (((v_n : Nat) : Int) : Int) < (u_n : Nat)) ∧ ptrS u_p fun ad_5 => ∃ (t56 : Int), Loads P 3 (ad_5.add (v_n * 1)) (.int .i64 t56) wv_2 ∧ R (.bool (decide ((t56 : Int) < 0))) wv_2)
theorem impl_subTimes_eq (u_p : Option Addr) (u_n : Nat) (u_c : Nat) (v_p : Option Addr) (v_n : Nat) (v_c : Nat) (q : Int) (w : World) (R : Value → World → Prop) : impl_subTimes u_p u_n u_c v_p v_n v_c q w R = fsem P Tryz.f170 (fun k => cond (Nat.beq k 4) [(7, .one (.int .i64)), (13, .one (.int .i64))] ([])) [(.slice u_p u_n u_c), (.slice v_p v_n v_c), (.int .i64 q)] R w := by kernel_rfl
theorem impl_subTimes_ret {u_p : Option Addr} {u_n : Nat} {u_c : Nat} {v_p : Option Addr} {v_n : Nat} {v_c : Nat} {q : Int} {w : World} {R : Value → World → Prop} (h : impl_subTimes u_p u_n u_c v_p v_n v_c q w R) : Ret P 170 [(.slice u_p u_n u_c), (.slice v_p v_n v_c), (.int .i64 q)] w R :=
  Ret.of_fsem Tryz.func170 rfl (Eq.mp (impl_subTimes_eq u_p u_n u_c v_p v_n v_c q w R) h)
def impl_addBack (u_p : Option Addr) (u_n : Nat) (u_c : Nat) (v_p : Option Addr) (v_n : Nat) (v_c : Nat) (w : World) (R : Value → World → Prop) : Prop :=
  ∃ (Inv : Int → Int → World → Prop) (mu : Int → Int → World → Nat), Inv 0 0 w ∧
  ∀ (junk : Fr) (wv : World) (carry : Int) (t9 : Int), Inv carry t9 wv →
    ((decide ((t9 : Int) < ((v_n : Nat) : Int))) = true →
      (0 ≤ (t9 : Int) ∧ (t9 : Int) < (v_n : Nat)) ∧ ptrS v_p fun ad => ∃ (t13 : Int), Loads P 3 (ad.add (t9.toNat * 1)) (.int .i64 t13) wv ∧ (0 ≤ (t9 : Int) ∧ (t9 : Int) < (u_n : Nat)) ∧ ptrS u_p fun ad_1 => ∃ (t18 : Int), Loads P 3 (ad_1.add (t9.toNat * 1)) (.int .i64 t18) wv ∧ ∃ t20 : Int, t20 = IntKind.wrap .i64 (t18 + t13) ∧ ∃ t21 : Int, t21 = IntKind.wrap .i64 (carry + t20) ∧ (1000000000 : Int) ≠ 0 ∧ ∃ t25 : Int, t25 = Int.tmod t21 1000000000 ∧ (0 ≤ (t9 : Int) ∧ (t9 : Int) < (u_n : Nat)) ∧ ptrS u_p fun ad_2 => ∃ wv_1, Stores P 3 (ad_2.add (t9.toNat * 1)) (.int .i64 t25) wv wv_1 ∧
      (1000000000 : Int) ≠ 0 ∧ ∃ t28 : Int, t28 = IntKind.wrap .i64 (Int.tdiv t21 1000000000) ∧ ∃ t29 : Int, t29 = IntKind.wrap .i64 (t9 + 1) ∧ Inv t28 t29 wv_1 ∧ mu t28 t29 wv_1 < mu carry t9 wv) ∧
    ((decide ((t9 : Int) < ((v_n : Nat) : Int))) = false →
      (0 ≤ (((v_n : Nat) : Int) : Int) ∧ (((v_n : Nat) : Int) : Int) < (u_n : Nat)) ∧ ptrS u_p fun ad_3 => ∃ (t34 : Int), Loads P 3 (ad_3.add (v_n * 1)) (.int .i64 t34) wv ∧ ∃ t36 : Int, t36 = IntKind.wrap .i64 (t34 + carry) ∧ (0 ≤ (((v_n : Nat) : Int) : Int) ∧ (((v_n : Nat) : Int) : Int) < (u_n : Nat)) ∧ ptrS u_p fun ad_4 => ∃ wv_2, Stores P 3 (ad_4.add (v_n * 1)) (.int .i64 t36) wv wv_2 ∧
      R (.tuple #[]) wv_2)
theorem impl_addBack_eq (u_p : Option Addr) (u_n : Nat) (u_c : Nat) (v_p : Option Addr) (v_n : Nat) (v_c : Nat) (w : World) (R : Value → World → Prop) : impl_addBack u_p u_n u_c v_p v_n v_c w R = fsem P Tryz.f171 (fun k => cond (Nat.beq k 3) [(4, .one (.int .i64)), (9, .one (.int .i64))] ([])) [(.slice u_p u_n u_c), (.slice v_p v_n v_c)] R w := by kernel_rfl
theorem impl_addBack_ret {u_p : Option Addr} {u_n : Nat} {u_c : Nat} {v_p : Option Addr} {v_n : Nat} {v_c : Nat} {w : World} {R : Value → World → Prop} (h : impl_addBack u_p u_n u_c v_p v_n v_c w R) : Ret P 171 [(.slice u_p u_n u_c), (.slice v_p v_n v_c)] w R :=
  Ret.of_fsem Tryz.func171 rfl (Eq.mp (impl_addBack_eq u_p u_n u_c v_p v_n v_c w R) h)
def impl_roundModes (w : World) (R : Value → World → Prop) : Prop :=
  ∀ (r : Nat) (wv : World), New w (.cells ⟨[(.string ByteArray.empty), .nilFunc, (.string ByteArray.empty), .nilFunc, (.string ByteArray.empty), .nilFunc, (.string ByteArray.empty), .nilFunc, (.string ByteArray.empty), .nilFunc, (.string ByteArray.empty), .nilFunc, (.string ByteArray.empty), .nilFunc]⟩ 155 (0, 0)) r wv →
  ∃ wv_1, Stores P 155 ⟨r, 0, none⟩ (.agg #[(.string (S [100, 111, 119, 110])), (.func (.func 175) #[] #[]), (.string (S [117, 112])), (.func (.func 176) #[] #[]), (.string (S [102, 108, 111, 111, 114])), (.func (.func 177) #[] #[]), (.string (S [99, 101, 105, 108])), (.func (.func 178) #[] #[]), (.string (S [104, 97, 108, 102, 100, 111, 119, 110])), (.func (.func 179) #[] #[]), (.string (S [104, 97, 108, 102, 117, 112])), (.func (.func 180) #[] #[]), (.string (S [104, 97, 108, 102, 101, 118, 101, 110])), (.func (.func 181) #[] #[])]) wv wv_1 ∧
  ∃ (r0 : ByteArray) (r1 : Value) (r2 : ByteArray) (r3 : Value) (r4 : ByteArray) (r5 : Value) (r6 : ByteArray) (r7 : Value) (r8 : ByteArray) (r9 : Value) (r10 : ByteArray) (r11 : Value) (r12 : ByteArray) (r13 : Value), Loads P 155 ⟨r, 0, none⟩ (.agg #[(.string r0), r1, (.string r2), r3, (.string r4), r5, (.string r6), r7, (.string r8), r9, (.string r10), r11, (.string r12), r13]) wv_1 ∧ R (.agg #[(.string r0), r1, (.string r2), r3, (.string r4), r5, (.string r6), r7, (.string r8), r9, (.string r10), r11, (.string r12), r13]) wv_1
theorem impl_roundModes_eq (w : World) (R : Value → World → Prop) : impl_roundModes w R = fsem P Tryz.f172 (fun k => []) [] R w := by kernel_rfl
set_option maxHeartbeats 4000000 in
theorem impl_roundModes_ret {w : World} {R : Value → World → Prop} (h : impl_roundModes w R) : Ret P 172 [] w R := by
  have h2 := impl_roundModes_eq w R
  have h3 : fsem P Tryz.f172 (fun k => []) [] R w := by rw [← h2]; exact h
  exact Ret.of_fsem (fn := Tryz.f172) (car := (fun k => [])) (args := []) (w := w) (R := R) Tryz.func172 rfl h3
def impl_NatEven (a_p : Option Addr) (a_n : Nat) (a_c : Nat) (w : World) (R : Value → World → Prop) : Prop :=
  Calls P 140 ⟨[(.slice a_p a_n a_c)]⟩ w fun e wv =>
  ∃ (t4 : Bool), e = .returned (.bool t4) ∧
  (t4 = true →
    ((decide ((((a_n : Nat) : Int) : Int) = 0)) = true →
      R (.bool true) wv) ∧
    ((decide ((((a_n : Nat) : Int) : Int) = 0)) = false →
      (0 ≤ (0 : Int) ∧ (0 : Int) < (a_n : Nat)) ∧ ptrS a_p fun ad => ∃ (t12 : Int), Loads P 3 (ad.add (0 * 1)) (.int .i64 t12) wv ∧ (2 : Int) ≠ 0 ∧ ∃ t13 : Int, t13 = Int.tmod t12 2 ∧ R (.bool (decide ((t13 : Int) = 0))) wv)) ∧
  (t4 = false →
    R (.bool false) wv)
theorem impl_NatEven_eq (a_p : Option Addr) (a_n : Nat) (a_c : Nat) (w : World) (R : Value → World → Prop) : impl_NatEven a_p a_n a_c w R = fsem P Tryz.f173 (fun k => []) [(.slice a_p a_n a_c)] R w := by kernel_rfl
theorem impl_NatEven_ret {a_p : Option Addr} {a_n : Nat} {a_c : Nat} {w : World} {R : Value → World → Prop} (h : impl_NatEven a_p a_n a_c w R) : Ret P 173 [(.slice a_p a_n a_c)] w R :=
  Ret.of_fsem Tryz.func173 rfl (Eq.mp (impl_NatEven_eq a_p a_n a_c w R) h)
def spec_NatEven (a_p : Option Addr) (a_n : Nat) (a_c : Nat) (w : World) (R : Value → World → Prop) : Prop :=
  Calls P 129 ⟨[(.slice a_p a_n a_c)]⟩ w fun e wv =>
  ∃ (t4 : Bool), e = .returned (.bool t4) ∧
  (t4 = true →
    ((decide ((((a_n : Nat) : Int) : Int) = 0)) = true →
      R (.bool true) wv) ∧
    ((decide ((((a_n : Nat) : Int) : Int) = 0)) = false →
      (0 ≤ (0 : Int) ∧ (0 : Int) < (a_n : Nat)) ∧ ptrS a_p fun ad => ∃ (t12 : Int), Loads P 3 (ad.add (0 * 1)) (.int .i64 t12) wv ∧ (2 : Int) ≠ 0 ∧ ∃ t13 : Int, t13 = Int.tmod t12 2 ∧ R (.bool (decide ((t13 : Int) = 0))) wv)) ∧
  (t4 = false →
    R (.bool false) wv)
theorem spec_NatEven_eq (a_p : Option Addr) (a_n : Nat) (a_c : Nat) (w : World) (R : Value → World → Prop) : spec_NatEven a_p a_n a_c w R = fsem P Tryz.f174 (fun k => []) [(.slice a_p a_n a_c)] R w := by kernel_rfl
theorem spec_NatEven_ret {a_p : Option Addr} {a_n : Nat} {a_c : Nat} {w : World} {R : Value → World → Prop} (h : spec_NatEven a_p a_n a_c w R) : Ret P 174 [(.slice a_p a_n a_c)] w R :=
  Ret.of_fsem Tryz.func174 rfl (Eq.mp (spec_NatEven_eq a_p a_n a_c w R) h)
def impl_roundModes_1 (a0 : Bool) (a1 : Int) (a2 : Bool) (w : World) (R : Value → World → Prop) : Prop :=
  R (.bool false) w
theorem impl_roundModes_1_eq (a0 : Bool) (a1 : Int) (a2 : Bool) (w : World) (R : Value → World → Prop) : impl_roundModes_1 a0 a1 a2 w R = fsem P Tryz.f175 (fun k => []) [(.bool a0), (.int .i64 a1), (.bool a2)] R w := by kernel_rfl
theorem impl_roundModes_1_ret {a0 : Bool} {a1 : Int} {a2 : Bool} {w : World} {R : Value → World → Prop} (h : impl_roundModes_1 a0 a1 a2 w R) : Ret P 175 [(.bool a0), (.int .i64 a1), (.bool a2)] w R :=
  Ret.of_fsem Tryz.func175 rfl (Eq.mp (impl_roundModes_1_eq a0 a1 a2 w R) h)
def impl_roundModes_2 (a0 : Bool) (a1 : Int) (a2 : Bool) (w : World) (R : Value → World → Prop) : Prop :=
  R (.bool true) w
theorem impl_roundModes_2_eq (a0 : Bool) (a1 : Int) (a2 : Bool) (w : World) (R : Value → World → Prop) : impl_roundModes_2 a0 a1 a2 w R = fsem P Tryz.f176 (fun k => []) [(.bool a0), (.int .i64 a1), (.bool a2)] R w := by kernel_rfl
theorem impl_roundModes_2_ret {a0 : Bool} {a1 : Int} {a2 : Bool} {w : World} {R : Value → World → Prop} (h : impl_roundModes_2 a0 a1 a2 w R) : Ret P 176 [(.bool a0), (.int .i64 a1), (.bool a2)] w R :=
  Ret.of_fsem Tryz.func176 rfl (Eq.mp (impl_roundModes_2_eq a0 a1 a2 w R) h)
def impl_roundModes_3 (neg : Bool) (u : Int) (u_1 : Bool) (w : World) (R : Value → World → Prop) : Prop :=
  R (.bool neg) w
theorem impl_roundModes_3_eq (neg : Bool) (u : Int) (u_1 : Bool) (w : World) (R : Value → World → Prop) : impl_roundModes_3 neg u u_1 w R = fsem P Tryz.f177 (fun k => []) [(.bool neg), (.int .i64 u), (.bool u_1)] R w := by kernel_rfl
theorem impl_roundModes_3_ret {neg : Bool} {u : Int} {u_1 : Bool} {w : World} {R : Value → World → Prop} (h : impl_roundModes_3 neg u u_1 w R) : Ret P 177 [(.bool neg), (.int .i64 u), (.bool u_1)] w R :=
  Ret.of_fsem Tryz.func177 rfl (Eq.mp (impl_roundModes_3_eq neg u u_1 w R) h)
def impl_roundModes_4 (neg : Bool) (u : Int) (u_1 : Bool) (w : World) (R : Value → World → Prop) : Prop :=
  R (.bool (!neg)) w
theorem impl_roundModes_4_eq (neg : Bool) (u : Int) (u_1 : Bool) (w : World) (R : Value → World → Prop) : impl_roundModes_4 neg u u_1 w R = fsem P Tryz.f178 (fun k => []) [(.bool neg), (.int .i64 u), (.bool u_1)] R w := by kernel_rfl
theorem impl_roundModes_4_ret {neg : Bool} {u : Int} {u_1 : Bool} {w : World} {R : Value → World → Prop} (h : impl_roundModes_4 neg u u_1 w R) : Ret P 178 [(.bool neg), (.int .i64 u), (.bool u_1)] w R :=
  Ret.of_fsem Tryz.func178 rfl (Eq.mp (impl_roundModes_4_eq neg u u_1 w R) h)
def impl_roundModes_5 (u : Bool) (half : Int) (u_1 : Bool) (w : World) (R : Value → World → Prop) : Prop :=
  R (.bool (decide ((0 : Int) < half))) w
theorem impl_roundModes_5_eq (u : Bool) (half : Int) (u_1 : Bool) (w : World) (R : Value → World → Prop) : impl_roundModes_5 u half u_1 w R = fsem P Tryz.f179 (fun k => []) [(.bool u), (.int .i64 half), (.bool u_1)] R w := by kernel_rfl
theorem impl_roundModes_5_ret {u : Bool} {half : Int} {u_1 : Bool} {w : World} {R : Value → World → Prop} (h : impl_roundModes_5 u half u_1 w R) : Ret P 179 [(.bool u), (.int .i64 half), (.bool u_1)] w R :=
  Ret.of_fsem Tryz.func179 rfl (Eq.mp (impl_roundModes_5_eq u half u_1 w R) h)
def impl_roundModes_6 (u : Bool) (half : Int) (u_1 : Bool) (w : World) (R : Value → World → Prop) : Prop :=
  R (.bool (decide ((0 : Int) ≤ half))) w
theorem impl_roundModes_6_eq (u : Bool) (half : Int) (u_1 : Bool) (w : World) (R : Value → World → Prop) : impl_roundModes_6 u half u_1 w R = fsem P Tryz.f180 (fun k => []) [(.bool u), (.int .i64 half), (.bool u_1)] R w := by kernel_rfl
theorem impl_roundModes_6_ret {u : Bool} {half : Int} {u_1 : Bool} {w : World} {R : Value → World → Prop} (h : impl_roundModes_6 u half u_1 w R) : Ret P 180 [(.bool u), (.int .i64 half), (.bool u_1)] w R :=
  Ret.of_fsem Tryz.func180 rfl (Eq.mp (impl_roundModes_6_eq u half u_1 w R) h)
def impl_roundModes_7 (u : Bool) (half : Int) (odd : Bool) (w : World) (R : Value → World → Prop) : Prop :=
  ((decide ((0 : Int) < half)) = true →
    R (.bool true) w) ∧
  ((decide ((0 : Int) < half)) = false →
    ((decide ((half : Int) = 0)) = true →
      R (.bool odd) w) ∧
    ((decide ((half : Int) = 0)) = false →
      R (.bool false) w))
theorem impl_roundModes_7_eq (u : Bool) (half : Int) (odd : Bool) (w : World) (R : Value → World → Prop) : impl_roundModes_7 u half odd w R = fsem P Tryz.f181 (fun k => []) [(.bool u), (.int .i64 half), (.bool odd)] R w := by kernel_rfl
theorem impl_roundModes_7_ret {u : Bool} {half : Int} {odd : Bool} {w : World} {R : Value → World → Prop} (h : impl_roundModes_7 u half odd w R) : Ret P 181 [(.bool u), (.int .i64 half), (.bool odd)] w R :=
  Ret.of_fsem Tryz.func181 rfl (Eq.mp (impl_roundModes_7_eq u half odd w R) h)
end Go.Proofs.YtfemmmbkhhemaaaGreatDoor
