/-
  The frame-free forms of some Go functions, printed by a program of mine; each with the theorem that it is sound.
-/
import Derived.Test.YtfbmjimhjlmhkaaP
namespace Go.Proofs.Ytfbmjimhjlmhkaa
open Go Go.Proofs.Ytfbmjimhjlmhkaa.Sx
set_option linter.unusedVariables false
set_option maxRecDepth 100000

def spec_IntCmp_j1 (r : Nat) (r_1 : Nat) (t14 : Bool) (W_1 : World) (R : Value → World → Prop) : Prop :=
  (t14 = true →
    R (.int .i64 (-1)) W_1) ∧
  (t14 = false →
    ∃ (t24 : Bool), Loads P 4 ((⟨r, 0, none⟩ : Addr).add 0) (.bool t24) W_1 ∧ ((!t24) = true →
      ∃ (t28 : Bool), Loads P 4 ((⟨r_1, 0, none⟩ : Addr).add 0) (.bool t28) W_1 ∧ (t28 = true →
        R (.int .i64 1) W_1) ∧
      (t28 = false →
        ∃ (t32 : Bool), Loads P 4 ((⟨r, 0, none⟩ : Addr).add 0) (.bool t32) W_1 ∧ (t32 = true →
          ∃ (t34_p : Option Addr) (t34_n : Nat) (t34_c : Nat), Loads P 24 ((⟨r_1, 0, none⟩ : Addr).add 1) (.slice t34_p t34_n t34_c) W_1 ∧ ∃ (t36_p : Option Addr) (t36_n : Nat) (t36_c : Nat), Loads P 24 ((⟨r, 0, none⟩ : Addr).add 1) (.slice t36_p t36_n t36_c) W_1 ∧ Calls P 96 ⟨[(.slice t34_p t34_n t34_c), (.slice t36_p t36_n t36_c)]⟩ W_1 fun e_1 wv_3 =>
          ∃ (t37 : Int), e_1 = .returned (.int .i64 t37) ∧
          R (.int .i64 t37) wv_3) ∧
        (t32 = false →
          ∃ (t39_p : Option Addr) (t39_n : Nat) (t39_c : Nat), Loads P 24 ((⟨r, 0, none⟩ : Addr).add 1) (.slice t39_p t39_n t39_c) W_1 ∧ ∃ (t41_p : Option Addr) (t41_n : Nat) (t41_c : Nat), Loads P 24 ((⟨r_1, 0, none⟩ : Addr).add 1) (.slice t41_p t41_n t41_c) W_1 ∧ Calls P 96 ⟨[(.slice t39_p t39_n t39_c), (.slice t41_p t41_n t41_c)]⟩ W_1 fun e_2 wv_4 =>
          ∃ (t42 : Int), e_2 = .returned (.int .i64 t42) ∧
          R (.int .i64 t42) wv_4))) ∧
    ((!t24) = false →
      (false = true →
        R (.int .i64 1) W_1) ∧
      (false = false →
        ∃ (t32_1 : Bool), Loads P 4 ((⟨r, 0, none⟩ : Addr).add 0) (.bool t32_1) W_1 ∧ (t32_1 = true →
          ∃ (t34_p_1 : Option Addr) (t34_n_1 : Nat) (t34_c_1 : Nat), Loads P 24 ((⟨r_1, 0, none⟩ : Addr).add 1) (.slice t34_p_1 t34_n_1 t34_c_1) W_1 ∧ ∃ (t36_p_1 : Option Addr) (t36_n_1 : Nat) (t36_c_1 : Nat), Loads P 24 ((⟨r, 0, none⟩ : Addr).add 1) (.slice t36_p_1 t36_n_1 t36_c_1) W_1 ∧ Calls P 96 ⟨[(.slice t34_p_1 t34_n_1 t34_c_1), (.slice t36_p_1 t36_n_1 t36_c_1)]⟩ W_1 fun e_3 wv_5 =>
          ∃ (t37_1 : Int), e_3 = .returned (.int .i64 t37_1) ∧
          R (.int .i64 t37_1) wv_5) ∧
        (t32_1 = false →
          ∃ (t39_p_1 : Option Addr) (t39_n_1 : Nat) (t39_c_1 : Nat), Loads P 24 ((⟨r, 0, none⟩ : Addr).add 1) (.slice t39_p_1 t39_n_1 t39_c_1) W_1 ∧ ∃ (t41_p_1 : Option Addr) (t41_n_1 : Nat) (t41_c_1 : Nat), Loads P 24 ((⟨r_1, 0, none⟩ : Addr).add 1) (.slice t41_p_1 t41_n_1 t41_c_1) W_1 ∧ Calls P 96 ⟨[(.slice t39_p_1 t39_n_1 t39_c_1), (.slice t41_p_1 t41_n_1 t41_c_1)]⟩ W_1 fun e_4 wv_6 =>
          ∃ (t42_1 : Int), e_4 = .returned (.int .i64 t42_1) ∧
          R (.int .i64 t42_1) wv_6))))
def spec_IntCmp_j0 (r : Nat) (r_1 : Nat) (t5 : Bool) (W : World) (R : Value → World → Prop) : Prop :=
  (t5 = true →
    R (.int .i64 0) W) ∧
  (t5 = false →
    ∃ (t16 : Bool), Loads P 4 ((⟨r, 0, none⟩ : Addr).add 0) (.bool t16) W ∧ (t16 = true →
      ∃ (t19 : Bool), Loads P 4 ((⟨r_1, 0, none⟩ : Addr).add 0) (.bool t19) W ∧ spec_IntCmp_j1 r r_1 (!t19) W R) ∧
    (t16 = false →
      spec_IntCmp_j1 r r_1 false W R))
def spec_IntCmp (x0 : Bool) (x1_p : Option Addr) (x1_n : Nat) (x1_c : Nat) (y0 : Bool) (y1_p : Option Addr) (y1_n : Nat) (y1_c : Nat) (w : World) (R : Value → World → Prop) : Prop :=
  ∀ (r : Nat) (wv : World), New w (.cells ⟨[(.bool x0), (.slice x1_p x1_n x1_c)]⟩ 26 (0, 0)) r wv →
  ∀ (r_1 : Nat) (wv_1 : World), New wv (.cells ⟨[(.bool y0), (.slice y1_p y1_n y1_c)]⟩ 26 (0, 0)) r_1 wv_1 →
  ∃ (t60 : Bool) (t61_p : Option Addr) (t61_n : Nat) (t61_c : Nat), Loads P 26 ⟨r, 0, none⟩ (.agg #[(.bool t60), (.slice t61_p t61_n t61_c)]) wv_1 ∧ Calls P 73 ⟨[(.agg #[(.bool t60), (.slice t61_p t61_n t61_c)])]⟩ wv_1 fun e wv_2 =>
  ∃ (t7 : Bool), e = .returned (.bool t7) ∧
  ((!t7) = true →
    spec_IntCmp_j0 r r_1 true wv_2 R) ∧
  ((!t7) = false →
    ∃ (t100 : Bool) (t101_p : Option Addr) (t101_n : Nat) (t101_c : Nat), Loads P 26 ⟨r_1, 0, none⟩ (.agg #[(.bool t100), (.slice t101_p t101_n t101_c)]) wv_2 ∧ Calls P 73 ⟨[(.agg #[(.bool t100), (.slice t101_p t101_n t101_c)])]⟩ wv_2 fun e_5 wv_7 =>
    ∃ (t11 : Bool), e_5 = .returned (.bool t11) ∧
    spec_IntCmp_j0 r r_1 (!t11) wv_7 R)
theorem spec_IntCmp_eq (x0 : Bool) (x1_p : Option Addr) (x1_n : Nat) (x1_c : Nat) (y0 : Bool) (y1_p : Option Addr) (y1_n : Nat) (y1_c : Nat) (w : World) (R : Value → World → Prop) : spec_IntCmp x0 x1_p x1_n x1_c y0 y1_p y1_n y1_c w R = fsem P Try.f74 (fun k => []) [(.agg #[(.bool x0), (.slice x1_p x1_n x1_c)]), (.agg #[(.bool y0), (.slice y1_p y1_n y1_c)])] R w := by kernel_rfl
theorem spec_IntCmp_ret {x0 : Bool} {x1_p : Option Addr} {x1_n : Nat} {x1_c : Nat} {y0 : Bool} {y1_p : Option Addr} {y1_n : Nat} {y1_c : Nat} {w : World} {R : Value → World → Prop} (h : spec_IntCmp x0 x1_p x1_n x1_c y0 y1_p y1_n y1_c w R) : Ret P 74 [(.agg #[(.bool x0), (.slice x1_p x1_n x1_c)]), (.agg #[(.bool y0), (.slice y1_p y1_n y1_c)])] w R :=
  Ret.of_fsem Try.func74 rfl (Eq.mp (spec_IntCmp_eq x0 x1_p x1_n x1_c y0 y1_p y1_n y1_c w R) h)

def spec_IntAbs (x0 : Bool) (x1_p : Option Addr) (x1_n : Nat) (x1_c : Nat) (w : World) (R : Value → World → Prop) : Prop :=
  ∀ (r : Nat) (wv : World), New w (.cells ⟨[(.bool x0), (.slice x1_p x1_n x1_c)]⟩ 26 (0, 0)) r wv →
  ∀ (r_1 : Nat) (wv_1 : World), New wv (.cells ⟨[(.bool false), (.slice none 0 0)]⟩ 26 (0, 0)) r_1 wv_1 →
  ∃ (t30 : Bool) (t31_p : Option Addr) (t31_n : Nat) (t31_c : Nat), Loads P 26 ⟨r, 0, none⟩ (.agg #[(.bool t30), (.slice t31_p t31_n t31_c)]) wv_1 ∧ Calls P 73 ⟨[(.agg #[(.bool t30), (.slice t31_p t31_n t31_c)])]⟩ wv_1 fun e wv_2 =>
  ∃ (t4 : Bool), e = .returned (.bool t4) ∧
  ((!t4) = true →
    ∃ wv_3, Stores P 26 ⟨r_1, 0, none⟩ (.agg #[(.bool false), (.slice none 0 0)]) wv_2 wv_3 ∧
    ∃ (r0 : Bool) (r1_p : Option Addr) (r1_n : Nat) (r1_c : Nat), Loads P 26 ⟨r_1, 0, none⟩ (.agg #[(.bool r0), (.slice r1_p r1_n r1_c)]) wv_3 ∧ R (.agg #[(.bool r0), (.slice r1_p r1_n r1_c)]) wv_3) ∧
  ((!t4) = false →
    ∃ (t8_p : Option Addr) (t8_n : Nat) (t8_c : Nat), Loads P 24 ((⟨r, 0, none⟩ : Addr).add 1) (.slice t8_p t8_n t8_c) wv_2 ∧ Calls P 89 ⟨[(.bool false), (.slice t8_p t8_n t8_c)]⟩ wv_2 fun e_1 wv_4 =>
    ∃ (t90 : Bool) (t91_p : Option Addr) (t91_n : Nat) (t91_c : Nat), e_1 = .returned (.agg #[(.bool t90), (.slice t91_p t91_n t91_c)]) ∧
    ∃ wv_5, Stores P 26 ⟨r_1, 0, none⟩ (.agg #[(.bool t90), (.slice t91_p t91_n t91_c)]) wv_4 wv_5 ∧
    ∃ (r0_1 : Bool) (r1_p_1 : Option Addr) (r1_n_1 : Nat) (r1_c_1 : Nat), Loads P 26 ⟨r_1, 0, none⟩ (.agg #[(.bool r0_1), (.slice r1_p_1 r1_n_1 r1_c_1)]) wv_5 ∧ R (.agg #[(.bool r0_1), (.slice r1_p_1 r1_n_1 r1_c_1)]) wv_5)
theorem spec_IntAbs_eq (x0 : Bool) (x1_p : Option Addr) (x1_n : Nat) (x1_c : Nat) (w : World) (R : Value → World → Prop) : spec_IntAbs x0 x1_p x1_n x1_c w R = fsem P Try.f75 (fun k => []) [(.agg #[(.bool x0), (.slice x1_p x1_n x1_c)])] R w := by kernel_rfl
theorem spec_IntAbs_ret {x0 : Bool} {x1_p : Option Addr} {x1_n : Nat} {x1_c : Nat} {w : World} {R : Value → World → Prop} (h : spec_IntAbs x0 x1_p x1_n x1_c w R) : Ret P 75 [(.agg #[(.bool x0), (.slice x1_p x1_n x1_c)])] w R :=
  Ret.of_fsem Try.func75 rfl (Eq.mp (spec_IntAbs_eq x0 x1_p x1_n x1_c w R) h)

def impl_IntOk (x0 : Bool) (x1_p : Option Addr) (x1_n : Nat) (x1_c : Nat) (w : World) (R : Value → World → Prop) : Prop :=
  ∀ (r : Nat) (wv : World), New w (.cells ⟨[(.bool x0), (.slice x1_p x1_n x1_c)]⟩ 26 (0, 0)) r wv →
  ∃ (t4_p : Option Addr) (t4_n : Nat) (t4_c : Nat), Loads P 24 ((⟨r, 0, none⟩ : Addr).add 1) (.slice t4_p t4_n t4_c) wv ∧ Calls P 97 ⟨[(.slice t4_p t4_n t4_c)]⟩ wv fun e wv_1 =>
  ∃ (t5 : Bool), e = .returned (.bool t5) ∧
  (t5 = true →
    ∃ (t8 : Bool), Loads P 4 ((⟨r, 0, none⟩ : Addr).add 0) (.bool t8) wv_1 ∧ ((!t8) = true →
      R (.bool true) wv_1) ∧
    ((!t8) = false →
      ∃ (t12_p : Option Addr) (t12_n : Nat) (t12_c : Nat), Loads P 24 ((⟨r, 0, none⟩ : Addr).add 1) (.slice t12_p t12_n t12_c) wv_1 ∧ R (.bool (decide ((0 : Int) < ((t12_n : Nat) : Int)))) wv_1)) ∧
  (t5 = false →
    R (.bool false) wv_1)
theorem impl_IntOk_eq (x0 : Bool) (x1_p : Option Addr) (x1_n : Nat) (x1_c : Nat) (w : World) (R : Value → World → Prop) : impl_IntOk x0 x1_p x1_n x1_c w R = fsem P Try.f77 (fun k => []) [(.agg #[(.bool x0), (.slice x1_p x1_n x1_c)])] R w := by kernel_rfl
theorem impl_IntOk_ret {x0 : Bool} {x1_p : Option Addr} {x1_n : Nat} {x1_c : Nat} {w : World} {R : Value → World → Prop} (h : impl_IntOk x0 x1_p x1_n x1_c w R) : Ret P 77 [(.agg #[(.bool x0), (.slice x1_p x1_n x1_c)])] w R :=
  Ret.of_fsem Try.func77 rfl (Eq.mp (impl_IntOk_eq x0 x1_p x1_n x1_c w R) h)

def impl_stepsTo (l_p : Option Addr) (l_n : Nat) (l_c : Nat) (mag_p : Option Addr) (mag_n : Nat) (mag_c : Nat) (w : World) (R : Value → World → Prop) : Prop :=
  ∀ (r : Nat) (wv : World), New w (.cells ⟨[(.slice l_p l_n l_c)]⟩ 67 (0, 0)) r wv →
  ∀ (r_1 : Nat) (wv_1 : World), New wv (.cells ⟨[(.slice mag_p mag_n mag_c)]⟩ 24 (0, 0)) r_1 wv_1 →
  R (.func (.func 98) #[] #[(.pointer (some ⟨r, 0, none⟩)), (.pointer (some ⟨r_1, 0, none⟩))]) wv_1
theorem impl_stepsTo_eq (l_p : Option Addr) (l_n : Nat) (l_c : Nat) (mag_p : Option Addr) (mag_n : Nat) (mag_c : Nat) (w : World) (R : Value → World → Prop) : impl_stepsTo l_p l_n l_c mag_p mag_n mag_c w R = fsem P Try.f78 (fun k => []) [(.slice l_p l_n l_c), (.slice mag_p mag_n mag_c)] R w := by kernel_rfl
theorem impl_stepsTo_ret {l_p : Option Addr} {l_n : Nat} {l_c : Nat} {mag_p : Option Addr} {mag_n : Nat} {mag_c : Nat} {w : World} {R : Value → World → Prop} (h : impl_stepsTo l_p l_n l_c mag_p mag_n mag_c w R) : Ret P 78 [(.slice l_p l_n l_c), (.slice mag_p mag_n mag_c)] w R :=
  Ret.of_fsem Try.func78 rfl (Eq.mp (impl_stepsTo_eq l_p l_n l_c mag_p mag_n mag_c w R) h)

def impl_intCopy (x0 : Bool) (x1_p : Option Addr) (x1_n : Nat) (x1_c : Nat) (w : World) (R : Value → World → Prop) : Prop :=
  ∀ (r : Nat) (wv : World), New w (.cells ⟨[(.bool x0), (.slice x1_p x1_n x1_c)]⟩ 26 (0, 0)) r wv →
  ∀ (r_1 : Nat) (wv_1 : World), New wv (.cells ⟨[(.bool false), (.slice none 0 0)]⟩ 26 (0, 0)) r_1 wv_1 →
  ∃ (t4 : Bool), (∀ wv_2, Ext wv_1.drew wv_2 → Loads P 4 ((⟨r, 0, none⟩ : Addr).add 0) (.bool t4) wv_2) ∧ ∃ (t6_p : Option Addr) (t6_n : Nat) (t6_c : Nat), (∀ wv_3, Ext wv_1.drew wv_3 → Loads P 24 ((⟨r, 0, none⟩ : Addr).add 1) (.slice t6_p t6_n t6_c) wv_3) ∧ Calls P 82 ⟨[(.slice t6_p t6_n t6_c)]⟩ wv_1.drew fun e wv_4 =>
  ∃ (t7_p : Option Addr) (t7_n : Nat) (t7_c : Nat), e = .returned (.slice t7_p t7_n t7_c) ∧
  Ext wv_1.drew wv_4 ∧ ∃ wv_5, Stores P 26 ⟨r_1, 0, none⟩ (.agg #[(.bool t4), (.slice t7_p t7_n t7_c)]) wv_4 wv_5 ∧
  ∃ (r0 : Bool) (r1_p : Option Addr) (r1_n : Nat) (r1_c : Nat), Loads P 26 ⟨r_1, 0, none⟩ (.agg #[(.bool r0), (.slice r1_p r1_n r1_c)]) wv_5 ∧ R (.agg #[(.bool r0), (.slice r1_p r1_n r1_c)]) wv_5
theorem impl_intCopy_eq (x0 : Bool) (x1_p : Option Addr) (x1_n : Nat) (x1_c : Nat) (w : World) (R : Value → World → Prop) : impl_intCopy x0 x1_p x1_n x1_c w R = fsem P Try.f81 (fun k => []) [(.agg #[(.bool x0), (.slice x1_p x1_n x1_c)])] R w := by kernel_rfl
theorem impl_intCopy_ret {x0 : Bool} {x1_p : Option Addr} {x1_n : Nat} {x1_c : Nat} {w : World} {R : Value → World → Prop} (h : impl_intCopy x0 x1_p x1_n x1_c w R) : Ret P 81 [(.agg #[(.bool x0), (.slice x1_p x1_n x1_c)])] w R :=
  Ret.of_fsem Try.func81 rfl (Eq.mp (impl_intCopy_eq x0 x1_p x1_n x1_c w R) h)

def impl_natCopy (a_p : Option Addr) (a_n : Nat) (a_c : Nat) (w : World) (R : Value → World → Prop) : Prop :=
  ∀ (r : Nat) (wv : World), New w (.cells ⟨[]⟩ 3 (0, 0)) r wv →
  ∃ (t5_p : Option Addr) (t5_n : Nat) (t5_c : Nat) (wv_1 : World), Appends P [24, 24] [(.slice (some ⟨r, 0, none⟩) 0 0), (.slice a_p a_n a_c)] (.slice t5_p t5_n t5_c) wv wv_1 ∧
  R (.slice t5_p t5_n t5_c) wv_1
theorem impl_natCopy_eq (a_p : Option Addr) (a_n : Nat) (a_c : Nat) (w : World) (R : Value → World → Prop) : impl_natCopy a_p a_n a_c w R = fsem P Try.f82 (fun k => []) [(.slice a_p a_n a_c)] R w := by kernel_rfl
theorem impl_natCopy_ret {a_p : Option Addr} {a_n : Nat} {a_c : Nat} {w : World} {R : Value → World → Prop} (h : impl_natCopy a_p a_n a_c w R) : Ret P 82 [(.slice a_p a_n a_c)] w R :=
  Ret.of_fsem Try.func82 rfl (Eq.mp (impl_natCopy_eq a_p a_n a_c w R) h)

def slices_IndexFunc_impl_Acct_impl_Acct (s_p : Option Addr) (s_n : Nat) (s_c : Nat) (f : Value) (w : World) (R : Value → World → Prop) : Prop :=
  ∃ (Inv : Int → World → Prop) (mu : Int → World → Nat), Inv 0 w ∧
  ∀ (junk : Fr) (wv : World) (t8 : Int), Inv t8 wv →
    ((decide ((t8 : Int) < ((s_n : Nat) : Int))) = true →
      (0 ≤ (t8 : Int) ∧ (t8 : Int) < (s_n : Nat)) ∧ ptrS s_p fun ad => ∃ (t150 : ByteArray) (t151 : ByteArray) (t152 : Bool) (t153_p : Option Addr) (t153_n : Nat) (t153_c : Nat), Loads P 95 (ad.add (t8.toNat * 4)) (.agg #[(.string t150), (.string t151), (.bool t152), (.slice t153_p t153_n t153_c)]) wv ∧ CallW P f [(.agg #[(.string t150), (.string t151), (.bool t152), (.slice t153_p t153_n t153_c)])] wv fun e wv_1 =>
      ∃ (t16 : Bool), e = .returned (.bool t16) ∧
      (t16 = true →
        R (.int .i64 t8) wv_1) ∧
      (t16 = false →
        ∃ t18 : Int, t18 = IntKind.wrap .i64 (t8 + 1) ∧ Inv t18 wv_1 ∧ mu t18 wv_1 < mu t8 wv)) ∧
    ((decide ((t8 : Int) < ((s_n : Nat) : Int))) = false →
      R (.int .i64 (-1)) wv)
theorem slices_IndexFunc_impl_Acct_impl_Acct_eq (s_p : Option Addr) (s_n : Nat) (s_c : Nat) (f : Value) (w : World) (R : Value → World → Prop) : slices_IndexFunc_impl_Acct_impl_Acct s_p s_n s_c f w R = fsem P Try.f85 (fun k => cond (Nat.beq k 3) [(8, .one (.int .i64))] ([])) [(.slice s_p s_n s_c), f] R w := by kernel_rfl
theorem slices_IndexFunc_impl_Acct_impl_Acct_ret {s_p : Option Addr} {s_n : Nat} {s_c : Nat} {f : Value} {w : World} {R : Value → World → Prop} (h : slices_IndexFunc_impl_Acct_impl_Acct s_p s_n s_c f w R) : Ret P 85 [(.slice s_p s_n s_c), f] w R :=
  Ret.of_fsem Try.func85 rfl (Eq.mp (slices_IndexFunc_impl_Acct_impl_Acct_eq s_p s_n s_c f w R) h)

def impl_AcctAt_1 (a0 : ByteArray) (a1 : ByteArray) (a2 : Bool) (a3_p : Option Addr) (a3_n : Nat) (a3_c : Nat) (cap0 : Option Addr) (w : World) (R : Value → World → Prop) : Prop :=
  ∀ (r : Nat) (wv : World), New w (.cells ⟨[(.string a0), (.string a1), (.bool a2), (.slice a3_p a3_n a3_c)]⟩ 95 (0, 0)) r wv →
  ∃ (t5 : ByteArray), Loads P 9 ((⟨r, 0, none⟩ : Addr).add 0) (.string t5) wv ∧ ptrS cap0 fun ad => ∃ (t6 : ByteArray), Loads P 9 ad (.string t6) wv ∧ R (.bool (decide (t5 = t6))) wv
theorem impl_AcctAt_1_eq (a0 : ByteArray) (a1 : ByteArray) (a2 : Bool) (a3_p : Option Addr) (a3_n : Nat) (a3_c : Nat) (cap0 : Option Addr) (w : World) (R : Value → World → Prop) : impl_AcctAt_1 a0 a1 a2 a3_p a3_n a3_c cap0 w R = fsem P Try.f86 (fun k => []) [(.agg #[(.string a0), (.string a1), (.bool a2), (.slice a3_p a3_n a3_c)]), (.pointer cap0)] R w := by kernel_rfl
theorem impl_AcctAt_1_ret {a0 : ByteArray} {a1 : ByteArray} {a2 : Bool} {a3_p : Option Addr} {a3_n : Nat} {a3_c : Nat} {cap0 : Option Addr} {w : World} {R : Value → World → Prop} (h : impl_AcctAt_1 a0 a1 a2 a3_p a3_n a3_c cap0 w R) : Ret P 86 [(.agg #[(.string a0), (.string a1), (.bool a2), (.slice a3_p a3_n a3_c)]), (.pointer cap0)] w R :=
  Ret.of_fsem Try.func86 rfl (Eq.mp (impl_AcctAt_1_eq a0 a1 a2 a3_p a3_n a3_c cap0 w R) h)

def spec_l07Both_j0 (r : Nat) (r_1 : Nat) (r_2 : Nat) (r_3 : Nat) (scale : Int) (W : World) (R : Value → World → Prop) : Prop :=
  ∃ (t170 : Bool) (t171_p : Option Addr) (t171_n : Nat) (t171_c : Nat), (∀ wv_4, Ext W.drew wv_4 → Loads P 26 ((⟨r, 0, none⟩ : Addr).add 0) (.agg #[(.bool t170), (.slice t171_p t171_n t171_c)]) wv_4) ∧ ∃ (t20 : Int), (∀ wv_5, Ext W.drew wv_5 → Loads P 3 ((⟨r, 0, none⟩ : Addr).add 2) (.int .i64 t20) wv_5) ∧ ∃ t21 : Int, t21 = IntKind.wrap .i64 (scale - t20) ∧ Calls P 104 ⟨[(.int .i64 t21)]⟩ W.drew fun e wv_6 =>
  ∃ (t220 : Bool) (t221_p : Option Addr) (t221_n : Nat) (t221_c : Nat), e = .returned (.agg #[(.bool t220), (.slice t221_p t221_n t221_c)]) ∧
  Ext W.drew wv_6 ∧ Calls P 103 ⟨[(.agg #[(.bool t170), (.slice t171_p t171_n t171_c)]), (.agg #[(.bool t220), (.slice t221_p t221_n t221_c)])]⟩ wv_6 fun e_1 wv_7 =>
  ∃ (t230 : Bool) (t231_p : Option Addr) (t231_n : Nat) (t231_c : Nat), e_1 = .returned (.agg #[(.bool t230), (.slice t231_p t231_n t231_c)]) ∧
  Ext wv_6 wv_7 ∧ ∃ (t250 : Bool) (t251_p : Option Addr) (t251_n : Nat) (t251_c : Nat), (∀ wv_8, Ext W.drew wv_8 → Loads P 26 ((⟨r_1, 0, none⟩ : Addr).add 0) (.agg #[(.bool t250), (.slice t251_p t251_n t251_c)]) wv_8) ∧ ∃ (t28 : Int), (∀ wv_9, Ext W.drew wv_9 → Loads P 3 ((⟨r_1, 0, none⟩ : Addr).add 2) (.int .i64 t28) wv_9) ∧ ∃ t29 : Int, t29 = IntKind.wrap .i64 (scale - t28) ∧ Calls P 104 ⟨[(.int .i64 t29)]⟩ wv_7 fun e_2 wv_10 =>
  ∃ (t300 : Bool) (t301_p : Option Addr) (t301_n : Nat) (t301_c : Nat), e_2 = .returned (.agg #[(.bool t300), (.slice t301_p t301_n t301_c)]) ∧
  Ext wv_7 wv_10 ∧ Calls P 103 ⟨[(.agg #[(.bool t250), (.slice t251_p t251_n t251_c)]), (.agg #[(.bool t300), (.slice t301_p t301_n t301_c)])]⟩ wv_10 fun e_3 wv_11 =>
  ∃ (t310 : Bool) (t311_p : Option Addr) (t311_n : Nat) (t311_c : Nat), e_3 = .returned (.agg #[(.bool t310), (.slice t311_p t311_n t311_c)]) ∧
  ∃ wv_12, Stores P 26 ⟨r_2, 0, none⟩ (.agg #[(.bool t230), (.slice t231_p t231_n t231_c)]) wv_11 wv_12 ∧
  ∃ wv_13, Stores P 26 ⟨r_3, 0, none⟩ (.agg #[(.bool t310), (.slice t311_p t311_n t311_c)]) wv_12 wv_13 ∧
  ∃ (r0 : Bool) (r1_p : Option Addr) (r1_n : Nat) (r1_c : Nat), Loads P 26 ⟨r_2, 0, none⟩ (.agg #[(.bool r0), (.slice r1_p r1_n r1_c)]) wv_13 ∧ ∃ (r0_1 : Bool) (r1_p_1 : Option Addr) (r1_n_1 : Nat) (r1_c_1 : Nat), Loads P 26 ⟨r_3, 0, none⟩ (.agg #[(.bool r0_1), (.slice r1_p_1 r1_n_1 r1_c_1)]) wv_13 ∧ R (.tuple #[(.agg #[(.bool r0), (.slice r1_p r1_n r1_c)]), (.agg #[(.bool r0_1), (.slice r1_p_1 r1_n_1 r1_c_1)]), (.int .i64 scale)]) wv_13
def spec_l07Both (d0 : Bool) (d1_p : Option Addr) (d1_n : Nat) (d1_c : Nat) (d2 : Int) (e0 : Bool) (e1_p : Option Addr) (e1_n : Nat) (e1_c : Nat) (e2 : Int) (w : World) (R : Value → World → Prop) : Prop :=
  ∀ (r : Nat) (wv : World), New w (.cells ⟨[(.bool d0), (.slice d1_p d1_n d1_c), (.int .i64 d2)]⟩ 60 (0, 0)) r wv →
  ∀ (r_1 : Nat) (wv_1 : World), New wv (.cells ⟨[(.bool e0), (.slice e1_p e1_n e1_c), (.int .i64 e2)]⟩ 60 (0, 0)) r_1 wv_1 →
  ∀ (r_2 : Nat) (wv_2 : World), New wv_1 (.cells ⟨[(.bool false), (.slice none 0 0)]⟩ 26 (0, 0)) r_2 wv_2 →
  ∀ (r_3 : Nat) (wv_3 : World), New wv_2 (.cells ⟨[(.bool false), (.slice none 0 0)]⟩ 26 (0, 0)) r_3 wv_3 →
  ∃ (t9 : Int), Loads P 3 ((⟨r, 0, none⟩ : Addr).add 2) (.int .i64 t9) wv_3 ∧ ∃ (t11 : Int), Loads P 3 ((⟨r_1, 0, none⟩ : Addr).add 2) (.int .i64 t11) wv_3 ∧ ((decide ((t9 : Int) < t11)) = true →
    ∃ (t15 : Int), Loads P 3 ((⟨r_1, 0, none⟩ : Addr).add 2) (.int .i64 t15) wv_3 ∧ spec_l07Both_j0 r r_1 r_2 r_3 t15 wv_3 R) ∧
  ((decide ((t9 : Int) < t11)) = false →
    spec_l07Both_j0 r r_1 r_2 r_3 t9 wv_3 R)
theorem spec_l07Both_eq (d0 : Bool) (d1_p : Option Addr) (d1_n : Nat) (d1_c : Nat) (d2 : Int) (e0 : Bool) (e1_p : Option Addr) (e1_n : Nat) (e1_c : Nat) (e2 : Int) (w : World) (R : Value → World → Prop) : spec_l07Both d0 d1_p d1_n d1_c d2 e0 e1_p e1_n e1_c e2 w R = fsem P Try.f88 (fun k => []) [(.agg #[(.bool d0), (.slice d1_p d1_n d1_c), (.int .i64 d2)]), (.agg #[(.bool e0), (.slice e1_p e1_n e1_c), (.int .i64 e2)])] R w := by kernel_rfl
theorem spec_l07Both_ret {d0 : Bool} {d1_p : Option Addr} {d1_n : Nat} {d1_c : Nat} {d2 : Int} {e0 : Bool} {e1_p : Option Addr} {e1_n : Nat} {e1_c : Nat} {e2 : Int} {w : World} {R : Value → World → Prop} (h : spec_l07Both d0 d1_p d1_n d1_c d2 e0 e1_p e1_n e1_c e2 w R) : Ret P 88 [(.agg #[(.bool d0), (.slice d1_p d1_n d1_c), (.int .i64 d2)]), (.agg #[(.bool e0), (.slice e1_p e1_n e1_c), (.int .i64 e2)])] w R :=
  Ret.of_fsem Try.func88 rfl (Eq.mp (spec_l07Both_eq d0 d1_p d1_n d1_c d2 e0 e1_p e1_n e1_c e2 w R) h)

def spec_l04Make (neg : Bool) (a_p : Option Addr) (a_n : Nat) (a_c : Nat) (w : World) (R : Value → World → Prop) : Prop :=
  ∀ (r : Nat) (wv : World), New w (.cells ⟨[(.bool false), (.slice none 0 0)]⟩ 26 (0, 0)) r wv →
  Calls P 105 ⟨[(.slice a_p a_n a_c)]⟩ wv fun e wv_1 =>
  ∃ (t7_p : Option Addr) (t7_n : Nat) (t7_c : Nat), e = .returned (.slice t7_p t7_n t7_c) ∧
  (neg = true →
    ∀ (r_1 : Nat) (wv_2 : World), New wv_1 (.cells ⟨[]⟩ 3 (0, 0)) r_1 wv_2 →
    ∃ (t16_p : Option Addr) (t16_n : Nat) (t16_c : Nat) (wv_3 : World), Appends P [24, 24] [(.slice (some ⟨r_1, 0, none⟩) 0 0), (.slice t7_p t7_n t7_c)] (.slice t16_p t16_n t16_c) wv_2 wv_3 ∧
    ∃ wv_4, Stores P 26 ⟨r, 0, none⟩ (.agg #[(.bool (decide ((0 : Int) < ((t7_n : Nat) : Int)))), (.slice t16_p t16_n t16_c)]) wv_3 wv_4 ∧
    ∃ (r0 : Bool) (r1_p : Option Addr) (r1_n : Nat) (r1_c : Nat), Loads P 26 ⟨r, 0, none⟩ (.agg #[(.bool r0), (.slice r1_p r1_n r1_c)]) wv_4 ∧ R (.agg #[(.bool r0), (.slice r1_p r1_n r1_c)]) wv_4) ∧
  (neg = false →
    ∀ (r_2 : Nat) (wv_5 : World), New wv_1 (.cells ⟨[]⟩ 3 (0, 0)) r_2 wv_5 →
    ∃ (t16_p_1 : Option Addr) (t16_n_1 : Nat) (t16_c_1 : Nat) (wv_6 : World), Appends P [24, 24] [(.slice (some ⟨r_2, 0, none⟩) 0 0), (.slice t7_p t7_n t7_c)] (.slice t16_p_1 t16_n_1 t16_c_1) wv_5 wv_6 ∧
    ∃ wv_7, Stores P 26 ⟨r, 0, none⟩ (.agg #[(.bool false), (.slice t16_p_1 t16_n_1 t16_c_1)]) wv_6 wv_7 ∧
    ∃ (r0_1 : Bool) (r1_p_1 : Option Addr) (r1_n_1 : Nat) (r1_c_1 : Nat), Loads P 26 ⟨r, 0, none⟩ (.agg #[(.bool r0_1), (.slice r1_p_1 r1_n_1 r1_c_1)]) wv_7 ∧ R (.agg #[(.bool r0_1), (.slice r1_p_1 r1_n_1 r1_c_1)]) wv_7)
theorem spec_l04Make_eq (neg : Bool) (a_p : Option Addr) (a_n : Nat) (a_c : Nat) (w : World) (R : Value → World → Prop) : spec_l04Make neg a_p a_n a_c w R = fsem P Try.f89 (fun k => []) [(.bool neg), (.slice a_p a_n a_c)] R w := by kernel_rfl
theorem spec_l04Make_ret {neg : Bool} {a_p : Option Addr} {a_n : Nat} {a_c : Nat} {w : World} {R : Value → World → Prop} (h : spec_l04Make neg a_p a_n a_c w R) : Ret P 89 [(.bool neg), (.slice a_p a_n a_c)] w R :=
  Ret.of_fsem Try.func89 rfl (Eq.mp (spec_l04Make_eq neg a_p a_n a_c w R) h)

def spec_NatOf (n : Int) (w : World) (R : Value → World → Prop) : Prop :=
  ∀ (r : Nat) (wv : World), New w (.cells ⟨[]⟩ 3 (0, 0)) r wv →
  ∃ (Inv : Int → Option Addr → Nat → Nat → World → Prop) (mu : Int → Option Addr → Nat → Nat → World → Nat), Inv n (some ⟨r, 0, none⟩) 0 0 wv ∧
  ∀ (junk : Fr) (wv_1 : World) (n_1 : Int) (out_p : Option Addr) (out_n : Nat) (out_c : Nat), Inv n_1 out_p out_n out_c wv_1 →
    ((decide ((0 : Int) < n_1)) = true →
      (1000000000 : Int) ≠ 0 ∧ ∃ t9 : Int, t9 = Int.tmod n_1 1000000000 ∧ ∀ (r_1 : Nat) (wv_2 : World), New wv_1 (.cells ⟨[(.int .i64 t9)]⟩ 3 (0, 0)) r_1 wv_2 →
      ∃ (t11_p : Option Addr) (t11_n : Nat) (t11_c : Nat) (wv_3 : World), Appends P [24, 24] [(.slice out_p out_n out_c), (.slice (some ⟨r_1, 0, none⟩) 1 1)] (.slice t11_p t11_n t11_c) wv_2 wv_3 ∧
      (1000000000 : Int) ≠ 0 ∧ ∃ t13 : Int, t13 = IntKind.wrap .i64 (Int.tdiv n_1 1000000000) ∧ Inv t13 t11_p t11_n t11_c wv_3 ∧ mu t13 t11_p t11_n t11_c wv_3 < mu n_1 out_p out_n out_c wv_1) ∧
    ((decide ((0 : Int) < n_1)) = false →
      R (.slice out_p out_n out_c) wv_1)
theorem spec_NatOf_eq (n : Int) (w : World) (R : Value → World → Prop) : spec_NatOf n w R = fsem P Try.f90 (fun k => cond (Nat.beq k 3) [(0, .one (.int .i64)), (3, .one .slice)] ([])) [(.int .i64 n)] R w := by kernel_rfl
theorem spec_NatOf_ret {n : Int} {w : World} {R : Value → World → Prop} (h : spec_NatOf n w R) : Ret P 90 [(.int .i64 n)] w R :=
  Ret.of_fsem Try.func90 rfl (Eq.mp (spec_NatOf_eq n w R) h)

def impl_isScale (scale : Int) (w : World) (R : Value → World → Prop) : Prop :=
  ((decide ((0 : Int) ≤ scale)) = true →
    R (.bool (decide ((scale : Int) ≤ 30))) w) ∧
  ((decide ((0 : Int) ≤ scale)) = false →
    R (.bool false) w)
theorem impl_isScale_eq (scale : Int) (w : World) (R : Value → World → Prop) : impl_isScale scale w R = fsem P Try.f91 (fun k => []) [(.int .i64 scale)] R w := by kernel_rfl
theorem impl_isScale_ret {scale : Int} {w : World} {R : Value → World → Prop} (h : impl_isScale scale w R) : Ret P 91 [(.int .i64 scale)] w R :=
  Ret.of_fsem Try.func91 rfl (Eq.mp (impl_isScale_eq scale w R) h)

def impl_scaled (scale : Int) (w : World) (R : Value → World → Prop) : Prop :=
  ∀ (r : Nat) (wv : World), New w (.cells ⟨[(.int .i64 scale)]⟩ 3 (0, 0)) r wv →
  R (.func (.func 106) #[] #[(.pointer (some ⟨r, 0, none⟩))]) wv
theorem impl_scaled_eq (scale : Int) (w : World) (R : Value → World → Prop) : impl_scaled scale w R = fsem P Try.f92 (fun k => []) [(.int .i64 scale)] R w := by kernel_rfl
theorem impl_scaled_ret {scale : Int} {w : World} {R : Value → World → Prop} (h : impl_scaled scale w R) : Ret P 92 [(.int .i64 scale)] w R :=
  Ret.of_fsem Try.func92 rfl (Eq.mp (impl_scaled_eq scale w R) h)

def impl_intCmp (x0 : Bool) (x1_p : Option Addr) (x1_n : Nat) (x1_c : Nat) (y0 : Bool) (y1_p : Option Addr) (y1_n : Nat) (y1_c : Nat) (w : World) (R : Value → World → Prop) : Prop :=
  ∀ (r : Nat) (wv : World), New w (.cells ⟨[(.bool x0), (.slice x1_p x1_n x1_c)]⟩ 26 (0, 0)) r wv →
  ∀ (r_1 : Nat) (wv_1 : World), New wv (.cells ⟨[(.bool y0), (.slice y1_p y1_n y1_c)]⟩ 26 (0, 0)) r_1 wv_1 →
  ∃ (t50 : Bool) (t51_p : Option Addr) (t51_n : Nat) (t51_c : Nat), (∀ wv_2, Ext wv_1.drew wv_2 → Loads P 26 ⟨r, 0, none⟩ (.agg #[(.bool t50), (.slice t51_p t51_n t51_c)]) wv_2) ∧ ∃ (t60 : Bool) (t61_p : Option Addr) (t61_n : Nat) (t61_c : Nat), (∀ wv_3, Ext wv_1.drew wv_3 → Loads P 26 ⟨r_1, 0, none⟩ (.agg #[(.bool t60), (.slice t61_p t61_n t61_c)]) wv_3) ∧ Calls P 112 ⟨[(.agg #[(.bool t60), (.slice t61_p t61_n t61_c)])]⟩ wv_1.drew fun e wv_4 =>
  ∃ (t70 : Bool) (t71_p : Option Addr) (t71_n : Nat) (t71_c : Nat), e = .returned (.agg #[(.bool t70), (.slice t71_p t71_n t71_c)]) ∧
  Ext wv_1.drew wv_4 ∧ Calls P 111 ⟨[(.agg #[(.bool t50), (.slice t51_p t51_n t51_c)]), (.agg #[(.bool t70), (.slice t71_p t71_n t71_c)])]⟩ wv_4 fun e_1 wv_5 =>
  ∃ (t80 : Bool) (t81_p : Option Addr) (t81_n : Nat) (t81_c : Nat), e_1 = .returned (.agg #[(.bool t80), (.slice t81_p t81_n t81_c)]) ∧
  Calls P 110 ⟨[(.agg #[(.bool t80), (.slice t81_p t81_n t81_c)])]⟩ wv_5 fun e_2 wv_6 =>
  ∃ (t9 : Int), e_2 = .returned (.int .i64 t9) ∧
  R (.int .i64 t9) wv_6
theorem impl_intCmp_eq (x0 : Bool) (x1_p : Option Addr) (x1_n : Nat) (x1_c : Nat) (y0 : Bool) (y1_p : Option Addr) (y1_n : Nat) (y1_c : Nat) (w : World) (R : Value → World → Prop) : impl_intCmp x0 x1_p x1_n x1_c y0 y1_p y1_n y1_c w R = fsem P Try.f93 (fun k => []) [(.agg #[(.bool x0), (.slice x1_p x1_n x1_c)]), (.agg #[(.bool y0), (.slice y1_p y1_n y1_c)])] R w := by kernel_rfl
theorem impl_intCmp_ret {x0 : Bool} {x1_p : Option Addr} {x1_n : Nat} {x1_c : Nat} {y0 : Bool} {y1_p : Option Addr} {y1_n : Nat} {y1_c : Nat} {w : World} {R : Value → World → Prop} (h : impl_intCmp x0 x1_p x1_n x1_c y0 y1_p y1_n y1_c w R) : Ret P 93 [(.agg #[(.bool x0), (.slice x1_p x1_n x1_c)]), (.agg #[(.bool y0), (.slice y1_p y1_n y1_c)])] w R :=
  Ret.of_fsem Try.func93 rfl (Eq.mp (impl_intCmp_eq x0 x1_p x1_n x1_c y0 y1_p y1_n y1_c w R) h)

def impl_natOf (n : Int) (w : World) (R : Value → World → Prop) : Prop :=
  ∀ (r : Nat) (wv : World), New w (.cells ⟨[]⟩ 3 (0, 0)) r wv →
  ∃ (Inv : Int → Option Addr → Nat → Nat → World → Prop) (mu : Int → Option Addr → Nat → Nat → World → Nat), Inv n (some ⟨r, 0, none⟩) 0 0 wv ∧
  ∀ (junk : Fr) (wv_1 : World) (n_1 : Int) (a_p : Option Addr) (a_n : Nat) (a_c : Nat), Inv n_1 a_p a_n a_c wv_1 →
    ((decide ((0 : Int) < n_1)) = true →
      (1000000000 : Int) ≠ 0 ∧ ∃ t9 : Int, t9 = Int.tmod n_1 1000000000 ∧ ∃ t10 : Int, t10 = IntKind.wrap .i64 t9 ∧ ∀ (r_1 : Nat) (wv_2 : World), New wv_1 (.cells ⟨[(.int .i64 t10)]⟩ 3 (0, 0)) r_1 wv_2 →
      ∃ (t12_p : Option Addr) (t12_n : Nat) (t12_c : Nat) (wv_3 : World), Appends P [24, 24] [(.slice a_p a_n a_c), (.slice (some ⟨r_1, 0, none⟩) 1 1)] (.slice t12_p t12_n t12_c) wv_2 wv_3 ∧
      (1000000000 : Int) ≠ 0 ∧ ∃ t14 : Int, t14 = IntKind.wrap .u64 (Int.tdiv n_1 1000000000) ∧ Inv t14 t12_p t12_n t12_c wv_3 ∧ mu t14 t12_p t12_n t12_c wv_3 < mu n_1 a_p a_n a_c wv_1) ∧
    ((decide ((0 : Int) < n_1)) = false →
      R (.slice a_p a_n a_c) wv_1)
theorem impl_natOf_eq (n : Int) (w : World) (R : Value → World → Prop) : impl_natOf n w R = fsem P Try.f94 (fun k => cond (Nat.beq k 3) [(0, .one (.int .u64)), (3, .one .slice)] ([])) [(.int .u64 n)] R w := by kernel_rfl
theorem impl_natOf_ret {n : Int} {w : World} {R : Value → World → Prop} (h : impl_natOf n w R) : Ret P 94 [(.int .u64 n)] w R :=
  Ret.of_fsem Try.func94 rfl (Eq.mp (impl_natOf_eq n w R) h)

def spec_NatOk (a_p : Option Addr) (a_n : Nat) (a_c : Nat) (w : World) (R : Value → World → Prop) : Prop :=
  ∃ (Inv : Int → World → Prop) (mu : Int → World → Nat), Inv 0 w ∧
  ∀ (junk : Fr) (wv : World) (t7 : Int), Inv t7 wv →
    ((decide ((t7 : Int) < ((a_n : Nat) : Int))) = true →
      (0 ≤ (t7 : Int) ∧ (t7 : Int) < (a_n : Nat)) ∧ ptrS a_p fun ad => ∃ (t10 : Int), Loads P 3 (ad.add (t7.toNat * 1)) (.int .i64 t10) wv ∧ Calls P 69 ⟨[(.int .i64 t10), (.int .i64 0), (.int .i64 999999999)]⟩ wv fun e wv_1 =>
      ∃ (t12 : Bool), e = .returned (.bool t12) ∧
      ((!t12) = true →
        R (.bool false) wv_1) ∧
      ((!t12) = false →
        ∃ t14 : Int, t14 = IntKind.wrap .i64 (t7 + 1) ∧ Inv t14 wv_1 ∧ mu t14 wv_1 < mu t7 wv)) ∧
    ((decide ((t7 : Int) < ((a_n : Nat) : Int))) = false →
      ((decide ((((a_n : Nat) : Int) : Int) ≤ 50)) = true →
        ((decide ((((a_n : Nat) : Int) : Int) = 0)) = true →
          R (.bool true) wv) ∧
        ((decide ((((a_n : Nat) : Int) : Int) = 0)) = false →
          ∃ t26 : Int, t26 = IntKind.wrap .i64 (((a_n : Nat) : Int) - 1) ∧ (0 ≤ (t26 : Int) ∧ (t26 : Int) < (a_n : Nat)) ∧ ptrS a_p fun ad_1 => ∃ (t28 : Int), Loads P 3 (ad_1.add (t26.toNat * 1)) (.int .i64 t28) wv ∧ R (.bool (decide ((t28 : Int) ≠ 0))) wv)) ∧
      ((decide ((((a_n : Nat) : Int) : Int) ≤ 50)) = false →
        R (.bool false) wv))
theorem spec_NatOk_eq (a_p : Option Addr) (a_n : Nat) (a_c : Nat) (w : World) (R : Value → World → Prop) : spec_NatOk a_p a_n a_c w R = fsem P Try.f95 (fun k => cond (Nat.beq k 3) [(7, .one (.int .i64))] ([])) [(.slice a_p a_n a_c)] R w := by kernel_rfl
theorem spec_NatOk_ret {a_p : Option Addr} {a_n : Nat} {a_c : Nat} {w : World} {R : Value → World → Prop} (h : spec_NatOk a_p a_n a_c w R) : Ret P 95 [(.slice a_p a_n a_c)] w R :=
  Ret.of_fsem Try.func95 rfl (Eq.mp (spec_NatOk_eq a_p a_n a_c w R) h)

def spec_l02Cmp (a_p : Option Addr) (a_n : Nat) (a_c : Nat) (b_p : Option Addr) (b_n : Nat) (b_c : Nat) (w : World) (R : Value → World → Prop) : Prop :=
  ((decide ((((a_n : Nat) : Int) : Int) ≠ ((b_n : Nat) : Int))) = true →
    ((decide ((((a_n : Nat) : Int) : Int) < ((b_n : Nat) : Int))) = true →
      R (.int .i64 (-1)) w) ∧
    ((decide ((((a_n : Nat) : Int) : Int) < ((b_n : Nat) : Int))) = false →
      R (.int .i64 1) w)) ∧
  ((decide ((((a_n : Nat) : Int) : Int) ≠ ((b_n : Nat) : Int))) = false →
    ∃ t18 : Int, t18 = IntKind.wrap .i64 (((a_n : Nat) : Int) - 1) ∧ ∃ (Inv : Int → World → Prop) (mu : Int → World → Nat), Inv t18 w ∧
    ∀ (junk : Fr) (wv : World) (i : Int), Inv i wv →
      ((decide ((0 : Int) ≤ i)) = true →
        (0 ≤ (i : Int) ∧ (i : Int) < (a_n : Nat)) ∧ ptrS a_p fun ad => ∃ (t26 : Int), (∀ wv_1, Ext wv.drew wv_1 → Loads P 3 (ad.add (i.toNat * 1)) (.int .i64 t26) wv_1) ∧ (0 ≤ (i : Int) ∧ (i : Int) < (b_n : Nat)) ∧ ptrS b_p fun ad_1 => ∃ (t30 : Int), (∀ wv_2, Ext wv.drew wv_2 → Loads P 3 (ad_1.add (i.toNat * 1)) (.int .i64 t30) wv_2) ∧ ((decide ((t26 : Int) < t30)) = true →
          R (.int .i64 (-1)) wv.drew) ∧
        ((decide ((t26 : Int) < t30)) = false →
          (0 ≤ (i : Int) ∧ (i : Int) < (a_n : Nat)) ∧ ptrS a_p fun ad_2 => ∃ (t35 : Int), (∀ wv_3, Ext wv.drew.drew wv_3 → Loads P 3 (ad_2.add (i.toNat * 1)) (.int .i64 t35) wv_3) ∧ (0 ≤ (i : Int) ∧ (i : Int) < (b_n : Nat)) ∧ ptrS b_p fun ad_3 => ∃ (t39 : Int), (∀ wv_4, Ext wv.drew.drew wv_4 → Loads P 3 (ad_3.add (i.toNat * 1)) (.int .i64 t39) wv_4) ∧ ((decide ((t39 : Int) < t35)) = true →
            R (.int .i64 1) wv.drew.drew) ∧
          ((decide ((t39 : Int) < t35)) = false →
            ∃ t22 : Int, t22 = IntKind.wrap .i64 (i - 1) ∧ Inv t22 wv.drew.drew ∧ mu t22 wv.drew.drew < mu i wv))) ∧
      ((decide ((0 : Int) ≤ i)) = false →
        R (.int .i64 0) wv))
theorem spec_l02Cmp_eq (a_p : Option Addr) (a_n : Nat) (a_c : Nat) (b_p : Option Addr) (b_n : Nat) (b_c : Nat) (w : World) (R : Value → World → Prop) : spec_l02Cmp a_p a_n a_c b_p b_n b_c w R = fsem P Try.f96 (fun k => cond (Nat.beq k 7) [(5, .one (.int .i64))] ([])) [(.slice a_p a_n a_c), (.slice b_p b_n b_c)] R w := by kernel_rfl
theorem spec_l02Cmp_ret {a_p : Option Addr} {a_n : Nat} {a_c : Nat} {b_p : Option Addr} {b_n : Nat} {b_c : Nat} {w : World} {R : Value → World → Prop} (h : spec_l02Cmp a_p a_n a_c b_p b_n b_c w R) : Ret P 96 [(.slice a_p a_n a_c), (.slice b_p b_n b_c)] w R :=
  Ret.of_fsem Try.func96 rfl (Eq.mp (spec_l02Cmp_eq a_p a_n a_c b_p b_n b_c w R) h)

def impl_NatOk_j0 (a_p : Option Addr) (a_n : Nat) (W : World) (R : Value → World → Prop) : Prop :=
  ∃ (Inv : Int → World → Prop) (mu : Int → World → Nat), Inv 0 W ∧
  ∀ (junk : Fr) (wv : World) (t24 : Int), Inv t24 wv →
    ((decide ((t24 : Int) < ((a_n : Nat) : Int))) = true →
      (0 ≤ (t24 : Int) ∧ (t24 : Int) < (a_n : Nat)) ∧ ptrS a_p fun ad => ∃ (t27 : Int), Loads P 3 (ad.add (t24.toNat * 1)) (.int .i64 t27) wv ∧ ((decide ((t27 : Int) < 0)) = true →
        (true = true →
          R (.bool false) wv) ∧
        (true = false →
          ∃ t34 : Int, t34 = IntKind.wrap .i64 (t24 + 1) ∧ Inv t34 wv ∧ mu t34 wv < mu t24 wv)) ∧
      ((decide ((t27 : Int) < 0)) = false →
        ((decide ((1000000000 : Int) ≤ t27)) = true →
          R (.bool false) wv) ∧
        ((decide ((1000000000 : Int) ≤ t27)) = false →
          ∃ t34_1 : Int, t34_1 = IntKind.wrap .i64 (t24 + 1) ∧ Inv t34_1 wv ∧ mu t34_1 wv < mu t24 wv))) ∧
    ((decide ((t24 : Int) < ((a_n : Nat) : Int))) = false →
      R (.bool true) wv)
def impl_NatOk (a_p : Option Addr) (a_n : Nat) (a_c : Nat) (w : World) (R : Value → World → Prop) : Prop :=
  ((decide ((50 : Int) < ((a_n : Nat) : Int))) = true →
    (true = true →
      R (.bool false) w) ∧
    (true = false →
      impl_NatOk_j0 a_p a_n w R)) ∧
  ((decide ((50 : Int) < ((a_n : Nat) : Int))) = false →
    ((decide ((0 : Int) < ((a_n : Nat) : Int))) = true →
      ∃ t16 : Int, t16 = IntKind.wrap .i64 (((a_n : Nat) : Int) - 1) ∧ (0 ≤ (t16 : Int) ∧ (t16 : Int) < (a_n : Nat)) ∧ ptrS a_p fun ad_1 => ∃ (t18 : Int), Loads P 3 (ad_1.add (t16.toNat * 1)) (.int .i64 t18) w ∧ ((decide ((t18 : Int) = 0)) = true →
        R (.bool false) w) ∧
      ((decide ((t18 : Int) = 0)) = false →
        impl_NatOk_j0 a_p a_n w R)) ∧
    ((decide ((0 : Int) < ((a_n : Nat) : Int))) = false →
      (false = true →
        R (.bool false) w) ∧
      (false = false →
        impl_NatOk_j0 a_p a_n w R)))
theorem impl_NatOk_eq (a_p : Option Addr) (a_n : Nat) (a_c : Nat) (w : World) (R : Value → World → Prop) : impl_NatOk a_p a_n a_c w R = fsem P Try.f97 (fun k => cond (Nat.beq k 5) [(24, .one (.int .i64))] ([])) [(.slice a_p a_n a_c)] R w := by kernel_rfl
theorem impl_NatOk_ret {a_p : Option Addr} {a_n : Nat} {a_c : Nat} {w : World} {R : Value → World → Prop} (h : impl_NatOk a_p a_n a_c w R) : Ret P 97 [(.slice a_p a_n a_c)] w R :=
  Ret.of_fsem Try.func97 rfl (Eq.mp (impl_NatOk_eq a_p a_n a_c w R) h)

def impl_stepsTo_1 (yield : Value) (cap0 : Option Addr) (cap1 : Option Addr) (w : World) (R : Value → World → Prop) : Prop :=
  ptrS cap0 fun ad => ∃ (t6_p : Option Addr) (t6_n : Nat) (t6_c : Nat), Loads P 67 ad (.slice t6_p t6_n t6_c) w ∧ ∃ (Inv : Int → World → Prop) (mu : Int → World → Nat), Inv 0 w ∧
  ∀ (junk : Fr) (wv : World) (t8 : Int), Inv t8 wv →
    ((decide ((t8 : Int) < ((t6_n : Nat) : Int))) = true →
      (0 ≤ (t8 : Int) ∧ (t8 : Int) < (t6_n : Nat)) ∧ ptrS t6_p fun ad_1 => ∃ (t120 : Int) (t121 : Bool) (t122_p : Option Addr) (t122_n : Nat) (t122_c : Nat) (t123 : Int), Loads P 106 (ad_1.add (t8.toNat * 4)) (.agg #[(.int .i64 t120), (.bool t121), (.slice t122_p t122_n t122_c), (.int .i64 t123)]) wv ∧ ∀ (r : Nat) (wv_1 : World), New wv (.cells ⟨[(.int .i64 0), (.bool false), (.slice none 0 0), (.int .i64 0)]⟩ 106 (0, 0)) r wv_1 →
      ∃ wv_2, Stores P 106 ⟨r, 0, none⟩ (.agg #[(.int .i64 t120), (.bool t121), (.slice t122_p t122_n t122_c), (.int .i64 t123)]) wv_1 wv_2 ∧
      ∃ (t14 : Int), (∀ wv_3, Ext wv_2.drew wv_3 → Loads P 3 ((⟨r, 0, none⟩ : Addr).add 0) (.int .i64 t14) wv_3) ∧ Calls P 100 ⟨[(.int .i64 t14)]⟩ wv_2.drew fun e wv_4 =>
      ∃ (t15_p : Option Addr) (t15_n : Nat) (t15_c : Nat), e = .returned (.slice t15_p t15_n t15_c) ∧
      Ext wv_2.drew wv_4 ∧ ptrS cap1 fun ad_2 => ∃ (t16_p : Option Addr) (t16_n : Nat) (t16_c : Nat), (∀ wv_5, Ext wv_2.drew wv_5 → Loads P 24 ad_2 (.slice t16_p t16_n t16_c) wv_5) ∧ Calls P 99 ⟨[(.slice t15_p t15_n t15_c), (.slice t16_p t16_n t16_c)]⟩ wv_4 fun e_1 wv_6 =>
      ∃ (t17 : Int), e_1 = .returned (.int .i64 t17) ∧
      ((decide ((0 : Int) < t17)) = true →
        (true = true →
          R (.tuple #[]) wv_6) ∧
        (true = false →
          ∃ t26 : Int, t26 = IntKind.wrap .i64 (t8 + 1) ∧ Inv t26 wv_6 ∧ mu t26 wv_6 < mu t8 wv)) ∧
      ((decide ((0 : Int) < t17)) = false →
        ∃ (t220 : Int) (t221 : Bool) (t222_p : Option Addr) (t222_n : Nat) (t222_c : Nat) (t223 : Int), (∀ wv_7, Ext wv_6 wv_7 → Loads P 106 ⟨r, 0, none⟩ (.agg #[(.int .i64 t220), (.bool t221), (.slice t222_p t222_n t222_c), (.int .i64 t223)]) wv_7) ∧ CallW P yield [(.int .i64 t8), (.agg #[(.int .i64 t220), (.bool t221), (.slice t222_p t222_n t222_c), (.int .i64 t223)])] wv_6 fun e_2 wv_8 =>
        ∃ (t23 : Bool), e_2 = .returned (.bool t23) ∧
        ((!t23) = true →
          R (.tuple #[]) wv_8) ∧
        ((!t23) = false →
          ∃ t26_1 : Int, t26_1 = IntKind.wrap .i64 (t8 + 1) ∧ Inv t26_1 wv_8 ∧ mu t26_1 wv_8 < mu t8 wv))) ∧
    ((decide ((t8 : Int) < ((t6_n : Nat) : Int))) = false →
      R (.tuple #[]) wv)
theorem impl_stepsTo_1_eq (yield : Value) (cap0 : Option Addr) (cap1 : Option Addr) (w : World) (R : Value → World → Prop) : impl_stepsTo_1 yield cap0 cap1 w R = fsem P Try.f98 (fun k => cond (Nat.beq k 2) [(8, .one (.int .i64))] ([])) [yield, (.pointer cap0), (.pointer cap1)] R w := by kernel_rfl
theorem impl_stepsTo_1_ret {yield : Value} {cap0 : Option Addr} {cap1 : Option Addr} {w : World} {R : Value → World → Prop} (h : impl_stepsTo_1 yield cap0 cap1 w R) : Ret P 98 [yield, (.pointer cap0), (.pointer cap1)] w R :=
  Ret.of_fsem Try.func98 rfl (Eq.mp (impl_stepsTo_1_eq yield cap0 cap1 w R) h)

def impl_natCmp (a_p : Option Addr) (a_n : Nat) (a_c : Nat) (b_p : Option Addr) (b_n : Nat) (b_c : Nat) (w : World) (R : Value → World → Prop) : Prop :=
  ((decide ((((a_n : Nat) : Int) : Int) ≠ ((b_n : Nat) : Int))) = true →
    ((decide ((((a_n : Nat) : Int) : Int) < ((b_n : Nat) : Int))) = true →
      R (.int .i64 (-1)) w) ∧
    ((decide ((((a_n : Nat) : Int) : Int) < ((b_n : Nat) : Int))) = false →
      R (.int .i64 1) w)) ∧
  ((decide ((((a_n : Nat) : Int) : Int) ≠ ((b_n : Nat) : Int))) = false →
    ∃ t18 : Int, t18 = IntKind.wrap .i64 (((a_n : Nat) : Int) - 1) ∧ ∃ (Inv : Int → World → Prop) (mu : Int → World → Nat), Inv t18 w ∧
    ∀ (junk : Fr) (wv : World) (i : Int), Inv i wv →
      ((decide ((0 : Int) ≤ i)) = true →
        (0 ≤ (i : Int) ∧ (i : Int) < (a_n : Nat)) ∧ ptrS a_p fun ad => ∃ (t26 : Int), (∀ wv_1, Ext wv.drew wv_1 → Loads P 3 (ad.add (i.toNat * 1)) (.int .i64 t26) wv_1) ∧ (0 ≤ (i : Int) ∧ (i : Int) < (b_n : Nat)) ∧ ptrS b_p fun ad_1 => ∃ (t30 : Int), (∀ wv_2, Ext wv.drew wv_2 → Loads P 3 (ad_1.add (i.toNat * 1)) (.int .i64 t30) wv_2) ∧ ((decide ((t26 : Int) ≠ t30)) = true →
          (0 ≤ (i : Int) ∧ (i : Int) < (a_n : Nat)) ∧ ptrS a_p fun ad_2 => ∃ (t35 : Int), (∀ wv_3, Ext wv.drew.drew wv_3 → Loads P 3 (ad_2.add (i.toNat * 1)) (.int .i64 t35) wv_3) ∧ (0 ≤ (i : Int) ∧ (i : Int) < (b_n : Nat)) ∧ ptrS b_p fun ad_3 => ∃ (t39 : Int), (∀ wv_4, Ext wv.drew.drew wv_4 → Loads P 3 (ad_3.add (i.toNat * 1)) (.int .i64 t39) wv_4) ∧ ((decide ((t35 : Int) < t39)) = true →
            R (.int .i64 (-1)) wv.drew.drew) ∧
          ((decide ((t35 : Int) < t39)) = false →
            R (.int .i64 1) wv.drew.drew)) ∧
        ((decide ((t26 : Int) ≠ t30)) = false →
          ∃ t22 : Int, t22 = IntKind.wrap .i64 (i - 1) ∧ Inv t22 wv.drew ∧ mu t22 wv.drew < mu i wv)) ∧
      ((decide ((0 : Int) ≤ i)) = false →
        R (.int .i64 0) wv))
theorem impl_natCmp_eq (a_p : Option Addr) (a_n : Nat) (a_c : Nat) (b_p : Option Addr) (b_n : Nat) (b_c : Nat) (w : World) (R : Value → World → Prop) : impl_natCmp a_p a_n a_c b_p b_n b_c w R = fsem P Try.f99 (fun k => cond (Nat.beq k 7) [(5, .one (.int .i64))] ([])) [(.slice a_p a_n a_c), (.slice b_p b_n b_c)] R w := by kernel_rfl
theorem impl_natCmp_ret {a_p : Option Addr} {a_n : Nat} {a_c : Nat} {b_p : Option Addr} {b_n : Nat} {b_c : Nat} {w : World} {R : Value → World → Prop} (h : impl_natCmp a_p a_n a_c b_p b_n b_c w R) : Ret P 99 [(.slice a_p a_n a_c), (.slice b_p b_n b_c)] w R :=
  Ret.of_fsem Try.func99 rfl (Eq.mp (impl_natCmp_eq a_p a_n a_c b_p b_n b_c w R) h)

def impl_NatOf (n : Int) (w : World) (R : Value → World → Prop) : Prop :=
  ((decide ((n : Int) < 0)) = true →
    R (.slice none 0 0) w) ∧
  ((decide ((n : Int) < 0)) = false →
    ∃ t6 : Int, t6 = IntKind.wrap .u64 n ∧ Calls P 94 ⟨[(.int .u64 t6)]⟩ w fun e wv =>
    ∃ (t7_p : Option Addr) (t7_n : Nat) (t7_c : Nat), e = .returned (.slice t7_p t7_n t7_c) ∧
    R (.slice t7_p t7_n t7_c) wv)
theorem impl_NatOf_eq (n : Int) (w : World) (R : Value → World → Prop) : impl_NatOf n w R = fsem P Try.f100 (fun k => []) [(.int .i64 n)] R w := by kernel_rfl
theorem impl_NatOf_ret {n : Int} {w : World} {R : Value → World → Prop} (h : impl_NatOf n w R) : Ret P 100 [(.int .i64 n)] w R :=
  Ret.of_fsem Try.func100 rfl (Eq.mp (impl_NatOf_eq n w R) h)

def spec_IntMul (x0 : Bool) (x1_p : Option Addr) (x1_n : Nat) (x1_c : Nat) (y0 : Bool) (y1_p : Option Addr) (y1_n : Nat) (y1_c : Nat) (w : World) (R : Value → World → Prop) : Prop :=
  ∀ (r : Nat) (wv : World), New w (.cells ⟨[(.bool x0), (.slice x1_p x1_n x1_c)]⟩ 26 (0, 0)) r wv →
  ∀ (r_1 : Nat) (wv_1 : World), New wv (.cells ⟨[(.bool y0), (.slice y1_p y1_n y1_c)]⟩ 26 (0, 0)) r_1 wv_1 →
  ∀ (r_2 : Nat) (wv_2 : World), New wv_1 (.cells ⟨[(.bool false), (.slice none 0 0)]⟩ 26 (0, 0)) r_2 wv_2 →
  ∃ (t50 : Bool) (t51_p : Option Addr) (t51_n : Nat) (t51_c : Nat), Loads P 26 ⟨r, 0, none⟩ (.agg #[(.bool t50), (.slice t51_p t51_n t51_c)]) wv_2 ∧ Calls P 73 ⟨[(.agg #[(.bool t50), (.slice t51_p t51_n t51_c)])]⟩ wv_2 fun e wv_3 =>
  ∃ (t6 : Bool), e = .returned (.bool t6) ∧
  ((!t6) = true →
    (true = true →
      ∃ wv_4, Stores P 26 ⟨r_2, 0, none⟩ (.agg #[(.bool false), (.slice none 0 0)]) wv_3 wv_4 ∧
      ∃ (r0 : Bool) (r1_p : Option Addr) (r1_n : Nat) (r1_c : Nat), Loads P 26 ⟨r_2, 0, none⟩ (.agg #[(.bool r0), (.slice r1_p r1_n r1_c)]) wv_4 ∧ R (.agg #[(.bool r0), (.slice r1_p r1_n r1_c)]) wv_4) ∧
    (true = false →
      ∃ (t15 : Bool), (∀ wv_5, Ext wv_3.drew wv_5 → Loads P 4 ((⟨r, 0, none⟩ : Addr).add 0) (.bool t15) wv_5) ∧ ∃ (t17 : Bool), (∀ wv_6, Ext wv_3.drew wv_6 → Loads P 4 ((⟨r_1, 0, none⟩ : Addr).add 0) (.bool t17) wv_6) ∧ ∃ (t20_p : Option Addr) (t20_n : Nat) (t20_c : Nat), (∀ wv_7, Ext wv_3.drew wv_7 → Loads P 24 ((⟨r, 0, none⟩ : Addr).add 1) (.slice t20_p t20_n t20_c) wv_7) ∧ ∃ (t22_p : Option Addr) (t22_n : Nat) (t22_c : Nat), (∀ wv_8, Ext wv_3.drew wv_8 → Loads P 24 ((⟨r_1, 0, none⟩ : Addr).add 1) (.slice t22_p t22_n t22_c) wv_8) ∧ Calls P 113 ⟨[(.slice t20_p t20_n t20_c), (.slice t22_p t22_n t22_c)]⟩ wv_3.drew fun e_1 wv_9 =>
      ∃ (t23_p : Option Addr) (t23_n : Nat) (t23_c : Nat), e_1 = .returned (.slice t23_p t23_n t23_c) ∧
      Ext wv_3.drew wv_9 ∧ Calls P 89 ⟨[(.bool (!(t15 == t17))), (.slice t23_p t23_n t23_c)]⟩ wv_9 fun e_2 wv_10 =>
      ∃ (t240 : Bool) (t241_p : Option Addr) (t241_n : Nat) (t241_c : Nat), e_2 = .returned (.agg #[(.bool t240), (.slice t241_p t241_n t241_c)]) ∧
      ∃ wv_11, Stores P 26 ⟨r_2, 0, none⟩ (.agg #[(.bool t240), (.slice t241_p t241_n t241_c)]) wv_10 wv_11 ∧
      ∃ (r0_1 : Bool) (r1_p_1 : Option Addr) (r1_n_1 : Nat) (r1_c_1 : Nat), Loads P 26 ⟨r_2, 0, none⟩ (.agg #[(.bool r0_1), (.slice r1_p_1 r1_n_1 r1_c_1)]) wv_11 ∧ R (.agg #[(.bool r0_1), (.slice r1_p_1 r1_n_1 r1_c_1)]) wv_11)) ∧
  ((!t6) = false →
    ∃ (t90 : Bool) (t91_p : Option Addr) (t91_n : Nat) (t91_c : Nat), Loads P 26 ⟨r_1, 0, none⟩ (.agg #[(.bool t90), (.slice t91_p t91_n t91_c)]) wv_3 ∧ Calls P 73 ⟨[(.agg #[(.bool t90), (.slice t91_p t91_n t91_c)])]⟩ wv_3 fun e_3 wv_12 =>
    ∃ (t10 : Bool), e_3 = .returned (.bool t10) ∧
    ((!t10) = true →
      ∃ wv_13, Stores P 26 ⟨r_2, 0, none⟩ (.agg #[(.bool false), (.slice none 0 0)]) wv_12 wv_13 ∧
      ∃ (r0_2 : Bool) (r1_p_2 : Option Addr) (r1_n_2 : Nat) (r1_c_2 : Nat), Loads P 26 ⟨r_2, 0, none⟩ (.agg #[(.bool r0_2), (.slice r1_p_2 r1_n_2 r1_c_2)]) wv_13 ∧ R (.agg #[(.bool r0_2), (.slice r1_p_2 r1_n_2 r1_c_2)]) wv_13) ∧
    ((!t10) = false →
      ∃ (t15_1 : Bool), (∀ wv_14, Ext wv_12.drew wv_14 → Loads P 4 ((⟨r, 0, none⟩ : Addr).add 0) (.bool t15_1) wv_14) ∧ ∃ (t17_1 : Bool), (∀ wv_15, Ext wv_12.drew wv_15 → Loads P 4 ((⟨r_1, 0, none⟩ : Addr).add 0) (.bool t17_1) wv_15) ∧ ∃ (t20_p_1 : Option Addr) (t20_n_1 : Nat) (t20_c_1 : Nat), (∀ wv_16, Ext wv_12.drew wv_16 → Loads P 24 ((⟨r, 0, none⟩ : Addr).add 1) (.slice t20_p_1 t20_n_1 t20_c_1) wv_16) ∧ ∃ (t22_p_1 : Option Addr) (t22_n_1 : Nat) (t22_c_1 : Nat), (∀ wv_17, Ext wv_12.drew wv_17 → Loads P 24 ((⟨r_1, 0, none⟩ : Addr).add 1) (.slice t22_p_1 t22_n_1 t22_c_1) wv_17) ∧ Calls P 113 ⟨[(.slice t20_p_1 t20_n_1 t20_c_1), (.slice t22_p_1 t22_n_1 t22_c_1)]⟩ wv_12.drew fun e_4 wv_18 =>
      ∃ (t23_p_1 : Option Addr) (t23_n_1 : Nat) (t23_c_1 : Nat), e_4 = .returned (.slice t23_p_1 t23_n_1 t23_c_1) ∧
      Ext wv_12.drew wv_18 ∧ Calls P 89 ⟨[(.bool (!(t15_1 == t17_1))), (.slice t23_p_1 t23_n_1 t23_c_1)]⟩ wv_18 fun e_5 wv_19 =>
      ∃ (t240_1 : Bool) (t241_p_1 : Option Addr) (t241_n_1 : Nat) (t241_c_1 : Nat), e_5 = .returned (.agg #[(.bool t240_1), (.slice t241_p_1 t241_n_1 t241_c_1)]) ∧
      ∃ wv_20, Stores P 26 ⟨r_2, 0, none⟩ (.agg #[(.bool t240_1), (.slice t241_p_1 t241_n_1 t241_c_1)]) wv_19 wv_20 ∧
      ∃ (r0_3 : Bool) (r1_p_3 : Option Addr) (r1_n_3 : Nat) (r1_c_3 : Nat), Loads P 26 ⟨r_2, 0, none⟩ (.agg #[(.bool r0_3), (.slice r1_p_3 r1_n_3 r1_c_3)]) wv_20 ∧ R (.agg #[(.bool r0_3), (.slice r1_p_3 r1_n_3 r1_c_3)]) wv_20))
theorem spec_IntMul_eq (x0 : Bool) (x1_p : Option Addr) (x1_n : Nat) (x1_c : Nat) (y0 : Bool) (y1_p : Option Addr) (y1_n : Nat) (y1_c : Nat) (w : World) (R : Value → World → Prop) : spec_IntMul x0 x1_p x1_n x1_c y0 y1_p y1_n y1_c w R = fsem P Try.f103 (fun k => []) [(.agg #[(.bool x0), (.slice x1_p x1_n x1_c)]), (.agg #[(.bool y0), (.slice y1_p y1_n y1_c)])] R w := by kernel_rfl
theorem spec_IntMul_ret {x0 : Bool} {x1_p : Option Addr} {x1_n : Nat} {x1_c : Nat} {y0 : Bool} {y1_p : Option Addr} {y1_n : Nat} {y1_c : Nat} {w : World} {R : Value → World → Prop} (h : spec_IntMul x0 x1_p x1_n x1_c y0 y1_p y1_n y1_c w R) : Ret P 103 [(.agg #[(.bool x0), (.slice x1_p x1_n x1_c)]), (.agg #[(.bool y0), (.slice y1_p y1_n y1_c)])] w R :=
  Ret.of_fsem Try.func103 rfl (Eq.mp (spec_IntMul_eq x0 x1_p x1_n x1_c y0 y1_p y1_n y1_c w R) h)

def spec_l07Ten (k : Int) (w : World) (R : Value → World → Prop) : Prop :=
  ∀ (r : Nat) (wv : World), New w (.cells ⟨[(.bool false), (.slice none 0 0)]⟩ 26 (0, 0)) r wv →
  Calls P 114 ⟨[(.int .i64 k)]⟩ wv fun e wv_1 =>
  ∃ (t4_p : Option Addr) (t4_n : Nat) (t4_c : Nat), e = .returned (.slice t4_p t4_n t4_c) ∧
  ∃ wv_2, Stores P 26 ⟨r, 0, none⟩ (.agg #[(.bool false), (.slice t4_p t4_n t4_c)]) wv_1 wv_2 ∧
  ∃ (r0 : Bool) (r1_p : Option Addr) (r1_n : Nat) (r1_c : Nat), Loads P 26 ⟨r, 0, none⟩ (.agg #[(.bool r0), (.slice r1_p r1_n r1_c)]) wv_2 ∧ R (.agg #[(.bool r0), (.slice r1_p r1_n r1_c)]) wv_2
theorem spec_l07Ten_eq (k : Int) (w : World) (R : Value → World → Prop) : spec_l07Ten k w R = fsem P Try.f104 (fun k => []) [(.int .i64 k)] R w := by kernel_rfl
theorem spec_l07Ten_ret {k : Int} {w : World} {R : Value → World → Prop} (h : spec_l07Ten k w R) : Ret P 104 [(.int .i64 k)] w R :=
  Ret.of_fsem Try.func104 rfl (Eq.mp (spec_l07Ten_eq k w R) h)

def spec_l02Cap (a_p : Option Addr) (a_n : Nat) (a_c : Nat) (w : World) (R : Value → World → Prop) : Prop :=
  Calls P 115 ⟨[(.slice a_p a_n a_c)]⟩ w fun e wv =>
  ∃ (t5_p : Option Addr) (t5_n : Nat) (t5_c : Nat), e = .returned (.slice t5_p t5_n t5_c) ∧
  ((decide ((50 : Int) < ((t5_n : Nat) : Int))) = true →
    R (.slice none 0 0) wv) ∧
  ((decide ((50 : Int) < ((t5_n : Nat) : Int))) = false →
    R (.slice t5_p t5_n t5_c) wv)
theorem spec_l02Cap_eq (a_p : Option Addr) (a_n : Nat) (a_c : Nat) (w : World) (R : Value → World → Prop) : spec_l02Cap a_p a_n a_c w R = fsem P Try.f105 (fun k => []) [(.slice a_p a_n a_c)] R w := by kernel_rfl
theorem spec_l02Cap_ret {a_p : Option Addr} {a_n : Nat} {a_c : Nat} {w : World} {R : Value → World → Prop} (h : spec_l02Cap a_p a_n a_c w R) : Ret P 105 [(.slice a_p a_n a_c)] w R :=
  Ret.of_fsem Try.func105 rfl (Eq.mp (spec_l02Cap_eq a_p a_n a_c w R) h)

def impl_scaled_1 (d0 : Bool) (d1_p : Option Addr) (d1_n : Nat) (d1_c : Nat) (d2 : Int) (cap0 : Option Addr) (w : World) (R : Value → World → Prop) : Prop :=
  ∀ (r : Nat) (wv : World), New w (.cells ⟨[(.bool d0), (.slice d1_p d1_n d1_c), (.int .i64 d2)]⟩ 60 (0, 0)) r wv →
  ∀ (r_1 : Nat) (wv_1 : World), New wv (.cells ⟨[(.bool false), (.slice none 0 0)]⟩ 26 (0, 0)) r_1 wv_1 →
  ∃ (t6 : Bool), (∀ wv_2, Ext wv_1.drew wv_2 → Loads P 4 (((⟨r, 0, none⟩ : Addr).add 0).add 0) (.bool t6) wv_2) ∧ ∃ (t9_p : Option Addr) (t9_n : Nat) (t9_c : Nat), (∀ wv_3, Ext wv_1.drew wv_3 → Loads P 24 (((⟨r, 0, none⟩ : Addr).add 0).add 1) (.slice t9_p t9_n t9_c) wv_3) ∧ ptrS cap0 fun ad => ∃ (t10 : Int), (∀ wv_4, Ext wv_1.drew wv_4 → Loads P 3 ad (.int .i64 t10) wv_4) ∧ ∃ (t12 : Int), (∀ wv_5, Ext wv_1.drew wv_5 → Loads P 3 ((⟨r, 0, none⟩ : Addr).add 2) (.int .i64 t12) wv_5) ∧ ∃ t13 : Int, t13 = IntKind.wrap .i64 (t10 - t12) ∧ Calls P 109 ⟨[(.int .i64 t13)]⟩ wv_1.drew fun e wv_6 =>
  ∃ (t14_p : Option Addr) (t14_n : Nat) (t14_c : Nat), e = .returned (.slice t14_p t14_n t14_c) ∧
  Ext wv_1.drew wv_6 ∧ Calls P 108 ⟨[(.slice t9_p t9_n t9_c), (.slice t14_p t14_n t14_c)]⟩ wv_6 fun e_1 wv_7 =>
  ∃ (t15_p : Option Addr) (t15_n : Nat) (t15_c : Nat), e_1 = .returned (.slice t15_p t15_n t15_c) ∧
  Ext wv_6 wv_7 ∧ Calls P 107 ⟨[(.bool t6), (.slice t15_p t15_n t15_c)]⟩ wv_7 fun e_2 wv_8 =>
  ∃ (t160 : Bool) (t161_p : Option Addr) (t161_n : Nat) (t161_c : Nat), e_2 = .returned (.agg #[(.bool t160), (.slice t161_p t161_n t161_c)]) ∧
  ∃ wv_9, Stores P 26 ⟨r_1, 0, none⟩ (.agg #[(.bool t160), (.slice t161_p t161_n t161_c)]) wv_8 wv_9 ∧
  ∃ (r0 : Bool) (r1_p : Option Addr) (r1_n : Nat) (r1_c : Nat), Loads P 26 ⟨r_1, 0, none⟩ (.agg #[(.bool r0), (.slice r1_p r1_n r1_c)]) wv_9 ∧ R (.agg #[(.bool r0), (.slice r1_p r1_n r1_c)]) wv_9
theorem impl_scaled_1_eq (d0 : Bool) (d1_p : Option Addr) (d1_n : Nat) (d1_c : Nat) (d2 : Int) (cap0 : Option Addr) (w : World) (R : Value → World → Prop) : impl_scaled_1 d0 d1_p d1_n d1_c d2 cap0 w R = fsem P Try.f106 (fun k => []) [(.agg #[(.bool d0), (.slice d1_p d1_n d1_c), (.int .i64 d2)]), (.pointer cap0)] R w := by kernel_rfl
theorem impl_scaled_1_ret {d0 : Bool} {d1_p : Option Addr} {d1_n : Nat} {d1_c : Nat} {d2 : Int} {cap0 : Option Addr} {w : World} {R : Value → World → Prop} (h : impl_scaled_1 d0 d1_p d1_n d1_c d2 cap0 w R) : Ret P 106 [(.agg #[(.bool d0), (.slice d1_p d1_n d1_c), (.int .i64 d2)]), (.pointer cap0)] w R :=
  Ret.of_fsem Try.func106 rfl (Eq.mp (impl_scaled_1_eq d0 d1_p d1_n d1_c d2 cap0 w R) h)

def impl_signed (neg : Bool) (mag_p : Option Addr) (mag_n : Nat) (mag_c : Nat) (w : World) (R : Value → World → Prop) : Prop :=
  ∀ (r : Nat) (wv : World), New w (.cells ⟨[(.bool false), (.slice none 0 0)]⟩ 26 (0, 0)) r wv →
  (neg = true →
    ∃ wv_1, Stores P 26 ⟨r, 0, none⟩ (.agg #[(.bool (decide ((0 : Int) < ((mag_n : Nat) : Int)))), (.slice mag_p mag_n mag_c)]) wv wv_1 ∧
    ∃ (r0 : Bool) (r1_p : Option Addr) (r1_n : Nat) (r1_c : Nat), Loads P 26 ⟨r, 0, none⟩ (.agg #[(.bool r0), (.slice r1_p r1_n r1_c)]) wv_1 ∧ R (.agg #[(.bool r0), (.slice r1_p r1_n r1_c)]) wv_1) ∧
  (neg = false →
    ∃ wv_2, Stores P 26 ⟨r, 0, none⟩ (.agg #[(.bool false), (.slice mag_p mag_n mag_c)]) wv wv_2 ∧
    ∃ (r0_1 : Bool) (r1_p_1 : Option Addr) (r1_n_1 : Nat) (r1_c_1 : Nat), Loads P 26 ⟨r, 0, none⟩ (.agg #[(.bool r0_1), (.slice r1_p_1 r1_n_1 r1_c_1)]) wv_2 ∧ R (.agg #[(.bool r0_1), (.slice r1_p_1 r1_n_1 r1_c_1)]) wv_2)
theorem impl_signed_eq (neg : Bool) (mag_p : Option Addr) (mag_n : Nat) (mag_c : Nat) (w : World) (R : Value → World → Prop) : impl_signed neg mag_p mag_n mag_c w R = fsem P Try.f107 (fun k => []) [(.bool neg), (.slice mag_p mag_n mag_c)] R w := by kernel_rfl
theorem impl_signed_ret {neg : Bool} {mag_p : Option Addr} {mag_n : Nat} {mag_c : Nat} {w : World} {R : Value → World → Prop} (h : impl_signed neg mag_p mag_n mag_c w R) : Ret P 107 [(.bool neg), (.slice mag_p mag_n mag_c)] w R :=
  Ret.of_fsem Try.func107 rfl (Eq.mp (impl_signed_eq neg mag_p mag_n mag_c w R) h)

def impl_natMul (a_p : Option Addr) (a_n : Nat) (a_c : Nat) (b_p : Option Addr) (b_n : Nat) (b_c : Nat) (w : World) (R : Value → World → Prop) : Prop :=
  ∃ t16 : Int, t16 = IntKind.wrap .i64 (((a_n : Nat) : Int) + ((b_n : Nat) : Int)) ∧ ∃ t17 : Int, t17 = IntKind.wrap .i64 (t16 + 1) ∧ (0 ≤ (t17 : Int) ∧ (t17 : Int) ≤ t17 ∧ ((8 : Nat) : Int) * t17 ≤ 281474976710656) ∧
  ∀ (r : Nat) (wv : World), New w (.cells ⟨zeroRow (.int .i64 0) (t17.toNat * 1)⟩ 3 (0, 0)) r wv →
  ∃ (Inv : Int → World → Prop) (mu : Int → World → Nat), Inv 0 wv ∧
  ∀ (junk : Fr) (wv_1 : World) (t21 : Int), Inv t21 wv_1 →
    ((decide ((t21 : Int) < ((a_n : Nat) : Int))) = true →
      (0 ≤ (t21 : Int) ∧ (t21 : Int) < (a_n : Nat)) ∧ ptrS a_p fun ad => ∃ (t25 : Int), Loads P 3 (ad.add (t21.toNat * 1)) (.int .i64 t25) wv_1 ∧ ∃ (Inv_1 : Int → Int → World → Prop) (mu_1 : Int → Int → World → Nat), Inv_1 0 0 wv_1 ∧
      ∀ (junk_1 : Fr) (wv_2 : World) (carry : Int) (t28 : Int), Inv_1 carry t28 wv_2 →
        ((decide ((t28 : Int) < ((b_n : Nat) : Int))) = true →
          (0 ≤ (t28 : Int) ∧ (t28 : Int) < (b_n : Nat)) ∧ ptrS b_p fun ad_1 => ∃ (t32 : Int), Loads P 3 (ad_1.add (t28.toNat * 1)) (.int .i64 t32) wv_2 ∧ ∃ t37 : Int, t37 = IntKind.wrap .i64 (t21 + t28) ∧ (0 ≤ (t37 : Int) ∧ (t37 : Int) < (t17.toNat : Nat)) ∧ ∃ (t39 : Int), Loads P 3 ((⟨r, 0, none⟩ : Addr).add (t37.toNat * 1)) (.int .i64 t39) wv_2 ∧ ∃ t42 : Int, t42 = IntKind.wrap .i64 (t25 * t32) ∧ ∃ t43 : Int, t43 = IntKind.wrap .i64 (t39 + t42) ∧ ∃ t44 : Int, t44 = IntKind.wrap .i64 (carry + t43) ∧ ∃ t48 : Int, t48 = IntKind.wrap .i64 (t21 + t28) ∧ (1000000000 : Int) ≠ 0 ∧ ∃ t50 : Int, t50 = Int.tmod t44 1000000000 ∧ (0 ≤ (t48 : Int) ∧ (t48 : Int) < (t17.toNat : Nat)) ∧ ∃ wv_3, Stores P 3 ((⟨r, 0, none⟩ : Addr).add (t48.toNat * 1)) (.int .i64 t50) wv_2 wv_3 ∧
          (1000000000 : Int) ≠ 0 ∧ ∃ t53 : Int, t53 = IntKind.wrap .i64 (Int.tdiv t44 1000000000) ∧ ∃ t54 : Int, t54 = IntKind.wrap .i64 (t28 + 1) ∧ Inv_1 t53 t54 wv_3 ∧ mu_1 t53 t54 wv_3 < mu_1 carry t28 wv_2) ∧
        ((decide ((t28 : Int) < ((b_n : Nat) : Int))) = false →
          ∃ t58 : Int, t58 = IntKind.wrap .i64 (t21 + ((b_n : Nat) : Int)) ∧ ∃ (Inv_2 : Int → Int → World → Prop) (mu_2 : Int → Int → World → Nat), Inv_2 carry t58 wv_2 ∧
          ∀ (junk_2 : Fr) (wv_4 : World) (carry_1 : Int) (k : Int), Inv_2 carry_1 k wv_4 →
            ((decide ((0 : Int) < carry_1)) = true →
              (0 ≤ (k : Int) ∧ (k : Int) < (t17.toNat : Nat)) ∧ ∃ (t67 : Int), Loads P 3 ((⟨r, 0, none⟩ : Addr).add (k.toNat * 1)) (.int .i64 t67) wv_4 ∧ ∃ t68 : Int, t68 = IntKind.wrap .i64 (carry_1 + t67) ∧ (1000000000 : Int) ≠ 0 ∧ ∃ t72 : Int, t72 = Int.tmod t68 1000000000 ∧ (0 ≤ (k : Int) ∧ (k : Int) < (t17.toNat : Nat)) ∧ ∃ wv_5, Stores P 3 ((⟨r, 0, none⟩ : Addr).add (k.toNat * 1)) (.int .i64 t72) wv_4 wv_5 ∧
              (1000000000 : Int) ≠ 0 ∧ ∃ t75 : Int, t75 = IntKind.wrap .i64 (Int.tdiv t68 1000000000) ∧ ∃ t62 : Int, t62 = IntKind.wrap .i64 (k + 1) ∧ Inv_2 t75 t62 wv_5 ∧ mu_2 t75 t62 wv_5 < mu_2 carry_1 k wv_4) ∧
            ((decide ((0 : Int) < carry_1)) = false →
              ∃ t76 : Int, t76 = IntKind.wrap .i64 (t21 + 1) ∧ Inv t76 wv_4 ∧ mu t76 wv_4 < mu t21 wv_1))) ∧
    ((decide ((t21 : Int) < ((a_n : Nat) : Int))) = false →
      Calls P 116 ⟨[(.slice (some ⟨r, 0, none⟩) t17.toNat t17.toNat)]⟩ wv_1 fun e wv_6 =>
      ∃ (t78_p : Option Addr) (t78_n : Nat) (t78_c : Nat), e = .returned (.slice t78_p t78_n t78_c) ∧
      R (.slice t78_p t78_n t78_c) wv_6)
theorem impl_natMul_eq (a_p : Option Addr) (a_n : Nat) (a_c : Nat) (b_p : Option Addr) (b_n : Nat) (b_c : Nat) (w : World) (R : Value → World → Prop) : impl_natMul a_p a_n a_c b_p b_n b_c w R = fsem P Try.f108 (fun k => cond (Nat.beq k 4) [(21, .one (.int .i64))] (cond (Nat.beq k 8) [(8, .one (.int .i64)), (28, .one (.int .i64))] (cond (Nat.beq k 15) [(8, .one (.int .i64)), (11, .one (.int .i64))] ([])))) [(.slice a_p a_n a_c), (.slice b_p b_n b_c)] R w := by kernel_rfl
theorem impl_natMul_ret {a_p : Option Addr} {a_n : Nat} {a_c : Nat} {b_p : Option Addr} {b_n : Nat} {b_c : Nat} {w : World} {R : Value → World → Prop} (h : impl_natMul a_p a_n a_c b_p b_n b_c w R) : Ret P 108 [(.slice a_p a_n a_c), (.slice b_p b_n b_c)] w R :=
  Ret.of_fsem Try.func108 rfl (Eq.mp (impl_natMul_eq a_p a_n a_c b_p b_n b_c w R) h)

def impl_natTen (k : Int) (w : World) (R : Value → World → Prop) : Prop :=
  (9 : Int) ≠ 0 ∧ ∃ t6 : Int, t6 = IntKind.wrap .i64 (Int.tdiv k 9) ∧ (9 : Int) ≠ 0 ∧ ∃ t8 : Int, t8 = IntKind.wrap .i64 (Int.tdiv k 9) ∧ ∃ t9 : Int, t9 = IntKind.wrap .i64 (t8 + 1) ∧ (0 ≤ (t6 : Int) ∧ (t6 : Int) ≤ t9 ∧ ((8 : Nat) : Int) * t9 ≤ 281474976710656) ∧
  ∀ (r : Nat) (wv : World), New w (.cells ⟨zeroRow (.int .i64 0) (t9.toNat * 1)⟩ 3 (0, 0)) r wv →
  (9 : Int) ≠ 0 ∧ ∃ t12 : Int, t12 = Int.tmod k 9 ∧ ∃ (Inv : Int → Int → World → Prop) (mu : Int → Int → World → Nat), Inv 1 0 wv ∧
  ∀ (junk : Fr) (wv_1 : World) (top : Int) (t13 : Int), Inv top t13 wv_1 →
    ((decide ((t13 : Int) < t12)) = true →
      ∃ t16 : Int, t16 = IntKind.wrap .i64 (top * 10) ∧ ∃ t17 : Int, t17 = IntKind.wrap .i64 (t13 + 1) ∧ Inv t16 t17 wv_1 ∧ mu t16 t17 wv_1 < mu top t13 wv_1) ∧
    ((decide ((t13 : Int) < t12)) = false →
      ∀ (r_1 : Nat) (wv_2 : World), New wv_1 (.cells ⟨[(.int .i64 top)]⟩ 3 (0, 0)) r_1 wv_2 →
      ∃ (t21_p : Option Addr) (t21_n : Nat) (t21_c : Nat) (wv_3 : World), Appends P [24, 24] [(.slice (some ⟨r, 0, none⟩) t6.toNat t9.toNat), (.slice (some ⟨r_1, 0, none⟩) 1 1)] (.slice t21_p t21_n t21_c) wv_2 wv_3 ∧
      R (.slice t21_p t21_n t21_c) wv_3)
theorem impl_natTen_eq (k : Int) (w : World) (R : Value → World → Prop) : impl_natTen k w R = fsem P Try.f109 (fun k => cond (Nat.beq k 5) [(4, .one (.int .i64)), (13, .one (.int .i64))] ([])) [(.int .i64 k)] R w := by kernel_rfl
theorem impl_natTen_ret {k : Int} {w : World} {R : Value → World → Prop} (h : impl_natTen k w R) : Ret P 109 [(.int .i64 k)] w R :=
  Ret.of_fsem Try.func109 rfl (Eq.mp (impl_natTen_eq k w R) h)

def impl_intSign (x0 : Bool) (x1_p : Option Addr) (x1_n : Nat) (x1_c : Nat) (w : World) (R : Value → World → Prop) : Prop :=
  ∀ (r : Nat) (wv : World), New w (.cells ⟨[(.bool x0), (.slice x1_p x1_n x1_c)]⟩ 26 (0, 0)) r wv →
  ∃ (t5_p : Option Addr) (t5_n : Nat) (t5_c : Nat), Loads P 24 ((⟨r, 0, none⟩ : Addr).add 1) (.slice t5_p t5_n t5_c) wv ∧ ((decide ((((t5_n : Nat) : Int) : Int) = 0)) = true →
    R (.int .i64 0) wv) ∧
  ((decide ((((t5_n : Nat) : Int) : Int) = 0)) = false →
    ∃ (t10 : Bool), Loads P 4 ((⟨r, 0, none⟩ : Addr).add 0) (.bool t10) wv ∧ (t10 = true →
      R (.int .i64 (-1)) wv) ∧
    (t10 = false →
      R (.int .i64 1) wv))
theorem impl_intSign_eq (x0 : Bool) (x1_p : Option Addr) (x1_n : Nat) (x1_c : Nat) (w : World) (R : Value → World → Prop) : impl_intSign x0 x1_p x1_n x1_c w R = fsem P Try.f110 (fun k => []) [(.agg #[(.bool x0), (.slice x1_p x1_n x1_c)])] R w := by kernel_rfl
theorem impl_intSign_ret {x0 : Bool} {x1_p : Option Addr} {x1_n : Nat} {x1_c : Nat} {w : World} {R : Value → World → Prop} (h : impl_intSign x0 x1_p x1_n x1_c w R) : Ret P 110 [(.agg #[(.bool x0), (.slice x1_p x1_n x1_c)])] w R :=
  Ret.of_fsem Try.func110 rfl (Eq.mp (impl_intSign_eq x0 x1_p x1_n x1_c w R) h)

def impl_intAdd_j0 (r : Nat) (r_1 : Nat) (r_2 : Nat) (W : World) (R : Value → World → Prop) : Prop :=
  ∃ (t27 : Bool), (∀ wv_12, Ext W.drew wv_12 → Loads P 4 ((⟨r, 0, none⟩ : Addr).add 0) (.bool t27) wv_12) ∧ ∃ (t29_p : Option Addr) (t29_n : Nat) (t29_c : Nat), (∀ wv_13, Ext W.drew wv_13 → Loads P 24 ((⟨r, 0, none⟩ : Addr).add 1) (.slice t29_p t29_n t29_c) wv_13) ∧ ∃ (t31_p : Option Addr) (t31_n : Nat) (t31_c : Nat), (∀ wv_14, Ext W.drew wv_14 → Loads P 24 ((⟨r_1, 0, none⟩ : Addr).add 1) (.slice t31_p t31_n t31_c) wv_14) ∧ Calls P 118 ⟨[(.slice t29_p t29_n t29_c), (.slice t31_p t31_n t31_c)]⟩ W.drew fun e_3 wv_15 =>
  ∃ (t32_p : Option Addr) (t32_n : Nat) (t32_c : Nat), e_3 = .returned (.slice t32_p t32_n t32_c) ∧
  Ext W.drew wv_15 ∧ Calls P 107 ⟨[(.bool t27), (.slice t32_p t32_n t32_c)]⟩ wv_15 fun e_4 wv_16 =>
  ∃ (t330 : Bool) (t331_p : Option Addr) (t331_n : Nat) (t331_c : Nat), e_4 = .returned (.agg #[(.bool t330), (.slice t331_p t331_n t331_c)]) ∧
  ∃ wv_17, Stores P 26 ⟨r_2, 0, none⟩ (.agg #[(.bool t330), (.slice t331_p t331_n t331_c)]) wv_16 wv_17 ∧
  ∃ (r0_1 : Bool) (r1_p_1 : Option Addr) (r1_n_1 : Nat) (r1_c_1 : Nat), Loads P 26 ⟨r_2, 0, none⟩ (.agg #[(.bool r0_1), (.slice r1_p_1 r1_n_1 r1_c_1)]) wv_17 ∧ R (.agg #[(.bool r0_1), (.slice r1_p_1 r1_n_1 r1_c_1)]) wv_17
def impl_intAdd (x0 : Bool) (x1_p : Option Addr) (x1_n : Nat) (x1_c : Nat) (y0 : Bool) (y1_p : Option Addr) (y1_n : Nat) (y1_c : Nat) (w : World) (R : Value → World → Prop) : Prop :=
  ∀ (r : Nat) (wv : World), New w (.cells ⟨[(.bool x0), (.slice x1_p x1_n x1_c)]⟩ 26 (0, 0)) r wv →
  ∀ (r_1 : Nat) (wv_1 : World), New wv (.cells ⟨[(.bool y0), (.slice y1_p y1_n y1_c)]⟩ 26 (0, 0)) r_1 wv_1 →
  ∀ (r_2 : Nat) (wv_2 : World), New wv_1 (.cells ⟨[(.bool false), (.slice none 0 0)]⟩ 26 (0, 0)) r_2 wv_2 →
  ∃ (t6 : Bool), Loads P 4 ((⟨r, 0, none⟩ : Addr).add 0) (.bool t6) wv_2 ∧ ∃ (t8 : Bool), Loads P 4 ((⟨r_1, 0, none⟩ : Addr).add 0) (.bool t8) wv_2 ∧ ((t6 == t8) = true →
    ∃ (t11 : Bool), (∀ wv_3, Ext wv_2.drew wv_3 → Loads P 4 ((⟨r, 0, none⟩ : Addr).add 0) (.bool t11) wv_3) ∧ ∃ (t13_p : Option Addr) (t13_n : Nat) (t13_c : Nat), (∀ wv_4, Ext wv_2.drew wv_4 → Loads P 24 ((⟨r, 0, none⟩ : Addr).add 1) (.slice t13_p t13_n t13_c) wv_4) ∧ ∃ (t15_p : Option Addr) (t15_n : Nat) (t15_c : Nat), (∀ wv_5, Ext wv_2.drew wv_5 → Loads P 24 ((⟨r_1, 0, none⟩ : Addr).add 1) (.slice t15_p t15_n t15_c) wv_5) ∧ Calls P 117 ⟨[(.slice t13_p t13_n t13_c), (.slice t15_p t15_n t15_c)]⟩ wv_2.drew fun e wv_6 =>
    ∃ (t16_p : Option Addr) (t16_n : Nat) (t16_c : Nat), e = .returned (.slice t16_p t16_n t16_c) ∧
    Ext wv_2.drew wv_6 ∧ Calls P 107 ⟨[(.bool t11), (.slice t16_p t16_n t16_c)]⟩ wv_6 fun e_1 wv_7 =>
    ∃ (t170 : Bool) (t171_p : Option Addr) (t171_n : Nat) (t171_c : Nat), e_1 = .returned (.agg #[(.bool t170), (.slice t171_p t171_n t171_c)]) ∧
    ∃ wv_8, Stores P 26 ⟨r_2, 0, none⟩ (.agg #[(.bool t170), (.slice t171_p t171_n t171_c)]) wv_7 wv_8 ∧
    ∃ (r0 : Bool) (r1_p : Option Addr) (r1_n : Nat) (r1_c : Nat), Loads P 26 ⟨r_2, 0, none⟩ (.agg #[(.bool r0), (.slice r1_p r1_n r1_c)]) wv_8 ∧ R (.agg #[(.bool r0), (.slice r1_p r1_n r1_c)]) wv_8) ∧
  ((t6 == t8) = false →
    ∃ (t19_p : Option Addr) (t19_n : Nat) (t19_c : Nat), Loads P 24 ((⟨r, 0, none⟩ : Addr).add 1) (.slice t19_p t19_n t19_c) wv_2 ∧ ∃ (t21_p : Option Addr) (t21_n : Nat) (t21_c : Nat), Loads P 24 ((⟨r_1, 0, none⟩ : Addr).add 1) (.slice t21_p t21_n t21_c) wv_2 ∧ Calls P 99 ⟨[(.slice t19_p t19_n t19_c), (.slice t21_p t21_n t21_c)]⟩ wv_2 fun e_2 wv_9 =>
    ∃ (t22 : Int), e_2 = .returned (.int .i64 t22) ∧
    ((decide ((t22 : Int) < 0)) = true →
      ∃ (t240 : Bool) (t241_p : Option Addr) (t241_n : Nat) (t241_c : Nat), Loads P 26 ⟨r_1, 0, none⟩ (.agg #[(.bool t240), (.slice t241_p t241_n t241_c)]) wv_9 ∧ ∃ (t250 : Bool) (t251_p : Option Addr) (t251_n : Nat) (t251_c : Nat), Loads P 26 ⟨r, 0, none⟩ (.agg #[(.bool t250), (.slice t251_p t251_n t251_c)]) wv_9 ∧ ∃ wv_10, Stores P 26 ⟨r, 0, none⟩ (.agg #[(.bool t240), (.slice t241_p t241_n t241_c)]) wv_9 wv_10 ∧
      ∃ wv_11, Stores P 26 ⟨r_1, 0, none⟩ (.agg #[(.bool t250), (.slice t251_p t251_n t251_c)]) wv_10 wv_11 ∧
      impl_intAdd_j0 r r_1 r_2 wv_11 R) ∧
    ((decide ((t22 : Int) < 0)) = false →
      impl_intAdd_j0 r r_1 r_2 wv_9 R))
theorem impl_intAdd_eq (x0 : Bool) (x1_p : Option Addr) (x1_n : Nat) (x1_c : Nat) (y0 : Bool) (y1_p : Option Addr) (y1_n : Nat) (y1_c : Nat) (w : World) (R : Value → World → Prop) : impl_intAdd x0 x1_p x1_n x1_c y0 y1_p y1_n y1_c w R = fsem P Try.f111 (fun k => []) [(.agg #[(.bool x0), (.slice x1_p x1_n x1_c)]), (.agg #[(.bool y0), (.slice y1_p y1_n y1_c)])] R w := by kernel_rfl
theorem impl_intAdd_ret {x0 : Bool} {x1_p : Option Addr} {x1_n : Nat} {x1_c : Nat} {y0 : Bool} {y1_p : Option Addr} {y1_n : Nat} {y1_c : Nat} {w : World} {R : Value → World → Prop} (h : impl_intAdd x0 x1_p x1_n x1_c y0 y1_p y1_n y1_c w R) : Ret P 111 [(.agg #[(.bool x0), (.slice x1_p x1_n x1_c)]), (.agg #[(.bool y0), (.slice y1_p y1_n y1_c)])] w R :=
  Ret.of_fsem Try.func111 rfl (Eq.mp (impl_intAdd_eq x0 x1_p x1_n x1_c y0 y1_p y1_n y1_c w R) h)

def impl_intNeg (x0 : Bool) (x1_p : Option Addr) (x1_n : Nat) (x1_c : Nat) (w : World) (R : Value → World → Prop) : Prop :=
  ∀ (r : Nat) (wv : World), New w (.cells ⟨[(.bool x0), (.slice x1_p x1_n x1_c)]⟩ 26 (0, 0)) r wv →
  ∀ (r_1 : Nat) (wv_1 : World), New wv (.cells ⟨[(.bool false), (.slice none 0 0)]⟩ 26 (0, 0)) r_1 wv_1 →
  ∃ (t4 : Bool), (∀ wv_2, Ext wv_1.drew wv_2 → Loads P 4 ((⟨r, 0, none⟩ : Addr).add 0) (.bool t4) wv_2) ∧ ∃ (t7_p : Option Addr) (t7_n : Nat) (t7_c : Nat), (∀ wv_3, Ext wv_1.drew wv_3 → Loads P 24 ((⟨r, 0, none⟩ : Addr).add 1) (.slice t7_p t7_n t7_c) wv_3) ∧ Calls P 82 ⟨[(.slice t7_p t7_n t7_c)]⟩ wv_1.drew fun e wv_4 =>
  ∃ (t8_p : Option Addr) (t8_n : Nat) (t8_c : Nat), e = .returned (.slice t8_p t8_n t8_c) ∧
  Ext wv_1.drew wv_4 ∧ Calls P 107 ⟨[(.bool (!t4)), (.slice t8_p t8_n t8_c)]⟩ wv_4 fun e_1 wv_5 =>
  ∃ (t90 : Bool) (t91_p : Option Addr) (t91_n : Nat) (t91_c : Nat), e_1 = .returned (.agg #[(.bool t90), (.slice t91_p t91_n t91_c)]) ∧
  ∃ wv_6, Stores P 26 ⟨r_1, 0, none⟩ (.agg #[(.bool t90), (.slice t91_p t91_n t91_c)]) wv_5 wv_6 ∧
  ∃ (r0 : Bool) (r1_p : Option Addr) (r1_n : Nat) (r1_c : Nat), Loads P 26 ⟨r_1, 0, none⟩ (.agg #[(.bool r0), (.slice r1_p r1_n r1_c)]) wv_6 ∧ R (.agg #[(.bool r0), (.slice r1_p r1_n r1_c)]) wv_6
theorem impl_intNeg_eq (x0 : Bool) (x1_p : Option Addr) (x1_n : Nat) (x1_c : Nat) (w : World) (R : Value → World → Prop) : impl_intNeg x0 x1_p x1_n x1_c w R = fsem P Try.f112 (fun k => []) [(.agg #[(.bool x0), (.slice x1_p x1_n x1_c)])] R w := by kernel_rfl
theorem impl_intNeg_ret {x0 : Bool} {x1_p : Option Addr} {x1_n : Nat} {x1_c : Nat} {w : World} {R : Value → World → Prop} (h : impl_intNeg x0 x1_p x1_n x1_c w R) : Ret P 112 [(.agg #[(.bool x0), (.slice x1_p x1_n x1_c)])] w R :=
  Ret.of_fsem Try.func112 rfl (Eq.mp (impl_intNeg_eq x0 x1_p x1_n x1_c w R) h)

def spec_l02Mul_j0 (a_p : Option Addr) (a_n : Nat) (b_p : Option Addr) (b_n : Nat) (W : World) (R : Value → World → Prop) : Prop :=
  ∃ t24 : Int, t24 = IntKind.wrap .i64 (((a_n : Nat) : Int) + ((b_n : Nat) : Int)) ∧ (0 ≤ (t24 : Int) ∧ (t24 : Int) ≤ t24 ∧ ((8 : Nat) : Int) * t24 ≤ 281474976710656) ∧
  ∀ (r : Nat) (wv : World), New W (.cells ⟨zeroRow (.int .i64 0) (t24.toNat * 1)⟩ 3 (0, 0)) r wv →
  ∃ (Inv : Int → World → Prop) (mu : Int → World → Nat), Inv 0 wv ∧
  ∀ (junk : Fr) (wv_1 : World) (t28 : Int), Inv t28 wv_1 →
    ((decide ((t28 : Int) < ((a_n : Nat) : Int))) = true →
      (0 ≤ (t28 : Int) ∧ (t28 : Int) < (a_n : Nat)) ∧ ptrS a_p fun ad => ∃ (t32 : Int), Loads P 3 (ad.add (t28.toNat * 1)) (.int .i64 t32) wv_1 ∧ ∃ (Inv_1 : Int → Int → World → Prop) (mu_1 : Int → Int → World → Nat), Inv_1 0 0 wv_1 ∧
      ∀ (junk_1 : Fr) (wv_2 : World) (carry : Int) (t35 : Int), Inv_1 carry t35 wv_2 →
        ((decide ((t35 : Int) < ((b_n : Nat) : Int))) = true →
          (0 ≤ (t35 : Int) ∧ (t35 : Int) < (b_n : Nat)) ∧ ptrS b_p fun ad_1 => ∃ (t39 : Int), Loads P 3 (ad_1.add (t35.toNat * 1)) (.int .i64 t39) wv_2 ∧ ∃ t43 : Int, t43 = IntKind.wrap .i64 (t28 + t35) ∧ (0 ≤ (t43 : Int) ∧ (t43 : Int) < (t24.toNat : Nat)) ∧ ∃ (t45 : Int), Loads P 3 ((⟨r, 0, none⟩ : Addr).add (t43.toNat * 1)) (.int .i64 t45) wv_2 ∧ ∃ t48 : Int, t48 = IntKind.wrap .i64 (t32 * t39) ∧ ∃ t49 : Int, t49 = IntKind.wrap .i64 (t45 + t48) ∧ ∃ t51 : Int, t51 = IntKind.wrap .i64 (t49 + carry) ∧ ∃ t55 : Int, t55 = IntKind.wrap .i64 (t28 + t35) ∧ (1000000000 : Int) ≠ 0 ∧ ∃ t57 : Int, t57 = Int.tmod t51 1000000000 ∧ (0 ≤ (t55 : Int) ∧ (t55 : Int) < (t24.toNat : Nat)) ∧ ∃ wv_3, Stores P 3 ((⟨r, 0, none⟩ : Addr).add (t55.toNat * 1)) (.int .i64 t57) wv_2 wv_3 ∧
          (1000000000 : Int) ≠ 0 ∧ ∃ t60 : Int, t60 = IntKind.wrap .i64 (Int.tdiv t51 1000000000) ∧ ∃ t61 : Int, t61 = IntKind.wrap .i64 (t35 + 1) ∧ Inv_1 t60 t61 wv_3 ∧ mu_1 t60 t61 wv_3 < mu_1 carry t35 wv_2) ∧
        ((decide ((t35 : Int) < ((b_n : Nat) : Int))) = false →
          ∃ t66 : Int, t66 = IntKind.wrap .i64 (t28 + ((b_n : Nat) : Int)) ∧ (0 ≤ (t66 : Int) ∧ (t66 : Int) < (t24.toNat : Nat)) ∧ ∃ wv_4, Stores P 3 ((⟨r, 0, none⟩ : Addr).add (t66.toNat * 1)) (.int .i64 carry) wv_2 wv_4 ∧
          ∃ t69 : Int, t69 = IntKind.wrap .i64 (t28 + 1) ∧ Inv t69 wv_4 ∧ mu t69 wv_4 < mu t28 wv_1)) ∧
    ((decide ((t28 : Int) < ((a_n : Nat) : Int))) = false →
      Calls P 115 ⟨[(.slice (some ⟨r, 0, none⟩) t24.toNat t24.toNat)]⟩ wv_1 fun e wv_5 =>
      ∃ (t71_p : Option Addr) (t71_n : Nat) (t71_c : Nat), e = .returned (.slice t71_p t71_n t71_c) ∧
      R (.slice t71_p t71_n t71_c) wv_5)
def spec_l02Mul (a_p : Option Addr) (a_n : Nat) (a_c : Nat) (b_p : Option Addr) (b_n : Nat) (b_c : Nat) (w : World) (R : Value → World → Prop) : Prop :=
  ((decide ((((a_n : Nat) : Int) : Int) = 0)) = true →
    (true = true →
      R (.slice none 0 0) w) ∧
    (true = false →
      spec_l02Mul_j0 a_p a_n b_p b_n w R)) ∧
  ((decide ((((a_n : Nat) : Int) : Int) = 0)) = false →
    ((decide ((((b_n : Nat) : Int) : Int) = 0)) = true →
      R (.slice none 0 0) w) ∧
    ((decide ((((b_n : Nat) : Int) : Int) = 0)) = false →
      spec_l02Mul_j0 a_p a_n b_p b_n w R))
theorem spec_l02Mul_eq (a_p : Option Addr) (a_n : Nat) (a_c : Nat) (b_p : Option Addr) (b_n : Nat) (b_c : Nat) (w : World) (R : Value → World → Prop) : spec_l02Mul a_p a_n a_c b_p b_n b_c w R = fsem P Try.f113 (fun k => cond (Nat.beq k 6) [(28, .one (.int .i64))] (cond (Nat.beq k 10) [(8, .one (.int .i64)), (35, .one (.int .i64))] ([]))) [(.slice a_p a_n a_c), (.slice b_p b_n b_c)] R w := by kernel_rfl
theorem spec_l02Mul_ret {a_p : Option Addr} {a_n : Nat} {a_c : Nat} {b_p : Option Addr} {b_n : Nat} {b_c : Nat} {w : World} {R : Value → World → Prop} (h : spec_l02Mul a_p a_n a_c b_p b_n b_c w R) : Ret P 113 [(.slice a_p a_n a_c), (.slice b_p b_n b_c)] w R :=
  Ret.of_fsem Try.func113 rfl (Eq.mp (spec_l02Mul_eq a_p a_n a_c b_p b_n b_c w R) h)

def spec_NatTen (k : Int) (w : World) (R : Value → World → Prop) : Prop :=
  Calls P 69 ⟨[(.int .i64 k), (.int .i64 0), (.int .i64 449)]⟩ w fun e wv =>
  ∃ (t7 : Bool), e = .returned (.bool t7) ∧
  ((!t7) = true →
    R (.slice none 0 0) wv) ∧
  ((!t7) = false →
    (9 : Int) ≠ 0 ∧ ∃ t10 : Int, t10 = IntKind.wrap .i64 (Int.tdiv k 9) ∧ (0 ≤ (t10 : Int) ∧ (t10 : Int) ≤ t10 ∧ ((8 : Nat) : Int) * t10 ≤ 281474976710656) ∧
    ∀ (r : Nat) (wv_1 : World), New wv (.cells ⟨zeroRow (.int .i64 0) (t10.toNat * 1)⟩ 3 (0, 0)) r wv_1 →
    ∃ (Inv : Int → Int → World → Prop) (mu : Int → Int → World → Nat), Inv 1 0 wv_1 ∧
    ∀ (junk : Fr) (wv_2 : World) (f : Int) (i : Int), Inv f i wv_2 →
      (9 : Int) ≠ 0 ∧ ∃ t14 : Int, t14 = Int.tmod k 9 ∧ ((decide ((i : Int) < t14)) = true →
        ∃ t19 : Int, t19 = IntKind.wrap .i64 (f * 10) ∧ ∃ t17 : Int, t17 = IntKind.wrap .i64 (i + 1) ∧ Inv t19 t17 wv_2 ∧ mu t19 t17 wv_2 < mu f i wv_2) ∧
      ((decide ((i : Int) < t14)) = false →
        ∀ (r_1 : Nat) (wv_3 : World), New wv_2 (.cells ⟨[(.int .i64 f)]⟩ 3 (0, 0)) r_1 wv_3 →
        ∃ (t23_p : Option Addr) (t23_n : Nat) (t23_c : Nat) (wv_4 : World), Appends P [24, 24] [(.slice (some ⟨r, 0, none⟩) t10.toNat t10.toNat), (.slice (some ⟨r_1, 0, none⟩) 1 1)] (.slice t23_p t23_n t23_c) wv_3 wv_4 ∧
        R (.slice t23_p t23_n t23_c) wv_4))
theorem spec_NatTen_eq (k : Int) (w : World) (R : Value → World → Prop) : spec_NatTen k w R = fsem P Try.f114 (fun k => cond (Nat.beq k 7) [(4, .one (.int .i64)), (5, .one (.int .i64))] ([])) [(.int .i64 k)] R w := by kernel_rfl
theorem spec_NatTen_ret {k : Int} {w : World} {R : Value → World → Prop} (h : spec_NatTen k w R) : Ret P 114 [(.int .i64 k)] w R :=
  Ret.of_fsem Try.func114 rfl (Eq.mp (spec_NatTen_eq k w R) h)

def spec_l02Trim (a_p : Option Addr) (a_n : Nat) (a_c : Nat) (w : World) (R : Value → World → Prop) : Prop :=
  ∃ (Inv : Int → World → Prop) (mu : Int → World → Nat), Inv ((a_n : Nat) : Int) w ∧
  ∀ (junk : Fr) (wv : World) (n : Int), Inv n wv →
    ((decide ((0 : Int) < n)) = true →
      ∃ t11 : Int, t11 = IntKind.wrap .i64 (n - 1) ∧ (0 ≤ (t11 : Int) ∧ (t11 : Int) < (a_n : Nat)) ∧ ptrS a_p fun ad => ∃ (t13 : Int), Loads P 3 (ad.add (t11.toNat * 1)) (.int .i64 t13) wv ∧ ((decide ((t13 : Int) = 0)) = true →
        ∃ t17 : Int, t17 = IntKind.wrap .i64 (n - 1) ∧ Inv t17 wv ∧ mu t17 wv < mu n wv) ∧
      ((decide ((t13 : Int) = 0)) = false →
        (0 ≤ (n : Int) ∧ (n : Int) ≤ (a_c : Nat)) ∧ R (.slice (sub a_p 0 a_c 1) (n.toNat - 0) (a_c - 0)) wv)) ∧
    ((decide ((0 : Int) < n)) = false →
      (false = true →
        ∃ t17_1 : Int, t17_1 = IntKind.wrap .i64 (n - 1) ∧ Inv t17_1 wv ∧ mu t17_1 wv < mu n wv) ∧
      (false = false →
        (0 ≤ (n : Int) ∧ (n : Int) ≤ (a_c : Nat)) ∧ R (.slice (sub a_p 0 a_c 1) (n.toNat - 0) (a_c - 0)) wv))
theorem spec_l02Trim_eq (a_p : Option Addr) (a_n : Nat) (a_c : Nat) (w : World) (R : Value → World → Prop) : spec_l02Trim a_p a_n a_c w R = fsem P Try.f115 (fun k => cond (Nat.beq k 3) [(3, .one (.int .i64))] ([])) [(.slice a_p a_n a_c)] R w := by kernel_rfl
theorem spec_l02Trim_ret {a_p : Option Addr} {a_n : Nat} {a_c : Nat} {w : World} {R : Value → World → Prop} (h : spec_l02Trim a_p a_n a_c w R) : Ret P 115 [(.slice a_p a_n a_c)] w R :=
  Ret.of_fsem Try.func115 rfl (Eq.mp (spec_l02Trim_eq a_p a_n a_c w R) h)

def impl_trim (a_p : Option Addr) (a_n : Nat) (a_c : Nat) (w : World) (R : Value → World → Prop) : Prop :=
  ∃ (Inv : Option Addr → Nat → Nat → World → Prop) (mu : Option Addr → Nat → Nat → World → Nat), Inv a_p a_n a_c w ∧
  ∀ (junk : Fr) (wv : World) (a_p_1 : Option Addr) (a_n_1 : Nat) (a_c_1 : Nat), Inv a_p_1 a_n_1 a_c_1 wv →
    ((decide ((0 : Int) < ((a_n_1 : Nat) : Int))) = true →
      ∃ t10 : Int, t10 = IntKind.wrap .i64 (((a_n_1 : Nat) : Int) - 1) ∧ (0 ≤ (t10 : Int) ∧ (t10 : Int) < (a_n_1 : Nat)) ∧ ptrS a_p_1 fun ad => ∃ (t12 : Int), Loads P 3 (ad.add (t10.toNat * 1)) (.int .i64 t12) wv ∧ ((decide ((t12 : Int) = 0)) = true →
        ∃ t18 : Int, t18 = IntKind.wrap .i64 (((a_n_1 : Nat) : Int) - 1) ∧ (0 ≤ (t18 : Int) ∧ (t18 : Int) ≤ (a_c_1 : Nat)) ∧ Inv (sub a_p_1 0 a_c_1 1) (t18.toNat - 0) (a_c_1 - 0) wv ∧ mu (sub a_p_1 0 a_c_1 1) (t18.toNat - 0) (a_c_1 - 0) wv < mu a_p_1 a_n_1 a_c_1 wv) ∧
      ((decide ((t12 : Int) = 0)) = false →
        R (.slice a_p_1 a_n_1 a_c_1) wv)) ∧
    ((decide ((0 : Int) < ((a_n_1 : Nat) : Int))) = false →
      (false = true →
        ∃ t18_1 : Int, t18_1 = IntKind.wrap .i64 (((a_n_1 : Nat) : Int) - 1) ∧ (0 ≤ (t18_1 : Int) ∧ (t18_1 : Int) ≤ (a_c_1 : Nat)) ∧ Inv (sub a_p_1 0 a_c_1 1) (t18_1.toNat - 0) (a_c_1 - 0) wv ∧ mu (sub a_p_1 0 a_c_1 1) (t18_1.toNat - 0) (a_c_1 - 0) wv < mu a_p_1 a_n_1 a_c_1 wv) ∧
      (false = false →
        R (.slice a_p_1 a_n_1 a_c_1) wv))
theorem impl_trim_eq (a_p : Option Addr) (a_n : Nat) (a_c : Nat) (w : World) (R : Value → World → Prop) : impl_trim a_p a_n a_c w R = fsem P Try.f116 (fun k => cond (Nat.beq k 2) [(0, .one .slice)] ([])) [(.slice a_p a_n a_c)] R w := by kernel_rfl
theorem impl_trim_ret {a_p : Option Addr} {a_n : Nat} {a_c : Nat} {w : World} {R : Value → World → Prop} (h : impl_trim a_p a_n a_c w R) : Ret P 116 [(.slice a_p a_n a_c)] w R :=
  Ret.of_fsem Try.func116 rfl (Eq.mp (impl_trim_eq a_p a_n a_c w R) h)

def impl_natAdd_j1 (wv_1 : World) (Inv : Option Addr → Nat → Nat → Int → Int → World → Prop) (mu : Option Addr → Nat → Nat → Int → Int → World → Nat) (out_p : Option Addr) (out_n : Nat) (out_c : Nat) (carry : Int) (i : Int) (carry_2 : Int) (W_1 : World) (R : Value → World → Prop) : Prop :=
  (1000000000 : Int) ≠ 0 ∧ ∃ t46 : Int, t46 = Int.tmod carry_2 1000000000 ∧ ∀ (r_1 : Nat) (wv_2 : World), New W_1 (.cells ⟨[(.int .i64 t46)]⟩ 3 (0, 0)) r_1 wv_2 →
  ∃ (t48_p : Option Addr) (t48_n : Nat) (t48_c : Nat) (wv_3 : World), Appends P [24, 24] [(.slice out_p out_n out_c), (.slice (some ⟨r_1, 0, none⟩) 1 1)] (.slice t48_p t48_n t48_c) wv_2 wv_3 ∧
  (1000000000 : Int) ≠ 0 ∧ ∃ t50 : Int, t50 = IntKind.wrap .i64 (Int.tdiv carry_2 1000000000) ∧ ∃ t23 : Int, t23 = IntKind.wrap .i64 (i + 1) ∧ Inv t48_p t48_n t48_c t50 t23 wv_3 ∧ mu t48_p t48_n t48_c t50 t23 wv_3 < mu out_p out_n out_c carry i wv_1
def impl_natAdd_j0 (b_p : Option Addr) (b_n : Nat) (wv_1 : World) (Inv : Option Addr → Nat → Nat → Int → Int → World → Prop) (mu : Option Addr → Nat → Nat → Int → Int → World → Nat) (out_p : Option Addr) (out_n : Nat) (out_c : Nat) (carry : Int) (i : Int) (carry_1 : Int) (W : World) (R : Value → World → Prop) : Prop :=
  ((decide ((i : Int) < ((b_n : Nat) : Int))) = true →
    (0 ≤ (i : Int) ∧ (i : Int) < (b_n : Nat)) ∧ ptrS b_p fun ad_1 => ∃ (t42 : Int), Loads P 3 (ad_1.add (i.toNat * 1)) (.int .i64 t42) W ∧ ∃ t43 : Int, t43 = IntKind.wrap .i64 (carry_1 + t42) ∧ impl_natAdd_j1 wv_1 Inv mu out_p out_n out_c carry i t43 W R) ∧
  ((decide ((i : Int) < ((b_n : Nat) : Int))) = false →
    impl_natAdd_j1 wv_1 Inv mu out_p out_n out_c carry i carry_1 W R)
def impl_natAdd (a_p : Option Addr) (a_n : Nat) (a_c : Nat) (b_p : Option Addr) (b_n : Nat) (b_c : Nat) (w : World) (R : Value → World → Prop) : Prop :=
  ∃ t12 : Int, t12 = (if ((b_n : Nat) : Int) > ((a_n : Nat) : Int) then ((b_n : Nat) : Int) else ((a_n : Nat) : Int)) ∧ ∃ t13 : Int, t13 = IntKind.wrap .i64 (t12 + 1) ∧ (0 ≤ (0 : Int) ∧ (0 : Int) ≤ t13 ∧ ((8 : Nat) : Int) * t13 ≤ 281474976710656) ∧
  ∀ (r : Nat) (wv : World), New w (.cells ⟨zeroRow (.int .i64 0) (t13.toNat * 1)⟩ 3 (0, 0)) r wv →
  ∃ (Inv : Option Addr → Nat → Nat → Int → Int → World → Prop) (mu : Option Addr → Nat → Nat → Int → Int → World → Nat), Inv (some ⟨r, 0, none⟩) 0 t13.toNat 0 0 wv ∧
  ∀ (junk : Fr) (wv_1 : World) (out_p : Option Addr) (out_n : Nat) (out_c : Nat) (carry : Int) (i : Int), Inv out_p out_n out_c carry i wv_1 →
    ∃ t20 : Int, t20 = (if ((b_n : Nat) : Int) > ((a_n : Nat) : Int) then ((b_n : Nat) : Int) else ((a_n : Nat) : Int)) ∧ ((decide ((i : Int) < t20)) = true →
      ((decide ((i : Int) < ((a_n : Nat) : Int))) = true →
        (0 ≤ (i : Int) ∧ (i : Int) < (a_n : Nat)) ∧ ptrS a_p fun ad => ∃ (t32 : Int), Loads P 3 (ad.add (i.toNat * 1)) (.int .i64 t32) wv_1 ∧ ∃ t33 : Int, t33 = IntKind.wrap .i64 (carry + t32) ∧ impl_natAdd_j0 b_p b_n wv_1 Inv mu out_p out_n out_c carry i t33 wv_1 R) ∧
      ((decide ((i : Int) < ((a_n : Nat) : Int))) = false →
        impl_natAdd_j0 b_p b_n wv_1 Inv mu out_p out_n out_c carry i carry wv_1 R)) ∧
    ((decide ((i : Int) < t20)) = false →
      ∀ (r_2 : Nat) (wv_4 : World), New wv_1 (.cells ⟨[(.int .i64 carry)]⟩ 3 (0, 0)) r_2 wv_4 →
      ∃ (t54_p : Option Addr) (t54_n : Nat) (t54_c : Nat) (wv_5 : World), Appends P [24, 24] [(.slice out_p out_n out_c), (.slice (some ⟨r_2, 0, none⟩) 1 1)] (.slice t54_p t54_n t54_c) wv_4 wv_5 ∧
      Calls P 116 ⟨[(.slice t54_p t54_n t54_c)]⟩ wv_5 fun e wv_6 =>
      ∃ (t55_p : Option Addr) (t55_n : Nat) (t55_c : Nat), e = .returned (.slice t55_p t55_n t55_c) ∧
      R (.slice t55_p t55_n t55_c) wv_6)
theorem impl_natAdd_eq (a_p : Option Addr) (a_n : Nat) (a_c : Nat) (b_p : Option Addr) (b_n : Nat) (b_c : Nat) (w : World) (R : Value → World → Prop) : impl_natAdd a_p a_n a_c b_p b_n b_c w R = fsem P Try.f117 (fun k => cond (Nat.beq k 5) [(5, .one .slice), (6, .one (.int .i64)), (7, .one (.int .i64))] ([])) [(.slice a_p a_n a_c), (.slice b_p b_n b_c)] R w := by kernel_rfl
theorem impl_natAdd_ret {a_p : Option Addr} {a_n : Nat} {a_c : Nat} {b_p : Option Addr} {b_n : Nat} {b_c : Nat} {w : World} {R : Value → World → Prop} (h : impl_natAdd a_p a_n a_c b_p b_n b_c w R) : Ret P 117 [(.slice a_p a_n a_c), (.slice b_p b_n b_c)] w R :=
  Ret.of_fsem Try.func117 rfl (Eq.mp (impl_natAdd_eq a_p a_n a_c b_p b_n b_c w R) h)

def impl_natSub_j1 (a_n : Nat) (r : Nat) (wv_1 : World) (Inv : Int → Int → World → Prop) (mu : Int → Int → World → Nat) (borrow : Int) (t14 : Int) (borrow_1 : Int) (n_1 : Int) (W_1 : World) (R : Value → World → Prop) : Prop :=
  (0 ≤ (t14 : Int) ∧ (t14 : Int) < (a_n : Nat)) ∧ ∃ wv_2, Stores P 3 ((⟨r, 0, none⟩ : Addr).add (t14.toNat * 1)) (.int .i64 n_1) W_1 wv_2 ∧
  ∃ t41 : Int, t41 = IntKind.wrap .i64 (t14 + 1) ∧ Inv borrow_1 t41 wv_2 ∧ mu borrow_1 t41 wv_2 < mu borrow t14 wv_1
def impl_natSub_j0 (a_n : Nat) (r : Nat) (wv_1 : World) (Inv : Int → Int → World → Prop) (mu : Int → Int → World → Nat) (borrow : Int) (t14 : Int) (n : Int) (W : World) (R : Value → World → Prop) : Prop :=
  ((decide ((n : Int) < 0)) = true →
    ∃ t36 : Int, t36 = IntKind.wrap .i64 (n + 1000000000) ∧ impl_natSub_j1 a_n r wv_1 Inv mu borrow t14 1 t36 W R) ∧
  ((decide ((n : Int) < 0)) = false →
    impl_natSub_j1 a_n r wv_1 Inv mu borrow t14 0 n W R)
def impl_natSub (a_p : Option Addr) (a_n : Nat) (a_c : Nat) (b_p : Option Addr) (b_n : Nat) (b_c : Nat) (w : World) (R : Value → World → Prop) : Prop :=
  (0 ≤ (((a_n : Nat) : Int) : Int) ∧ (((a_n : Nat) : Int) : Int) ≤ ((a_n : Nat) : Int) ∧ ((8 : Nat) : Int) * ((a_n : Nat) : Int) ≤ 281474976710656) ∧
  ∀ (r : Nat) (wv : World), New w (.cells ⟨zeroRow (.int .i64 0) (a_n * 1)⟩ 3 (0, 0)) r wv →
  ∃ (Inv : Int → Int → World → Prop) (mu : Int → Int → World → Nat), Inv 0 0 wv ∧
  ∀ (junk : Fr) (wv_1 : World) (borrow : Int) (t14 : Int), Inv borrow t14 wv_1 →
    ((decide ((t14 : Int) < ((a_n : Nat) : Int))) = true →
      (0 ≤ (t14 : Int) ∧ (t14 : Int) < (a_n : Nat)) ∧ ptrS a_p fun ad => ∃ (t20 : Int), Loads P 3 (ad.add (t14.toNat * 1)) (.int .i64 t20) wv_1 ∧ ∃ t22 : Int, t22 = IntKind.wrap .i64 (t20 - borrow) ∧ ((decide ((t14 : Int) < ((b_n : Nat) : Int))) = true →
        (0 ≤ (t14 : Int) ∧ (t14 : Int) < (b_n : Nat)) ∧ ptrS b_p fun ad_1 => ∃ (t31 : Int), Loads P 3 (ad_1.add (t14.toNat * 1)) (.int .i64 t31) wv_1 ∧ ∃ t32 : Int, t32 = IntKind.wrap .i64 (t22 - t31) ∧ impl_natSub_j0 a_n r wv_1 Inv mu borrow t14 t32 wv_1 R) ∧
      ((decide ((t14 : Int) < ((b_n : Nat) : Int))) = false →
        impl_natSub_j0 a_n r wv_1 Inv mu borrow t14 t22 wv_1 R)) ∧
    ((decide ((t14 : Int) < ((a_n : Nat) : Int))) = false →
      Calls P 116 ⟨[(.slice (some ⟨r, 0, none⟩) a_n a_n)]⟩ wv_1 fun e wv_3 =>
      ∃ (t43_p : Option Addr) (t43_n : Nat) (t43_c : Nat), e = .returned (.slice t43_p t43_n t43_c) ∧
      R (.slice t43_p t43_n t43_c) wv_3)
theorem impl_natSub_eq (a_p : Option Addr) (a_n : Nat) (a_c : Nat) (b_p : Option Addr) (b_n : Nat) (b_c : Nat) (w : World) (R : Value → World → Prop) : impl_natSub a_p a_n a_c b_p b_n b_c w R = fsem P Try.f118 (fun k => cond (Nat.beq k 5) [(6, .one (.int .i64)), (14, .one (.int .i64))] ([])) [(.slice a_p a_n a_c), (.slice b_p b_n b_c)] R w := by kernel_rfl
theorem impl_natSub_ret {a_p : Option Addr} {a_n : Nat} {a_c : Nat} {b_p : Option Addr} {b_n : Nat} {b_c : Nat} {w : World} {R : Value → World → Prop} (h : impl_natSub a_p a_n a_c b_p b_n b_c w R) : Ret P 118 [(.slice a_p a_n a_c), (.slice b_p b_n b_c)] w R :=
  Ret.of_fsem Try.func118 rfl (Eq.mp (impl_natSub_eq a_p a_n a_c b_p b_n b_c w R) h)

end Go.Proofs.Ytfbmjimhjlmhkaa
